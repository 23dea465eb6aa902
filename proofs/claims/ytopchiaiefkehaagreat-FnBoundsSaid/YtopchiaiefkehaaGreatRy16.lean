/- The evaluator, texts 13 to 16: The evaluator is right: operations (3): memory. The evaluator is right: operations (4). The evaluator is right: operations (5). The evaluator is right: operations (6). No condition. -/
import Derived.Test.YtopchiaiefkehaaGreatRy12
import Derived.Laws.IdiomStrings
import Derived.Laws.BytesArg
set_option linter.unusedVariables false
set_option linter.unusedSimpArgs false
namespace Go.Ry

section
variable {P : Program} {S : Start} {st : St} {a : Act} {w w' : World} {Z Z' : Nat → Prop} {L L' : List Loc} {T : Tab} {C : Calls_} {G : List (Nat × Sig)} {o : Oper} {K : St → Prop} {next : Act → World → Prop} {Q : Exit → Act → World → Prop} {R : Prop}

theorem gather {t : Ty} {g : Nat} : ∀ {xs : List t.den} {q : Nat}, (∀ (i : Nat) (x : t.den), xs[i]? = some x → ∃ es : List Value, es.length = t.size ∧ CellsAt w g (q + i * t.size) es ∧ Rd w Z t x es) →
    ∃ news : List Value, news.length = xs.length * t.size ∧ CellsAt w g q news ∧ RowRd w Z t xs news
  | [], q, _ => ⟨[], by simp, fun j u hj => by simp at hj, fun i x hx => by simp at hx⟩
  | x :: xs, q, h => by
    obtain ⟨es, h1, h2, h3⟩ := h 0 x rfl
    obtain ⟨news, n1, n2, n3⟩ := gather (xs := xs) (q := q + t.size) (fun i y hy => by
      obtain ⟨es, a1, a2, a3⟩ := h (i + 1) y (by simpa using hy)
      refine ⟨es, a1, ?_, a3⟩
      have : q + (i + 1) * t.size = q + t.size + i * t.size := by rw [Nat.add_mul]; omega
      rwa [this] at a2)
    refine ⟨es ++ news, by simp [h1, n1, Nat.add_mul, Nat.add_comm], fun j u hj => ?_, fun i y hy => ?_⟩
    · by_cases hjl : j < es.length
      · rw [List.getElem?_append_left hjl] at hj
        simpa using h2 j u hj
      · rw [List.getElem?_append_right (by omega)] at hj
        have := n2 (j - es.length) u hj
        have e : q + t.size + (j - es.length) = q + j := by omega
        rwa [e] at this
    · cases i with
      | zero =>
        simp only [List.getElem?_cons_zero, Option.some.injEq] at hy
        subst hy
        rw [Nat.zero_mul, List.drop_zero, ← h1, List.take_left]
        exact h3
      | succ i =>
        have := n3 i y (by simpa using hy)
        have e : (i + 1) * t.size = es.length + i * t.size := by rw [Nat.add_mul, h1]; omega
        rw [e, ← List.drop_drop, List.drop_left]
        exact this

theorem CellsAt.firstCells {A : Addr} {news : List Value} {sz m cap : Nat} (hA : 0 < news.length → A.spot = none) (h : CellsAt w A.block A.off news) (hl : news.length = m * sz) (hw : w'.heap = w.heap) :
    (Builtin.firstCells sz m (.slice (some A) m cap)).run P w' = .ok news.toArray w' := by
  refine run_firstCells_some (P := P) w' sz m A m cap news hl fun j v hv => ?_
  have hA := hA (Nat.lt_of_le_of_lt (Nat.zero_le _) (List.getElem?_eq_some_iff.1 hv).1)
  obtain ⟨b, q, s⟩ := A
  simp only at hA h
  subst hA
  rw [Addr.add_lit]
  have := h j v hv
  rw [← this]
  exact World.cell?_of_block (w := w) (w' := w') (by rw [hw])

theorem win_rd {e : TypeId} {tt : Ty} {v u : Value} {xs : List tt.den} {es : List Value} {lo hi : Nat} (ho : w.ownsRow 0 e tt.size v xs.length es) (hr : RowRd w Z tt xs es)
    (hw : isWin v tt.size lo hi u) : ∃ ad cap news, u = .slice ad ((xs.take hi).drop lo).length cap ∧ news.length = ((xs.take hi).drop lo).length * tt.size ∧ RowRd w Z tt ((xs.take hi).drop lo) news ∧
      (ad = none → ((xs.take hi).drop lo).length = 0) ∧ ∀ A, ad = some A → (0 < news.length → A.spot = none) ∧ CellsAt w A.block A.off news := by
  rcases hw with ⟨rfl, rfl, rfl, rfl⟩ | ⟨g, n, c, rfl, h1, h2, h3, rfl⟩
  · exact ⟨none, 0, [], by simp, by simp, fun i x hx => by simp at hx, fun _ => by simp, fun A h => by simp at h⟩
  · rcases ho.2 with ⟨hx, _⟩ | ⟨g', cap, cur, hx, hb, hg, hn, hm, hcs, htk⟩
    · simp at hx
    · simp only [Value.slice.injEq, Option.some.injEq, Addr.mk.injEq, and_true] at hx
      obtain ⟨rfl, rfl, rfl⟩ := hx
      have hlen : ((xs.take hi).drop lo).length = hi - lo := by simp; omega
      obtain ⟨news, n1, n2, n3⟩ := gather (w := w) (Z := Z) (t := tt) (g := g) (xs := (xs.take hi).drop lo) (q := if c = lo then 0 else lo * tt.size) (fun i x hx => by
        rw [List.getElem?_drop] at hx
        have hlt : lo + i < hi := by
          have := (List.getElem?_eq_some_iff.1 hx).1
          simp at this; omega
        rw [List.getElem?_take_of_lt hlt] at hx
        have hR := hr (lo + i) x hx
        refine ⟨_, Rd.length hR, fun j y hj => ?_, hR⟩
        rw [if_neg (by omega)]
        rw [List.getElem?_take] at hj
        split at hj
        · rw [List.getElem?_drop] at hj
          have := ho.cells (g := g) rfl _ y hj
          rw [Addr.add_lit, Nat.zero_add] at this
          rw [← this, Nat.add_mul]
        · simp at hj)
      exact ⟨_, _, news, by rw [hlen], n1, n3, fun h => by simp at h, fun A hA => by
        simp only [Option.some.injEq] at hA
        subst hA
        exact ⟨fun _ => rfl, n2⟩⟩

theorem listOf_rd (hs : Sit S st a w Z L) {c : Cell} {v : Value} {u : Ty} {xs : List u.den} (hc : CSim w Z L c v) (hl : st.listOf c = some ⟨u, xs⟩) :
    ∃ ad cap news, v = .slice ad xs.length cap ∧ news.length = xs.length * u.size ∧ RowRd w Z u xs news ∧ (ad = none → xs.length = 0) ∧ ∀ A, ad = some A → (0 < news.length → A.spot = none) ∧ CellsAt w A.block A.off news := by
  unfold St.listOf at hl
  split at hl
  · simp only [Option.some.injEq, Sigma.mk.injEq] at hl
    obtain ⟨rfl, hl⟩ := hl
    simp only [heq_eq_eq] at hl
    subst hl
    obtain ⟨ad, n, cap, h1, rfl, h3, h4, h5⟩ := hc
    simp only [List.cons.injEq, and_true] at h1
    cases ad with
    | none =>
      have h0 := h4 rfl
      exact ⟨none, cap, [], h1, by simp [h0], fun i x hx => by
        have := (List.getElem?_eq_some_iff.1 hx).1
        omega, fun _ => h0, fun A h => by simp at h⟩
    | some A =>
      obtain ⟨news, n1, n2, n3⟩ := gather (w := w) (Z := Z) fun i x hi => (h5 A rfl i x hi).2.2
      exact ⟨some A, cap, news, h1, n1, n3, fun h => by simp at h, fun B hB => by
        simp only [Option.some.injEq] at hB
        subst hB
        exact ⟨fun hp => (h5 A rfl 0 _ (List.getElem?_eq_getElem (Nat.pos_of_ne_zero fun e => by rw [n1, e] at hp; simp at hp))).1, n2⟩⟩
  · split at hl
    · rename_i e u' xs' hob
      simp only [Option.some.injEq, Sigma.mk.injEq] at hl
      obtain ⟨rfl, hl⟩ := hl
      simp only [heq_eq_eq] at hl
      subst hl
      obtain ⟨v', es, q1, q2, q3, q4, q5⟩ := hs.row hob
      obtain ⟨_, sz, n, q6⟩ := hc
      rw [q2] at q6
      simp only [Option.some.injEq, Loc.row.injEq] at q6
      obtain ⟨rfl, rfl, rfl⟩ := q6
      simpa using win_rd q4 q5 (isWin_all q4)
    · simp at hl
  · split at hl
    · rename_i lo hi e u' xs' hob
      simp only [Option.some.injEq, Sigma.mk.injEq] at hl
      obtain ⟨rfl, hl⟩ := hl
      simp only [heq_eq_eq] at hl
      subst hl
      obtain ⟨v', es, q1, q2, q3, q4, q5⟩ := hs.row hob
      obtain ⟨u, sz, n, q6, q7⟩ := hc
      rw [q2] at q6
      simp only [Option.some.injEq, Loc.row.injEq] at q6
      obtain ⟨rfl, rfl, rfl⟩ := q6
      exact win_rd q4 q5 q7
    · simp at hl
  · simp at hl

theorem RowRd.oneCell {t : Ty} {xs : List t.den} {news : List Value} (h : RowRd w Z t xs news) (hl : news.length = xs.length * t.size) : ∀ u ∈ news, u.oneCell' = true := by
  intro u hu
  obtain ⟨j, hj, rfl⟩ := List.getElem_of_mem hu
  have hpos : 0 < t.size := by
    rcases Nat.eq_zero_or_pos t.size with h0 | h0
    · rw [hl, h0, Nat.mul_zero] at hj; omega
    · exact h0
  have hi : j / t.size < xs.length := by
    rw [Nat.div_lt_iff_lt_mul hpos, ← hl]; exact hj
  have hr := h (j / t.size) _ (List.getElem?_eq_getElem hi)
  have hm := Nat.mod_lt j hpos
  have hdm : (j / t.size) * t.size + j % t.size = j := by rw [Nat.mul_comm]; exact Nat.div_add_mod j t.size
  have hg := seg_get news (j / t.size) t.size (j % t.size) hm
  rw [hdm, List.getElem?_eq_getElem hj] at hg
  exact CsSim.oneCell (Rd.cells (L := []) hr) _ (List.mem_of_getElem? hg)

theorem slTy_facts {t e : Nat} {ee : TE} (hT : tabOk P T = true) (h : slTy T t = some (e, ee)) : P.underlying t = some (.slice e) ∧ ∃ i d z, TEFacts P e ee i d z := by
  unfold slTy at h
  split at h
  · rename_i te hte
    split at h
    · rename_i hk
      split at h
      · rename_i ee' hee
        simp only [Option.some.injEq, Prod.mk.injEq] at h
        obtain ⟨rfl, rfl⟩ := h
        obtain ⟨d, hd, hkd⟩ := under_of (d := .bool) hT hte
        rw [kind_slice hkd hk] at hd
        exact ⟨hd, teFacts (tabOk_look hT hee)⟩
      · simp at h
    · simp at h
  · simp at h

theorem sound_unOp {op : UnOp} {t : TypeId} {x : Operand} (ho : o.op = .unOp op t x) (hs : Sit S st a w Z L) (hg : FinV P o a w Z L st K R) (h : opW T C G o st K) : R := by
  simp only [opW, ho] at h
  unfold unW at h
  split at h
  · rename_i k n hx
    have cx : a.eval x = .int k n := ev_one hs hx
    exact hg.value (v := .int k (k.wrap (0 - n))) (e := .one (.int k (k.wrap (0 - n)))) (by unfold execOp; simp [ho, cx, Op.unary, Op.intArith]) rfl h
  · rename_i b hx
    have cx : a.eval x = .bool b := ev_one hs hx
    exact hg.value (v := .bool (!b)) (e := .one (.bool (!b))) (by unfold execOp; simp [ho, cx, Op.unary]) rfl h
  · exact h.elim

theorem sound_load {t : TypeId} {x : Operand} (ho : o.op = .load t x) (hT : tabOk P T = true) (hs : Sit S st a w Z L) (hg : Goes S K next) (h : opW T C G o st K) : o.wp P a w next Q := by
  simp only [opW, ho] at h
  split at h
  · rename_i te c hte hx
    split at h
    · rename_i cs hb
      split at h
      · rename_i hle
        obtain ⟨i, d, z, f⟩ := teFacts (tabOk_look hT hte)
        obtain ⟨g, q, vs, hv, h1, h2⟩ := hs.behind (ev_one hs hx) hb
        obtain ⟨v, hr, he⟩ := run_loadVar_at (g := g) (q := q) f h1 (Nat.le_of_ble_eq_true hle)
        exact hs.value hg (v := v) (by unfold execOp; simp [ho, hv, Instr.loadAt, Instr.sureAddr, hr w h2]) he h
      · exact h.elim
    · exact h.elim
  · exact h.elim

theorem ESim.cells {e : Ent} {v : Value} (h : ESim w Z L e v) (h1 : ∀ l, e ≠ .tup l) (h2 : e ≠ .undef) : CsSim w Z L e.cells v.cells.toList := by
  cases e with
  | undef => exact absurd rfl h2
  | tup l => exact absurd rfl (h1 l)
  | agg cs => obtain ⟨vs, rfl, h⟩ := h; exact h
  | one c =>
    have ho := CSim.oneCell h
    have : v.cells = #[v] := by cases v <;> simp_all [Value.cells, Value.oneCell']
    rw [this]
    exact ⟨h, trivial⟩

theorem sound_store {t : TypeId} {x y : Operand} (ho : o.op = .store t x y) (hT : tabOk P T = true) (hs : Sit S st a w Z L) (hg : Goes S K next) (h : opW T C G o st K) : o.wp P a w next Q := by
  simp only [opW, ho] at h
  split at h
  · rename_i te c hte hx
    have fin : ∀ e : Ent, st.ev y = e → (∀ l, e ≠ .tup l) → e ≠ .undef → (match Nat.beq e.cells.length te.size with
        | true => storeW st c e.cells fun st => K (st.putO o.dst (.tup []))
        | false => False) → o.wp P a w next Q := by
      intro e he h1 h2 h
      split at h
      · rename_i hsz
        have hsz := Nat.eq_of_beq_eq_true hsz
        obtain ⟨i, d, z, f⟩ := teFacts (tabOk_look hT hte)
        have hy := hs.ev y
        rw [he] at hy
        have hcs := hy.cells h1 h2
        obtain ⟨ad, w', Z', L', st', hv, hr, hs', hk⟩ := storeW_sound (P := P) h hs (ev_one hs hx) hcs
        have hlen := CsSim.length hcs
        have hsize : (a.eval y).cells.size = te.size := by rw [← Array.length_toList, hlen, hsz]
        refine wp_skip (w' := w') ?_ (hg _ _ _ _ _ (hs'.put (e := .tup []) (v := undef) ⟨#[], rfl, trivial⟩ o.dst) hk)
        unfold execOp
        simp [ho, hv, Instr.storeAt, Instr.sureAddr, storeVar, run_sizeOf f, hsize, hr]
      · exact h.elim
    split at h
    · exact h.elim
    · exact h.elim
    · rename_i n1 n2
      exact fin _ rfl (fun l e => n1 l e) n2 h
  · exact h.elim

theorem sound_nilCheck {x : Operand} (ho : o.op = .nilCheck x) (hs : Sit S st a w Z L) (hg : FinV P o a w Z L st K R) (h : opW T C G o st K) : R := by
  simp only [opW, ho] at h
  split at h
  · rename_i c hx
    have cx := ev_one hs hx
    have fin : (∃ ad, a.eval x = .pointer (some ad)) → K (st.putO o.dst (.one c)) → R := by
      rintro ⟨ad, hv⟩ hk
      exact hg.value (v := a.eval x) (e := .one c) (by unfold execOp; simp [ho, hv]) cx hk
    split at h
    · obtain ⟨g, q, _, _, hv⟩ := cx
      exact fin ⟨_, hv⟩ h
    · obtain ⟨g, n, c, sz, m, _, _, hv⟩ := cx
      exact fin ⟨_, hv⟩ h
    · obtain ⟨g, q, es, hv, _⟩ := cx
      exact fin ⟨_, hv⟩ h
    · exact h.elim
  · exact h.elim

theorem sound_extract {x : Operand} {i : Nat} (ho : o.op = .extract x i) (hs : Sit S st a w Z L) (hg : FinV P o a w Z L st K R) (h : opW T C G o st K) : R := by
  simp only [opW, ho] at h
  split at h
  · rename_i es hx
    have hv := hs.ev x
    rw [hx] at hv
    obtain ⟨vs, hv, hp⟩ := hv
    split at h
    · rename_i b cs hn
      rw [nth_eq] at hn
      have key : ∀ {es : List (Bool × List Cell)} {vs : List Value} {i : Nat}, PsSim w Z L es vs → es[i]? = some (b, cs) → ∃ v, vs[i]? = some v ∧ PSim w Z L (b, cs) v := by
        intro es
        induction es with
        | nil => intro vs i _ hi; simp at hi
        | cons e es ih =>
          intro vs i hp hi
          cases vs with
          | nil => exact hp.elim
          | cons v vs =>
            cases i with
            | zero =>
              simp only [List.getElem?_cons_zero, Option.some.injEq] at hi
              subst hi
              exact ⟨v, rfl, hp.1⟩
            | succ i => simpa using ih hp.2 (by simpa using hi)
      obtain ⟨v, h1, h2⟩ := key hp hn
      refine hg.value (v := v) (e := entOf b cs) (by unfold execOp; simp [ho, hv, Instr.extract, ← Array.getElem?_toList, h1]) ?_ h
      cases b
      · simp only [PSim] at h2
        match cs, h2 with
        | [c], h2 => exact h2.1
        | [], h2 => exact h2.elim
        | _ :: _ :: _, h2 => exact h2.2.elim
      · exact h2
    · exact h.elim
  · exact h.elim
end
end Go.Ry
set_option linter.unusedVariables false
set_option linter.unusedSimpArgs false
namespace Go.Ry

section
variable {P : Program} {S : Start} {st : St} {a : Act} {w w' : World} {Z Z' : Nat → Prop} {L L' : List Loc} {T : Tab} {C : Calls_} {G : List (Nat × Sig)} {o : Oper} {K : St → Prop} {next : Act → World → Prop} {Q : Exit → Act → World → Prop} {R : Prop}

theorem Sit.newAt (hs : Sit S st a w Z L) (l : Loc) : (L ++ [l])[st.objs.length]? = some l := by
  rw [← hs.sims.len, List.getElem?_append_right (Nat.le_refl _)]
  simp

theorem Sit.newBox' (hs : Sit S st a w Z L) {cs : List Cell} {vs : Array Value} (e : TypeId) (h : CsSim w Z (L ++ [.box w.heap.size 0 (e, vs.size)]) cs vs.toList) :
    Sit S (st.addOb (.box cs)) a (w.alloc (.cells vs e)) Z (L ++ [.box w.heap.size 0 (e, vs.size)]) := by
  have hk : Keeps w (fun _ _ => False) (w.alloc (.cells vs e)) := Keeps.alloc w _ _
  refine hs.add hk ⟨w.heap.size, 0, (e, vs.size), vs.toList, rfl, CsSim.mono (fun b hb => hk.same (hs.sims.zin b hb) fun _ hx => hx) (fun _ hb => hb) (Grows.refl _) h, vs, e, ?_, by simp, fun j v hj => by simpa using hj, rfl⟩ ?_
  · show (w.heap.push _)[w.heap.size]? = _
    simp
  · rintro b q ⟨rfl, _⟩
    exact Nat.le_refl _

theorem Sit.newBox (hs : Sit S st a w Z L) {cs : List Cell} {vs : Array Value} (e : TypeId) (h : CsSim w Z L cs vs.toList) :
    Sit S (st.addOb (.box cs)) a (w.alloc (.cells vs e)) Z (L ++ [.box w.heap.size 0 (e, vs.size)]) :=
  hs.newBox' e (CsSim.mono (fun _ _ => rfl) (fun _ hb => hb) (Grows.append _ _) h)
theorem selfAt_sim {l : Loc} {g t : Nat} {cs : List Cell} {vs : List Value} (h : CsSim w Z L cs vs) (hl : l = .box g 0 (t, vs.length)) : CsSim w Z (L ++ [l]) (selfAt L.length t cs.length cs) vs := by
  have hn := CsSim.length h
  have k : CsSim w Z (L ++ [l]) cs vs := CsSim.mono (fun _ _ => rfl) (fun _ hb => hb) (Grows.append _ _) h
  unfold selfAt
  split
  · rename_i l'
    cases vs with
    | nil => exact k.elim
    | cons v vs => exact ⟨⟨g, by rw [List.getElem?_append_right (Nat.le_refl _), Nat.sub_self, ← hn]; simp [hl], .inl k.1⟩, k.2⟩
  · exact k

theorem sound_alloc {t : TypeId} (ho : o.op = .alloc t) (hT : tabOk P T = true) (hs : Sit S st a w Z L) (hg : Goes S K next) (h : opW T C G o st K) : o.wp P a w next Q := by
  simp only [opW, ho] at h
  split at h
  · rename_i te hte
    obtain ⟨i, d, z, f⟩ := teFacts (tabOk_look hT hte)
    have hs' := hs.newBox' (vs := z.cells) t (selfAt_sim (g := w.heap.size) (t := t) (zeroEq_sim w Z L f.zeroEq) (by simp))
    rw [hs.sims.len] at hs'
    refine wp_value (v := .pointer (some ⟨w.heap.size, 0, none⟩)) (w' := w.alloc (.cells z.cells t)) ?_ (hg _ _ _ _ _ (hs'.put (e := .one (.ptrB st.objs.length 0)) ⟨w.heap.size, 0, _, hs.newAt _, rfl⟩ o.dst) h)
    unfold execOp
    simp [ho, Instr.alloc, zeroValue, typeInfo, f.info, f.zero, newVar, newRow]
  · exact h.elim

theorem sound_box {t : TypeId} {x : Operand} (ho : o.op = .box t x) (hs : Sit S st a w Z L) (hg : Goes S K next) (h : opW T C G o st K) : o.wp P a w next Q := by
  simp only [opW, ho] at h
  have hx := hs.ev x
  have fin : (∀ l, st.ev x ≠ .tup l) → st.ev x ≠ .undef → K ((st.addOb (.box (st.ev x).cells)).putO o.dst (.one (.ptrB st.objs.length 0))) → o.wp P a w next Q := by
    intro h1 h2 h
    have hs' := hs.newBox (vs := (a.eval x).cells) t (hx.cells h1 h2)
    refine wp_value (v := .pointer (some ⟨w.heap.size, 0, none⟩)) (w' := w.alloc (.cells (a.eval x).cells t)) ?_ (hg _ _ _ _ _ (hs'.put (e := .one (.ptrB st.objs.length 0)) ⟨w.heap.size, 0, _, hs.newAt _, rfl⟩ o.dst) h)
    unfold execOp
    simp [ho, Instr.box, newVar, newRow]
  split at h
  · exact h.elim
  · exact h.elim
  · rename_i n1 n2
    exact fin n1 n2 h

theorem fieldsEq_get : ∀ {ps : List (Nat × Nat)} {fs : List Field} {i : Nat} {p : Nat × Nat}, fieldsEq ps fs = true → ps[i]? = some p → ∃ f : Field, fs[i]? = some f ∧ f.offset = p.1 ∧ f.type = p.2
  | [], _, _, _, _, h => by simp at h
  | _ :: _, [], _, _, h, _ => by simp [fieldsEq] at h
  | q :: ps, g :: fs, i, p, h, hi => by
    simp only [fieldsEq, Bool.and_eq_true, beq_iff_eq] at h
    cases i with
    | zero =>
      simp only [List.getElem?_cons_zero, Option.some.injEq] at hi
      subst hi
      exact ⟨g, rfl, h.1.1.symm, h.1.2.symm⟩
    | succ i => simpa using fieldsEq_get h.2 (by simpa using hi)

theorem fldOf_facts {s k q : Nat} {fe : TE} (hT : tabOk P T = true) (h : fldOf T s k = some (q, fe)) :
    ∃ (fs : Array Field) (f : Field), P.underlying s = some (.struct fs) ∧ fs[k]? = some f ∧ f.offset = q ∧ ∃ i d z, TEFacts P f.type fe i d z := by
  unfold fldOf at h
  split at h
  · rename_i te hte
    split at h
    · rename_i hk
      split at h
      · rename_i q' t hn
        split at h
        · rename_i fe' hfe
          simp only [Option.some.injEq, Prod.mk.injEq] at h
          obtain ⟨rfl, rfl⟩ := h
          obtain ⟨d, hd, hkd⟩ := under_of (d := .bool) hT hte
          obtain ⟨fs, rfl, hfs, _⟩ := kind_struct hkd hk
          rw [nth_eq] at hn
          obtain ⟨f, h1, h2, h3⟩ := fieldsEq_get hfs hn
          exact ⟨fs, f, hd, by rw [← Array.getElem?_toList]; exact h1, h2, by rw [h3]; exact teFacts (tabOk_look hT hfe)⟩
        · simp at h
      · simp at h
    · simp at h
  · simp at h

theorem sound_fieldAddr {s : TypeId} {x : Operand} {k : Nat} (ho : o.op = .fieldAddr s x k) (hT : tabOk P T = true) (hs : Sit S st a w Z L) (hg : FinV P o a w Z L st K R) (h : opW T C G o st K) : R := by
  simp only [opW, ho] at h
  split at h
  · rename_i q fe c hf hx
    obtain ⟨fs, f, hu, hk, rfl, i, d, z, ff⟩ := fldOf_facts hT hf
    have cx := ev_one hs hx
    have run : Nat.beq fe.size 0 = false → ∀ ad, a.eval x = .pointer (some ad) → ∀ w, (execOp a.eval o).run P w = .ok (.value (.pointer (some (ad.add f.offset)))) w := by
      intro hnz ad hv w
      have hsz : fe.size ≠ 0 := by
        intro e
        rw [e] at hnz
        simp at hnz
      unfold execOp
      simp [ho, hv, Instr.fieldAt, run_underlying hu, hk, Instr.sureAddr, fieldPlace, run_sizeOf ff, hsz]
    cases hz0 : Nat.beq fe.size 0 with
    | true => rw [hz0] at h; exact h.elim
    | false =>
      rw [hz0] at h
      cases c with
      | ptrB i o' =>
        obtain ⟨g, p, sz, hl, hv⟩ := cx
        exact hg.value (run hz0 _ hv) (e := .one (.ptrB i (o' + f.offset))) ⟨g, p, sz, hl, by rw [Addr.add_lit, Nat.add_assoc]⟩ h
      | ptrE i k' o' =>
        obtain ⟨g, n, c, sz, m, hl, hkn, hv⟩ := cx
        exact hg.value (run hz0 _ hv) (e := .one (.ptrE i k' (o' + f.offset))) ⟨g, n, c, sz, m, hl, hkn, by rw [Addr.add_lit, Nat.add_assoc]⟩ h
      | ptrZ t y o' =>
        obtain ⟨g, p, es, hv, h1, h2, h3⟩ := cx
        exact hg.value (run hz0 _ hv) (e := .one (.ptrZ t y (o' + f.offset))) ⟨g, p, es, by rw [Addr.add_lit, Nat.add_assoc], h1, h2, h3⟩ h
      | _ => simp [addrField] at h
  · exact h.elim

theorem sound_field {s : TypeId} {x : Operand} {k : Nat} (ho : o.op = .field s x k) (hT : tabOk P T = true) (hs : Sit S st a w Z L) (hg : FinV P o a w Z L st K R) (h : opW T C G o st K) : R := by
  simp only [opW, ho] at h
  split at h
  · rename_i q fe cs hf hx
    split at h
    · rename_i hle
      have hle := Nat.le_of_ble_eq_true hle
      obtain ⟨fs, f, hu, hk, rfl, i, d, z, ff⟩ := fldOf_facts hT hf
      have cx := hs.ev x
      rw [hx] at cx
      obtain ⟨vs, hv, hcs⟩ := cx
      have hlen := CsSim.length hcs
      have hseg := CsSim.take (n := fe.size) (CsSim.drop (n := f.offset) hcs)
      by_cases hagg : fe.agg = true
      · refine hg.value (v := .agg (vs.extract f.offset (f.offset + fe.size))) ?_ ?_ h
        · unfold execOp
          simp [ho, hv, Instr.field, run_underlying hu, hk, asAgg, part, run_isAgg ff, hagg, run_sizeOf ff]
        · rw [hagg]
          refine ⟨_, rfl, ?_⟩
          have : (vs.extract f.offset (f.offset + fe.size)).toList = (vs.toList.drop f.offset).take fe.size := by
            simp [Array.toList_extract, List.extract_eq_take_drop]
          rw [this]; exact hseg
      · have h1 : fe.size = 1 := ff.one.resolve_left hagg
        have hagg' : fe.agg = false := by simpa using hagg
        have hlt : f.offset < vs.size := by rw [← Array.length_toList, hlen]; omega
        refine hg.value (v := vs[f.offset]) ?_ ?_ h
        · unfold execOp
          simp [ho, hv, Instr.field, run_underlying hu, hk, asAgg, part, run_isAgg ff, hagg', hlt]
        · rw [h1] at hseg ⊢
          have hd : vs.toList.drop f.offset = vs[f.offset] :: vs.toList.drop (f.offset + 1) := by
            rw [List.drop_eq_getElem_cons (by simpa using hlt)]
            simp
          rw [hd, List.take_succ_cons, List.take_zero] at hseg
          rw [hagg']
          match hm : (cs.drop f.offset).take 1, hseg with
          | [c], hh => exact hh.1
          | [], hh => exact hh.elim
          | _ :: _ :: _, hh => exact hh.2.elim
    · exact h.elim
  · exact h.elim

theorem sound_indexAddr {t : TypeId} {x y : Operand} (ho : o.op = .indexAddr t x y) (hT : tabOk P T = true) (hs : Sit S st a w Z L) (hg : FinV P o a w Z L st K R) (h : opW T C G o st K) : R := by
  simp only [opW, ho] at h
  split at h
  · rename_i e ee c kk n hsl hx hy
    obtain ⟨hu, i, d, z, f⟩ := slTy_facts hT hsl
    have cy : a.eval y = .int kk n := ev_one hs hy
    have cx := ev_one hs hx
    have run : ∀ (A : Addr) (len cap : Nat), a.eval x = .slice (some A) len cap → 0 ≤ n → n < len → ∀ w, (execOp a.eval o).run P w = .ok (.value (.pointer (some (A.add (n.toNat * ee.size))))) w := by
      intro A len cap hv h0 h1 w
      unfold execOp
      simp [ho, hv, cy, Instr.indexAt, asIntOf, run_underlying hu, h0, h1, run_sizeOf f]
    split at h
    · rename_i u xs
      split at h
      · rename_i hsz
        have hsz := Nat.eq_of_beq_eq_true hsz
        obtain ⟨⟨h0, h1⟩, hk⟩ := h
        obtain ⟨ad, m, cap, hv, hm, hmc, hnone, hsome⟩ := cx
        simp only [List.cons.injEq, and_true] at hv
        cases ad with
        | none => have := hnone rfl; omega
        | some A =>
          have hlt : n.toNat < xs.length := by omega
          obtain ⟨p1, p2, es, e1, e2, e3⟩ := hsome A rfl n.toNat _ (by rw [List.getElem?_eq_getElem hlt])
          obtain ⟨g, q, sp⟩ := A
          simp only at p1
          subst p1
          refine hg.value (run _ _ _ hv h0 (by omega)) (e := .one (.ptrZ u (xs.getD n.toNat u.dflt) 0)) ⟨g, q + n.toNat * u.size, es, by rw [Addr.add_lit, hsz, Nat.add_zero], p2, e2, ?_⟩ hk
          simpa [List.getD, List.getElem?_eq_getElem hlt] using e3
      · exact h.elim
    · rename_i r
      split at h
      · rename_i e' u xs hob
        split at h
        · rename_i hsz
          have hsz := Nat.eq_of_beq_eq_true hsz
          obtain ⟨⟨h0, h1⟩, hk⟩ := h
          obtain ⟨v', es, q1, q2, q3, q4, q5⟩ := hs.row hob
          obtain ⟨_, sz, m, q6⟩ := cx
          rw [q2] at q6
          simp only [Option.some.injEq, Loc.row.injEq] at q6
          obtain ⟨hv, rfl, rfl⟩ := q6
          rcases q4.2 with ⟨_, hn⟩ | ⟨g, cap, cur, hv2, _⟩
          · omega
          · rw [hv2] at hv q2
            refine hg.value (run _ _ _ hv.symm h0 (by omega)) (e := .one (.ptrE r n.toNat 0)) ⟨g, _, cap, _, _, q2, by omega, by rw [Addr.add_lit, hsz, Nat.zero_add, Nat.add_zero]⟩ hk
        · exact h.elim
      · rename_i e' u qq xs hob
        split at h
        · rename_i hsz
          have hsz := Nat.eq_of_beq_eq_true hsz
          obtain ⟨⟨h0, h1⟩, hk⟩ := h
          obtain ⟨v', es, hd, q1, q2, q3, ht, q4, q5⟩ := hs.nest hob
          obtain ⟨_, sz, m, q6⟩ := cx
          rw [q2] at q6
          simp only [Option.some.injEq, Loc.row.injEq] at q6
          obtain ⟨hv, rfl, rfl⟩ := q6
          rcases q4.2 with ⟨_, hn⟩ | ⟨g, cap, cur, hv2, _⟩
          · omega
          · rw [hv2] at hv q2
            refine hg.value (run _ _ _ hv.symm h0 (by omega)) (e := .one (.ptrE r n.toNat 0)) ⟨g, _, cap, _, _, q2, by omega, by rw [Addr.add_lit, hsz, Nat.zero_add, Nat.add_zero]⟩ hk
        · exact h.elim
      · exact h.elim
    · rename_i r lo hi
      split at h
      · rename_i e' u xs hob
        split at h
        · rename_i hsz
          have hsz := Nat.eq_of_beq_eq_true hsz
          obtain ⟨⟨h0, h1⟩, hk⟩ := h
          obtain ⟨v', es, q1, q2, q3, q4, q5⟩ := hs.row hob
          obtain ⟨u', sz, m, q6, q7⟩ := cx
          rw [q2] at q6
          simp only [Option.some.injEq, Loc.row.injEq] at q6
          obtain ⟨rfl, rfl, rfl⟩ := q6
          have hlen : ((xs.take hi).drop lo).length = min hi xs.length - lo := by simp
          rcases q7 with ⟨rfl, _, rfl, rfl⟩ | ⟨g, n', c', rfl, w1, w2, w3, hv⟩
          · simp at h1; omega
          · rcases q4.2 with ⟨hx', _⟩ | ⟨g', cap, cur, hx', _⟩
            · simp at hx'
            · simp only [Value.slice.injEq, Option.some.injEq, Addr.mk.injEq, and_true] at hx'
              obtain ⟨rfl, rfl, rfl⟩ := hx'
              have hlt : n < ((hi - lo : Nat) : Int) := by rw [hlen] at h1; omega
              refine hg.value (run _ _ _ hv h0 hlt) (e := .one (.ptrE r (lo + n.toNat) 0)) ⟨g, _, c', _, _, q2, by omega, ?_⟩ hk
              rw [Addr.add_lit, hsz, if_neg (by omega), Nat.add_mul, Nat.add_zero]
        · exact h.elim
      · exact h.elim
    · omega
    · exact h.elim
  · exact h.elim

theorem sound_makeFunc {fn : Fn} {fst caps : Array Operand} (ho : o.op = .makeFunc fn fst caps) (hs : Sit S st a w Z L) (hg : FinV P o a w Z L st K R) (h : opW T C G o st K) : R := by
  simp only [opW, ho] at h
  split at h
  rotate_left
  · exact h.elim
  rename_i f hfst
  have hfst' : fst = #[] := by simpa using hfst
  subst hfst'
  have run : ∀ w, (execOp a.eval o).run P w = .ok (.value (.func (.func f) #[] (caps.map a.eval))) w := by
    intro w
    unfold execOp
    simp [ho, Instr.makeFunc]
  have hev := hs.evs caps.toList
  have hl : (caps.map a.eval).toList = caps.toList.map a.eval := by simp
  split at h
  · rename_i hc
    rw [hc] at hev
    refine hg.value run (e := .one (.fn f [])) ⟨_, rfl, ?_⟩ h
    rw [hl]
    match hm : caps.toList.map a.eval, hev with
    | [], _ => trivial
    | _ :: _, hh => exact hh.elim
  · rename_i b hc
    rw [hc] at hev
    refine hg.value run (e := .one (.fn f [b])) ⟨_, rfl, ?_⟩ h
    rw [hl]
    match hm : caps.toList.map a.eval, hev with
    | [], hh => exact hh.elim
    | [v], hh =>
      obtain ⟨⟨g, q, h1, h2⟩, _⟩ := hh
      exact ⟨⟨g, q, h1, h2⟩, trivial⟩
    | _ :: _ :: _, hh => exact hh.2.elim
  · rename_i b c hc
    rw [hc] at hev
    refine hg.value run (e := .one (.fn f [b, c])) ⟨_, rfl, ?_⟩ h
    rw [hl]
    match hm : caps.toList.map a.eval, hev with
    | [], hh => exact hh.elim
    | [_], hh => exact hh.2.elim
    | [v, u], hh =>
      obtain ⟨⟨g, q, h1, h2⟩, ⟨g', q', h3, h4⟩, _⟩ := hh
      exact ⟨⟨g, q, h1, h2⟩, ⟨g', q', h3, h4⟩, trivial⟩
    | _ :: _ :: _ :: _, hh => exact hh.2.2.elim
  · exact h.elim
end
end Go.Ry
set_option linter.unusedVariables false
set_option linter.unusedSimpArgs false
namespace Go.Ry

section
variable {P : Program} {S : Start} {st : St} {a : Act} {w w' : World} {Z Z' : Nat → Prop} {L L' : List Loc} {T : Tab} {C : Calls_} {G : List (Nat × Sig)} {o : Oper} {K : St → Prop} {next : Act → World → Prop} {Q : Exit → Act → World → Prop} {R : Prop}

theorem boundOf_val (hs : Sit S st a w Z L) {x : Option Operand} {d l : Int} (h : boundOf st x d = some l) : (x = none ∧ l = d) ∨ ∃ y k, x = some y ∧ a.eval y = .int k l := by
  unfold boundOf at h
  split at h
  · simp only [Option.some.injEq] at h; exact .inl ⟨rfl, h.symm⟩
  · rename_i y
    split at h
    · rename_i k n hy
      simp only [Option.some.injEq] at h
      subst h
      exact .inr ⟨y, k, rfl, ev_one hs hy⟩
    · simp at h

theorem run_bounds (w : World) (b : Bool) {x y : Option Operand} {len cap : Nat} {l h : Int} (hx : (x = none ∧ l = 0) ∨ ∃ z k, x = some z ∧ a.eval z = .int k l) (hy : (y = none ∧ h = len) ∨ ∃ z k, y = some z ∧ a.eval z = .int k h)
    (h0 : 0 ≤ l) (h1 : l ≤ h) (h2 : h ≤ len) (h3 : len ≤ cap) : (Instr.sliceBounds b len cap (x.map a.eval) (y.map a.eval) none).run P w = .ok (l.toNat, h.toNat, cap) w := by
  have bound : ∀ (k : IntKind) (i : Int) (m : Nat) (code : BoundsCode), 0 ≤ i → i ≤ m → (Instr.sliceBound (.int k i) m code).run P w = .ok i.toNat w := by
    intro k i m code p q
    simp [Instr.sliceBound, asIntOf, p, q]
  rcases hx with ⟨rfl, rfl⟩ | ⟨z, k, rfl, hz⟩
  · rcases hy with ⟨rfl, rfl⟩ | ⟨z', k', rfl, hz'⟩
    · simp [Instr.sliceBounds]
    · cases b <;> simp [Instr.sliceBounds, hz', bound k' h cap _ (by omega) (by omega)]
  · rcases hy with ⟨rfl, rfl⟩ | ⟨z', k', rfl, hz'⟩
    · cases b <;> simp [Instr.sliceBounds, hz, bound k l len _ h0 (by omega)]
    · cases b <;> simp [Instr.sliceBounds, hz, hz', bound k' h cap _ (by omega) (by omega), bound k l h.toNat _ h0 (by omega)]

theorem sound_slice {t : TypeId} {x : Operand} {lo hi : Option Operand} (ho : o.op = .slice t x lo hi none) (hT : tabOk P T = true) (hs : Sit S st a w Z L) (hg : FinV P o a w Z L st K R) (h : opW T C G o st K) : R := by
  simp only [opW, ho] at h
  split at h
  · rename_i c hx
    have cx := ev_one hs hx
    have run : ∀ {e : Nat} {ee : TE} (ad : Option Addr) (len cap : Nat) (l hh : Int), slTy T t = some (e, ee) → a.eval x = .slice ad len cap → boundOf st lo 0 = some l → boundOf st hi (len : Int) = some hh →
        0 ≤ l → l ≤ hh → hh ≤ len → len ≤ cap → ∀ w, (execOp a.eval o).run P w = .ok (.value (.slice (if cap = l.toNat then ad else ad.map (·.add (l.toNat * ee.size))) (hh.toNat - l.toNat) (cap - l.toNat))) w := by
      intro e ee ad len cap l hh hsl hv hl hh' h0 h1 h2 h3 w
      obtain ⟨hu, i, d, z, f⟩ := slTy_facts hT hsl
      have hb := run_bounds (P := P) (a := a) w true (boundOf_val hs hl) (boundOf_val hs hh') h0 h1 h2 h3
      unfold execOp
      simp [ho, hv, Instr.sliceAt, Instr.slice, run_underlying hu, hb, run_sizeOf f]
    split at h
    · rename_i s
      split at h
      · rename_i te hte
        split at h
        · rename_i hk
          split at h
          · rename_i l hh hl hh'
            obtain ⟨⟨h0, h1, h2⟩, hk'⟩ := h
            obtain ⟨d, hd, hkd⟩ := under_of (d := .bool) hT hte
            rw [kind_str hkd hk] at hd
            have cx' : a.eval x = .string s := cx
            have hb := fun w => run_bounds (P := P) (a := a) w false (boundOf_val hs hl) (boundOf_val hs hh') h0 h1 h2 (Nat.le_refl _)
            refine hg.value (v := .string (s.extract l.toNat hh.toNat)) (e := .one (.str (s.extract l.toNat hh.toNat))) ?_ rfl hk'
            unfold execOp
            simp [ho, cx', Instr.sliceAt, Instr.slice, run_underlying hd, hb]
          · exact h.elim
        · exact h.elim
      · exact h.elim
    · rename_i u xs
      split at h
      · rename_i e ee l hh hsl hl hh'
        obtain ⟨hsz, ⟨h0, h1, h2⟩, hk⟩ := ifT_iff.1 h
        have hsz := Nat.eq_of_beq_eq_true hsz
        obtain ⟨ad, n, cap, hv, rfl, hmc, hnone, hsome⟩ := cx
        simp only [List.cons.injEq, and_true] at hv
        refine hg.value (run ad xs.length cap l hh hsl hv hl hh' h0 h1 h2 hmc) (e := .one (.sl u ((xs.take hh.toNat).drop l.toNat))) ⟨_, _, _, rfl, by simp; omega, by omega, fun e => ?_, fun A hA i y hy => ?_⟩ hk
        · cases ad with
          | none => have := hnone rfl; omega
          | some A => split at e <;> simp at e
        · cases ad with
          | none => split at hA <;> simp at hA
          | some B =>
            rw [List.getElem?_drop] at hy
            have hlt : l.toNat + i < hh.toNat := by
              have := (List.getElem?_eq_some_iff.1 hy).1
              simp at this; omega
            rw [List.getElem?_take_of_lt hlt] at hy
            obtain ⟨p1, p2, es, e1, e2, e3⟩ := hsome B rfl _ y hy
            obtain ⟨g, q, sp⟩ := B
            simp only at p1 p2 e2
            subst p1
            split at hA
            · rename_i hcl
              have := (List.getElem?_eq_some_iff.1 hy).1
              omega
            · simp only [Option.map_some, Option.some.injEq, Addr.add_lit] at hA
              subst hA
              refine ⟨rfl, p2, es, e1, ?_, e3⟩
              rw [hsz, Nat.add_assoc, ← Nat.add_mul]
              exact e2
      · exact h.elim
    · rename_i r
      split at h
      · rename_i e' u xs hob
        split at h
        · rename_i e ee l hh hsl hl hh'
          obtain ⟨hsz, ⟨h0, h1, h2⟩, hk⟩ := ifT_iff.1 h
          have hsz := Nat.eq_of_beq_eq_true hsz
          obtain ⟨v', es, q1, q2, q3, q4, q5⟩ := hs.row hob
          obtain ⟨_, sz, m, q6⟩ := cx
          rw [q2] at q6
          simp only [Option.some.injEq, Loc.row.injEq] at q6
          obtain ⟨hv, rfl, rfl⟩ := q6
          rcases q4.2 with ⟨hv2, hn⟩ | ⟨g, cap, cur, hv2, hb, hg', hnc, hcm, _⟩
          · rw [hv2] at hv q2
            have hl0 : l.toNat = 0 := by omega
            have hh0 : hh.toNat = 0 := by omega
            refine hg.value (run none 0 0 l hh hsl hv.symm hl (by rw [← hh', hn]) h0 h1 (by omega) (Nat.le_refl _)) (e := .one (.win r l.toNat hh.toNat)) ⟨_, _, _, q2, .inl ⟨rfl, ?_, hl0, hh0⟩⟩ hk
            rw [hl0, hh0]; rfl
          · rw [hv2] at hv q2
            refine hg.value (run _ _ cap l hh hsl hv.symm hl hh' h0 h1 h2 hnc) (e := .one (.win r l.toNat hh.toNat)) ⟨_, _, _, q2, .inr ⟨g, _, cap, rfl, by omega, by omega, hnc, ?_⟩⟩ hk
            congr 1
            split
            · rfl
            · simp [Addr.add_lit, hsz]
        · exact h.elim
      · exact h.elim
    · exact h.elim
  · exact h.elim

theorem sound_len {t : List Nat} {x : Operand} {c : Call} (ho : o.op = .call c) (hcl : c.callee = .builtin .len) (hca : c.args.toList = [x]) (hct : c.argTypes.toList = t) (hT : tabOk P T = true) (hs : Sit S st a w Z L) (hg : FinV P o a w Z L st K R)
    (h : builtinW T .len [x] t st o.dst K) : R := by
  have hca' : c.args = #[x] := by
    have := congrArg List.toArray hca
    simpa using this
  simp only [builtinW] at h
  split at h
  · rename_i t ts
    have hct' : c.argTypes[0]? = some t := by rw [← Array.getElem?_toList, hct]; rfl
    split at h
    · rename_i te hte
      obtain ⟨d, hd, hkd⟩ := under_of (d := .bool) hT hte
      have go : ∀ (n : Nat), (∀ w, (Builtin.len_ c.argTypes o.type #[a.eval x]).run P w = .ok (.int .i64 n) w) → K (st.putO o.dst (.one (.int .i64 n))) → R := by
        intro n hr hk
        refine hg.value (v := .int .i64 n) (e := .one (.int .i64 n)) ?_ rfl hk
        unfold execOp
        simp [ho, resolve, hcl, hca', invoke, builtin, hr]
      split at h
      · rename_i s hk hx
        rw [kind_str hkd hk] at hd
        have cx : a.eval x = .string s := ev_one hs hx
        exact go s.size (by simp [Builtin.len_, hct', run_underlying hd, cx, goInt]) h
      · rename_i hk hx
        rw [kind_slice hkd hk] at hd
        have cx : a.eval x = .slice none 0 0 := ev_one hs hx
        exact go 0 (by simp [Builtin.len_, hct', run_underlying hd, cx, goInt]) h
      · rename_i cc _ hk hx
        split at h
        · rename_i m hl
          rw [kind_slice hkd hk] at hd
          obtain ⟨ad, n, cap, cx, hn, _⟩ := lenOf_len hs (ev_one hs hx) hl
          exact go m (by simp [Builtin.len_, hct', run_underlying hd, cx, goInt, hn]) h
        · exact h.elim
      · exact h.elim
    · exact h.elim
  · exact h.elim
end
end Go.Ry
set_option linter.unusedVariables false
set_option linter.unusedSimpArgs false
namespace Go.Ry

section
variable {P : Program} {S : Start} {st : St} {a : Act} {w w' : World} {Z Z' : Nat → Prop} {L L' : List Loc} {T : Tab} {C : Calls_} {G : List (Nat × Sig)} {o : Oper} {K : St → Prop} {next : Act → World → Prop} {Q : Exit → Act → World → Prop} {R : Prop}

theorem zeroIs_length : ∀ {t : Ty} {cs r : List Cell}, zeroIs t cs = some r → cs.length = t.size + r.length := by
  intro t cs r h
  -- by what it stands for, in an empty world
  induction t generalizing cs r with
  | unit => simp only [zeroIs, Option.some.injEq] at h; subst h; simp [Ty.size]
  | pair x y ihx ihy =>
    simp only [zeroIs] at h
    split at h
    · rename_i cs1 h1
      have := ihx h1
      have := ihy h
      simp only [Ty.size]; omega
    · simp at h
  | int k =>
    unfold zeroIs at h
    split at h <;> simp_all [Ty.size]
    all_goals omega
  | bool =>
    unfold zeroIs at h
    split at h <;> simp_all [Ty.size]
    all_goals omega
  | str =>
    unfold zeroIs at h
    split at h <;> simp_all [Ty.size]
    all_goals omega
  | slice t _ =>
    unfold zeroIs at h
    split at h <;> simp_all [Ty.size]
    all_goals omega

theorem zeroEq_length : ∀ {cs : List Cell} {vs : List Value}, zeroEq cs vs = true → vs.length = cs.length := by
  intro cs vs h
  exact CsSim.length (zeroEq_sim default (fun _ => False) [] h)

theorem told_facts {e : Nat} {ee : TE} {i : TypeInfo} {d : TypeDesc} {z : Value} (f : TEFacts P e ee i d z) (ht : ee.told = true) :
    ee.ty.size = ee.size ∧ z.cells.size = ee.size ∧ ∀ w Z, Rd w Z ee.ty ee.ty.dflt z.cells.toList := by
  obtain ⟨h1, h2⟩ := f.told ht
  have h3 := zeroIs_length h2
  have h4 := zeroEq_length f.zeroEq
  refine ⟨h1, ?_, fun w Z => ?_⟩
  · rw [← Array.length_toList, h4, h3]; simpa using h1
  · obtain ⟨us, rs, e1, e2, e3⟩ := zeroIs_sim h2 (zeroEq_sim w Z [] f.zeroEq)
    cases rs with
    | nil => rw [e1]; simpa using e2
    | cons _ _ => exact e3.elim

theorem appTy_of {ts tx e : Nat} {ee xe : TE} (hT : tabOk P T = true) (hsl : slTy T ts = some (e, ee)) (hx : look T tx = some xe) (hk : xe.kind = .slice ∨ xe.kind = .str) (ht : ee.told = true) (hp : 0 < ee.size) :
    AppTy P ts tx e ee.ty ee.bytes := by
  obtain ⟨hu, i, d, z, f⟩ := slTy_facts hT hsl
  obtain ⟨h1, h2, _⟩ := told_facts f ht
  obtain ⟨dx, hd, hkd⟩ := under_of (d := .bool) hT hx
  refine ⟨hu, ⟨dx, hd, ?_⟩, ⟨i, z, f.info, f.zero, by rw [f.size, h1], f.bytes, by rw [h2, h1]⟩, by omega, f.pos.resolve_left (by omega)⟩
  rcases hk with hk | hk
  · exact .inl ⟨_, kind_slice hkd hk⟩
  · exact .inr (kind_str hkd hk)

theorem bytesL_length (s : ByteArray) : (bytesL s).length = s.size := by
  simp only [bytesL, List.length_map, Array.length_toList]
  rfl

theorem Inn.eq_of' : ∀ {p q : Inn}, innEq p q = true → p = q
  | ⟨o, e, s⟩, ⟨o', e', s'⟩, h => by
    simp only [innEq, Bool.and_eq_true] at h
    have h1 : o = o' := Nat.eq_of_beq_eq_true h.1
    have h2 : e = e' := Nat.eq_of_beq_eq_true h.2.1
    have h3 : s = s' := Ty.eqb_eq h.2.2
    rw [h1, h2, h3]

theorem Nests.kept {F : Nat → Nat → Prop} {t : Ty} {q : Inn} {xs : List t.den} {v : Value} {es : List Value} {hd : Nat → Value} (hk : Keeps w F w') (hf : ∀ k b, (hd k).ownBlock = some b → ∀ q, ¬ F b q) (h : Nests w t q xs none v es hd) : Nests w' t q xs none v es hd :=
  ⟨fun k x hx p c u hp hc hu => CSim.mono (w := w) (w' := w') (Z := none1) (Z' := none1) (fun _ h => h.elim) (fun _ h => h) (Grows.refl _) (h.plain k x hx p c u hp hc hu), h.head, fun k x hx hkn => by
    obtain ⟨fs, a1, a2⟩ := h.inner k x hx hkn
    exact ⟨fs, ownsRow_kept hk (hf k) a1, RowRd.mono (fun _ h => h.elim) (fun _ h => h) a2⟩, h.sep, h.out⟩

theorem Nests.append {t : Ty} {q : Inn} {xs ys : List t.den} {v1 v2 v : Value} {es fs : List Value} {h1 h2 : Nat → Value} (ht : nestTy t q = true) (hl : es.length = xs.length * t.size)
    (hx : Nests w t q xs none v1 es h1) (hy : Nests w t q ys none v2 fs h2) (hc : ∀ k k' b, (h1 k).ownBlock = some b → (h2 k').ownBlock ≠ some b) (hv1 : ∀ k b, (h1 k).ownBlock = some b → v.ownBlock ≠ some b) (hv2 : ∀ k b, (h2 k).ownBlock = some b → v.ownBlock ≠ some b) :
    Nests w t q (xs ++ ys) none v (es ++ fs) (fun k => if k < xs.length then h1 k else h2 (k - xs.length)) := by
  obtain ⟨hfl, hs0, hqo⟩ := nest_flat ht
  have at1 : ∀ k p, k < xs.length → p < t.size → (es ++ fs)[k * t.size + p]? = es[k * t.size + p]? := fun k p hk hp => by
    have := Nat.mul_le_mul_right t.size (show k + 1 ≤ xs.length by omega)
    rw [Nat.add_mul, Nat.one_mul] at this
    rw [List.getElem?_append_left (by omega)]
  have at2 : ∀ k p, xs.length ≤ k → (es ++ fs)[k * t.size + p]? = fs[(k - xs.length) * t.size + p]? := fun k p hk => by
    have := Nat.mul_le_mul_right t.size hk
    rw [List.getElem?_append_right (by omega), hl, Nat.sub_mul]
    congr 1
    omega
  refine ⟨fun k x hkx p c u hp hcc hu => ?_, fun k hk => ?_, fun k x hkx _ => ?_, fun k b hb => ?_, fun k hk => ?_⟩
  · have hpt : p < t.size := by rw [← Ty.cells_length t x]; exact (List.getElem?_eq_some_iff.1 hcc).1
    rcases Nat.lt_or_ge k xs.length with hlt | hge
    · rw [List.getElem?_append_left hlt] at hkx
      rw [at1 k p hlt hpt] at hu
      exact hx.plain k x hkx p c u hp hcc hu
    · rw [List.getElem?_append_right hge] at hkx
      rw [at2 k p hge] at hu
      exact hy.plain _ x hkx p c u hp hcc hu
  · rcases Nat.lt_or_ge k xs.length with hlt | hge
    · simp only [if_pos hlt]
      rw [at1 k q.o hlt hqo]
      exact hx.head k hlt
    · simp only [if_neg (show ¬ k < xs.length by omega)]
      rw [at2 k q.o hge]
      exact hy.head _ (by rw [List.length_append] at hk; omega)
  · rcases Nat.lt_or_ge k xs.length with hlt | hge
    · rw [List.getElem?_append_left hlt] at hkx
      simp only [if_pos hlt]
      exact hx.inner k x hkx (by simp)
    · rw [List.getElem?_append_right hge] at hkx
      simp only [if_neg (show ¬ k < xs.length by omega)]
      exact hy.inner _ x hkx (by simp)
  · rcases Nat.lt_or_ge k xs.length with hlt | hge
    · simp only [if_pos hlt] at hb
      refine ⟨hv1 k b hb, fun k' hk' => ?_⟩
      rcases Nat.lt_or_ge k' xs.length with hlt' | hge'
      · simp only [if_pos hlt']
        exact (hx.sep k b hb).2 k' hk'
      · simp only [if_neg (show ¬ k' < xs.length by omega)]
        exact hc k _ b hb
    · simp only [if_neg (show ¬ k < xs.length by omega)] at hb
      refine ⟨hv2 _ b hb, fun k' hk' => ?_⟩
      rcases Nat.lt_or_ge k' xs.length with hlt' | hge'
      · simp only [if_pos hlt']
        exact fun hb' => hc k' _ b hb' hb
      · simp only [if_neg (show ¬ k' < xs.length by omega)]
        exact (hy.sep _ b hb).2 _ (by omega)
  · rw [List.length_append] at hk
    simp only [if_neg (show ¬ k < xs.length by omega)]
    exact hy.out _ (by omega)

theorem Nests.oneCell {t : Ty} {q : Inn} {xs : List t.den} {v : Value} {es : List Value} {hd : Nat → Value} (ht : nestTy t q = true) (hp : 0 < t.size) (hl : es.length = xs.length * t.size) (h : Nests w t q xs none v es hd) : ∀ u ∈ es, u.oneCell' = true := by
  intro u hu
  obtain ⟨p, hpu⟩ := List.getElem?_of_mem hu
  have hlt := (List.getElem?_eq_some_iff.1 hpu).1
  have hk : p / t.size < xs.length := by
    rw [hl] at hlt
    exact Nat.div_lt_of_lt_mul (by rw [Nat.mul_comm]; exact hlt)
  have ho : p % t.size < t.size := Nat.mod_lt _ hp
  have he : p / t.size * t.size + p % t.size = p := by rw [Nat.mul_comm]; exact Nat.div_add_mod p t.size
  by_cases hq : p % t.size = q.o
  · obtain ⟨h1, aa, nn, cc, h2⟩ := h.head _ hk
    rw [← hq, he, hpu] at h1
    simp only [Option.some.injEq] at h1
    rw [h1, h2]; rfl
  · have hX := List.getElem?_eq_getElem hk
    generalize xs[p / t.size] = X at hX
    have hlt2 : p % t.size < (t.cells X).length := by rw [Ty.cells_length]; exact ho
    obtain ⟨c, hc⟩ : ∃ c, (t.cells X)[p % t.size]? = some c := ⟨_, List.getElem?_eq_getElem hlt2⟩
    exact (h.plain _ _ hX _ _ u hq hc (by rw [he]; exact hpu)).oneCell

theorem appendN_sound {e bytes : Nat} {u : Ty} {s x : Cell} {sv xv : Value} {d : Option Nat} {K : St → Prop} {t tx ty : TypeId}
    (h : appendN st e bytes u s x d K) (hs : Sit S st a w Z L) (hc : CSim w Z L s sv) (hx : CSim w Z L x xv) (at_ : AppTy P t tx e u bytes) :
    ∃ v' w' L' st', (Builtin.append_ #[t, tx] ty #[sv, xv]).run P w = .ok v' w' ∧ Sit S st' (a.put d v') w' Z L' ∧ K st' := by
  obtain ⟨dx, htx, hdx⟩ := at_.htx
  obtain ⟨i, z, hi, hz, hsize, hby, hzs⟩ := at_.hi
  have bound : ∀ n m, (n + m) * bytes ≤ 140737488355328 → n + m ≤ maxLen := by
    intro n m hn
    have := Nat.le_trans (Nat.le_mul_of_pos_right (n + m) at_.hby) hn
    simp only [maxLen]; omega
  have newAt : ∀ l : Loc, (L ++ [l])[st.objs.length]? = some l := fun l => hs.newAt l
  unfold appendN at h
  split at h
  · rename_i r
    split at h
    · rename_i f t' q ys hor
      split at h
      · rename_i ys' hf hcast
        obtain ⟨rfl, rfl⟩ := castL_some hcast
        simp only [beq_iff_eq] at hf
        subst hf
        obtain ⟨vr, fs, hr, r1, r2, r3, ht, r4, r5⟩ := hs.nest hor
        obtain ⟨_, sz, n, r6⟩ := hx
        rw [r2] at r6
        simp only [Option.some.injEq, Loc.row.injEq] at r6
        obtain ⟨rfl, rfl, rfl⟩ := r6
        have hlx : ∀ w, (Builtin.lenOf vr).run P w = .ok ys.length w := fun w => by
          obtain ⟨ad, cap, e1, _⟩ := ownsRow_len r4
          rw [e1]; simp [Builtin.lenOf]
        have hfx : ∀ w', w'.heap = w.heap → (Builtin.firstCells t'.size ys.length vr).run P w' = .ok fs.toArray w' := fun w' hw => by
          rcases r4.2 with ⟨e1, e2⟩ | ⟨g, cap, cur, rfl, hb, hg, hn, hm, hcs, htk⟩
          · have : fs = [] := List.eq_nil_of_length_eq_zero (by rw [r4.1, e2, Nat.zero_mul])
            rw [e1, e2, this]
            simp [Builtin.firstCells]
          · have hat : CellsAt w g 0 fs := fun j y hj => by
              have := r4.cells (g := g) rfl j y hj
              rwa [Addr.add_lit] at this
            exact CellsAt.firstCells (A := ⟨g, 0, none⟩) (fun _ => rfl) hat r4.1 hw
        have own : ∀ (v : Value) (n : Nat) (es : List Value), w.ownsRow 0 f t'.size v n es → (n + ys.length) * bytes ≤ 140737488355328 →
            ∃ v' w', (Builtin.append_ #[t, tx] ty #[v, vr]).run P w = .ok v' w' ∧ w'.ownsRow 0 f t'.size v' (n + ys.length) (es ++ fs) ∧ Keeps w (fun b _ => v.ownBlock = some b) w' ∧ ∀ b, v'.ownBlock = some b → w.heap.size ≤ b ∨ v.ownBlock = some b := fun v n es ho hb =>
          run_append_any t tx ty f i z t'.size bytes at_.ht dx htx hdx hi hz hsize hby hzs at_.hsz v n es ho vr ys.length fs hlx hfx r4.1 (r5.oneCell ht r3 r4.1) (bound _ _ hb) hb
        have hlt : ∀ k b, (hr k).ownBlock = some b → b < w.heap.size := fun k b hb => foot_lt (hs.sims.ob r _ _ r1 r2) (b := b) (q := 0) (.inr ⟨k, by simp, hb⟩)
        split at h
        · obtain ⟨hb, hk⟩ := h
          rw [show sv = .slice none 0 0 from hc]
          obtain ⟨v', w', e1, e2, e3, e4⟩ := own (.slice none 0 0) 0 [] (World.ownsRow_nil w 0 f t'.size) (by simpa using hb)
          have e4' : ∀ b, v'.ownBlock = some b → w.heap.size ≤ b := fun b hb => (e4 b hb).resolve_right (by simp [Value.ownBlock])
          have hN : Nests w' t' q ys none v' fs hr := by
            have h0 := r5.kept e3 (fun k b hb q hv => by simp [Value.ownBlock] at hv)
            exact ⟨h0.plain, h0.head, h0.inner, fun k b hb => ⟨fun hv => by have := e4' b hv; have := hlt k b hb; omega, (h0.sep k b hb).2⟩, h0.out⟩
          have hS := hs.turn (o' := .nest f t' q ys none) (l' := .row v' t'.size ⟨ys.length, hr⟩) r1 r2 (e3.mono fun _ _ _ hx => by simp [Value.ownBlock] at hx)
            ⟨v', fs, hr, rfl, r3, ht, by simpa using e2, hN⟩ (fun b y hy => by
              rcases hy with hy | ⟨k, _, hy⟩
              · exact .inl (e4' b hy)
              · exact .inr (.inr ⟨k, by simp, hy⟩))
          exact ⟨v', w', _, _, e1, hS.put (e := .one (.row st.objs.length)) ⟨ownsRow_slice e2, _, _, newAt _⟩ d, hk⟩
        · rename_i j
          split at h
          · rename_i g t2 p xs hoi
            split at h
            · rename_i xs' hcnd hcast2
              simp only [Bool.and_eq_true, Bool.not_eq_true'] at hcnd
              obtain ⟨hg, hpq, hri⟩ := hcnd
              obtain ⟨rfl, rfl⟩ := castL_some hcast2
              simp only [beq_iff_eq] at hg
              have hpq := Inn.eq_of' hpq
              subst hg hpq
              have hri : r ≠ j := fun e => by subst e; simp at hri
              obtain ⟨hb, hk⟩ := h
              obtain ⟨v, es, hd, q1, q2, q3, _, q4, q5⟩ := hs.nest hoi
              obtain ⟨_, sz, n, q6⟩ := hc
              rw [q2] at q6
              simp only [Option.some.injEq, Loc.row.injEq] at q6
              obtain ⟨rfl, rfl, rfl⟩ := q6
              obtain ⟨v', w', e1, e2, e3, e4⟩ := own v xs.length es q4 hb
              have hlt1 : ∀ k b, (hd k).ownBlock = some b → b < w.heap.size := fun k b hb => foot_lt (hs.sims.ob j _ _ q1 q2) (b := b) (q := 0) (.inr ⟨k, by simp, hb⟩)
              have x1 := q5.kept e3 (fun k b hb _ hv => (q5.sep k b hb).1 hv)
              have x2 := r5.kept e3 (fun k b hb _ hv => hs.sims.sep j r _ _ _ _ q1 q2 r1 r2 (Ne.symm hri) b 0 (.inl hv) (.inr ⟨k, by simp, hb⟩))
              have hN := Nests.append (v := v') ht q4.1 x1 x2 (fun k k' b hb hb' => hs.sims.sep j r _ _ _ _ q1 q2 r1 r2 (Ne.symm hri) b 0 (.inr ⟨k, by simp, hb⟩) (.inr ⟨k', by simp, hb'⟩))
                (fun k b hb hv => by
                  rcases e4 b hv with h1 | h1
                  · have := hlt1 k b hb; omega
                  · exact (q5.sep k b hb).1 h1)
                (fun k b hb hv => by
                  rcases e4 b hv with h1 | h1
                  · have := hlt k b hb; omega
                  · exact hs.sims.sep j r _ _ _ _ q1 q2 r1 r2 (Ne.symm hri) b 0 (.inl h1) (.inr ⟨k, by simp, hb⟩))
              have hS := hs.mergeN (o' := .nest g t2 p (xs ++ ys) none) (l' := .row v' t2.size ⟨xs.length + ys.length, fun k => if k < xs.length then hd k else hr (k - xs.length)⟩) hri q1 q2 r1 r2 (e3.mono fun _ _ _ hx => .inl hx)
                ⟨v', es ++ fs, _, by simp, r3, ht, by simpa using e2, hN⟩ (fun b y hy => by
                  rcases hy with hy | ⟨k, _, hy⟩
                  · rcases e4 b hy with h1 | h1
                    · exact .inl h1
                    · exact .inr (.inl (.inl h1))
                  · by_cases hkl : k < xs.length
                    · simp only [if_pos hkl] at hy
                      exact .inr (.inl (.inr ⟨k, by simp, hy⟩))
                    · simp only [if_neg hkl] at hy
                      exact .inr (.inr (.inr ⟨_, by simp, hy⟩)))
              exact ⟨v', w', _, _, e1, hS.put (e := .one (.row st.objs.length)) ⟨ownsRow_slice e2, _, _, newAt _⟩ d, hk⟩
            · exact h.elim
          · exact h.elim
        · exact h.elim
      · exact h.elim
    · exact h.elim
  · exact h.elim

theorem sound_append {t : List Nat} {s x : Operand} {c : Call} (ho : o.op = .call c) (hcl : c.callee = .builtin .append) (hca : c.args.toList = [s, x]) (hct : c.argTypes.toList = t) (hT : tabOk P T = true) (hs : Sit S st a w Z L) (hg : Goes S K next)
    (h : builtinW T .append [s, x] t st o.dst K) : o.wp P a w next Q := by
  have hca' : c.args = #[s, x] := by
    have := congrArg List.toArray hca
    simpa using this
  simp only [builtinW] at h
  split at h
  · rename_i ts tx
    have hct' : c.argTypes = #[ts, tx] := by
      have := congrArg List.toArray hct
      simpa using this
    split at h
    · rename_i e ee xe hsl hxe
      split at h
      · rename_i htp
        simp only [Bool.and_eq_true] at htp
        have hpos : 0 < ee.size := Nat.le_of_ble_eq_true htp.2
        have go : ∀ (v' : Value) (w' : World) (L' : List Loc) (st' : St), (Builtin.append_ #[ts, tx] o.type #[a.eval s, a.eval x]).run P w = .ok v' w' → Sit S st' (a.put o.dst v') w' Z L' → K st' → o.wp P a w next Q := by
          intro v' w' L' st' hr hs' hk
          refine wp_value (v := v') (w' := w') ?_ (hg _ _ _ _ _ hs' hk)
          unfold execOp
          simp [ho, resolve, hcl, hca', hct', invoke, builtin, hr]
        split at h
        · rename_i s' y hk hs1 hx1
          have cx : a.eval x = .string y := ev_one hs hx1
          split at h
          · rename_i hty
            have at_ := appTy_of hT hsl hxe (.inr hk) htp.1 hpos
            rw [hty] at at_
            have hn : ((y.data.toList.map fun b => Value.int .u8 (b.toNat : Int)) : List Value).length = (bytesL y).length := by simp [bytesL]
            obtain ⟨v', w', L', st', hr, hs', hk'⟩ := appendW_sound (P := P) (ty := o.type) (news := y.data.toList.map fun b => Value.int .u8 (b.toNat : Int)) (xv := .string y) h hs (ev_one hs hs1) at_
              (fun w => by simp [Builtin.lenOf, bytesL_length])
              (fun w' _ => by
                rw [bytesL_length]
                simp only [Builtin.firstCells, Sem.run_pure]
                have he : (y.extract 0 y.size).data = y.data := by
                  have : y.extract 0 y.size = y := by simp
                  rw [this]
                rw [he]
                congr 1
                apply Array.ext'
                simp)
              (by rw [hn]; simp [Ty.size])
              (fun u hu => by
                obtain ⟨b, _, rfl⟩ := List.mem_map.1 hu
                rfl)
              (fun i b hi => by
                simp only [Ty.size, Nat.mul_one]
                simp only [bytesL, List.getElem?_map] at hi
                cases hb : y.data.toList[i]? with
                | none => rw [hb] at hi; simp at hi
                | some b' =>
                  rw [hb] at hi
                  simp only [Option.map_some, Option.some.injEq] at hi
                  subst hi
                  have hlt := (List.getElem?_eq_some_iff.1 hb).1
                  rw [List.drop_eq_getElem_cons (by simpa using hlt), List.take_succ_cons, List.take_zero]
                  simp only [Rd, List.getElem_map]
                  rw [(List.getElem?_eq_some_iff.1 hb).2])
            exact go v' w' L' st' (by rw [cx]; exact hr) hs' hk'
          · exact h.elim
        · rename_i s' hk hs1 hx1
          have cx : a.eval x = .slice none 0 0 := ev_one hs hx1
          have at_ := appTy_of hT hsl hxe (.inl hk) htp.1 hpos
          obtain ⟨v', w', L', st', hr, hs', hk'⟩ := appendW_sound (P := P) (ty := o.type) (news := []) (xv := .slice none 0 0) h hs (ev_one hs hs1) at_
            (fun w => by simp [Builtin.lenOf]) (fun w' _ => by simp [Builtin.firstCells]) (by simp) (fun u hu => by simp at hu) (fun i b hi => by simp at hi)
          exact go v' w' L' st' (by rw [cx]; exact hr) hs' hk'
        · rename_i s' x' _ hk hs1 hx1
          split at h
          · rename_i ys hl
            split at h
            · rename_i ys' hcast
              obtain ⟨u, ys⟩ := ys
              obtain ⟨rfl, rfl⟩ := castL_some hcast
              obtain ⟨ad, cap, news, hv, hnl, hrd, hnone, hsome⟩ := listOf_rd hs (ev_one hs hx1) hl
              have at_ := appTy_of hT hsl hxe (.inl hk) htp.1 hpos
              obtain ⟨v', w', L', st', hr, hs', hk'⟩ := appendW_sound (P := P) (ty := o.type) (news := news) (xv := a.eval x) h hs (ev_one hs hs1) at_
                (fun w => by rw [hv]; simp [Builtin.lenOf])
                (fun w' hw => by
                  rw [hv]
                  cases ad with
                  | none =>
                    have h0 := hnone rfl
                    have : news = [] := List.eq_nil_of_length_eq_zero (by rw [hnl, h0, Nat.zero_mul])
                    subst this
                    simp [Builtin.firstCells]
                  | some A => exact (hsome A rfl).2.firstCells (hsome A rfl).1 hnl hw)
                hnl (hrd.oneCell hnl) hrd
              exact go v' w' L' st' hr hs' hk'
            · exact h.elim
          · have at_ := appTy_of hT hsl hxe (.inl hk) htp.1 hpos
            obtain ⟨v', w', L', st', hr, hs', hk'⟩ := appendN_sound (P := P) (ty := o.type) h hs (ev_one hs hs1) (ev_one hs hx1) at_
            exact go v' w' L' st' hr hs' hk'
        · exact h.elim
      · exact h.elim
    · exact h.elim
  · exact h.elim

theorem copyW_sound {e bytes : Nat} {u : Ty} {s : Cell} {sv xv : Value} {ys : List u.den} {d : Option Nat} {K : St → Prop} {t tx ty : TypeId} {news : List Value}
    (h : copyW st e u s ys d K) (hs : Sit S st a w Z L) (hc : CSim w Z L s sv) (at_ : AppTy P t tx e u bytes)
    (hlx : ∀ w, (Builtin.lenOf xv).run P w = .ok ys.length w) (hfx : ∀ w', w'.heap = w.heap → (Builtin.firstCells u.size ys.length xv).run P w' = .ok news.toArray w')
    (hl : news.length = ys.length * u.size) (h1 : ∀ x ∈ news, x.oneCell' = true) (hrd : RowRd w Z u ys news) :
    ∃ v' w' L' st', (Builtin.copy_ #[t, tx] ty #[sv, xv]).run P w = .ok v' w' ∧ Sit S st' (a.put d v') w' Z L' ∧ K st' := by
  obtain ⟨i, z, hi, hz, hsize, hby, hzs⟩ := at_.hi
  have hfw := hfx w rfl
  unfold copyW at h
  split at h
  · rename_i k
    split at h
    · rename_i f t' xs hob
      split at h
      · rename_i xs' hf hx
        obtain ⟨hb, hk⟩ := h
        obtain ⟨rfl, rfl⟩ := castL_some hx
        have hb : ys.length = xs.length := hb
        simp only [beq_iff_eq] at hf
        subst hf
        obtain ⟨v, es, q1, q2, q3, q4, q5⟩ := hs.row hob
        obtain ⟨_, sz, n, q6⟩ := hc
        rw [q2] at q6
        simp only [Option.some.injEq, Loc.row.injEq] at q6
        obtain ⟨rfl, rfl, rfl⟩ := q6
        have hlen := q4.1
        rcases q4.2 with ⟨rfl, h0⟩ | ⟨g, cap, cur, rfl, hbg, hg, hnc, hcm, hcs, htk⟩
        · have hx0 : xs = [] := List.eq_nil_of_length_eq_zero h0
          subst hx0
          have hy0 : ys = [] := List.eq_nil_of_length_eq_zero hb
          subst hy0
          have hn0 : news = [] := List.eq_nil_of_length_eq_zero (by simpa using hl)
          subst hn0
          refine ⟨.int .i64 0, w, _, _, ?_, (hs.set (o' := .row f t' []) q1 q2 (Keeps.refl _ _) ⟨_, es, by simp, q3, q4, q5⟩ (fun b q hq => hq)).put (e := .one (.int .i64 0)) rfl d, hk⟩
          simp only [List.length_nil] at hlx hfw
          simp [Builtin.copy_, run_underlying at_.ht, sizeOf, typeInfo, hi, hlx, hsize, hfw, goInt]
        · obtain ⟨w', r1, r2, r3⟩ := ownsRow_store (P := P) (p := 0) (us := news) q4 (by rw [hl, hb]; omega) h1
          have hnl : news.length = es.length := by rw [hl, hlen, hb]
          rw [List.take_zero, List.nil_append, Nat.zero_add, hnl, List.drop_length, List.append_nil] at r2
          have hkp : Keeps w (foot (.row f t' xs) (.row (.slice (some ⟨g, 0, none⟩) xs.length cap) t'.size (LN.of xs.length))) w' := r3.mono fun b _ _ hx => by simp [foot, Value.ownBlock, hx]
          have hzz : ∀ b, Z b → w'.heap[b]? = w.heap[b]? := fun b hb => r3.same (hs.sims.zin b hb) fun _ hx => hs.zfoot q1 q2 b hb (by simp [Value.ownBlock, hx])
          refine ⟨.int .i64 ys.length, w', _, _, ?_, (hs.set (o' := .row f t' ys) q1 q2 hkp ⟨.slice (some ⟨g, 0, none⟩) xs.length cap, news, by simp [hb], q3, by rw [← hb] at r2; simpa [hb] using r2, RowRd.mono hzz (fun _ hb => hb) hrd⟩ (fun b q hq => hq)).put (e := .one (.int .i64 ys.length)) rfl d, hk⟩
          have hmin : Nat.min ys.length xs.length = ys.length := by rw [hb]; exact Nat.min_self _
          simp [Builtin.copy_, run_underlying at_.ht, sizeOf, typeInfo, hi, hlx, hsize, hmin, hfw, r1, goInt]
      · exact h.elim
    · exact h.elim
  · exact h.elim

theorem sound_copy {t : List Nat} {s x : Operand} {c : Call} (ho : o.op = .call c) (hcl : c.callee = .builtin .copy) (hca : c.args.toList = [s, x]) (hct : c.argTypes.toList = t) (hT : tabOk P T = true) (hs : Sit S st a w Z L) (hg : Goes S K next)
    (h : builtinW T .copy [s, x] t st o.dst K) : o.wp P a w next Q := by
  have hca' : c.args = #[s, x] := by
    have := congrArg List.toArray hca
    simpa using this
  simp only [builtinW] at h
  split at h
  · rename_i ts tx
    have hct' : c.argTypes = #[ts, tx] := by
      have := congrArg List.toArray hct
      simpa using this
    split at h
    · rename_i e ee xe hsl hxe
      split at h
      · rename_i htp
        simp only [Bool.and_eq_true] at htp
        have hpos : 0 < ee.size := Nat.le_of_ble_eq_true htp.2
        have go : ∀ (v' : Value) (w' : World) (L' : List Loc) (st' : St), (Builtin.copy_ #[ts, tx] o.type #[a.eval s, a.eval x]).run P w = .ok v' w' → Sit S st' (a.put o.dst v') w' Z L' → K st' → o.wp P a w next Q := by
          intro v' w' L' st' hr hs' hk
          refine wp_value (v := v') (w' := w') ?_ (hg _ _ _ _ _ hs' hk)
          unfold execOp
          simp [ho, resolve, hcl, hca', hct', invoke, builtin, hr]
        split at h
        · rename_i s' x' hk hs1 hx1
          split at h
          · rename_i ys hl
            split at h
            · rename_i ys' hcast
              obtain ⟨u, ys⟩ := ys
              obtain ⟨rfl, rfl⟩ := castL_some hcast
              obtain ⟨ad, cap, news, hv, hnl, hrd, hnone, hsome⟩ := listOf_rd hs (ev_one hs hx1) hl
              have at_ := appTy_of hT hsl hxe (.inl hk) htp.1 hpos
              obtain ⟨v', w', L', st', hr, hs', hk'⟩ := copyW_sound (P := P) (ty := o.type) (news := news) (xv := a.eval x) h hs (ev_one hs hs1) at_
                (fun w => by rw [hv]; simp [Builtin.lenOf])
                (fun w' hw => by
                  rw [hv]
                  cases ad with
                  | none =>
                    have h0 := hnone rfl
                    have : news = [] := List.eq_nil_of_length_eq_zero (by rw [hnl, h0, Nat.zero_mul])
                    subst this
                    simp [Builtin.firstCells]
                  | some A => exact (hsome A rfl).2.firstCells (hsome A rfl).1 hnl hw)
                hnl (hrd.oneCell hnl) hrd
              exact go v' w' L' st' hr hs' hk'
            · exact h.elim
          · exact h.elim
        · exact h.elim
      · exact h.elim
    · exact h.elim
  · exact h.elim

theorem intsOf_eval (hs : Sit S st a w Z L) : ∀ {xs : List Operand} {l : List (IntKind × Int)}, intsOf st xs = some l → xs.map a.eval = l.map fun p => Value.int p.1 p.2
  | [], l, h => by simp only [intsOf, Option.some.injEq] at h; subst h; rfl
  | x :: xs, l, h => by
    simp only [intsOf] at h
    split at h
    · rename_i k n l' hx hr
      simp only [Option.some.injEq] at h
      subst h
      have cx : a.eval x = .int k n := ev_one hs hx
      simp [cx, intsOf_eval hs hr]
    · simp at h

theorem run_minL (w : World) (k : IntKind) : ∀ (l : List (IntKind × Int)) (x : Int), ((l.map fun p => Value.int p.1 p.2).foldlM Builtin.min2 (.int k x)).run P w = .ok (.int k (minL x l)) w
  | [], x => by simp [minL]
  | (j, y) :: l, x => by
    simp only [List.map_cons, List.foldlM_cons, Builtin.min2, Sem.run_bind, Sem.run_pure, Result.andThen_ok, minL]
    exact run_minL w k l _
theorem run_maxL (w : World) (k : IntKind) : ∀ (l : List (IntKind × Int)) (x : Int), ((l.map fun p => Value.int p.1 p.2).foldlM Builtin.max2 (.int k x)).run P w = .ok (.int k (maxL x l)) w
  | [], x => by simp [maxL]
  | (j, y) :: l, x => by
    simp only [List.map_cons, List.foldlM_cons, Builtin.max2, Sem.run_bind, Sem.run_pure, Result.andThen_ok, maxL]
    exact run_maxL w k l _

theorem sound_min {t : List Nat} {c : Call} (ho : o.op = .call c) (hcl : c.callee = .builtin .min) (hs : Sit S st a w Z L) (hg : FinV P o a w Z L st K R)
    (h : builtinW T .min c.args.toList t st o.dst K) : R := by
  simp only [builtinW] at h
  split at h
  · rename_i k n l hi
    have he := intsOf_eval hs hi
    refine hg.value (v := .int k (minL n l)) (e := .one (.int k (minL n l))) (fun w => ?_) rfl h
    unfold execOp
    simp only [ho, resolve, hcl, invoke, builtin, Sem.run_bind, Sem.run_pure, Result.andThen_ok, Builtin.min_, Array.toList_map, he, List.map_cons, run_minL]
  · exact h.elim
theorem sound_max {t : List Nat} {c : Call} (ho : o.op = .call c) (hcl : c.callee = .builtin .max) (hs : Sit S st a w Z L) (hg : FinV P o a w Z L st K R)
    (h : builtinW T .max c.args.toList t st o.dst K) : R := by
  simp only [builtinW] at h
  split at h
  · rename_i k n l hi
    have he := intsOf_eval hs hi
    refine hg.value (v := .int k (maxL n l)) (e := .one (.int k (maxL n l))) (fun w => ?_) rfl h
    unfold execOp
    simp only [ho, resolve, hcl, invoke, builtin, Sem.run_bind, Sem.run_pure, Result.andThen_ok, Builtin.max_, Array.toList_map, he, List.map_cons, run_maxL]
  · exact h.elim
end
end Go.Ry
