/- The evaluator is right: operations (3): memory. No condition. -/
import Derived.Test.YtlphiljackccnaaRy12
import Derived.Laws.IdiomStrings
import Derived.Laws.BytesArg
set_option linter.unusedVariables false
set_option linter.unusedSimpArgs false
namespace Go.Ry

section
variable {P : Program} {S : Start} {st : St} {a : Act} {w w' : World} {Z Z' : Nat → Prop} {L L' : List Loc} {T : Tab} {C : Calls_} {G : List (Nat × Sig)} {o : Oper} {K : St → Prop} {next : Act → World → Prop} {Q : Exit → Act → World → Prop} {R : Prop}

theorem gather {t : Ty} {g : Nat} : ∀ {xs : List t.den} {q : Nat}, (∀ (i : Nat) (x : t.den), xs[i]? = some x → ∃ es : List Value, es.length = t.size ∧ CellsAt w g (q + i * t.size) es ∧ Rd w Z t x es) →
    ∃ news : List Value, news.length = xs.length * t.size ∧ CellsAt w g q news ∧ RowRd w Z t xs news
  | [], q, _ => ⟨[], by simp, fun j u hj => by simp at hj, fun i x hx => by simp at hx⟩
  | x :: xs, q, h => by
    obtain ⟨es, h1, h2, h3⟩ := h 0 x rfl
    obtain ⟨news, n1, n2, n3⟩ := gather (xs := xs) (q := q + t.size) (fun i y hy => by
      obtain ⟨es, a1, a2, a3⟩ := h (i + 1) y (by simpa using hy)
      refine ⟨es, a1, ?_, a3⟩
      have : q + (i + 1) * t.size = q + t.size + i * t.size := by rw [Nat.add_mul]; omega
      rwa [this] at a2)
    refine ⟨es ++ news, by simp [h1, n1, Nat.add_mul, Nat.add_comm], fun j u hj => ?_, fun i y hy => ?_⟩
    · by_cases hjl : j < es.length
      · rw [List.getElem?_append_left hjl] at hj
        simpa using h2 j u hj
      · rw [List.getElem?_append_right (by omega)] at hj
        have := n2 (j - es.length) u hj
        have e : q + t.size + (j - es.length) = q + j := by omega
        rwa [e] at this
    · cases i with
      | zero =>
        simp only [List.getElem?_cons_zero, Option.some.injEq] at hy
        subst hy
        rw [Nat.zero_mul, List.drop_zero, ← h1, List.take_left]
        exact h3
      | succ i =>
        have := n3 i y (by simpa using hy)
        have e : (i + 1) * t.size = es.length + i * t.size := by rw [Nat.add_mul, h1]; omega
        rw [e, ← List.drop_drop, List.drop_left]
        exact this

theorem CellsAt.firstCells {A : Addr} {news : List Value} {sz m cap : Nat} (hA : 0 < news.length → A.spot = none) (h : CellsAt w A.block A.off news) (hl : news.length = m * sz) (hw : w'.heap = w.heap) :
    (Builtin.firstCells sz m (.slice (some A) m cap)).run P w' = .ok news.toArray w' := by
  refine run_firstCells_some (P := P) w' sz m A m cap news hl fun j v hv => ?_
  have hA := hA (Nat.lt_of_le_of_lt (Nat.zero_le _) (List.getElem?_eq_some_iff.1 hv).1)
  obtain ⟨b, q, s⟩ := A
  simp only at hA h
  subst hA
  rw [Addr.add_lit]
  have := h j v hv
  rw [← this]
  exact World.cell?_of_block (w := w) (w' := w') (by rw [hw])

theorem win_rd {e : TypeId} {tt : Ty} {v u : Value} {xs : List tt.den} {es : List Value} {lo hi : Nat} (ho : w.ownsRow 0 e tt.size v xs.length es) (hr : RowRd w Z tt xs es)
    (hw : isWin v tt.size lo hi u) : ∃ ad cap news, u = .slice ad ((xs.take hi).drop lo).length cap ∧ news.length = ((xs.take hi).drop lo).length * tt.size ∧ RowRd w Z tt ((xs.take hi).drop lo) news ∧
      (ad = none → ((xs.take hi).drop lo).length = 0) ∧ ∀ A, ad = some A → (0 < news.length → A.spot = none) ∧ CellsAt w A.block A.off news := by
  rcases hw with ⟨rfl, rfl, rfl, rfl⟩ | ⟨g, n, c, rfl, h1, h2, h3, rfl⟩
  · exact ⟨none, 0, [], by simp, by simp, fun i x hx => by simp at hx, fun _ => by simp, fun A h => by simp at h⟩
  · rcases ho.2 with ⟨hx, _⟩ | ⟨g', cap, cur, hx, hb, hg, hn, hm, hcs, htk⟩
    · simp at hx
    · simp only [Value.slice.injEq, Option.some.injEq, Addr.mk.injEq, and_true] at hx
      obtain ⟨rfl, rfl, rfl⟩ := hx
      have hlen : ((xs.take hi).drop lo).length = hi - lo := by simp; omega
      obtain ⟨news, n1, n2, n3⟩ := gather (w := w) (Z := Z) (t := tt) (g := g) (xs := (xs.take hi).drop lo) (q := if c = lo then 0 else lo * tt.size) (fun i x hx => by
        rw [List.getElem?_drop] at hx
        have hlt : lo + i < hi := by
          have := (List.getElem?_eq_some_iff.1 hx).1
          simp at this; omega
        rw [List.getElem?_take_of_lt hlt] at hx
        have hR := hr (lo + i) x hx
        refine ⟨_, Rd.length hR, fun j y hj => ?_, hR⟩
        rw [if_neg (by omega)]
        rw [List.getElem?_take] at hj
        split at hj
        · rw [List.getElem?_drop] at hj
          have := ho.cells (g := g) rfl _ y hj
          rw [Addr.add_lit, Nat.zero_add] at this
          rw [← this, Nat.add_mul]
        · simp at hj)
      exact ⟨_, _, news, by rw [hlen], n1, n3, fun h => by simp at h, fun A hA => by
        simp only [Option.some.injEq] at hA
        subst hA
        exact ⟨fun _ => rfl, n2⟩⟩

/-- A slice's cells. -/
theorem listOf_rd (hs : Sit S st a w Z L) {c : Cell} {v : Value} {u : Ty} {xs : List u.den} (hc : CSim w Z L c v) (hl : st.listOf c = some ⟨u, xs⟩) :
    ∃ ad cap news, v = .slice ad xs.length cap ∧ news.length = xs.length * u.size ∧ RowRd w Z u xs news ∧ (ad = none → xs.length = 0) ∧ ∀ A, ad = some A → (0 < news.length → A.spot = none) ∧ CellsAt w A.block A.off news := by
  unfold St.listOf at hl
  split at hl
  · simp only [Option.some.injEq, Sigma.mk.injEq] at hl
    obtain ⟨rfl, hl⟩ := hl
    simp only [heq_eq_eq] at hl
    subst hl
    obtain ⟨ad, n, cap, h1, rfl, h3, h4, h5⟩ := hc
    simp only [List.cons.injEq, and_true] at h1
    cases ad with
    | none =>
      have h0 := h4 rfl
      exact ⟨none, cap, [], h1, by simp [h0], fun i x hx => by
        have := (List.getElem?_eq_some_iff.1 hx).1
        omega, fun _ => h0, fun A h => by simp at h⟩
    | some A =>
      obtain ⟨news, n1, n2, n3⟩ := gather (w := w) (Z := Z) fun i x hi => (h5 A rfl i x hi).2.2
      exact ⟨some A, cap, news, h1, n1, n3, fun h => by simp at h, fun B hB => by
        simp only [Option.some.injEq] at hB
        subst hB
        exact ⟨fun hp => (h5 A rfl 0 _ (List.getElem?_eq_getElem (Nat.pos_of_ne_zero fun e => by rw [n1, e] at hp; simp at hp))).1, n2⟩⟩
  · split at hl
    · rename_i e u' xs' hob
      simp only [Option.some.injEq, Sigma.mk.injEq] at hl
      obtain ⟨rfl, hl⟩ := hl
      simp only [heq_eq_eq] at hl
      subst hl
      obtain ⟨v', es, q1, q2, q3, q4, q5⟩ := hs.row hob
      obtain ⟨_, sz, n, q6⟩ := hc
      rw [q2] at q6
      simp only [Option.some.injEq, Loc.row.injEq] at q6
      obtain ⟨rfl, rfl, rfl⟩ := q6
      simpa using win_rd q4 q5 (isWin_all q4)
    · simp at hl
  · split at hl
    · rename_i lo hi e u' xs' hob
      simp only [Option.some.injEq, Sigma.mk.injEq] at hl
      obtain ⟨rfl, hl⟩ := hl
      simp only [heq_eq_eq] at hl
      subst hl
      obtain ⟨v', es, q1, q2, q3, q4, q5⟩ := hs.row hob
      obtain ⟨u, sz, n, q6, q7⟩ := hc
      rw [q2] at q6
      simp only [Option.some.injEq, Loc.row.injEq] at q6
      obtain ⟨rfl, rfl, rfl⟩ := q6
      exact win_rd q4 q5 q7
    · simp at hl
  · simp at hl

theorem RowRd.oneCell {t : Ty} {xs : List t.den} {news : List Value} (h : RowRd w Z t xs news) (hl : news.length = xs.length * t.size) : ∀ u ∈ news, u.oneCell' = true := by
  intro u hu
  obtain ⟨j, hj, rfl⟩ := List.getElem_of_mem hu
  have hpos : 0 < t.size := by
    rcases Nat.eq_zero_or_pos t.size with h0 | h0
    · rw [hl, h0, Nat.mul_zero] at hj; omega
    · exact h0
  have hi : j / t.size < xs.length := by
    rw [Nat.div_lt_iff_lt_mul hpos, ← hl]; exact hj
  have hr := h (j / t.size) _ (List.getElem?_eq_getElem hi)
  have hm := Nat.mod_lt j hpos
  have hdm : (j / t.size) * t.size + j % t.size = j := by rw [Nat.mul_comm]; exact Nat.div_add_mod j t.size
  have hg := seg_get news (j / t.size) t.size (j % t.size) hm
  rw [hdm, List.getElem?_eq_getElem hj] at hg
  exact CsSim.oneCell (Rd.cells (L := []) hr) _ (List.mem_of_getElem? hg)

theorem slTy_facts {t e : Nat} {ee : TE} (hT : tabOk P T = true) (h : slTy T t = some (e, ee)) : P.underlying t = some (.slice e) ∧ ∃ i d z, TEFacts P e ee i d z := by
  unfold slTy at h
  split at h
  · rename_i te hte
    split at h
    · rename_i hk
      split at h
      · rename_i ee' hee
        simp only [Option.some.injEq, Prod.mk.injEq] at h
        obtain ⟨rfl, rfl⟩ := h
        obtain ⟨d, hd, hkd⟩ := under_of (d := .bool) hT hte
        rw [kind_slice hkd hk] at hd
        exact ⟨hd, teFacts (tabOk_look hT hee)⟩
      · simp at h
    · simp at h
  · simp at h

theorem sound_unOp {op : UnOp} {t : TypeId} {x : Operand} (ho : o.op = .unOp op t x) (hs : Sit S st a w Z L) (hg : FinV P o a w Z L st K R) (h : opW T C G o st K) : R := by
  simp only [opW, ho] at h
  unfold unW at h
  split at h
  · rename_i k n hx
    have cx : a.eval x = .int k n := ev_one hs hx
    exact hg.value (v := .int k (k.wrap (0 - n))) (e := .one (.int k (k.wrap (0 - n)))) (by unfold execOp; simp [ho, cx, Op.unary, Op.intArith]) rfl h
  · rename_i b hx
    have cx : a.eval x = .bool b := ev_one hs hx
    exact hg.value (v := .bool (!b)) (e := .one (.bool (!b))) (by unfold execOp; simp [ho, cx, Op.unary]) rfl h
  · exact h.elim

theorem sound_load {t : TypeId} {x : Operand} (ho : o.op = .load t x) (hT : tabOk P T = true) (hs : Sit S st a w Z L) (hg : Goes S K next) (h : opW T C G o st K) : o.wp P a w next Q := by
  simp only [opW, ho] at h
  split at h
  · rename_i te c hte hx
    split at h
    · rename_i cs hb
      split at h
      · rename_i hle
        obtain ⟨i, d, z, f⟩ := teFacts (tabOk_look hT hte)
        obtain ⟨g, q, vs, hv, h1, h2⟩ := hs.behind (ev_one hs hx) hb
        obtain ⟨v, hr, he⟩ := run_loadVar_at (g := g) (q := q) f h1 (Nat.le_of_ble_eq_true hle)
        exact hs.value hg (v := v) (by unfold execOp; simp [ho, hv, Instr.loadAt, Instr.sureAddr, hr w h2]) he h
      · exact h.elim
    · exact h.elim
  · exact h.elim

theorem ESim.cells {e : Ent} {v : Value} (h : ESim w Z L e v) (h1 : ∀ l, e ≠ .tup l) (h2 : e ≠ .undef) : CsSim w Z L e.cells v.cells.toList := by
  cases e with
  | undef => exact absurd rfl h2
  | tup l => exact absurd rfl (h1 l)
  | agg cs => obtain ⟨vs, rfl, h⟩ := h; exact h
  | one c =>
    have ho := CSim.oneCell h
    have : v.cells = #[v] := by cases v <;> simp_all [Value.cells, Value.oneCell']
    rw [this]
    exact ⟨h, trivial⟩

theorem sound_store {t : TypeId} {x y : Operand} (ho : o.op = .store t x y) (hT : tabOk P T = true) (hs : Sit S st a w Z L) (hg : Goes S K next) (h : opW T C G o st K) : o.wp P a w next Q := by
  simp only [opW, ho] at h
  split at h
  · rename_i te c hte hx
    have fin : ∀ e : Ent, st.ev y = e → (∀ l, e ≠ .tup l) → e ≠ .undef → (match Nat.beq e.cells.length te.size with
        | true => storeW st c e.cells fun st => K (st.putO o.dst (.tup []))
        | false => False) → o.wp P a w next Q := by
      intro e he h1 h2 h
      split at h
      · rename_i hsz
        have hsz := Nat.eq_of_beq_eq_true hsz
        obtain ⟨i, d, z, f⟩ := teFacts (tabOk_look hT hte)
        have hy := hs.ev y
        rw [he] at hy
        have hcs := hy.cells h1 h2
        obtain ⟨ad, w', Z', st', hv, hr, hs', hk⟩ := storeW_sound (P := P) h hs (ev_one hs hx) hcs
        have hlen := CsSim.length hcs
        have hsize : (a.eval y).cells.size = te.size := by rw [← Array.length_toList, hlen, hsz]
        refine wp_skip (w' := w') ?_ (hg _ _ _ _ _ (hs'.put (e := .tup []) (v := undef) ⟨#[], rfl, trivial⟩ o.dst) hk)
        unfold execOp
        simp [ho, hv, Instr.storeAt, Instr.sureAddr, storeVar, run_sizeOf f, hsize, hr]
      · exact h.elim
    split at h
    · exact h.elim
    · exact h.elim
    · rename_i n1 n2
      exact fin _ rfl (fun l e => n1 l e) n2 h
  · exact h.elim

theorem sound_nilCheck {x : Operand} (ho : o.op = .nilCheck x) (hs : Sit S st a w Z L) (hg : FinV P o a w Z L st K R) (h : opW T C G o st K) : R := by
  simp only [opW, ho] at h
  split at h
  · rename_i c hx
    have cx := ev_one hs hx
    have fin : (∃ ad, a.eval x = .pointer (some ad)) → K (st.putO o.dst (.one c)) → R := by
      rintro ⟨ad, hv⟩ hk
      exact hg.value (v := a.eval x) (e := .one c) (by unfold execOp; simp [ho, hv]) cx hk
    split at h
    · obtain ⟨g, q, _, hv⟩ := cx
      exact fin ⟨_, hv⟩ h
    · obtain ⟨g, n, c, sz, m, _, _, hv⟩ := cx
      exact fin ⟨_, hv⟩ h
    · obtain ⟨g, q, es, hv, _⟩ := cx
      exact fin ⟨_, hv⟩ h
    · exact h.elim
  · exact h.elim

theorem sound_extract {x : Operand} {i : Nat} (ho : o.op = .extract x i) (hs : Sit S st a w Z L) (hg : FinV P o a w Z L st K R) (h : opW T C G o st K) : R := by
  simp only [opW, ho] at h
  split at h
  · rename_i es hx
    have hv := hs.ev x
    rw [hx] at hv
    obtain ⟨vs, hv, hp⟩ := hv
    split at h
    · rename_i b cs hn
      rw [nth_eq] at hn
      have key : ∀ {es : List (Bool × List Cell)} {vs : List Value} {i : Nat}, PsSim w Z L es vs → es[i]? = some (b, cs) → ∃ v, vs[i]? = some v ∧ PSim w Z L (b, cs) v := by
        intro es
        induction es with
        | nil => intro vs i _ hi; simp at hi
        | cons e es ih =>
          intro vs i hp hi
          cases vs with
          | nil => exact hp.elim
          | cons v vs =>
            cases i with
            | zero =>
              simp only [List.getElem?_cons_zero, Option.some.injEq] at hi
              subst hi
              exact ⟨v, rfl, hp.1⟩
            | succ i => simpa using ih hp.2 (by simpa using hi)
      obtain ⟨v, h1, h2⟩ := key hp hn
      refine hg.value (v := v) (e := entOf b cs) (by unfold execOp; simp [ho, hv, Instr.extract, ← Array.getElem?_toList, h1]) ?_ h
      cases b
      · simp only [PSim] at h2
        match cs, h2 with
        | [c], h2 => exact h2.1
        | [], h2 => exact h2.elim
        | _ :: _ :: _, h2 => exact h2.2.elim
      · exact h2
    · exact h.elim
  · exact h.elim
end
end Go.Ry
