/- The evaluator is right: storeW, appendW (2). No condition. -/
import Derived.Test.YtlphiljackccnaaRy9
set_option linter.unusedVariables false
set_option linter.unusedSimpArgs false
namespace Go.Ry

section
variable {P : Program} {S : Start} {st : St} {a : Act} {w w' : World} {Z Z' : Nat → Prop} {L L' : List Loc}

theorem ownsRow_slice {e : TypeId} {sz n : Nat} {v : Value} {es : List Value} (h : w.ownsRow 0 e sz v n es) : ∃ a n c, v = .slice a n c := by
  rcases h.2 with ⟨rfl, _⟩ | ⟨g, cap, cur, rfl, _⟩
  · exact ⟨_, _, _, rfl⟩
  · exact ⟨_, _, _, rfl⟩

theorem RowRd.append {t : Ty} {xs ys : List t.den} {es us : List Value} (h : RowRd w Z t xs es) (k : RowRd w Z t ys us) (hl : es.length = xs.length * t.size) :
    RowRd w Z t (xs ++ ys) (es ++ us) := by
  intro i x hi
  by_cases hlt : i < xs.length
  · rw [List.getElem?_append_left hlt] at hi
    have hr := h i x hi
    have hks := Nat.mul_le_mul_right t.size (show i + 1 ≤ xs.length by omega)
    rw [Nat.add_mul, Nat.one_mul] at hks
    have : ((es ++ us).drop (i * t.size)).take t.size = (es.drop (i * t.size)).take t.size := by
      rw [List.drop_append_of_le_length (by omega), List.take_append_of_le_length (by simp; omega)]
    rw [this]; exact hr
  · rw [List.getElem?_append_right (by omega)] at hi
    have hr := k (i - xs.length) x hi
    have : ((es ++ us).drop (i * t.size)).take t.size = (us.drop ((i - xs.length) * t.size)).take t.size := by
      have e1 : i * t.size = es.length + (i - xs.length) * t.size := by
        rw [hl, ← Nat.add_mul]
        congr 1
        omega
      rw [e1, ← List.drop_drop, List.drop_left]
    rw [this]; exact hr

theorem RowRd.take {t : Ty} {xs : List t.den} {es : List Value} {n : Nat} (h : RowRd w Z t xs es) (hl : es.length = xs.length * t.size) (hn : n ≤ xs.length) : RowRd w Z t (xs.take n) (es.take (n * t.size)) := by
  intro i x hi
  have hin : i < n := by
    have := (List.getElem?_eq_some_iff.1 hi).1
    simp at this; omega
  rw [List.getElem?_take_of_lt hin] at hi
  have hr := h i x hi
  have his := Nat.mul_le_mul_right t.size (show i + 1 ≤ n by omega)
  rw [Nat.add_mul, Nat.one_mul] at his
  have : ((es.take (n * t.size)).drop (i * t.size)).take t.size = (es.drop (i * t.size)).take t.size := by
    rw [List.drop_take, List.take_take, Nat.min_eq_left (by omega)]
  rw [this]; exact hr

/-- The beginning of an owned row is one. -/
theorem ownsRow_take {e : TypeId} {sz hi : Nat} {v u : Value} {n : Nat} {es : List Value} (h : w.ownsRow 0 e sz v n es) (hw : isWin v sz 0 hi u) :
    w.ownsRow 0 e sz u hi (es.take (hi * sz)) ∧ u.ownBlock = v.ownBlock ∧ hi ≤ n := by
  rcases hw with ⟨rfl, rfl, _, rfl⟩ | ⟨g, m, c, rfl, _, h2, h3, rfl⟩
  · exact ⟨by simpa using World.ownsRow_nil w 0 e sz, rfl, Nat.zero_le _⟩
  · rcases h.2 with ⟨hx, _⟩ | ⟨g', cap, cur, hx, hb, hg, hn, hm, hcs, htk⟩
    · simp at hx
    · simp only [Value.slice.injEq, Option.some.injEq, Addr.mk.injEq, and_true] at hx
      obtain ⟨rfl, rfl, rfl⟩ := hx
      have hms := Nat.mul_le_mul_right sz h2
      have e1 : (.slice (some ⟨g, if c = 0 then 0 else 0 * sz, none⟩) (hi - 0) (c - 0) : Value) = .slice (some ⟨g, 0, none⟩) hi c := by simp
      rw [e1]
      refine ⟨⟨?_, .inr ⟨g, c, cur, rfl, hb, hg, by omega, hm, hcs, ?_⟩⟩, rfl, h2⟩
      · rw [List.length_take, h.1]; omega
      · rw [← htk, List.take_take, Nat.min_eq_left hms]

/-- What append needs to know of the types. -/
structure AppTy (P : Program) (t tx e : TypeId) (u : Ty) (bytes : Nat) : Prop where
  ht : P.underlying t = some (.slice e)
  htx : ∃ dx, P.underlying tx = some dx ∧ ((∃ e', dx = .slice e') ∨ dx = .string)
  hi : ∃ i z, P.info? e = some i ∧ i.zero = some z ∧ i.size = u.size ∧ i.bytes = bytes ∧ z.cells.size = u.size
  hsz : 0 < u.size
  hby : 0 < bytes

theorem Sit.zfoot (h : Sit S st a w Z L) {i e : Nat} {t : Ty} {xs : List t.den} {v : Value} {sz n : Nat} (h1 : st.objs[i]? = some (.row e t xs)) (hl : L[i]? = some (.row v sz n)) :
    ∀ b, Z b → v.ownBlock ≠ some b := fun b hz hb => h.sims.zap i _ _ h1 hl b 0 hb hz

theorem appendW_sound {e bytes : Nat} {u : Ty} {s : Cell} {sv xv : Value} {ys : List u.den} {d : Option Nat} {K : St → Prop} {t tx ty : TypeId} {news : List Value}
    (h : appendW st e bytes u s ys d K) (hs : Sit S st a w Z L) (hc : CSim w Z L s sv) (at_ : AppTy P t tx e u bytes)
    (hlx : ∀ w, (Builtin.lenOf xv).run P w = .ok ys.length w) (hfx : ∀ w', w'.heap = w.heap → (Builtin.firstCells u.size ys.length xv).run P w' = .ok news.toArray w')
    (hl : news.length = ys.length * u.size) (h1 : ∀ x ∈ news, x.oneCell' = true) (hrd : RowRd w Z u ys news) :
    ∃ v' w' L' st', (Builtin.append_ #[t, tx] ty #[sv, xv]).run P w = .ok v' w' ∧ Sit S st' (a.put d v') w' Z L' ∧ K st' := by
  obtain ⟨dx, htx, hdx⟩ := at_.htx
  obtain ⟨i, z, hi, hz, hsize, hby, hzs⟩ := at_.hi
  have bound : ∀ n, (n + ys.length) * bytes ≤ 140737488355328 → n + ys.length ≤ maxLen := by
    intro n hn
    have := Nat.le_trans (Nat.le_mul_of_pos_right (n + ys.length) at_.hby) hn
    simp only [maxLen]; omega
  -- an owned row, of which v is the value
  have own : ∀ (v : Value) (n : Nat) (xs : List u.den) (es : List Value), w.ownsRow 0 e u.size v n es → n = xs.length → RowRd w Z u xs es → (n + ys.length) * bytes ≤ 140737488355328 →
      (∀ b, Z b → v.ownBlock ≠ some b) →
      ∃ v' w', (Builtin.append_ #[t, tx] ty #[v, xv]).run P w = .ok v' w' ∧ OSim w' Z (L ++ [.row v' u.size (n + ys.length)]) (.row e u (xs ++ ys)) (.row v' u.size (n + ys.length)) ∧ Keeps w (fun b _ => v.ownBlock = some b) w' ∧
        (∀ b, v'.ownBlock = some b → w.heap.size ≤ b ∨ v.ownBlock = some b) ∧ (∃ a n c, v' = .slice a n c) := by
    intro v n xs es ho hn hr hb hzv
    obtain ⟨v', w', r1, r2, r3, r4⟩ := run_append_any t tx ty e i z u.size bytes at_.ht dx htx hdx hi hz hsize hby hzs at_.hsz v n es ho xv ys.length news hlx hfx hl h1 (bound n hb) hb
    have hzz : ∀ b, Z b → w'.heap[b]? = w.heap[b]? := fun b hb => r3.same (hs.sims.zin b hb) fun _ hx => hzv b hb hx
    refine ⟨v', w', r1, ⟨v', es ++ news, by simp [hn], at_.hsz, ?_, ?_⟩, r3, r4, ownsRow_slice r2⟩
    · simpa [hn] using r2
    · exact (RowRd.append (RowRd.mono hzz (fun _ hb => hb) hr) (RowRd.mono hzz (fun _ hb => hb) hrd) (by rw [ho.1, hn]))
  have newAt : ∀ l : Loc, (L ++ [l])[st.objs.length]? = some l := by
    intro l
    rw [← hs.sims.len, List.getElem?_append_right (Nat.le_refl _)]
    simp
  unfold appendW at h
  split at h
  · obtain ⟨hb, hk⟩ := h
    rw [show sv = .slice none 0 0 from hc] at *
    obtain ⟨v', w', r1, r2, r3, r4, r5⟩ := own (.slice none 0 0) 0 [] [] (World.ownsRow_nil w 0 e u.size) rfl (fun i x hx => by simp at hx) (by simpa using hb) (fun b _ hx => by simp [Value.ownBlock] at hx)
    have hs' := hs.add (o := .row e u ys) (l := .row v' u.size (0 + ys.length)) (r3.mono fun _ _ _ hx => by simp [Value.ownBlock] at hx) (by simpa using r2) (fun b q hq => (r4 b hq).resolve_right (by simp [Value.ownBlock]))
    exact ⟨v', w', _, _, r1, hs'.put (e := .one (.row st.objs.length)) ⟨r5, _, _, newAt _⟩ d, hk⟩
  · rename_i k
    split at h
    · rename_i f t' xs hob
      split at h
      · rename_i xs' hf hx
        obtain ⟨hb, hk⟩ := h
        obtain ⟨rfl, rfl⟩ := castL_some hx
        simp only [beq_iff_eq] at hf
        subst hf
        obtain ⟨v, es, q1, q2, q3, q4, q5⟩ := hs.row hob
        obtain ⟨_, sz, n, q6⟩ := hc
        rw [q2] at q6
        simp only [Option.some.injEq, Loc.row.injEq] at q6
        obtain ⟨rfl, rfl, rfl⟩ := q6
        obtain ⟨v', w', r1, r2, r3, r4, r5⟩ := own v xs.length xs es q4 rfl q5 hb (hs.zfoot q1 q2)
        have hs' := hs.turn (o' := .row f t' (xs ++ ys)) (l' := .row v' t'.size (xs.length + ys.length)) q1 q2 r3 r2 (fun b q hq => r4 b hq)
        exact ⟨v', w', _, _, r1, hs'.put (e := .one (.row st.objs.length)) ⟨r5, _, _, newAt _⟩ d, hk⟩
      · exact h.elim
    · exact h.elim
  · rename_i k lo hN
    split at h
    · rename_i f t' xs hob
      split at h
      · rename_i xs' hf hx
        obtain ⟨hb, hk⟩ := h
        obtain ⟨rfl, rfl⟩ := castL_some hx
        simp only [beq_iff_eq] at hf
        subst hf
        obtain ⟨v, es, q1, q2, q3, q4, q5⟩ := hs.row hob
        obtain ⟨u', sz, n, q6, q7⟩ := hc
        rw [q2] at q6
        simp only [Option.some.injEq, Loc.row.injEq] at q6
        obtain ⟨rfl, rfl, rfl⟩ := q6
        obtain ⟨p1, p2, p3⟩ := ownsRow_take q4 q7
        have hlen : (xs.take hN).length = hN := by simp; omega
        obtain ⟨v', w', r1, r2, r3, r4, r5⟩ := own sv hN (xs.take hN) (es.take (hN * t'.size)) p1 hlen.symm (q5.take q4.1 p3) (by simpa [hlen] using hb) (fun b hz hx => hs.zfoot q1 q2 b hz (p2 ▸ hx))
        have hs' := hs.turn (o' := .row f t' (xs.take hN ++ ys)) (l' := .row v' t'.size (hN + ys.length)) q1 q2 (r3.mono fun b _ _ hx => by rw [p2] at hx; exact hx) r2 (fun b q hq => by have := r4 b hq; rw [p2] at this; exact this)
        exact ⟨v', w', _, _, r1, hs'.put (e := .one (.row st.objs.length)) ⟨r5, _, _, newAt _⟩ d, hk⟩
      · exact h.elim
    · exact h.elim
  · exact h.elim

theorem storeW_sound {c : Cell} {cv : Value} {cs : List Cell} {us : List Value} {K : St → Prop} (h : storeW st c cs K) (hs : Sit S st a w Z L) (hc : CSim w Z L c cv) (hcs : CsSim w Z L cs us) :
    ∃ ad w' Z' st', cv = .pointer (some ad) ∧ (storeCells ad us).run P w = .ok () w' ∧ Sit S st' a w' Z' L ∧ K st' := by
  have hlen := CsSim.length hcs
  unfold storeW at h
  split at h
  · rename_i i o
    obtain ⟨g, q, hl, rfl⟩ := hc
    split at h
    · rename_i bs hb
      obtain ⟨hble, hk⟩ := h
      obtain ⟨g', q', vs, h1, h2, h3, h4⟩ := hs.boxAt hb
      rw [hl] at h2
      simp only [Option.some.injEq, Loc.box.injEq] at h2
      obtain ⟨rfl, rfl⟩ := h2
      have hvl := CsSim.length h3
      have hle := Nat.le_of_ble_eq_true hble
      obtain ⟨w', r1, r2, r3⟩ := h4.store (P := P) (o := o) (us := us) (by omega) (CsSim.oneCell hcs)
      have hfoot : Keeps w (foot (.box bs) (.box g q)) w' := r3.mono fun b x _ hx => ⟨hx.1, hx.2.1, by omega⟩
      have hzz : ∀ b, Z b → w'.heap[b]? = w.heap[b]? := fun b hbz => hfoot.same (hs.sims.zin b hbz) fun o ho => hs.sims.zap i _ _ h1 hl b o ho hbz
      refine ⟨_, w', Z, _, rfl, r1, hs.set (o' := .box (putAt bs o cs)) h1 hl hfoot ⟨g, q, _, rfl, CsSim.mono hzz (fun _ h => h) (Grows.refl _) (CsSim.putAt h3 hcs hle), r2⟩ (fun b x hx => ?_), hk⟩
      simpa [foot, putAt_length hle] using hx
    · exact h.elim
  · rename_i i k o
    obtain ⟨g, n, c, sz, m, hl, hkn, rfl⟩ := hc
    split at h
    · rename_i e u xs hob
      split at h
      · rename_i x hble hx
        have hle := Nat.le_of_ble_eq_true hble
        obtain ⟨Z', hz', hs', hsh⟩ := Sit.shareAll cs hs
        obtain ⟨v, es, q1, q2, q3, q4, q5⟩ := hs'.row hob
        rw [hl] at q2
        simp only [Option.some.injEq, Loc.row.injEq] at q2
        obtain ⟨rfl, rfl, rfl⟩ := q2
        rcases q4.2 with ⟨hx', _⟩ | ⟨g', cap, cur, hx', hb, hg, hn, hm, hcs', htk⟩
        · simp at hx'
        · simp only [Value.slice.injEq, Option.some.injEq, Addr.mk.injEq, and_true] at hx'
          obtain ⟨rfl, rfl, rfl⟩ := hx'
          have hks := Nat.mul_le_mul_right u.size (show k + 1 ≤ xs.length by omega)
          rw [Nat.add_mul, Nat.one_mul] at hks
          obtain ⟨w', r1, r2, r3⟩ := ownsRow_store (P := P) (p := k * u.size + o) (us := us) q4 (by omega) (CsSim.oneCell hcs)
          have hkx : xs[k]? = some (xs.getD k u.dflt) := by simp [List.getD, List.getElem?_eq_getElem hkn]
          have hput := CsSim.putAt (o := o) (Rd.cells (L := L) (q5 k _ hkx)) (sharedCs_sim hs hz' hsh hcs) (by
            have := CsSim.length (Rd.cells (L := L) (q5 k _ hkx))
            have h2 := Rd.length (q5 k _ hkx)
            rw [List.length_map]; omega)
          have hrd := readV_sim hx hput
          have hfoot : Keeps w (foot (.row e u xs) (.row (.slice (some ⟨g, 0, none⟩) xs.length c) u.size xs.length)) w' := r3.mono fun b _ _ hx => by simp [foot, Value.ownBlock, hx]
          have hzz : ∀ b, Z' b → w'.heap[b]? = w.heap[b]? := fun b hbz => hfoot.same (hs'.sims.zin b hbz) fun o ho => hs'.sims.zap i _ _ q1 hl b o ho hbz
          have hset := RowRd.set (us := us) (o := o) (x := x) q5 q4.1 hkn (by omega) (by simpa using hrd)
          refine ⟨_, w', Z', _, rfl, r1, hs'.set (o' := .row e u (xs.set k x)) q1 hl hfoot ⟨.slice (some ⟨g, 0, none⟩) xs.length c, _, by simp, q3, by simpa using r2, RowRd.mono hzz (fun _ h => h) hset⟩ (fun b y hy => hy), h⟩
      · exact h.elim
    · exact h.elim
  · exact h.elim
end
end Go.Ry
