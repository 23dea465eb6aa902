/- The evaluator is right: calls (2): what is lent, and what comes back. No condition. -/
import Derived.Test.YtlphiljackccnaaRy17
set_option linter.unusedVariables false
set_option linter.unusedSimpArgs false
namespace Go.Ry

theorem idx_get : ∀ {M : List Nat} {i k : Nat}, idx M i = some k → M[k]? = some i
  | [], _, _, h => by simp [idx] at h
  | m :: M, i, k, h => by
    simp only [idx, cond_eq_ite] at h
    split at h
    · rename_i hm
      simp only [beq_iff_eq] at hm
      simp only [Option.some.injEq] at h
      subst h; subst hm; rfl
    · split at h
      · rename_i k' hk
        simp only [Option.some.injEq] at h
        subst h
        simpa using idx_get hk
      · simp at h

theorem memN_iff : ∀ {n : Nat} {l : List Nat}, memN n l = true ↔ n ∈ l
  | n, [] => by simp [memN]
  | n, m :: l => by
    simp only [memN, cond_eq_ite, List.mem_cons]
    split
    · rename_i h
      simp only [beq_iff_eq] at h
      simp [h]
    · rename_i h
      simp only [beq_iff_eq] at h
      rw [memN_iff]
      constructor
      · exact .inr
      · rintro (rfl | h')
        · exact absurd rfl h
        · exact h'
theorem nodupN_nodup : ∀ {l : List Nat}, nodupN l = true → l.Nodup
  | [], _ => List.nodup_nil
  | m :: l, h => by
    simp only [nodupN, cond_eq_ite] at h
    split at h
    · simp at h
    · rename_i hm
      exact List.nodup_cons.2 ⟨fun hx => hm (memN_iff.2 hx), nodupN_nodup h⟩
theorem allLt_lt : ∀ {n : Nat} {l : List Nat}, allLt n l = true → ∀ i ∈ l, i < n
  | n, [], _, i, h => by simp at h
  | n, m :: l, h, i, hi => by
    simp only [allLt, cond_eq_ite] at h
    split at h
    · rename_i hm
      rcases List.mem_cons.1 hi with rfl | hi
      · exact Nat.le_of_ble_eq_true hm
      · exact allLt_lt h i hi
    · simp at h
theorem nodup_get {M : List Nat} (h : M.Nodup) {j k i : Nat} (hj : M[j]? = some i) (hk : M[k]? = some i) : j = k := by
  obtain ⟨a1, a2⟩ := List.getElem?_eq_some_iff.1 hj
  obtain ⟨b1, b2⟩ := List.getElem?_eq_some_iff.1 hk
  exact (List.getElem_inj h).1 (a2.trans b2.symm)

section
variable {S : Start} {st : St} {a : Act} {w w' : World} {Z Z' : Nat → Prop} {L L' : List Loc}

theorem St.ob_get {i : Nat} (h : i < st.objs.length) : st.objs[i]? = some (st.ob i) := by
  unfold St.ob
  rw [nth_eq, List.getElem?_eq_getElem h]
  rfl

def locs (L : List Loc) (M : List Nat) : List Loc := M.map fun i => (L[i]?).getD .gone

theorem locs_get {M : List Nat} {k i : Nat} {l : Loc} (hk : M[k]? = some i) (hl : L[i]? = some l) : (locs L M)[k]? = some l := by
  simp [locs, List.getElem?_map, hk, hl]

theorem lent_get {M : List Nat} {k : Nat} {o : Ob} {l : Loc} (hs : Sit S st a w Z L) (hM : ∀ i ∈ M, i < st.objs.length) (ho : (lent st M)[k]? = some o) (hl : (locs L M)[k]? = some l) :
    ∃ i o', M[k]? = some i ∧ st.objs[i]? = some o' ∧ L[i]? = some l ∧ o = mapO (renC (idx M)) o' := by
  unfold lent at ho
  rw [List.getElem?_map] at ho
  cases hk : M[k]? with
  | none => rw [hk] at ho; simp at ho
  | some i =>
    rw [hk] at ho
    simp only [Option.map_some, Option.some.injEq] at ho
    have hi := hM i (List.mem_of_getElem? hk)
    obtain ⟨l', hl', _⟩ := hs.loc (St.ob_get hi)
    have := locs_get hk hl'
    rw [hl] at this
    simp only [Option.some.injEq] at this
    subst this
    exact ⟨i, st.ob i, rfl, St.ob_get hi, hl', ho.symm⟩

/-- The callee finds what it is lent. -/
theorem lent_sims {M : List Nat} {extra : Nat → Prop} (hs : Sit S st a w Z L) (hn : M.Nodup) (hM : ∀ i ∈ M, i < st.objs.length)
    (hx1 : ∀ b, extra b → b < w.heap.size) (hx2 : ∀ b, extra b → ∀ i ∈ M, ∀ (o : Ob) (l : Loc), st.objs[i]? = some o → L[i]? = some l → ∀ q, ¬ foot o l b q) :
    Sims w (fun b => Z b ∨ extra b) (locs L M) (lent st M) := by
  have hren : ∀ c v, CSim w (fun b => Z b ∨ extra b) L c v → CSim w (fun b => Z b ∨ extra b) (locs L M) (renC (idx M) c) v :=
    renC_sim fun i j l hij hl => locs_get (idx_get hij) hl
  refine ⟨by simp [locs, lent], fun k o l ho hl => ?_, fun i j o l o' l' h1 h2 h3 h4 hij b q f1 f2 => ?_, fun k o l ho hl b q hf hz => ?_, fun b hb => hb.elim (hs.sims.zin b) (hx1 b)⟩
  · obtain ⟨i, o', h1, h2, h3, rfl⟩ := lent_get hs hM ho hl
    have h4 := hs.sims.ob i o' l h2 h3
    have h5 : OSim w (fun b => Z b ∨ extra b) L (mapO id o') l := OSim.map' (f := id) (fun c v hc => CSim.mono (fun _ _ => rfl) (fun _ hb => .inl hb) (Grows.refl _) hc) (fun _ hb => .inl hb) h4
    have h6 : mapO id o' = o' := by cases o' <;> simp [mapO]
    rw [h6] at h5
    exact OSim.map' hren (fun _ hb => hb) h5
  · obtain ⟨i', o1, a1, a2, a3, rfl⟩ := lent_get hs hM h1 h2
    obtain ⟨j', o2, b1, b2, b3, rfl⟩ := lent_get hs hM h3 h4
    rw [foot_map] at f1 f2
    exact hs.sims.sep i' j' o1 l o2 l' a2 a3 b2 b3 (fun e => hij (nodup_get hn a1 (e ▸ b1))) b q f1 f2
  · obtain ⟨i, o', h1, h2, h3, rfl⟩ := lent_get hs hM ho hl
    rw [foot_map] at hf
    rcases hz with hz | hz
    · exact hs.sims.zap i o' l h2 h3 b q hf hz
    · exact hx2 b hz i (List.mem_of_getElem? h1) o' l h2 h3 q hf

theorem feet_lent {M : List Nat} (hs : Sit S st a w Z L) (hM : ∀ i ∈ M, i < st.objs.length) {b q : Nat} (h : feet (lent st M) (locs L M) b q) :
    ∃ i ∈ M, ∃ (o : Ob) (l : Loc), st.objs[i]? = some o ∧ L[i]? = some l ∧ foot o l b q := by
  obtain ⟨k, o, l, h1, h2, h3⟩ := h
  obtain ⟨i, o', a1, a2, a3, rfl⟩ := lent_get hs hM h1 h2
  rw [foot_map] at h3
  exact ⟨i, List.mem_of_getElem? a1, o', l, a2, a3, h3⟩

theorem backTo_spec (f : Nat → Option Nat) : ∀ {M : List Nat} {os : List Ob} {st : St}, M.Nodup → os.length = M.length → (∀ i ∈ M, i < st.objs.length) →
    (backTo f st M os).tmps = st.tmps ∧ (backTo f st M os).objs.length = st.objs.length ∧
    (∀ (k i : Nat) (o : Ob), M[k]? = some i → os[k]? = some o → (backTo f st M os).objs[i]? = some (mapO (renC f) o)) ∧ (∀ i : Nat, i ∉ M → (backTo f st M os).objs[i]? = st.objs[i]?)
  | [], [], st, _, _, _ => ⟨rfl, rfl, fun k i o h => by simp at h, fun _ _ => rfl⟩
  | [], _ :: _, _, _, h, _ => by simp at h
  | _ :: _, [], _, _, h, _ => by simp at h
  | m :: M, o :: os, st, hn, hl, hM => by
    have hn' := List.nodup_cons.1 hn
    have hlen : (st.setOb m (mapO (renC f) o)).objs.length = st.objs.length := by simp [St.setOb, setNth_eq]
    obtain ⟨h1, h2, h3, h4⟩ := backTo_spec f (M := M) (os := os) (st := st.setOb m (mapO (renC f) o)) hn'.2 (by simpa using hl) (fun i hi => by rw [hlen]; exact hM i (List.mem_cons_of_mem _ hi))
    refine ⟨h1, h2.trans hlen, fun k i o' hk ho => ?_, fun i hi => ?_⟩
    · cases k with
      | zero =>
        simp only [List.getElem?_cons_zero, Option.some.injEq] at hk ho
        subst hk; subst ho
        show (backTo f (st.setOb m (mapO (renC f) o)) M os).objs[m]? = _
        rw [h4 m hn'.1]
        simp only [St.setOb, setNth_eq]
        rw [List.getElem?_set_self (hM m List.mem_cons_self)]
      | succ k => exact h3 k i o' (by simpa using hk) (by simpa using ho)
    · have hi' : i ≠ m ∧ i ∉ M := ⟨fun e => hi (e ▸ List.mem_cons_self), fun h => hi (List.mem_cons_of_mem _ h)⟩
      show (backTo f (st.setOb m (mapO (renC f) o)) M os).objs[i]? = _
      rw [h4 i hi'.2]
      simp only [St.setOb, setNth_eq]
      rw [List.getElem?_set_ne (by omega)]

theorem rangeN_get : ∀ (n s k : Nat), (rangeN n s)[k]? = if k < n then some (s + k) else none
  | 0, s, k => by simp [rangeN]
  | n + 1, s, 0 => by simp [rangeN]
  | n + 1, s, k + 1 => by
    simp only [rangeN, List.getElem?_cons_succ]
    rw [rangeN_get n (s + 1) k]
    by_cases h : k < n
    · rw [if_pos h, if_pos (by omega)]
      congr 1
      omega
    · rw [if_neg h, if_neg (by omega)]
theorem rangeN_length : ∀ (n s : Nat), (rangeN n s).length = n
  | 0, _ => rfl
  | n + 1, s => by simp [rangeN, rangeN_length n (s + 1)]
end
end Go.Ry
