/- The verifiers: all of a code. No condition. -/
import Derived.Test.YtopchiaiefkehaaGreatPVer3
set_option linter.unusedVariables false
set_option linter.unusedSimpArgs false
namespace Go.Ry
open Go.Proofs

def stepS (at_ op a : Int) (ks : List Int) (n : Int) (s : ByteArray) (o : List OS) : Int × ByteArray × List OS :=
  if (op = 19 ∨ op = 20) ∧ (ks.length : Int) ≤ a then (5, s, o)
  else if op = 26 ∧ n ≤ a then (15, s, o)
  else if (takeS s (effect op a ks).1 (floorS o)).2 ≠ 0 then ((takeS s (effect op a ks).1 (floorS o)).2, s, o)
  else if (takeS s (effect op a ks).1 (floorS o)).1.size + (effect op a ks).2.size > 8 then (7, s, o)
  else if within op 21 24 = true then ((nestS at_ op ((takeS s (effect op a ks).1 (floorS o)).1 ++ (effect op a ks).2) o).1, (takeS s (effect op a ks).1 (floorS o)).1 ++ (effect op a ks).2, (nestS at_ op ((takeS s (effect op a ks).1 (floorS o)).1 ++ (effect op a ks).2) o).2)
  else (0, (takeS s (effect op a ks).1 (floorS o)).1 ++ (effect op a ks).2, o)
theorem takeS_size (s t : ByteArray) (f : Int) (hs : s.size ≤ 8) : (takeS s t f).1.size ≤ 8 := by
  unfold takeS
  split
  · exact (by decide : e0.size ≤ 8)
  split
  · exact (by decide : e0.size ≤ 8)
  · rw [size_extract _ (by omega)]; omega
theorem c_spec_step (at_ op a : Int) (ks : List Int) (n : Int) (s : ByteArray) (o : List OS) (ho : o.length ≤ 4) (hs : s.size ≤ 8) (hf : 0 ≤ floorS o ∧ floorS o ≤ 8) (hk : kindsIn ks) (ha : 0 ≤ a ∨ op ≠ 19) :
    TT n_spec_l04Walk_step [.one (.ptrB 0 0), .agg [cI op, cI a], eI at_, .one (.sl (.int .i64) ks), eI n] [wBox s 1, .row t_spec_l04Open tOS o] (eI (stepS at_ op a ks n s o).1)
      [wBox (stepS at_ op a ks n s o).2.1 2, .dead, .row t_spec_l04Open tOS (stepS at_ op a ks n s o).2.2] := by
  have hz := effect_size op a ks
  have ht := takeS_size s (effect op a ks).1 (floorS o) hs
  refine r_spec_l04Walk_step op a at_ ks n s o ⟨fun r => o = r ∧ ¬ ((op = 19 ∨ op = 20) ∧ (ks.length : Int) ≤ a), ?_, ?_⟩
  · have k5 : ((op = 19 ∨ op = 20) ∧ (ks.length : Int) ≤ a) → stepS at_ op a ks n s o = (5, s, o) := fun h => by unfold stepS; rw [if_pos h]
    refine ifE (fun h => ifP (fun h2 => ?_) (fun h2 => ⟨rfl, rfl, rfl, fun hc => h2 hc.2⟩)) (fun h => ifE (fun h3 => ifP (fun h2 => ?_) (fun h2 => ⟨rfl, rfl, rfl, fun hc => h2 hc.2⟩)) (fun h3 => ⟨rfl, rfl, rfl, fun hc => hc.1.elim h h3⟩))
    · rw [k5 ⟨.inl h, h2⟩, List.take_length]; exact ⟨rfl, rfl⟩
    · rw [k5 ⟨.inr h3, h2⟩, List.take_length]; exact ⟨rfl, rfl⟩
  rintro r ⟨rfl, h1⟩
  refine ⟨fun r => o = r ∧ ¬ (op = 26 ∧ n ≤ a), ?_, ?_⟩
  · refine ifE (fun h => ifP (fun h2 => ?_) (fun h2 => ⟨rfl, rfl, rfl, fun hc => h2 hc.2⟩)) (fun h => ⟨rfl, rfl, rfl, fun hc => h hc.1⟩)
    have e : stepS at_ op a ks n s o = (15, s, o) := by unfold stepS; rw [if_neg h1, if_pos ⟨h, h2⟩]
    rw [e, List.take_length]; exact ⟨rfl, rfl⟩
  rintro r ⟨rfl, h2⟩
  have hbi : blockIn op a ks := fun h => by
    have hlt : a < ks.length := by
      have := fun hc => h1 ⟨.inl h, hc⟩
      omega
    exact ⟨by omega, hlt, hk.2 _ (by omega)⟩
  have key := c_spec_l04Take s (effect op a ks).1 (floorS o) hs hz.1 ⟨hf.1, by omega⟩
  refine ⟨_, _, c_spec_l04Sign op a ks hbi, fun u t c r => u = (effect op a ks).2 ∧ t = (takeS s (effect op a ks).1 (floorS o)).1 ∧ c = (takeS s (effect op a ks).1 (floorS o)).2 ∧ o = r,
    ⟨⟨_, c_spec_floor s o ho, _, _, key, rfl, rfl, rfl, rfl, rfl, rfl⟩, ⟨_, c_spec_floor s o ho, _, _, key, rfl, rfl, rfl, rfl, rfl, rfl⟩⟩, ?_⟩
  rintro u t c r ⟨rfl, rfl, rfl, rfl⟩
  refine ifN (fun h3 => ?_) (fun h3 => ?_)
  · have e : stepS at_ op a ks n s o = ((takeS s (effect op a ks).1 (floorS o)).2, s, o) := by unfold stepS; rw [if_neg h1, if_neg h2, if_pos h3]
    rw [e, List.take_length]; exact ⟨rfl, rfl⟩
  have h3 : ¬ ((takeS s (effect op a ks).1 (floorS o)).2 ≠ 0) := fun hc => hc h3
  rw [w64 (by omega)]
  refine ifP (fun h4 => ?_) (fun h4 => ⟨by omega, _, c_spec_l01In _ _ _, ifB_cases (fun h5 => ?_) (fun h5 => ?_)⟩)
  · have e : stepS at_ op a ks n s o = (7, s, o) := by unfold stepS; rw [if_neg h1, if_neg h2, if_neg h3, if_pos (by omega)]
    rw [e, List.take_length]; exact ⟨rfl, rfl⟩
  · have e : stepS at_ op a ks n s o = ((nestS at_ op ((takeS s (effect op a ks).1 (floorS o)).1 ++ (effect op a ks).2) o).1, (takeS s (effect op a ks).1 (floorS o)).1 ++ (effect op a ks).2, (nestS at_ op ((takeS s (effect op a ks).1 (floorS o)).1 ++ (effect op a ks).2) o).2) := by
      unfold stepS; rw [if_neg h1, if_neg h2, if_neg h3, if_neg (by omega), if_pos h5]
    rw [e]
    exact ⟨_, _, _, c_spec_nest op a at_ _ o ho, rfl, rfl⟩
  · have e : stepS at_ op a ks n s o = (0, (takeS s (effect op a ks).1 (floorS o)).1 ++ (effect op a ks).2, o) := by
      unfold stepS; rw [if_neg h1, if_neg h2, if_neg h3, if_neg (by omega), if_neg (by rw [h5]; exact Bool.false_ne_true)]
    rw [e, List.take_length]; exact ⟨rfl, rfl⟩

/-! ### the two agree -/
def toI (x : OS) : OI := (x.1, ((x.2.2.1.size : Int), ((x.2.1 == 21 || x.2.1 == 22), (x.2.1 == 22, ()))))
structure Open (s : ByteArray) (o : List OS) : Prop where
  len : o.length ≤ 4
  size : s.size ≤ 8
  pre : ∀ x ∈ o, pre x.2.2.1 s
  rise : o.Pairwise fun x y => x.2.2.1.size ≤ y.2.2.1.size
theorem last_mem {o : List OS} (h : ¬ o.length = 0) : lastS o ∈ o := by
  unfold lastS
  rw [List.getD_eq_getElem?_getD, List.getElem?_eq_getElem (by omega)]
  exact List.getElem_mem _
theorem last_map {o : List OS} (h : ¬ o.length = 0) : lastI (o.map toI) = toI (lastS o) := by
  unfold lastI lastS
  rw [List.length_map, List.getD_eq_getElem?_getD, List.getD_eq_getElem?_getD, List.getElem?_map, List.getElem?_eq_getElem (by omega)]
  rfl
theorem base_map (o : List OS) : baseI (o.map toI) = floorS o := by
  unfold baseI floorS
  rw [List.length_map]
  by_cases h : o.length = 0
  · rw [if_pos h, if_pos h]
  · rw [if_neg h, if_neg h, last_map h]; rfl
theorem Open.floor {s : ByteArray} {o : List OS} (h : Open s o) : 0 ≤ floorS o ∧ floorS o ≤ 8 := by
  unfold floorS
  split
  · omega
  · rename_i h0
    have := (h.pre _ (last_mem h0)).size
    have := h.size
    omega
theorem Open.below {s : ByteArray} {o : List OS} (h : Open s o) {x : OS} (hx : x ∈ o) : (x.2.2.1.size : Int) ≤ floorS o := by
  have h0 : ¬ o.length = 0 := fun e => by rw [List.eq_nil_of_length_eq_zero e] at hx; simp at hx
  unfold floorS
  rw [if_neg h0]
  obtain ⟨i, hi, rfl⟩ := List.getElem_of_mem hx
  have hl : lastS o = o[o.length - 1] := by unfold lastS; rw [List.getD_eq_getElem?_getD, List.getElem?_eq_getElem (by omega)]; rfl
  rw [hl]
  by_cases he : i = o.length - 1
  · subst he; omega
  · have := (List.pairwise_iff_getElem.1 h.rise) i (o.length - 1) hi (by omega) (by omega)
    omega
theorem nest_rel {at_ op : Int} {s : ByteArray} {o : List OS} (h : Open s o) (hop : op = 21 ∨ op = 22 ∨ op = 23 ∨ op = 24) :
    (nestI at_ op s (o.map toI)).1 = (nestS at_ op s o).1 ∧ ((nestS at_ op s o).1 = 0 → (nestI at_ op s (o.map toI)).2 = (nestS at_ op s o).2.map toI ∧ Open s (nestS at_ op s o).2) := by
  unfold nestI nestS
  by_cases h1 : op = 21 ∨ op = 24
  · rw [if_pos h1, if_pos h1, List.length_map]
    by_cases h2 : o.length = 4
    · rw [if_pos h2, if_pos h2]; exact ⟨rfl, fun hc => by simp at hc⟩
    · rw [if_neg h2, if_neg h2]
      refine ⟨rfl, fun _ => ⟨?_, ?_, h.size, ?_, ?_⟩⟩
      · rw [List.map_append]
        congr 1
        simp only [List.map_cons, List.map_nil, toI]
        rcases h1 with rfl | rfl <;> rfl
      · have := h.len
        simp; omega
      · intro x hx
        rcases List.mem_append.1 hx with hx | hx
        · exact h.pre x hx
        · simp only [List.mem_singleton] at hx
          subst hx
          exact pre.refl s
      · rw [List.pairwise_append]
        refine ⟨h.rise, by simp, fun x hx y hy => ?_⟩
        simp only [List.mem_singleton] at hy
        subst hy
        exact (h.pre x hx).size
  · have h2 : op = 22 ∨ op = 23 := by omega
    rw [if_neg h1, if_neg h1, if_pos h2, List.length_map]
    by_cases h0 : o.length = 0
    · rw [if_pos (.inl h0), if_pos (.inl h0)]; exact ⟨rfl, fun hc => by simp at hc⟩
    · rw [last_map h0]
      have hc : (o.length = 0 ∨ (op = 22 ∧ ((toI (lastS o)).2.2.1 = false ∨ (toI (lastS o)).2.2.2.1 = true))) ↔ (o.length = 0 ∨ (op = 22 ∧ (lastS o).2.1 ≠ 21)) := by
        simp only [toI, h0, false_or]
        by_cases e : (lastS o).2.1 = 21
        · simp [e]
        · by_cases e2 : (lastS o).2.1 = 22 <;> simp [e, e2]
      by_cases h3 : o.length = 0 ∨ (op = 22 ∧ (lastS o).2.1 ≠ 21)
      · rw [if_pos (hc.2 h3), if_pos h3]; exact ⟨rfl, fun hc => by simp at hc⟩
      · rw [if_neg (fun e => h3 (hc.1 e)), if_neg h3]
        have hp := h.pre _ (last_mem h0)
        by_cases h4 : s = (lastS o).2.2.1
        · rw [if_neg (show ¬ ((s.size : Int) ≠ (toI (lastS o)).2.1) from fun e => e (congrArg (fun b : ByteArray => (b.size : Int)) h4)), if_neg (show ¬ (s ≠ (lastS o).2.2.1) from fun e => e h4)]
          by_cases h5 : op = 22
          · rw [if_pos h5, if_pos h5]
            have h6 : (lastS o).2.1 = 21 := Classical.not_not.1 fun e => h3 (.inr ⟨h5, e⟩)
            refine ⟨rfl, fun _ => ⟨?_, ?_, h.size, ?_, ?_⟩⟩
            · rw [List.map_set]
              simp [toI, h6]
            · simpa using h.len
            · intro x hx
              rcases List.mem_or_eq_of_mem_set hx with hx | hx
              · exact h.pre x hx
              · subst hx; exact hp
            · rw [List.pairwise_iff_getElem]
              intro i j hi hj hij
              simp only [List.length_set] at hi hj
              have hr := List.pairwise_iff_getElem.1 h.rise
              have hl : (lastS o).2.2.1 = (o[o.length - 1]).2.2.1 := by unfold lastS; rw [List.getD_eq_getElem?_getD, List.getElem?_eq_getElem (by omega)]; rfl
              have hset : ∀ (k : Nat) (hk : k < o.length) (hk' : k < (o.set (o.length - 1) ((lastS o).1, (22, ((lastS o).2.2.1, ())))).length), ((o.set (o.length - 1) ((lastS o).1, (22, ((lastS o).2.2.1, ()))))[k]).2.2.1 = (o[k]).2.2.1 := by
                intro k hk hk'
                rw [List.getElem_set]
                split
                · rename_i e
                  simp only [← e, hl]
                · rfl
              rw [hset i hi, hset j hj]
              exact hr i j hi hj hij
          · rw [if_neg h5, if_neg h5]
            refine ⟨rfl, fun _ => ⟨by rw [List.map_take], ?_, h.size, fun x hx => h.pre x (List.mem_of_mem_take hx), h.rise.sublist (List.take_sublist _ _)⟩⟩
            have := h.len
            simp; omega
        · rw [if_pos ?_, if_pos h4]
          · exact ⟨rfl, fun hc => by simp at hc⟩
          · intro e
            exact h4 (hp.eq (by simp only [toI] at e; omega))
theorem step_rel {at_ op a : Int} {ks : List Int} {n : Int} {s : ByteArray} {o : List OS} (h : Open s o) :
    (stepI at_ op a ks n s (o.map toI)).1 = (stepS at_ op a ks n s o).1 ∧
      ((stepS at_ op a ks n s o).1 = 0 → (stepI at_ op a ks n s (o.map toI)).2.1 = (stepS at_ op a ks n s o).2.1 ∧ (stepI at_ op a ks n s (o.map toI)).2.2 = (stepS at_ op a ks n s o).2.2.map toI ∧ Open (stepS at_ op a ks n s o).2.1 (stepS at_ op a ks n s o).2.2) := by
  have hz := effect_size op a ks
  unfold stepI stepS
  by_cases h1 : (op = 19 ∨ op = 20) ∧ (ks.length : Int) ≤ a
  · rw [if_pos h1, if_pos h1]; exact ⟨rfl, fun hc => by simp at hc⟩
  rw [if_neg h1, if_neg h1]
  by_cases h2 : op = 26 ∧ n ≤ a
  · rw [if_pos h2, if_pos h2]; exact ⟨rfl, fun hc => by simp at hc⟩
  rw [if_neg h2, if_neg h2, base_map]
  have hfl := h.floor
  have hsz := h.size
  by_cases h3 : (s.size : Int) - (effect op a ks).1.size < floorS o
  · have e : takeS s (effect op a ks).1 (floorS o) = (e0, 13) := by unfold takeS; rw [if_pos (by omega)]
    rw [if_pos h3, e, if_pos (by decide)]; exact ⟨rfl, fun hc => by simp at hc⟩
  rw [if_neg h3]
  by_cases h4 : s.extract (s.size - (effect op a ks).1.size) s.size ≠ (effect op a ks).1
  · have e : takeS s (effect op a ks).1 (floorS o) = (e0, 12) := by unfold takeS; rw [if_neg (by omega), if_pos h4]
    rw [if_pos h4, e, if_pos (by decide)]; exact ⟨rfl, fun hc => by simp at hc⟩
  have e : takeS s (effect op a ks).1 (floorS o) = (s.extract 0 (s.size - (effect op a ks).1.size), 0) := by unfold takeS; rw [if_neg (by omega), if_neg h4]
  rw [if_neg h4, e, if_neg (show ¬ ((s.extract 0 (s.size - (effect op a ks).1.size), (0 : Int)).2 ≠ 0) from fun e => e rfl)]
  dsimp only
  have hx : (s.extract 0 (s.size - (effect op a ks).1.size)).size = s.size - (effect op a ks).1.size := by rw [size_extract _ (by omega), Nat.sub_zero]
  by_cases h5 : (s.extract 0 (s.size - (effect op a ks).1.size)).size + (effect op a ks).2.size > 8
  · rw [if_pos (by rw [size_append]; exact h5), if_pos h5]; exact ⟨rfl, fun hc => by simp at hc⟩
  rw [if_neg (by rw [size_append]; exact h5), if_neg h5]
  have ho : Open (s.extract 0 (s.size - (effect op a ks).1.size) ++ (effect op a ks).2) o := by
    refine ⟨h.len, by rw [size_append]; omega, fun x hx => ?_, h.rise⟩
    have := h.below hx
    exact ((h.pre x hx).extract (by omega) (by omega)).append _
  by_cases h6 : within op 21 24 = true
  · rw [if_pos h6]
    have h6' := within_iff.1 h6
    obtain ⟨k1, k2⟩ := nest_rel (at_ := at_) ho (by omega : op = 21 ∨ op = 22 ∨ op = 23 ∨ op = 24)
    exact ⟨k1, fun hc => ⟨rfl, (k2 hc).1, (k2 hc).2⟩⟩
  · rw [if_neg h6]
    have h6' : ¬ (21 ≤ op ∧ op ≤ 24) := fun e => h6 (within_iff.2 e)
    have e : nestI at_ op (s.extract 0 (s.size - (effect op a ks).1.size) ++ (effect op a ks).2) (o.map toI) = (0, o.map toI) := by
      unfold nestI; rw [if_neg (by omega), if_neg (by omega)]
    rw [e]
    exact ⟨rfl, fun _ => ⟨rfl, rfl, ho⟩⟩
end Go.Ry
