/- Numbers with spaces between; a task's text. No condition. -/
import Derived.Test.YtlfapnlaalnbjaaGreatDoorPTxt1
import Derived.Test.YtlfapnlaalnbjaaGreatDoorPNum2
set_option linter.unusedVariables false
set_option linter.unusedSimpArgs false
namespace Go.Ry
open Go.Proofs

@[reducible] def spB : ByteArray := ⟨#[32]⟩
theorem join_small : ∀ (xs : List ByteArray) (sep : List UInt8), (∀ x ∈ xs, x.size ≤ 21) → sep.length ≤ 1 → (Lib.join (xs.map (·.data.toList)) sep).length ≤ 22 * xs.length := by
  have tail : ∀ (xs : List ByteArray) (sep : List UInt8), (∀ x ∈ xs, x.size ≤ 21) → sep.length ≤ 1 → (Lib.joinTail sep (xs.map (·.data.toList))).length ≤ 22 * xs.length := by
    intro xs sep hx hs
    induction xs with
    | nil => simp [Lib.joinTail]
    | cons x xs ih =>
      have h1 := hx x (by simp)
      have h2 := ih fun y hy => hx y (List.mem_cons_of_mem _ hy)
      have h3 : x.data.toList.length = x.size := Array.length_toList
      simp only [Lib.joinTail, List.map_cons, List.flatten_cons, List.length_append, List.length_cons] at h2 ⊢
      omega
  intro xs sep hx hs
  cases xs with
  | nil => simp [Lib.join_nil]
  | cons x xs =>
    have h1 := hx x (by simp)
    have h2 := tail xs sep (fun y hy => hx y (List.mem_cons_of_mem _ hy)) hs
    have h3 : x.data.toList.length = x.size := Array.length_toList
    rw [List.map_cons, Lib.join_cons, List.length_append]
    simp only [List.length_cons]
    omega
theorem joinB_size {xs : List ByteArray} (h : ∀ x ∈ xs, x.size ≤ 21) : (joinB xs spB).size ≤ 22 * xs.length := by
  unfold joinB
  rw [size_lit]
  exact join_small xs _ h (by simp)
/-- Numbers with spaces between. -/
def numsB (l : List Int) : ByteArray := joinB (l.map itoaB) spB
theorem numsB_size (l : List Int) : (numsB l).size ≤ 22 * l.length := by
  have := joinB_size (xs := l.map itoaB) (fun x hx => by
    obtain ⟨n, _, rfl⟩ := List.mem_map.1 hx
    exact itoaB_size n)
  simpa [numsB] using this
theorem c_impl_numbers (l : List Int) (hl : l.length ≤ 4096) (hw : ∀ x ∈ l, i64 x) : TT n_impl_numbers [.one (.sl tyInt l)] [] (eS (numsB l)) [] := by
  refine r_impl_numbers l ⟨fun m i r => 0 ≤ i ∧ i ≤ l.length ∧ m = (l.length - i).toNat ∧ r = (l.take i.toNat).map itoaB, ⟨_, rfl, by omega, by omega, rfl, by simp⟩, ?_⟩
  rintro m i r ⟨h0, h1, rfl, rfl⟩
  refine ifP (fun hlt => ?_) (fun hge => ?_)
  · rw [w64 (x := i + 1) (by omega)]
    refine ⟨⟨h0, hlt⟩, _, c_impl_decimal _ (hw _ (getD_mem (by omega))), ?_, _, ?_, rfl, by omega, by omega, rfl, ?_⟩
    · simp only [List.length_map, List.length_take, List.length_cons, List.length_nil]; omega
    · omega
    · rw [toNat_succ h0, take_succ_getD (by omega) 0, List.map_append]; rfl
  · rw [List.take_of_length_le (by omega)]
    refine ⟨_, c_Join _ spB ?_ (by simp; omega), rfl, rfl⟩
    refine Nat.le_trans (join_small _ _ (fun x hx => ?_) (by simp)) (by simp; omega)
    obtain ⟨n, _, rfl⟩ := List.mem_map.1 hx
    exact itoaB_size n

/-- A task's text. -/
def taskB (k p d pin q r : Int) : ByteArray := if k = 1 then (⟨#[99, 121, 99, 108, 105, 99, 32]⟩ : ByteArray) ++ numsB [p, d, r] else (⟨#[101, 118, 101, 110, 116, 32]⟩ : ByteArray) ++ numsB [p, d, pin, q, r]
theorem taskB_size (k p d pin q r : Int) : (taskB k p d pin q r).size ≤ 200 := by
  unfold taskB
  split
  · have := numsB_size [p, d, r]
    simp only [size_append, size_lit, List.length_cons, List.length_nil] at this ⊢; omega
  · have := numsB_size [p, d, pin, q, r]
    simp only [size_append, size_lit, List.length_cons, List.length_nil] at this ⊢; omega
theorem task_i64 {k p d pin q r : Int} (h : taskOK k p d pin q r = true) : (k = 1 ∨ k = 2) ∧ i64 p ∧ i64 d ∧ i64 pin ∧ i64 q ∧ i64 r := by
  simp only [taskOK, Bool.and_eq_true, within_iff] at h
  obtain ⟨h1, h2, h3, h4, h5⟩ := h
  split at h5
  · rename_i hk
    simp only [Bool.and_eq_true, decide_eq_true_eq] at h5
    refine ⟨.inl hk, ?_, ?_, ?_, ?_, ?_⟩ <;> (unfold i64; omega)
  · split at h5
    · rename_i hk
      have h5 := within_iff.1 h5
      refine ⟨.inr hk, ?_, ?_, ?_, ?_, ?_⟩ <;> (unfold i64; omega)
    · simp at h5
theorem c_impl_taskText (k p d pin q r : Int) (h : taskOK k p d pin q r = true) : TT n_impl_taskText [tsk k p d pin q r] [] (eS (taskB k p d pin q r)) [] := by
  obtain ⟨hk, h1, h2, h3, h4, h5⟩ := task_i64 h
  refine r_impl_taskText k p d pin q r (ifE (fun e => ?_) (fun e => ?_))
  · have := numsB_size [p, d, r]
    refine ⟨_, c_impl_numbers _ (by simp) (by simp; exact ⟨h1, h2, h5⟩), ?_, by rw [taskB, if_pos e], rfl⟩
    simp only [size_lit, List.length_cons, List.length_nil] at this ⊢; omega
  · have := numsB_size [p, d, pin, q, r]
    refine ⟨_, c_impl_numbers _ (by simp) (by simp; exact ⟨h1, h2, h3, h4, h5⟩), ?_, by rw [taskB, if_neg e], rfl⟩
    simp only [size_lit, List.length_cons, List.length_nil] at this ⊢; omega
theorem c_spec_l13Task (k p d pin q r : Int) (h : taskOK k p d pin q r = true) : TT n_spec_l13Task [tsk k p d pin q r] [] (eS (taskB k p d pin q r)) [] := by
  obtain ⟨hk, h1, h2, h3, h4, h5⟩ := task_i64 h
  have s1 := itoaB_size p; have s2 := itoaB_size d; have s3 := itoaB_size pin; have s4 := itoaB_size q; have s5 := itoaB_size r
  have f1 := c_spec_l00Digits p h1
  have f2 := c_spec_l00Digits d h2
  have f3 := c_spec_l00Digits pin h3
  have f4 := c_spec_l00Digits q h4
  have f5 := c_spec_l00Digits r h5
  refine r_spec_l13Task k p d pin q r ?_
  unfold v_spec_l13Task
  rcases hk with rfl | rfl
  · rw [w64 (x := 1 - 1) (by omega)]
    simp only [show Int.toNat ((1 : Int) - 1) = 0 from rfl, List.getD_cons_zero]
    refine ⟨fun s => s = ((((⟨#[99, 121, 99, 108, 105, 99]⟩ : ByteArray) ++ spB) ++ itoaB p) ++ spB) ++ itoaB d, ?_, ?_⟩
    · repeat' (first | exact f1 | exact f2 | refine ⟨itoaB p, f1, ?_⟩ | refine ⟨itoaB d, f2, ?_⟩ | refine ⟨?_, ?_⟩ | fail)
      all_goals (first | rfl | decide | (simp only [size_append, size_lit, List.length_cons, List.length_nil]; omega))
    · rintro s rfl
      refine ifE_f (by decide) ⟨?_, _, f5, ?_, ?_, trivial⟩
      · simp only [size_append, size_lit, List.length_cons, List.length_nil]; omega
      · simp only [size_append, size_lit, List.length_cons, List.length_nil]; omega
      · refine congrArg eS ?_
        apply ba_ext
        simp [taskB, numsB, joinB, data_app, Lib.join_cons, Lib.joinTail]
  · rw [w64 (x := 2 - 1) (by omega)]
    simp only [show Int.toNat ((2 : Int) - 1) = 1 from rfl, List.getD_cons_succ, List.getD_cons_zero]
    refine ⟨fun s => s = ((((⟨#[101, 118, 101, 110, 116]⟩ : ByteArray) ++ spB) ++ itoaB p) ++ spB) ++ itoaB d, ?_, ?_⟩
    · repeat' (first | exact f1 | exact f2 | refine ⟨itoaB p, f1, ?_⟩ | refine ⟨itoaB d, f2, ?_⟩ | refine ⟨?_, ?_⟩ | fail)
      all_goals (first | rfl | decide | (simp only [size_append, size_lit, List.length_cons, List.length_nil]; omega))
    · rintro s rfl
      refine ifE_t rfl ⟨_, f3, ?_, ?_, _, f4, ?_, ?_, ?_, _, f5, ?_, ?_, trivial⟩
      case refine_7 =>
        refine congrArg eS ?_
        apply ba_ext
        simp [taskB, numsB, joinB, data_app, Lib.join_cons, Lib.joinTail]
      all_goals (simp only [size_append, size_lit, List.length_cons, List.length_nil]; omega)
def taskTextM (k p d pin q r : Int) : ByteArray × Int := if taskOK k p d pin q r = true then (taskB k p d pin q r, 0) else (⟨#[]⟩, 1)
theorem c_impl_TaskText (k p d pin q r : Int) : TT n_impl_TaskText [tsk k p d pin q r] [] (.tup [(false, [.str (taskTextM k p d pin q r).1]), (false, [cI (taskTextM k p d pin q r).2])]) [] := by
  refine r_impl_TaskText k p d pin q r ⟨_, c_impl_TaskOK _ _ _ _ _ _, ifB_cases (fun h => ?_) (fun h => ?_)⟩
  · have h : taskOK k p d pin q r = false := by simpa using h
    exact ⟨by simp [taskTextM, h], rfl⟩
  · have h : taskOK k p d pin q r = true := by simpa using h
    exact ⟨_, c_impl_taskText k p d pin q r h, by simp [taskTextM, h], rfl⟩
theorem c_spec_TaskText (k p d pin q r : Int) : TT n_spec_TaskText [tsk k p d pin q r] [] (.tup [(false, [.str (taskTextM k p d pin q r).1]), (false, [cI (taskTextM k p d pin q r).2])]) [] := by
  refine r_spec_TaskText k p d pin q r ⟨_, c_spec_TaskOK _ _ _ _ _ _, ifB_cases (fun h => ?_) (fun h => ?_)⟩
  · have h : taskOK k p d pin q r = false := by simpa using h
    exact ⟨by simp [taskTextM, h], rfl⟩
  · have h : taskOK k p d pin q r = true := by simpa using h
    exact ⟨_, c_spec_l13Task k p d pin q r h, by simp [taskTextM, h], rfl⟩
end Go.Ry
