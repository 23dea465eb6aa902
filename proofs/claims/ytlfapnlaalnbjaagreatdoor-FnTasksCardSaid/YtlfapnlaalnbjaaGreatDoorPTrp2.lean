/- Tasks' texts read back: the plain law. No condition. -/
import Derived.Test.YtlfapnlaalnbjaaGreatDoorPTrp1
import Derived.Test.YtlfapnlaalnbjaaGreatDoorPRtk1
import Derived.Test.YtlfapnlaalnbjaaGreatDoorPTxt3
set_option linter.unusedVariables false
set_option linter.unusedSimpArgs false
namespace Go.Ry

theorem wordsB_data (s : ByteArray) : wordsB s = (wsp [] s.data.toList).map fun l => ⟨l.toArray⟩ := rfl
theorem itoaB_data {n : Int} (h : i64 n) : (itoaB n).data.toList = Lib.itoa n := by rw [itoaB_eq h]
theorem numsB_data {l : List Int} (h : ∀ x ∈ l, i64 x) : (numsB l).data.toList = Lib.join (l.map Lib.itoa) [32] := by
  unfold numsB joinB
  have e : (l.map itoaB).map (·.data.toList) = l.map Lib.itoa := by
    rw [List.map_map]
    exact List.map_congr_left fun x hx => itoaB_data (h x hx)
  rw [e]
theorem words_nums {l : List Int} (h : ∀ x ∈ l, i64 x) : wsp [] (numsB l).data.toList = l.map Lib.itoa := by
  rw [numsB_data h]
  refine wsp_join _ fun x hx => ?_
  obtain ⟨n, _, rfl⟩ := List.mem_map.1 hx
  exact itoa_word n
/-- A head word, a blank, then numbers. -/
theorem words_line {w : List UInt8} {l : List Int} (hw : isWord w) (h : ∀ x ∈ l, i64 x) : wsp [] (w ++ 32 :: (numsB l).data.toList) = w :: l.map Lib.itoa := by
  rw [wsp_cut, wsp_word1 hw, words_nums h]; rfl
def shortN (x : Int) : Prop := -999999999999999999 ≤ x ∧ x ≤ 999999999999999999
theorem numsO_back : ∀ {l : List Int}, (∀ x ∈ l, shortN x) → numsO (l.map fun n => (⟨(Lib.itoa n).toArray⟩ : ByteArray)) = some l
  | [], _ => rfl
  | x :: l, h => by
    have hx : numOf (⟨(Lib.itoa x).toArray⟩ : ByteArray).data.toList = some x := num_itoa x (h x (by simp))
    rw [List.map_cons, numsO_some hx, numsO_back (fun y hy => h y (by simp [hy]))]; rfl
/-- The list of numbers of a task's text. -/
def taskNs (k p d pin q r : Int) : List Int := if k = 1 then [p, d, r] else [p, d, pin, q, r]
def taskW (k : Int) : ByteArray := if k = 1 then cycB else evB
theorem cyc_word : isWord cycB.data.toList := by unfold isWord; decide
theorem ev_word : isWord evB.data.toList := by unfold isWord; decide
theorem taskB_data (k p d pin q r : Int) : (taskB k p d pin q r).data.toList = (taskW k).data.toList ++ 32 :: (numsB (taskNs k p d pin q r)).data.toList := by
  unfold taskB taskW taskNs
  split
  · rw [data_app]; rfl
  · rw [data_app]; rfl
theorem taskW_word (k : Int) : isWord (taskW k).data.toList := by
  unfold taskW; split
  · exact cyc_word
  · exact ev_word
theorem task_small {k p d pin q r : Int} (h : taskOK k p d pin q r = true) : ∀ x ∈ taskNs k p d pin q r, 0 ≤ x ∧ x ≤ 5000 := by
  simp only [taskOK, Bool.and_eq_true, within_iff] at h
  obtain ⟨h1, h2, h3, h4, h5⟩ := h
  unfold taskNs
  split at h5
  · rename_i hk
    rw [if_pos hk]
    intro x hx
    simp only [List.mem_cons, List.not_mem_nil, or_false] at hx
    rcases hx with rfl | rfl | rfl <;> omega
  · rename_i hk
    rw [if_neg hk]
    split at h5
    · have h5 := within_iff.1 h5
      intro x hx
      simp only [List.mem_cons, List.not_mem_nil, or_false] at hx
      rcases hx with rfl | rfl | rfl | rfl | rfl <;> omega
    · cases h5
theorem rtN_task {k p d pin q r : Int} (h : taskOK k p d pin q r = true) : rtN (taskW k) (taskNs k p d pin q r) = ((k, p, d, pin, q, r), true) := by
  have h0 := h
  simp only [taskOK, Bool.and_eq_true, within_iff] at h
  obtain ⟨h1, h2, h3, h4, h5⟩ := h
  split at h5
  · rename_i hk
    subst hk
    simp only [Bool.and_eq_true, decide_eq_true_eq] at h5
    obtain ⟨rfl, rfl, _⟩ := h5
    have e1 : taskW 1 = cycB := rfl
    have e2 : taskNs 1 p d 0 1 r = [p, d, r] := rfl
    rw [e1, e2, rtN, if_pos ⟨rfl, rfl⟩]
    show ((1, p, d, 0, 1, r), taskOK 1 p d 0 1 r) = _
    rw [h0]
  · rename_i hk
    split at h5
    · rename_i hk2
      subst hk2
      have e1 : taskW 2 = evB := rfl
      have e2 : taskNs 2 p d pin q r = [p, d, pin, q, r] := rfl
      rw [e1, e2, rtN, if_neg (fun e => by have := e.2; simp at this), if_pos ⟨rfl, rfl⟩]
      show ((2, p, d, pin, q, r), taskOK 2 p d pin q r) = _
      rw [h0]
    · cases h5
theorem rtN_more {k p d pin q r : Int} : (rtN (taskW k) (taskNs k p d pin q r ++ [1])).2 = false := by
  unfold rtN
  by_cases hk : k = 1
  · have e1 : taskW k = cycB := if_pos hk
    have e2 : taskNs k p d pin q r = [p, d, r] := if_pos hk
    rw [e1, e2, if_neg (fun e => by have := e.2; simp at this), if_neg (fun (e : cycB = evB ∧ _) => cyc_ev e.1.symm)]
  · have e1 : taskW k = evB := if_neg hk
    have e2 : taskNs k p d pin q r = [p, d, pin, q, r] := if_neg hk
    rw [e1, e2, if_neg (fun e => cyc_ev e.1), if_neg (fun e => by have := e.2; simp at this)]
theorem ba_eta (w : ByteArray) : (⟨w.data.toList.toArray⟩ : ByteArray) = w := by
  apply ba_ext; simp
theorem words_task {k p d pin q r : Int} (h : taskOK k p d pin q r = true) : wsp [] (taskB k p d pin q r).data.toList = (taskW k).data.toList :: (taskNs k p d pin q r).map Lib.itoa := by
  rw [taskB_data]
  exact words_line (taskW_word k) fun x hx => by have := task_small h x hx; unfold i64; omega
theorem rtM_cons {h : ByteArray} {t : List ByteArray} {n : List Int} (hn : numsO t = some n) : rtM (h :: t) = rtN h n := by
  show (match numsO t with
    | some n => rtN h n
    | none => ((0, 0, 0, 0, 0, 0), false)) = _
  rw [hn]
/-- Read back between blanks. -/
theorem rtT_back {k p d pin q r : Int} (h : taskOK k p d pin q r = true) : rtT (((⟨#[32]⟩ : ByteArray) ++ taskB k p d pin q r) ++ (⟨#[32, 32]⟩ : ByteArray)) = ((k, p, d, pin, q, r), 0) := by
  have hs := taskB_size k p d pin q r
  have hw : wordsB (((⟨#[32]⟩ : ByteArray) ++ taskB k p d pin q r) ++ (⟨#[32, 32]⟩ : ByteArray)) = taskW k :: (taskNs k p d pin q r).map fun n => (⟨(Lib.itoa n).toArray⟩ : ByteArray) := by
    rw [wordsB_data, data_app, data_app]
    have e : ([32] : List UInt8) ++ (taskB k p d pin q r).data.toList ++ [32, 32] = 32 :: ((taskB k p d pin q r).data.toList ++ [32, 32]) := by simp
    show List.map _ (wsp [] (([32] : List UInt8) ++ (taskB k p d pin q r).data.toList ++ [32, 32])) = _
    rw [e, wsp_ahead, wsp_behind, words_task h, List.map_cons, List.map_map, ba_eta]; rfl
  have hm : rtM (wordsB (((⟨#[32]⟩ : ByteArray) ++ taskB k p d pin q r) ++ (⟨#[32, 32]⟩ : ByteArray))) = ((k, p, d, pin, q, r), true) := by
    rw [hw, rtM_cons (numsO_back fun x hx => by have := task_small h x hx; unfold shortN; omega)]
    exact rtN_task h
  unfold rtT
  rw [if_neg, hm]
  · rfl
  · simp only [size_append, size_lit, List.length_cons, List.length_nil]; omega
/-- A number more is too many. -/
theorem rtT_more {k p d pin q r : Int} (h : taskOK k p d pin q r = true) : (rtT (taskB k p d pin q r ++ (⟨#[32, 49]⟩ : ByteArray))).2 = 3 := by
  have hs := taskB_size k p d pin q r
  have h1 : Lib.itoa 1 = [49] := by
    have := Lib.itoa_nonneg 1
    rw [dec_small (by omega)] at this
    exact this
  have hw : wordsB (taskB k p d pin q r ++ (⟨#[32, 49]⟩ : ByteArray)) = taskW k :: (taskNs k p d pin q r ++ [1]).map fun n => (⟨(Lib.itoa n).toArray⟩ : ByteArray) := by
    rw [wordsB_data, data_app]
    show List.map _ (wsp [] ((taskB k p d pin q r).data.toList ++ 32 :: [49])) = _
    have h49 : wsp [] [49] = [[49]] := wsp_word1 (by unfold isWord; decide)
    rw [wsp_cut, words_task h, h49, List.map_append, List.map_cons, List.map_map, ba_eta, List.map_append, List.map_singleton, List.map_singleton, h1]; rfl
  have hm : (rtM (wordsB (taskB k p d pin q r ++ (⟨#[32, 49]⟩ : ByteArray)))).2 = false := by
    rw [hw, rtM_cons (numsO_back fun x hx => by
      rcases List.mem_append.1 hx with hx | hx
      · have := task_small h x hx; unfold shortN; omega
      · rw [List.mem_singleton] at hx; subst hx; unfold shortN; omega)]
    exact rtN_more
  unfold rtT
  rw [if_neg, hm]
  · rfl
  · simp only [size_append, size_lit, List.length_cons, List.length_nil]; omega
end Go.Ry
