/- Strings as lists of numbers. No condition. -/
import Derived.Test.YtopchiaiefkehaaGreatPKit
import Derived.Laws.Strings
set_option linter.unusedVariables false
set_option linter.unusedSimpArgs false
namespace Go.Ry

theorem bytesL_inj {a b : ByteArray} (h : bytesL a = bytesL b) : a = b := by
  have h' : a.data.toList = b.data.toList := by
    have inj : ∀ {l m : List UInt8}, l.map (fun b => (b.toNat : Int)) = m.map (fun b => (b.toNat : Int)) → l = m := by
      intro l
      induction l with
      | nil => intro m h; cases m <;> simp_all
      | cons x l ih =>
        intro m h
        cases m with
        | nil => simp at h
        | cons y m =>
          simp only [List.map_cons, List.cons.injEq] at h
          obtain ⟨h1, h2⟩ := h
          have e1 : x = y := UInt8.toNat_inj.1 (Int.ofNat_inj.1 h1)
          have e2 := ih h2
          rw [e1, e2]
    exact inj h
  exact ByteArray.ext (Array.toList_inj.1 h')
theorem bytesL_iff {a b : ByteArray} : a = b ↔ bytesL a = bytesL b := ⟨fun h => h ▸ rfl, bytesL_inj⟩
theorem bytesL_size (s : ByteArray) : (bytesL s).length = s.size := by
  unfold bytesL ByteArray.size
  rw [List.length_map, Array.length_toList]
theorem toList_beq (a b : ByteArray) : (ByteArray.toList a == ByteArray.toList b) = decide (a = b) := by
  rw [ByteArray.toList_eq, ByteArray.toList_eq]
  by_cases h : a = b
  · rw [h]; simp
  · rw [decide_eq_false h, beq_eq_false_iff_ne]
    intro e
    exact h (ByteArray.ext (Array.toList_inj.1 e))
theorem bytesL_append (a b : ByteArray) : bytesL (a ++ b) = bytesL a ++ bytesL b := by
  simp [bytesL, ByteArray.data_append]
theorem bytesL_extract (s : ByteArray) {a b : Nat} (h : b ≤ s.size) : bytesL (s.extract a b) = ((bytesL s).take b).drop a := by
  have e : (s.extract a b).data = s.data.extract a b := by
    simp [ByteArray.data_extract]
  simp only [bytesL, e, Array.toList_extract, List.extract_eq_take_drop, List.map_take, List.map_drop]
  rw [List.drop_take]
theorem size_extract (s : ByteArray) {a b : Nat} (h : b ≤ s.size) : (s.extract a b).size = b - a := by
  rw [← bytesL_size, bytesL_extract s h]
  simp [bytesL_size]; omega
theorem size_append (a b : ByteArray) : (a ++ b).size = a.size + b.size := by
  rw [← bytesL_size, bytesL_append, List.length_append, bytesL_size, bytesL_size]
theorem bytes_range {s : ByteArray} {i : Nat} : 0 ≤ (bytesL s).getD i 0 ∧ (bytesL s).getD i 0 < 256 := by
  simp only [bytesL, List.getD_eq_getElem?_getD, List.getElem?_map]
  cases h : s.data.toList[i]? with
  | none => simp
  | some b =>
    have := b.toNat_lt
    simp; omega
theorem size_zero {s : ByteArray} : s.size = 0 ↔ s = ⟨#[]⟩ := by
  constructor
  · intro h
    apply bytesL_inj
    have : bytesL s = [] := List.eq_nil_of_length_eq_zero (by rw [bytesL_size]; exact h)
    rw [this]; rfl
  · rintro rfl; rfl
/-- A part at the beginning. -/
def pre (a b : ByteArray) : Prop := ∃ c, b = a ++ c
theorem pre.size {a b : ByteArray} (h : pre a b) : a.size ≤ b.size := by
  obtain ⟨c, rfl⟩ := h
  rw [size_append]; omega
theorem append_assoc' (a b c : ByteArray) : a ++ b ++ c = a ++ (b ++ c) := bytesL_inj (by simp [bytesL_append])
theorem pre.refl (a : ByteArray) : pre a a := ⟨⟨#[]⟩, bytesL_inj (by simp [bytesL_append]; rfl)⟩
theorem pre.append {a b : ByteArray} (h : pre a b) (c : ByteArray) : pre a (b ++ c) := by
  obtain ⟨d, rfl⟩ := h
  exact ⟨d ++ c, append_assoc' _ _ _⟩
theorem pre.eq {a b : ByteArray} (h : pre a b) (hs : b.size = a.size) : b = a := by
  obtain ⟨c, rfl⟩ := h
  rw [size_append] at hs
  have : c = ⟨#[]⟩ := size_zero.1 (by omega)
  rw [this]
  exact bytesL_inj (by simp [bytesL_append]; rfl)
theorem pre.extract {a b : ByteArray} (h : pre a b) {k : Nat} (h1 : a.size ≤ k) (h2 : k ≤ b.size) : pre a (b.extract 0 k) := by
  obtain ⟨c, rfl⟩ := h
  rw [size_append] at h2
  refine ⟨c.extract 0 (k - a.size), bytesL_inj ?_⟩
  rw [bytesL_extract _ (by rw [size_append]; exact h2), bytesL_append, bytesL_append, bytesL_extract _ (by omega)]
  simp only [List.drop_zero]
  rw [List.take_append, bytesL_size, List.take_of_length_le (by rw [bytesL_size]; exact h1)]
end Go.Ry
