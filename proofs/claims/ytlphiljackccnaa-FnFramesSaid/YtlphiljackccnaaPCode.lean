/- What ReadCode of the program and of the reference come to: the same. No condition. -/
import Derived.Test.YtlphiljackccnaaPSrc
import Derived.Laws.BitsLemmas
set_option linter.unusedVariables false
set_option linter.unusedSimpArgs false
namespace Go.Ry
variable {C : Calls_}

/-! ### bytes -/
theorem bytesL_size (s : ByteArray) : (bytesL s).length = s.size := bytesL_length s
theorem bytes_at {s : ByteArray} {i : Nat} : 0 ≤ (bytesL s).getD i 0 ∧ (bytesL s).getD i 0 < 256 := by
  simp only [bytesL, List.getD_eq_getElem?_getD, List.getElem?_map]
  cases h : s.data.toList[i]? with
  | none => simp
  | some b =>
    have := b.toNat_lt
    simp; omega
theorem bytes_extract (s : ByteArray) {a b : Nat} (h : b ≤ s.size) : bytesL (s.extract a b) = ((bytesL s).take b).drop a := by
  have e : (s.extract a b).data = s.data.extract a b := by
    simp [ByteArray.data_extract]
  simp only [bytesL, e, Array.toList_extract, List.extract_eq_take_drop, List.map_take, List.map_drop]
  rw [List.drop_take]
theorem or_byte {x y : Int} (hx : 0 ≤ x ∧ x < 36028797018963968) (hy : 0 ≤ y ∧ y < 256) : bits .or .i64 (x * 256) y = x * 256 + y := by
  refine bits_join .i64 63 (by decide) (fun n h0 h1 => ?_) 8 (x * 256) y (by omega) (by omega) ?_ hy.1 (by omega) ?_
  · rw [IntKind.wrap_i64]; have h2 : n < 9223372036854775808 := by simpa using h1
    omega
  · show x * 256 < 9223372036854775808; omega
  · show y < 9223372036854775808; omega
/-- Four bytes, the lowest first, as a number with a sign. -/
def four (l : List Int) : Int := l.getD 0 0 + 256 * l.getD 1 0 + 65536 * l.getD 2 0 + 16777216 * l.getD 3 0 - (if 128 ≤ l.getD 3 0 then 4294967296 else 0)

theorem getD_drop' (l : List Int) (a i : Nat) : (l.drop a).getD i 0 = l.getD (a + i) 0 := by
  simp [List.getD_eq_getElem?_getD, List.getElem?_drop]

def K_l01Take4 (C : Calls_) : Prop := ∀ (s : ByteArray) (n : Nat), n + 4 ≤ s.size → s.size ≤ 1048576 → C n_spec_l01Take [.one (.str s), .one (.int .i64 n), .one (.int .i64 4)] [] (.one (.int .i64 (four ((bytesL s).drop n)))) []
theorem p_spec_l01Take (s : ByteArray) (n : Nat) (h : n + 4 ≤ s.size) (hs : s.size ≤ 1048576) : v_spec_l01Take C (fun r os => r = .one (.int .i64 (four ((bytesL s).drop n))) ∧ os = []) s n 4 := by
  have b0 := bytes_at (s := s) (i := n)
  have b1 := bytes_at (s := s) (i := n + 1)
  have b2 := bytes_at (s := s) (i := n + 2)
  have b3 := bytes_at (s := s) (i := n + 3)
  refine ⟨fun t a z v => s = t ∧ a = n ∧ z = 4 ∧ v = (bytesL s).getD n 0 + 256 * (bytesL s).getD (n + 1) 0 + 65536 * (bytesL s).getD (n + 2) 0 + 16777216 * (bytesL s).getD (n + 3) 0,
    ⟨fun m t a z v i => (s = t ∧ a = n ∧ z = 4) ∧ ((m = 4 ∧ i = 3 ∧ v = 0) ∨ (m = 3 ∧ i = 2 ∧ v = (bytesL s).getD (n + 3) 0) ∨ (m = 2 ∧ i = 1 ∧ v = (bytesL s).getD (n + 2) 0 + 256 * (bytesL s).getD (n + 3) 0) ∨
      (m = 1 ∧ i = 0 ∧ v = (bytesL s).getD (n + 1) 0 + 256 * (bytesL s).getD (n + 2) 0 + 65536 * (bytesL s).getD (n + 3) 0) ∨
      (m = 0 ∧ i = -1 ∧ v = (bytesL s).getD n 0 + 256 * (bytesL s).getD (n + 1) 0 + 65536 * (bytesL s).getD (n + 2) 0 + 16777216 * (bytesL s).getD (n + 3) 0)), ⟨4, ⟨rfl, rfl, rfl⟩, .inl ⟨rfl, by decide, rfl⟩⟩, ?_⟩, ?_⟩
  · rintro m t a z v i ⟨⟨rfl, rfl, rfl⟩, h1⟩
    refine ifP (fun hge => ?_) (fun hlt => ⟨rfl, rfl, rfl, ?_⟩)
    · have hi : i ≤ 3 := by omega
      rw [w64 (x := (n : Int) + i) (by omega), w64 (x := i - 1) (by omega)]
      refine ⟨⟨by omega, by omega⟩, m - 1, by omega, ⟨rfl, rfl, rfl⟩, ?_⟩
      rcases h1 with ⟨rfl, rfl, rfl⟩ | ⟨rfl, rfl, rfl⟩ | ⟨rfl, rfl, rfl⟩ | ⟨rfl, rfl, rfl⟩ | ⟨rfl, rfl, rfl⟩
      · rw [show ((n : Int) + 3).toNat = n + 3 by omega, w64 (x := 256 * 0) (by omega), w64 (x := (bytesL s).getD (n + 3) 0) (by omega), w64 (by omega)]
        exact .inr (.inl ⟨rfl, rfl, by omega⟩)
      · rw [show ((n : Int) + 2).toNat = n + 2 by omega, w64 (x := 256 * (bytesL s).getD (n + 3) 0) (by omega), w64 (x := (bytesL s).getD (n + 2) 0) (by omega), w64 (by omega)]
        exact .inr (.inr (.inl ⟨rfl, rfl, by omega⟩))
      · rw [show ((n : Int) + 1).toNat = n + 1 by omega, w64 (x := 256 * ((bytesL s).getD (n + 2) 0 + 256 * (bytesL s).getD (n + 3) 0)) (by omega), w64 (x := (bytesL s).getD (n + 1) 0) (by omega), w64 (by omega)]
        exact .inr (.inr (.inr (.inl ⟨rfl, rfl, by omega⟩)))
      · rw [show ((n : Int) + 0).toNat = n by omega, w64 (x := 256 * ((bytesL s).getD (n + 1) 0 + 256 * (bytesL s).getD (n + 2) 0 + 65536 * (bytesL s).getD (n + 3) 0)) (by omega), w64 (x := (bytesL s).getD n 0) (by omega), w64 (by omega)]
        exact .inr (.inr (.inr (.inr ⟨rfl, rfl, by omega⟩)))
      · omega
    · rcases h1 with ⟨rfl, rfl, rfl⟩ | ⟨rfl, rfl, rfl⟩ | ⟨rfl, rfl, rfl⟩ | ⟨rfl, rfl, rfl⟩ | ⟨rfl, rfl, rfl⟩ <;> first | omega | rfl
  · rintro t a z v ⟨rfl, rfl, rfl, rfl⟩
    rw [w64 (x := (n : Int) + 4) (by omega), w64 (x := (n : Int) + 4 - 1) (by omega)]
    refine ⟨⟨by omega, by omega⟩, ?_⟩
    rw [show ((n : Int) + 4 - 1).toNat = n + 3 by omega]
    have e : IntKind.wrap .i64 ((1 : Int) * 2 ^ min (Int.toNat (IntKind.wrap .u64 (IntKind.wrap .i64 ((8 : Int) * 4)))) (IntKind.bits .i64)) = 4294967296 := by decide
    refine ifP (fun hge => ⟨by decide, ?_⟩) (fun hlt => ?_)
    · rw [e, w64 (by omega)]
      refine ⟨?_, rfl⟩
      unfold four
      rw [getD_drop', getD_drop', getD_drop', getD_drop', if_pos (by omega)]
      rfl
    · refine ⟨?_, rfl⟩
      unfold four
      rw [getD_drop', getD_drop', getD_drop', getD_drop', if_neg (by omega), Int.sub_zero]
      rfl
def K_take4 (C : Calls_) : Prop := ∀ s : ByteArray, s.size = 4 → C n_impl_take [.one (.str s)] [] (.one (.int .i64 (four (bytesL s)))) []
theorem p_impl_take (s : ByteArray) (h : s.size = 4) : v_impl_take C (fun r os => r = .one (.int .i64 (four (bytesL s))) ∧ os = []) s := by
  have b0 := bytes_at (s := s) (i := 0)
  have b1 := bytes_at (s := s) (i := 1)
  have b2 := bytes_at (s := s) (i := 2)
  have b3 := bytes_at (s := s) (i := 3)
  have e8 : (2 : Int) ^ min (Int.toNat (8 : Int)) (IntKind.bits .i64) = 256 := by decide
  refine ⟨fun t v => s = t ∧ v = (bytesL s).getD 0 0 + 256 * (bytesL s).getD 1 0 + 65536 * (bytesL s).getD 2 0 + 16777216 * (bytesL s).getD 3 0,
    ⟨fun m t v i => s = t ∧ ((m = 4 ∧ i = 3 ∧ v = 0) ∨ (m = 3 ∧ i = 2 ∧ v = (bytesL s).getD 3 0) ∨ (m = 2 ∧ i = 1 ∧ v = (bytesL s).getD 2 0 + 256 * (bytesL s).getD 3 0) ∨
      (m = 1 ∧ i = 0 ∧ v = (bytesL s).getD 1 0 + 256 * (bytesL s).getD 2 0 + 65536 * (bytesL s).getD 3 0) ∨
      (m = 0 ∧ i = -1 ∧ v = (bytesL s).getD 0 0 + 256 * (bytesL s).getD 1 0 + 65536 * (bytesL s).getD 2 0 + 16777216 * (bytesL s).getD 3 0)), ⟨4, rfl, .inl ⟨rfl, by rw [h]; decide, rfl⟩⟩, ?_⟩, ?_⟩
  · rintro m t v i ⟨rfl, h1⟩
    refine ifP (fun hge => ?_) (fun hlt => ⟨rfl, ?_⟩)
    · refine ⟨by decide, ⟨by omega, by omega⟩, m - 1, by omega, rfl, ?_⟩
      rw [e8, w64 (x := i - 1) (by omega)]
      rcases h1 with ⟨rfl, rfl, rfl⟩ | ⟨rfl, rfl, rfl⟩ | ⟨rfl, rfl, rfl⟩ | ⟨rfl, rfl, rfl⟩ | ⟨rfl, rfl, rfl⟩
      · rw [show (3 : Int).toNat = 3 by omega, w64 (x := 0 * 256) (by omega), w64 (x := (bytesL s).getD 3 0) (by omega), or_byte (by omega) b3]
        exact .inr (.inl ⟨rfl, rfl, by omega⟩)
      · rw [show (2 : Int).toNat = 2 by omega, w64 (x := (bytesL s).getD 3 0 * 256) (by omega), w64 (x := (bytesL s).getD 2 0) (by omega), or_byte (by omega) b2]
        exact .inr (.inr (.inl ⟨rfl, rfl, by omega⟩))
      · rw [show (1 : Int).toNat = 1 by omega, w64 (x := ((bytesL s).getD 2 0 + 256 * (bytesL s).getD 3 0) * 256) (by omega), w64 (x := (bytesL s).getD 1 0) (by omega), or_byte (by omega) b1]
        exact .inr (.inr (.inr (.inl ⟨rfl, rfl, by omega⟩)))
      · rw [show (0 : Int).toNat = 0 by omega, w64 (x := ((bytesL s).getD 1 0 + 256 * (bytesL s).getD 2 0 + 65536 * (bytesL s).getD 3 0) * 256) (by omega), w64 (x := (bytesL s).getD 0 0) (by omega), or_byte (by omega) b0]
        exact .inr (.inr (.inr (.inr ⟨rfl, rfl, by omega⟩)))
      · omega
    · rcases h1 with ⟨rfl, rfl, rfl⟩ | ⟨rfl, rfl, rfl⟩ | ⟨rfl, rfl, rfl⟩ | ⟨rfl, rfl, rfl⟩ | ⟨rfl, rfl, rfl⟩ <;> first | omega | rfl
  · rintro t v ⟨rfl, rfl⟩
    have e : IntKind.wrap .i64 ((1 : Int) * 2 ^ min (Int.toNat (IntKind.wrap .i64 ((IntKind.wrap .i64 ((8 : Int) * (s.size : Int))) - (1 : Int)))) (IntKind.bits .i64)) = 2147483648 := by rw [h]; decide
    have e2 : (0 : Int) ≤ IntKind.wrap .i64 ((IntKind.wrap .i64 ((8 : Int) * (s.size : Int))) - (1 : Int)) := by rw [h]; decide
    refine ⟨e2, ?_⟩
    rw [e]
    refine ifP (fun hge => ⟨?_, rfl⟩) (fun hlt => ⟨?_, rfl⟩)
    · rw [w64 (x := 2 * 2147483648) (by omega), w64 (by omega)]
      unfold four
      rw [if_pos (by omega)]
      rfl
    · unfold four
      rw [if_neg (by omega), Int.sub_zero]
end Go.Ry
