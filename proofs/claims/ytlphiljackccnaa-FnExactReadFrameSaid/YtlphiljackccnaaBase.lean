/- Plain lemmas for the seat's pure proofs: numbers, bytes, "eventually" (Ev). No condition. -/
import Derived.Test.YtlphiljackccnaaWMore
import Derived.Test.YtlphiljackccnaaWNEv
import Derived.Laws.BitsLemmas
namespace Go.Proofs.YtlphiljackccnaaB
open Go.RowKit Go.Proofs.YtlphiljackccnaaW.PrintWords Go.Proofs.YtlphiljackccnaaW.PrintLast Go.Proofs.YtlphiljackccnaaW.PrintMore

theorem w64 {x : Int} (h0 : -9223372036854775808 ≤ x ∧ x ≤ 9223372036854775807) : wrap64 x = x := by unfold wrap64; omega
theorem w64_wf {x : Int} (h : (Lit.int .i64 x).wf = true) : -9223372036854775808 ≤ x ∧ x ≤ 9223372036854775807 := by
  simp only [Lit.wf, IntKind.min, IntKind.max, IntKind.signed, IntKind.bits, Bool.and_eq_true, decide_eq_true_eq, if_true] at h
  omega

/-- Eventually: a step by an equation at each number of rounds. -/
theorem ev_congr {α : Type} {g f : Nat → Option α} {r : α} (k : Ev f r) (h : ∀ k, g k = f k) : Ev g r := Ev.congr h k
theorem ev_some {α : Type} {r r' : α} (h : r' = r) : Ev (fun _ => some r') r := h ▸ Ev.now r'
theorem ev_eq {α : Type} {g : Nat → Option α} {r r' : α} (h : Ev g r') (e : r' = r) : Ev g r := e ▸ h
theorem ev_bind {α β : Type} {g : Nat → Option α} {f : Nat → α → Option β} {a : α} {r : β} (h : Ev g a) (k : Ev (fun n => f n a) r) : Ev (fun n => (g n).bind (f n)) r := Ev.bind h k
/-- A call that needs no rounds. -/
theorem ev_now {α β : Type} {o : Option α} {f : Nat → α → Option β} {a : α} {r : β} (h : o = some a) (k : Ev (fun n => f n a) r) : Ev (fun n => o.bind (f n)) r := by
  subst h; exact k
theorem ev_pos {α : Type} {c : Prop} [Decidable c] {f g : Nat → Option α} {r : α} (h : c) (k : Ev f r) : Ev (fun n => if c then f n else g n) r := by
  simpa only [if_pos h] using k
theorem ev_neg {α : Type} {c : Prop} [Decidable c] {f g : Nat → Option α} {r : α} (h : ¬ c) (k : Ev g r) : Ev (fun n => if c then f n else g n) r := by
  simpa only [if_neg h] using k
theorem ev_ite {α : Type} {c : Prop} [Decidable c] {a b : α} : Ev (fun _ => if c then some a else some b) (if c then a else b) := by
  by_cases h : c
  · simp only [if_pos h]; exact Ev.now _
  · simp only [if_neg h]; exact Ev.now _
/-- Loops: from a bound on the rounds. -/
theorem ev_of {α : Type} {g : Nat → Option α} {r : α} (n : Nat) (h : ∀ k, n ≤ k → g k = some r) : Ev g r := ⟨n, h⟩
/-- One round: g (k+1) unfolds to f k. -/
theorem ev_step {α : Type} {g f : Nat → Option α} {r : α} (k : Ev f r) (h : ∀ k, g (k + 1) = f k) : Ev g r := Ev.step h k

/-! ### bits -/
theorem or_byte {x y : Int} (hx : 0 ≤ x ∧ x < 36028797018963968) (hy : 0 ≤ y ∧ y < 256) : bits .or .i64 (x * 256) y = x * 256 + y := by
  refine bits_join .i64 63 (by decide) (fun n h0 h1 => ?_) 8 (x * 256) y (by omega) (by omega) ?_ hy.1 (by omega) ?_
  · rw [IntKind.wrap_i64]; have h2 : n < 9223372036854775808 := by simpa using h1
    omega
  · show x * 256 < 9223372036854775808; omega
  · show y < 9223372036854775808; omega

theorem or_zero {y : Int} (hy : 0 ≤ y ∧ y < 256) : bits .or .i64 0 y = y := by
  have := or_byte (x := 0) (y := y) (by omega) hy
  simpa using this

/-! ### bytes of strings -/
theorem bt_in (s : ByteArray) (i : Nat) (h : i < s.size) : bt s (i : Int) = ((s[i]'h).toNat : Int) := by
  unfold bt; rw [dif_pos (by simpa using h)]; simp
theorem bt_extract {s : ByteArray} {a b : Nat} {i : Int} (h0 : 0 ≤ i) (h1 : a + i < b) (h2 : b ≤ s.size) : bt (s.extract a b) i = bt s (a + i) := by
  obtain ⟨j, rfl⟩ := Int.eq_ofNat_of_zero_le h0
  have h1' : a + j < b := by omega
  have hs : (s.extract a b).size = b - a := by rw [ByteArray.size_extract]; omega
  rw [bt_in _ j (by omega), show ((a : Int) + (j : Int)) = ((a + j : Nat) : Int) by omega, bt_in _ (a + j) (by omega)]
  rw [ByteArray.getElem_extract]
/-- The signed number of z bytes (1, 2 or 4) from a on, the lowest first. -/
def takeV (s : ByteArray) (a z : Int) : Int :=
  if z = 1 then (if bt s a ≥ 128 then bt s a - 256 else bt s a)
  else if z = 2 then (if bt s (a + 1) ≥ 128 then bt s a + 256 * bt s (a + 1) - 65536 else bt s a + 256 * bt s (a + 1))
  else (if bt s (a + 3) ≥ 128 then bt s a + 256 * bt s (a + 1) + 65536 * bt s (a + 2) + 16777216 * bt s (a + 3) - 4294967296 else bt s a + 256 * bt s (a + 1) + 65536 * bt s (a + 2) + 16777216 * bt s (a + 3))
theorem takeV_extract {s : ByteArray} {a b : Nat} {i z : Int} (h0 : 0 ≤ i) (hz : z = 1 ∨ z = 2 ∨ z = 4) (h1 : a + i + z ≤ b) (h2 : b ≤ s.size) : takeV (s.extract a b) i z = takeV s (a + i) z := by
  unfold takeV
  rcases hz with rfl | rfl | rfl
  · rw [bt_extract h0 (by omega) h2]; rfl
  · rw [bt_extract h0 (by omega) h2, bt_extract (by omega) (by omega) h2, show (a : Int) + (i + 1) = a + i + 1 by omega]; rfl
  · rw [bt_extract h0 (by omega) h2, bt_extract (i := i + 1) (by omega) (by omega) h2, bt_extract (i := i + 2) (by omega) (by omega) h2, bt_extract (i := i + 3) (by omega) (by omega) h2, show (a : Int) + (i + 1) = a + i + 1 by omega, show (a : Int) + (i + 2) = a + i + 2 by omega, show (a : Int) + (i + 3) = a + i + 3 by omega]
theorem size_extract {s : ByteArray} {a b : Nat} (h : b ≤ s.size) : (s.extract a b).size = b - a := by rw [ByteArray.size_extract]; omega
theorem shl_8 : shl .i64 1 (IntKind.u64.wrap 8) = 256 := by decide +kernel
theorem shl_16 : shl .i64 1 (IntKind.u64.wrap 16) = 65536 := by decide +kernel
theorem shl_32 : shl .i64 1 (IntKind.u64.wrap 32) = 4294967296 := by decide +kernel
theorem shl_7 : shl .i64 1 7 = 128 := by decide +kernel
theorem shl_15 : shl .i64 1 15 = 32768 := by decide +kernel
theorem shl_31 : shl .i64 1 31 = 2147483648 := by decide +kernel
theorem u64_8 : 0 ≤ IntKind.u64.wrap 8 := by decide +kernel
theorem u64_16 : 0 ≤ IntKind.u64.wrap 16 := by decide +kernel
theorem u64_32 : 0 ≤ IntKind.u64.wrap 32 := by decide +kernel
end Go.Proofs.YtlphiljackccnaaB
