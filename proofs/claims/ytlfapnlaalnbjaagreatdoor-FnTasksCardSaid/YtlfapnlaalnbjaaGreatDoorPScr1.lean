/- The words of a script: how often, and pins. No condition. -/
import Derived.Test.YtlfapnlaalnbjaaGreatDoorPWrd3
import Derived.Lib.IndexMore
set_option linter.unusedVariables false
set_option linter.unusedSimpArgs false
namespace Go.Ry
open Go.Proofs Go.RowKit

/-- Cut at the first colon. -/
def cutC : List UInt8 → List UInt8 × List UInt8 × Bool
  | [] => ([], [], false)
  | c :: r => if c = 58 then ([], r, true) else (c :: (cutC r).1, (cutC r).2.1, (cutC r).2.2)
theorem cut_cutC : ∀ l : List UInt8, Lib.cut l [58] = cutC l
  | [] => by simp [Lib.cut, Lib.index, cutC]
  | c :: r => by
    have ih := cut_cutC r
    have hge := Lib.index_ge r [58]
    by_cases h : c = 58
    · subst h
      simp [Lib.cut, Lib.index, cutC, List.isPrefixOf]
    · have hp : ([58] : List UInt8).isPrefixOf (c :: r) = false := by simp [List.isPrefixOf, Ne.symm h]
      have hix : Lib.index (c :: r) [58] = if Lib.index r [58] == -1 then -1 else Lib.index r [58] + 1 := by rw [Lib.index, hp]; simp
      rw [cutC, if_neg h, ← ih]
      unfold Lib.cut
      by_cases hm : Lib.index r [58] = -1
      · rw [hix, hm]; simp
      · have h1 : ¬ (Lib.index r [58] == -1) = true := by simpa using hm
        rw [hix, if_neg h1, if_pos (by omega), if_pos (by omega)]
        obtain ⟨j, hj⟩ : ∃ j : Nat, Lib.index r [58] = j := ⟨(Lib.index r [58]).toNat, by omega⟩
        rw [hj, show ((j : Int) + 1).toNat = j + 1 by omega]
        simp
theorem cutC_at : ∀ {l : List UInt8} {i : Nat}, i < l.length → (∀ j, j < i → l.getD j 0 ≠ 58) → l.getD i 0 = 58 → cutC l = (l.take i, l.drop (i + 1), true)
  | [], _, h, _, _ => by simp at h
  | c :: r, 0, _, _, h => by
    have h : c = 58 := h
    rw [cutC, if_pos h]; simp
  | c :: r, i + 1, h, h1, h2 => by
    have e : c ≠ 58 := h1 0 (by omega)
    have ih := cutC_at (l := r) (i := i) (by simpa using h) (fun j hj => by have := h1 (j + 1) (by omega); simpa using this) (by simpa using h2)
    rw [cutC, if_neg e, ih]; simp
theorem cutC_none : ∀ {l : List UInt8}, (∀ j, j < l.length → l.getD j 0 ≠ 58) → cutC l = (l, [], false)
  | [], _ => rfl
  | c :: r, h => by
    have e : c ≠ 58 := h 0 (by simp)
    rw [cutC, if_neg e, cutC_none (l := r) (fun j hj => by have := h (j + 1) (by simpa using hj); simpa using this)]
/-- What a digit of base 16 is. -/
def hexV (c : Int) : Option Int := if 48 ≤ c ∧ c ≤ 57 then some (c - 48) else if 97 ≤ c ∧ c ≤ 102 then some (c - 87) else none
theorem hexV_rng {c h : Int} (e : hexV c = some h) : 0 ≤ h ∧ h ≤ 15 := by
  unfold hexV at e
  split at e
  · have := Option.some.inj e; omega
  · split at e
    · have := Option.some.inj e; omega
    · cases e
def hexB : List Int → Option (List Int)
  | [] => some []
  | [_] => none
  | a :: b :: r => match hexV a, hexV b with
    | some h, some l => (hexB r).map ((16 * h + l) :: ·)
    | _, _ => none
theorem hexB_two (a b : Int) (r : List Int) : hexB (a :: b :: r) = match hexV a, hexV b with
    | some h, some l => (hexB r).map ((16 * h + l) :: ·)
    | _, _ => none := rfl
theorem hexB_odd : ∀ {l : List Int}, l.length % 2 = 1 → hexB l = none
  | [], h => by simp at h
  | [_], _ => rfl
  | a :: b :: r, h => by
    rw [hexB_two, hexB_odd (l := r) (by simp at h; omega)]
    cases hexV a <;> cases hexV b <;> rfl
theorem hexB_len : ∀ {l m : List Int}, hexB l = some m → l.length = 2 * m.length ∧ (∀ x ∈ m, 0 ≤ x ∧ x ≤ 255)
  | [], m, h => by rw [← Option.some.inj h]; exact ⟨rfl, fun x hx => by simp at hx⟩
  | [_], m, h => by cases h
  | a :: b :: r, m, h => by
    rw [hexB_two] at h
    cases ha : hexV a with
    | none => rw [ha] at h; cases h
    | some x =>
      cases hb : hexV b with
      | none => rw [ha, hb] at h; cases h
      | some y =>
        rw [ha, hb] at h
        cases hr : hexB r with
        | none => rw [hr] at h; cases h
        | some k =>
          rw [hr] at h
          have h := Option.some.inj h
          obtain ⟨k1, k2⟩ := hexB_len hr
          have q1 := hexV_rng ha
          have q2 := hexV_rng hb
          rw [← h]
          refine ⟨by simp; omega, fun z hz => ?_⟩
          rcases List.mem_cons.1 hz with rfl | hz
          · omega
          · exact k2 z hz
/-- A word of a script. -/
def itemM (w : ByteArray) : Option (Int × Int) :=
  match numOf (cutC w.data.toList).1, hexB ((cutC w.data.toList).2.1.map fun b => (b.toNat : Int)) with
  | some n, some [b] => if 1 ≤ n then some (n, b) else none
  | _, _ => none
/-- Pins of a byte. -/
def pinAt (b : Int) (i : Nat) : Bool := b / 2 ^ i % 2 == 1
def pinsL (b : Int) (k : Nat) : List Bool := (List.range k).map (pinAt b)
theorem pinsL_succ (b : Int) (k : Nat) : pinsL b (k + 1) = pinsL b k ++ [pinAt b k] := by simp [pinsL, List.range_succ]
theorem pinsL_len (b : Int) (k : Nat) : (pinsL b k).length = k := by simp [pinsL]
def scrM : List ByteArray → List (List Bool) → List (List Bool) × Int
  | [], out => (out, 0)
  | w :: l, out => match itemM w with
    | none => ([], 3)
    | some (n, b) => if n > 4096 - (out.length : Int) then ([], 6) else scrM l (out ++ List.replicate n.toNat (pinsL b 8))
theorem scrM_none {w : ByteArray} {l : List ByteArray} {out : List (List Bool)} (h : itemM w = none) : scrM (w :: l) out = ([], 3) := by rw [scrM, h]
theorem scrM_some {w : ByteArray} {l : List ByteArray} {out : List (List Bool)} {n b : Int} (h : itemM w = some (n, b)) : scrM (w :: l) out = if n > 4096 - (out.length : Int) then ([], 6) else scrM l (out ++ List.replicate n.toNat (pinsL b 8)) := by rw [scrM, h]
def okS (l : List (List Bool)) : Prop := l.length ≤ 4096 ∧ ∀ x ∈ l, x.length = 8
theorem scrM_ok : ∀ {l : List ByteArray} {out : List (List Bool)}, okS out → okS (scrM l out).1
  | [], out, h => h
  | w :: l, out, h => by
    cases hi : itemM w with
    | none => rw [scrM_none hi]; exact ⟨by simp, fun x hx => by simp at hx⟩
    | some p =>
      obtain ⟨n, b⟩ := p
      rw [scrM_some hi]
      split
      · exact ⟨by simp, fun x hx => by simp at hx⟩
      · have := h.1
        refine scrM_ok ⟨by rw [List.length_append, List.length_replicate]; omega, fun x hx => ?_⟩
        rcases List.mem_append.1 hx with hx | hx
        · exact h.2 x hx
        · rw [List.eq_of_mem_replicate hx, pinsL_len]
end Go.Ry
