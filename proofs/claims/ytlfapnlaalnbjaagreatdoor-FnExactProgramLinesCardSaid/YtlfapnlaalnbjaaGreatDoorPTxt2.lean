/- The laws' own functions on lists of strings: comparing, marking. No condition. -/
import Derived.Test.YtlfapnlaalnbjaaGreatDoorPNum1
import Derived.Test.YtlfapnlaalnbjaaGreatDoorPStr
set_option linter.unusedVariables false
set_option linter.unusedSimpArgs false
namespace Go.Ry
open Go.Proofs

theorem c_eq_StringS (l : List ByteArray) (hl : l.length ≤ 1048576) : TT n_laws_eqStringS [.one (.sl .str l), .one (.sl .str l)] [] (eB true) [] := by
  refine r_laws_eqStringS l l (ifN_f rfl ⟨fun m i => 0 ≤ i ∧ i ≤ l.length ∧ m = (l.length - i).toNat, ⟨_, rfl, by omega, by omega, rfl⟩, ?_⟩)
  rintro m i ⟨h0, h1, rfl⟩
  refine ifP (fun hlt => ⟨⟨h0, hlt⟩, ⟨h0, hlt⟩, ifB_f (by rw [toList_beq]; simp) ?_⟩) (fun _ => ⟨rfl, rfl⟩)
  rw [w64 (by omega)]
  exact ⟨_, by omega, rfl, by omega, by omega, rfl⟩
/-- What a mark's digits come to. -/
def mdig : Nat → Nat → ByteArray → ByteArray
  | 0, _, s => s
  | k + 1, n, s => if n = 0 then s else mdig k (n / 10) (strL [wY (wI (48 + ((n % 10 : Nat) : Int)))] ++ s)
theorem mdig_zero (k : Nat) (s : ByteArray) : mdig k 0 s = s := by cases k <;> rfl
theorem mdig_succ {k n : Nat} {s : ByteArray} (h : n ≠ 0) : mdig (k + 1) n s = mdig k (n / 10) (strL [wY (wI (48 + ((n % 10 : Nat) : Int)))] ++ s) := by
  simp only [mdig, if_neg h]
theorem strL_one (n : Int) : (strL [n]).size = 1 := rfl
def markB (n : Int) : ByteArray := if n ≤ 0 then ⟨#[109, 48]⟩ else (⟨#[109]⟩ : ByteArray) ++ mdig (n.toNat + 1) n.toNat ⟨#[]⟩
theorem c_markText (n : Int) (hn : n ≤ 1099511627776000) : TT n_laws_markText [eI n] [] (eS (markB n)) [] := by
  refine r_laws_markText n (ifP (fun h => ⟨by rw [markB, if_pos h], rfl⟩) (fun h => ?_))
  refine ⟨fun m k s => 0 ≤ k ∧ k ≤ n ∧ m = k.toNat ∧ (s.size : Int) + k ≤ n ∧ ∃ f : Nat, k < f ∧ mdig f k.toNat s = mdig (n.toNat + 1) n.toNat ⟨#[]⟩, ⟨_, by omega, by omega, rfl, ?_, n.toNat + 1, by omega, rfl⟩, ?_⟩
  · have : (⟨#[]⟩ : ByteArray).size = 0 := rfl
    omega
  rintro m k s ⟨h0, h1, rfl, h2, f, h3, h4⟩
  refine ifP (fun hk => ⟨by decide, ?_, by decide, ?_⟩) (fun hk => ⟨?_, ?_⟩)
  · rw [strL_one]; omega
  · have e1 : Int.tdiv k 10 = k / 10 := Int.tdiv_eq_ediv_of_nonneg h0
    have e2 : Int.tmod k 10 = ((k.toNat % 10 : Nat) : Int) := by rw [Int.tmod_eq_emod_of_nonneg h0]; omega
    rw [e1, e2, w64 (x := k / 10) (by omega)]
    refine ⟨_, ?_, by omega, by omega, rfl, ?_, ?_⟩
    · omega
    · rw [size_append, strL_one]; omega
    · obtain ⟨f, rfl⟩ : ∃ g, f = g + 1 := ⟨f - 1, by omega⟩
      rw [mdig_succ (by omega)] at h4
      exact ⟨f, by omega, by rw [show (k / 10).toNat = k.toNat / 10 by omega]; exact h4⟩
  · have : (⟨#[109]⟩ : ByteArray).size = 1 := rfl
    omega
  · rw [show k.toNat = 0 by omega, mdig_zero] at h4
    rw [markB, if_neg h, h4]; exact ⟨rfl, rfl⟩
def mk_StringS (n : Int) (r : List ByteArray) : List ByteArray := (List.range r.length).map fun j : Nat => markB (n + (j : Int))
theorem mk_StringS_len (n : Int) (r : List ByteArray) : (mk_StringS n r).length = r.length := by simp [mk_StringS]
theorem c_mark_StringS (r : List ByteArray) (h : r.length ≤ 1048576) (n : Int) (hn : 0 ≤ n ∧ n ≤ 1099511627000) :
    TT n_laws_markStringS [.one (.row 0), eI n] [.row t_string .str r] (eI (n + r.length)) [.row t_string .str (mk_StringS n r)] := by
  refine r_laws_markStringS n r ⟨fun m k i s => 0 ≤ i ∧ i ≤ r.length ∧ m = (r.length - i).toNat ∧ k = n + i ∧ s = markTo (fun j : Nat => markB (n + (j : Int))) r i.toNat, ⟨_, by omega, by omega, rfl, by omega, (markTo_zero _ _).symm⟩, ?_⟩
  rintro m k i s ⟨h0, h1, rfl, rfl, rfl⟩
  have hl := markTo_length (g := fun j : Nat => markB (n + (j : Int))) (r := r) (i := i.toNat) (by omega)
  refine ifP (fun hlt => ?_) (fun hge => ?_)
  · rw [hl] at hlt
    have hs : (markTo (fun j : Nat => markB (n + (j : Int))) r i.toNat).set i.toNat (markB (n + ((i.toNat : Nat) : Int))) = markTo (fun j : Nat => markB (n + (j : Int))) r (i + 1).toNat := by rw [toNat_succ h0]; exact markTo_set (by omega)
    rw [Int.toNat_of_nonneg h0] at hs
    rw [w64 (x := n + i + 1) (by omega), w64 (x := i + 1) (by omega)]
    exact ⟨_, c_markText _ (by omega), ⟨h0, by rw [hl]; exact hlt⟩, _, by omega, by omega, by omega, rfl, by omega, hs⟩
  · rw [hl] at hge
    have : i.toNat = r.length := by omega
    rw [this, markTo_all, show n + i = n + (r.length : Int) by omega]; exact ⟨rfl, rfl⟩
theorem c_held_StringS (r : List ByteArray) (h : r.length ≤ 1048576) (n : Int) (hn : 0 ≤ n ∧ n ≤ 1099511627000) :
    TT n_laws_heldStringS [.one (.sl .str (mk_StringS n r)), eI n] [] (eI (n + r.length)) [] := by
  have hlen := mk_StringS_len n r
  refine r_laws_heldStringS (mk_StringS n r) n ⟨fun m k i => 0 ≤ i ∧ i ≤ r.length ∧ m = (r.length - i).toNat ∧ k = n + i, ⟨_, rfl, by omega, by omega, rfl, by omega⟩, ?_⟩
  rintro m k i ⟨h0, h1, rfl, rfl⟩
  refine ifP (fun hlt => ?_) (fun hge => ?_)
  · have hg : (mk_StringS n r).getD i.toNat (⟨#[]⟩ : ByteArray) = markB (n + i) := by
      rw [hlen] at hlt
      have : i.toNat < r.length := by omega
      simp [mk_StringS, List.getD, this, Int.toNat_of_nonneg h0]
    rw [hg]
    refine ⟨⟨h0, hlt⟩, _, c_markText _ (by omega), ifB_f (by rw [toList_beq]; simp) ?_⟩
    rw [hlen] at hlt
    rw [w64 (x := n + i + 1) (by omega), w64 (x := i + 1) (by omega)]
    exact ⟨_, by omega, rfl, by omega, by omega, rfl, by omega⟩
  · rw [hlen] at hge
    rw [show n + i = n + (r.length : Int) by omega]; exact ⟨rfl, rfl⟩
end Go.Ry
