/- What RisesOf of the program and of the reference come to: the same. No condition. -/
import Derived.Test.YtnnhfeopdhnlhaaBase
import Derived.Test.YtnnhfeopdhnlhaaVAll
set_option linter.unusedVariables false
set_option linter.unusedSimpArgs false
namespace Go.Ry
variable {C : Calls_}

theorem p_laws_eqIntS (l : List Int) (h : l.length ≤ 1048576) : v_laws_eqIntS C (fun r os => r = .one (.bool true) ∧ os = []) l l := by
  refine ifN_f rfl ⟨fun m a b i => l = a ∧ l = b ∧ 0 ≤ i ∧ i ≤ l.length ∧ m = (l.length - i).toNat, ⟨_, rfl, rfl, by omega, by omega, rfl⟩, ?_⟩
  rintro m _ _ i ⟨rfl, rfl, h0, h1, rfl⟩
  refine ifP (fun hlt => ⟨⟨h0, hlt⟩, ⟨h0, hlt⟩, ifN_f rfl ⟨_, ?_, rfl, rfl, ?_, ?_, rfl⟩⟩) (fun hge => ⟨rfl, rfl⟩)
  all_goals rw [w64 (by omega)]
  all_goals omega
def markB (n : Int) (r : List Bool) : List Bool := (List.range r.length).map fun j : Nat => Int.tmod (n + (j : Int)) 3 == 0
def markI (n : Int) (r : List Int) : List Int := (List.range r.length).map fun j : Nat => n + (j : Int)
theorem p_laws_markIntS (n : Int) (r : List Int) (hn : 0 ≤ n ∧ n ≤ 1099511627776) (h : r.length ≤ 1048576) :
    v_laws_markIntS C (fun x os => x = .one (.int .i64 (n + r.length)) ∧ os = [.row t_int (.int .i64) (markI n r)]) n r := by
  refine ⟨fun m k i s => 0 ≤ i ∧ i ≤ r.length ∧ m = (r.length - i).toNat ∧ k = n + i ∧ s = markTo (fun j : Nat => n + (j : Int)) r i.toNat, ⟨_, by omega, by omega, rfl, by omega, (markTo_zero _ _).symm⟩, ?_⟩
  rintro m k i s ⟨h0, h1, rfl, rfl, rfl⟩
  have hl := markTo_length (g := fun j : Nat => n + (j : Int)) (r := r) (i := i.toNat) (by omega)
  refine ifP (fun hlt => ?_) (fun hge => ?_)
  · rw [w64 (by omega), w64 (by omega)]
    refine ⟨⟨h0, hlt⟩, _, ?_, by omega, by omega, rfl, by omega, ?_⟩
    · omega
    · rw [toNat_succ h0, ← markTo_set (by omega), show ((i.toNat : Nat) : Int) = i by omega]
  · have : i.toNat = r.length := by omega
    rw [this, markTo_all]
    exact ⟨by rw [show i = (r.length : Int) by omega], rfl⟩
theorem p_laws_heldIntS (n : Int) (k : Nat) (hn : 0 ≤ n ∧ n ≤ 1099511627776) (h : k ≤ 1048576) (l : List Int) (hl : l = (List.range k).map fun j : Nat => n + (j : Int)) :
    v_laws_heldIntS C (fun x os => x = .one (.int .i64 (n + k)) ∧ os = []) l n := by
  have hlen : l.length = k := by rw [hl]; simp
  refine ⟨fun m a q i => l = a ∧ 0 ≤ i ∧ i ≤ k ∧ m = (k - i).toNat ∧ q = n + i, ⟨_, rfl, by omega, by omega, rfl, by omega⟩, ?_⟩
  rintro m _ q i ⟨rfl, h0, h1, rfl, rfl⟩
  refine ifP (fun hlt => ⟨⟨h0, hlt⟩, ifN_f ?_ ?_⟩) (fun hge => ⟨by rw [show i = (k : Int) by omega], rfl⟩)
  · rw [List.getD_eq_getElem?_getD, hl, List.getElem?_map, List.getElem?_range (by omega)]
    simp; omega
  · rw [w64 (by omega), w64 (by omega)]
    exact ⟨_, by omega, rfl, by omega, by omega, rfl, by omega⟩

/-- The pins that rise among the first n. -/
def rises (a b : List Bool) (n : Nat) : List Int := ((List.range n).filter fun i => b.getD i false && !a.getD i false).map fun i : Nat => (i : Int)
theorem rises_succ (a b : List Bool) (n : Nat) : rises a b (n + 1) = rises a b n ++ (if (b.getD n false && !a.getD n false) = true then [(n : Int)] else []) := by
  unfold rises
  rw [List.range_succ, List.filter_append, List.map_append]
  congr 1
  by_cases h : (b.getD n false && !a.getD n false) = true
  · rw [if_pos h]; simp only [List.filter_cons, List.filter_nil, h, if_true]; rfl
  · rw [if_neg h]; simp only [List.filter_cons, List.filter_nil, h]; rfl
theorem rises_length (a b : List Bool) (n : Nat) : (rises a b n).length ≤ n := by
  unfold rises
  rw [List.length_map]
  have := List.length_filter_le (fun i => b.getD i false && !a.getD i false) (List.range n)
  simpa using this
def risesR (a b : List Bool) : Int × List Int :=
  if 4096 < a.length then (2, []) else if 4096 < b.length then (2, []) else if a.length ≠ 8 then (8, []) else if b.length ≠ 8 then (8, []) else (0, rises a b 8)

theorem p_impl_when (b : Bool) (n : Int) : v_impl_when C (fun r os => r = .one (.int .i64 (if b = true then n else 0)) ∧ os = []) b n :=
  ifB_cases (fun h => by rw [if_pos h]; exact ⟨rfl, rfl⟩) (fun h => by rw [if_neg (by simp [h])]; exact ⟨rfl, rfl⟩)
/-- The first of some codes that is not 0. -/
def firstN : List Int → Int
  | [] => 0
  | x :: l => if x ≠ 0 then x else firstN l
theorem firstN_drop (l : List Int) (i : Nat) (h : i < l.length) : firstN (l.drop i) = if l.getD i 0 ≠ 0 then l.getD i 0 else firstN (l.drop (i + 1)) := by
  rw [List.drop_eq_getElem_cons h]
  simp [firstN, List.getD, List.getElem?_eq_getElem h]
theorem p_impl_first (l : List Int) (h : l.length ≤ 1048576) : v_impl_first C (fun r os => r = .one (.int .i64 (firstN l)) ∧ os = []) l := by
  refine ⟨fun m a n i => l = a ∧ n = l.length ∧ 0 ≤ i ∧ i ≤ l.length ∧ m = (l.length - i).toNat ∧ firstN l = firstN (l.drop i.toNat), ⟨_, rfl, rfl, by omega, by omega, rfl, rfl⟩, ?_⟩
  rintro m _ _ i ⟨rfl, rfl, h0, h1, rfl, h2⟩
  refine ifP (fun hlt => ⟨⟨h0, hlt⟩, ?_⟩) (fun hge => ?_)
  · rw [firstN_drop l i.toNat (by omega)] at h2
    refine ifN (fun hn => ?_) (fun hn => ?_)
    · have hn : l.getD i.toNat 0 ≠ 0 := hn
      rw [if_pos hn] at h2
      exact ⟨by rw [h2], rfl⟩
    · rw [if_neg (fun h => h hn)] at h2
      rw [w64 (by omega)]
      exact ⟨_, by omega, rfl, rfl, by omega, by omega, rfl, by rw [h2, toNat_succ h0]⟩
  · rw [show i.toNat = l.length by omega, List.drop_length] at h2
    exact ⟨by rw [h2]; rfl, rfl⟩
/-! ### the contracts -/
def K_eqIntS (C : Calls_) : Prop := ∀ l : List Int, l.length ≤ 1048576 → C n_laws_eqIntS [.one (.sl (.int .i64) l), .one (.sl (.int .i64) l)] [] (.one (.bool true)) []
def K_markIntS (C : Calls_) : Prop := ∀ (n : Int) (r : List Int), 0 ≤ n ∧ n ≤ 1099511627776 → r.length ≤ 1048576 → C n_laws_markIntS [.one (.row 0), .one (.int .i64 n)] [.row t_int (.int .i64) r] (.one (.int .i64 (n + r.length))) [.row t_int (.int .i64) (markI n r)]
def K_heldIntS (C : Calls_) : Prop := ∀ (n : Int) (r : List Int), 0 ≤ n ∧ n ≤ 1099511627776 → r.length ≤ 1048576 → C n_laws_heldIntS [.one (.sl (.int .i64) (markI n r)), .one (.int .i64 n)] [] (.one (.int .i64 (n + r.length))) []
def K_when (C : Calls_) : Prop := ∀ (b : Bool) (n : Int), C n_impl_when [.one (.bool b), .one (.int .i64 n)] [] (.one (.int .i64 (if b = true then n else 0))) []
def K_first (C : Calls_) : Prop := ∀ l : List Int, l.length ≤ 1048576 → C n_impl_first [.one (.sl (.int .i64) l)] [] (.one (.int .i64 (firstN l))) []
end Go.Ry
