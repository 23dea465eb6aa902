/- What RisesOf of the program and of the reference come to: the same. No condition. -/
import Derived.Test.YtlphiljackccnaaBase
import Derived.Test.YtlphiljackccnaaVAll
set_option linter.unusedVariables false
set_option linter.unusedSimpArgs false
namespace Go.Ry
variable {C : Calls_}

theorem p_laws_toBoolS (l : List Bool) (h : l.length ≤ 1048576) : v_laws_toBoolS C (fun r os => r = .one (.row 0) ∧ os = [.row t_bool .bool l]) l := by
  refine ⟨rfl, ⟨by omega, by omega⟩, fun m l5 i r => l = l5 ∧ 0 ≤ i ∧ i ≤ l.length ∧ m = (l.length - i).toNat ∧ r = fillTo id false l i.toNat, ⟨_, rfl, by omega, by omega, rfl, ?_⟩, ?_⟩
  · exact (fillTo_zero id false l).symm
  · rintro m _ i r ⟨rfl, h0, h1, rfl, rfl⟩
    refine ifP (fun hlt => ?_) (fun hge => ?_)
    · have hl := fillTo_length (f := id) (d := false) (l := l) (i := i.toNat) (by omega)
      refine ⟨⟨h0, by omega⟩, ⟨h0, by omega⟩, _, ?_, rfl, ?_, ?_, rfl, ?_⟩
      all_goals rw [w64 (by omega)]
      · omega
      · omega
      · omega
      · rw [toNat_succ h0, ← fillTo_set (by omega) false]; rfl
    · have : i.toNat = l.length := by omega
      rw [this, fillTo_all]
      exact ⟨rfl, by simp⟩

theorem p_laws_eqIntS (l : List Int) (h : l.length ≤ 1048576) : v_laws_eqIntS C (fun r os => r = .one (.bool true) ∧ os = []) l l := by
  refine ifN_f rfl ⟨fun m a b i => l = a ∧ l = b ∧ 0 ≤ i ∧ i ≤ l.length ∧ m = (l.length - i).toNat, ⟨_, rfl, rfl, by omega, by omega, rfl⟩, ?_⟩
  rintro m _ _ i ⟨rfl, rfl, h0, h1, rfl⟩
  refine ifP (fun hlt => ⟨⟨h0, hlt⟩, ⟨h0, hlt⟩, ifN_f rfl ⟨_, ?_, rfl, rfl, ?_, ?_, rfl⟩⟩) (fun hge => ⟨rfl, rfl⟩)
  all_goals rw [w64 (by omega)]
  all_goals omega
theorem p_laws_eqBoolS (l : List Bool) (h : l.length ≤ 1048576) : v_laws_eqBoolS C (fun r os => r = .one (.bool true) ∧ os = []) l l := by
  refine ifN_f rfl ⟨fun m a b i => l = a ∧ l = b ∧ 0 ≤ i ∧ i ≤ l.length ∧ m = (l.length - i).toNat, ⟨_, rfl, rfl, by omega, by omega, rfl⟩, ?_⟩
  rintro m _ _ i ⟨rfl, rfl, h0, h1, rfl⟩
  refine ifP (fun hlt => ⟨⟨h0, hlt⟩, ⟨h0, hlt⟩, ifB_f (by simp) ⟨_, ?_, rfl, rfl, ?_, ?_, rfl⟩⟩) (fun hge => ⟨rfl, rfl⟩)
  all_goals rw [w64 (by omega)]
  all_goals omega

def markB (n : Int) (r : List Bool) : List Bool := (List.range r.length).map fun j : Nat => Int.tmod (n + (j : Int)) 3 == 0
def markI (n : Int) (r : List Int) : List Int := (List.range r.length).map fun j : Nat => n + (j : Int)
theorem p_laws_markBoolS (n : Int) (r : List Bool) (hn : 0 ≤ n ∧ n ≤ 1099511627776) (h : r.length ≤ 1048576) :
    v_laws_markBoolS C (fun x os => x = .one (.int .i64 (n + r.length)) ∧ os = [.row t_bool .bool (markB n r)]) n r := by
  refine ⟨fun m k i s => 0 ≤ i ∧ i ≤ r.length ∧ m = (r.length - i).toNat ∧ k = n + i ∧ s = markTo (fun j : Nat => Int.tmod (n + (j : Int)) 3 == 0) r i.toNat, ⟨_, by omega, by omega, rfl, by omega, (markTo_zero _ _).symm⟩, ?_⟩
  rintro m k i s ⟨h0, h1, rfl, rfl, rfl⟩
  have hl := markTo_length (g := fun j : Nat => Int.tmod (n + (j : Int)) 3 == 0) (r := r) (i := i.toNat) (by omega)
  refine ifP (fun hlt => ?_) (fun hge => ?_)
  · rw [w64 (by omega), w64 (by omega)]
    refine ⟨by decide, ⟨h0, hlt⟩, _, ?_, by omega, by omega, rfl, by omega, ?_⟩
    · omega
    · rw [toNat_succ h0, ← markTo_set (by omega), show ((i.toNat : Nat) : Int) = i by omega]
  · have : i.toNat = r.length := by omega
    rw [this, markTo_all]
    exact ⟨by rw [show i = (r.length : Int) by omega], rfl⟩
theorem p_laws_markIntS (n : Int) (r : List Int) (hn : 0 ≤ n ∧ n ≤ 1099511627776) (h : r.length ≤ 1048576) :
    v_laws_markIntS C (fun x os => x = .one (.int .i64 (n + r.length)) ∧ os = [.row t_int (.int .i64) (markI n r)]) n r := by
  refine ⟨fun m k i s => 0 ≤ i ∧ i ≤ r.length ∧ m = (r.length - i).toNat ∧ k = n + i ∧ s = markTo (fun j : Nat => n + (j : Int)) r i.toNat, ⟨_, by omega, by omega, rfl, by omega, (markTo_zero _ _).symm⟩, ?_⟩
  rintro m k i s ⟨h0, h1, rfl, rfl, rfl⟩
  have hl := markTo_length (g := fun j : Nat => n + (j : Int)) (r := r) (i := i.toNat) (by omega)
  refine ifP (fun hlt => ?_) (fun hge => ?_)
  · rw [w64 (by omega), w64 (by omega)]
    refine ⟨⟨h0, hlt⟩, _, ?_, by omega, by omega, rfl, by omega, ?_⟩
    · omega
    · rw [toNat_succ h0, ← markTo_set (by omega), show ((i.toNat : Nat) : Int) = i by omega]
  · have : i.toNat = r.length := by omega
    rw [this, markTo_all]
    exact ⟨by rw [show i = (r.length : Int) by omega], rfl⟩
theorem p_laws_heldIntS (n : Int) (k : Nat) (hn : 0 ≤ n ∧ n ≤ 1099511627776) (h : k ≤ 1048576) (l : List Int) (hl : l = (List.range k).map fun j : Nat => n + (j : Int)) :
    v_laws_heldIntS C (fun x os => x = .one (.int .i64 (n + k)) ∧ os = []) l n := by
  have hlen : l.length = k := by rw [hl]; simp
  refine ⟨fun m a q i => l = a ∧ 0 ≤ i ∧ i ≤ k ∧ m = (k - i).toNat ∧ q = n + i, ⟨_, rfl, by omega, by omega, rfl, by omega⟩, ?_⟩
  rintro m _ q i ⟨rfl, h0, h1, rfl, rfl⟩
  refine ifP (fun hlt => ⟨⟨h0, hlt⟩, ifN_f ?_ ?_⟩) (fun hge => ⟨by rw [show i = (k : Int) by omega], rfl⟩)
  · rw [List.getD_eq_getElem?_getD, hl, List.getElem?_map, List.getElem?_range (by omega)]
    simp; omega
  · rw [w64 (by omega), w64 (by omega)]
    exact ⟨_, by omega, rfl, by omega, by omega, rfl, by omega⟩

/-- The pins that rise among the first n. -/
def rises (a b : List Bool) (n : Nat) : List Int := ((List.range n).filter fun i => b.getD i false && !a.getD i false).map fun i : Nat => (i : Int)
theorem rises_succ (a b : List Bool) (n : Nat) : rises a b (n + 1) = rises a b n ++ (if (b.getD n false && !a.getD n false) = true then [(n : Int)] else []) := by
  unfold rises
  rw [List.range_succ, List.filter_append, List.map_append]
  congr 1
  by_cases h : (b.getD n false && !a.getD n false) = true
  · rw [if_pos h]; simp only [List.filter_cons, List.filter_nil, h, if_true]; rfl
  · rw [if_neg h]; simp only [List.filter_cons, List.filter_nil, h]; rfl
theorem rises_length (a b : List Bool) (n : Nat) : (rises a b n).length ≤ n := by
  unfold rises
  rw [List.length_map]
  have := List.length_filter_le (fun i => b.getD i false && !a.getD i false) (List.range n)
  simpa using this
def risesR (a b : List Bool) : Int × List Int :=
  if 4096 < a.length then (2, []) else if 4096 < b.length then (2, []) else if a.length ≠ 8 then (8, []) else if b.length ≠ 8 then (8, []) else (0, rises a b 8)

theorem p_spec_RisesOf (a b : List Bool) : v_spec_RisesOf C (fun r os => r = .tup [(false, [.row 0]), (false, [.int .i64 (risesR a b).1])] ∧ os = [.row t_int (.int .i64) (risesR a b).2]) a b := by
  unfold risesR
  refine ifP (fun h1 => by rw [if_pos (by omega)]; exact ⟨rfl, rfl⟩) (fun h1 => ?_)
  rw [if_neg (by omega)]
  refine ifP (fun h2 => by rw [if_pos (by omega)]; exact ⟨rfl, rfl⟩) (fun h2 => ?_)
  rw [if_neg (by omega)]
  refine ifN (fun h3 => by rw [if_pos (by omega)]; exact ⟨rfl, rfl⟩) (fun h3 => ?_)
  rw [if_neg (by omega)]
  refine ifN (fun h4 => by rw [if_pos (by omega)]; exact ⟨rfl, rfl⟩) (fun h4 => ?_)
  rw [if_neg (by omega)]
  refine ⟨fun m x y i r => a = x ∧ b = y ∧ 0 ≤ i ∧ i ≤ 8 ∧ m = (8 - i).toNat ∧ r = rises a b i.toNat, ⟨_, rfl, rfl, by omega, by omega, rfl, rfl⟩, ?_⟩
  rintro m _ _ i r ⟨rfl, rfl, h5, h6, rfl, rfl⟩
  have hs := rises_succ a b i.toNat
  have hl := rises_length a b i.toNat
  rw [← toNat_succ h5, show ((i.toNat : Nat) : Int) = i by omega] at hs
  refine ifP (fun hlt => ?_) (fun hge => by rw [show i = 8 by omega]; exact ⟨rfl, rfl⟩)
  rw [w64 (by omega)]
  refine ⟨⟨h5, by omega⟩, ifB_cases (fun h7 => ⟨⟨h5, by omega⟩, ifB_cases (fun h8 => ⟨by simp; omega, _, ?_, rfl, rfl, by omega, by omega, rfl, ?_⟩) (fun h8 => ⟨_, ?_, rfl, rfl, by omega, by omega, rfl, ?_⟩)⟩) (fun h7 => ⟨_, ?_, rfl, rfl, by omega, by omega, rfl, ?_⟩)⟩
  · omega
  · rw [hs, if_pos (by rw [Bool.and_eq_true]; exact ⟨h7, h8⟩)]
  · omega
  · rw [hs, if_neg (by rw [Bool.and_eq_true]; intro h; rw [show (!a.getD i.toNat false) = _ from h8] at h; simp at h), List.append_nil]
  · omega
  · rw [hs, if_neg (by rw [Bool.and_eq_true]; intro h; rw [show (b.getD i.toNat false) = _ from h7] at h; simp at h), List.append_nil]

theorem p_impl_when (b : Bool) (n : Int) : v_impl_when C (fun r os => r = .one (.int .i64 (if b = true then n else 0)) ∧ os = []) b n :=
  ifB_cases (fun h => by rw [if_pos h]; exact ⟨rfl, rfl⟩) (fun h => by rw [if_neg (by simp [h])]; exact ⟨rfl, rfl⟩)
theorem p_impl_many_bool (hw : ∀ b n, C n_impl_when [.one (.bool b), .one (.int .i64 n)] [] (.one (.int .i64 (if b = true then n else 0))) []) (l : List Bool) :
    v_impl_many_bool C (fun r os => r = .one (.int .i64 (if 4096 < l.length then 2 else 0)) ∧ os = []) l := by
  refine ⟨_, hw _ _, rfl, ?_, rfl⟩
  simp only [decide_eq_true_eq, gt_iff_lt]
  by_cases h : 4096 < l.length
  · rw [if_pos h, if_pos (by omega)]
  · rw [if_neg h, if_neg (by omega)]
/-- The first of some codes that is not 0. -/
def firstN : List Int → Int
  | [] => 0
  | x :: l => if x ≠ 0 then x else firstN l
theorem firstN_drop (l : List Int) (i : Nat) (h : i < l.length) : firstN (l.drop i) = if l.getD i 0 ≠ 0 then l.getD i 0 else firstN (l.drop (i + 1)) := by
  rw [List.drop_eq_getElem_cons h]
  simp [firstN, List.getD, List.getElem?_eq_getElem h]
theorem p_impl_first (l : List Int) (h : l.length ≤ 1048576) : v_impl_first C (fun r os => r = .one (.int .i64 (firstN l)) ∧ os = []) l := by
  refine ⟨fun m a n i => l = a ∧ n = l.length ∧ 0 ≤ i ∧ i ≤ l.length ∧ m = (l.length - i).toNat ∧ firstN l = firstN (l.drop i.toNat), ⟨_, rfl, rfl, by omega, by omega, rfl, rfl⟩, ?_⟩
  rintro m _ _ i ⟨rfl, rfl, h0, h1, rfl, h2⟩
  refine ifP (fun hlt => ⟨⟨h0, hlt⟩, ?_⟩) (fun hge => ?_)
  · rw [firstN_drop l i.toNat (by omega)] at h2
    refine ifN (fun hn => ?_) (fun hn => ?_)
    · have hn : l.getD i.toNat 0 ≠ 0 := hn
      rw [if_pos hn] at h2
      exact ⟨by rw [h2], rfl⟩
    · rw [if_neg (fun h => h hn)] at h2
      rw [w64 (by omega)]
      exact ⟨_, by omega, rfl, rfl, by omega, by omega, rfl, by rw [h2, toNat_succ h0]⟩
  · rw [show i.toNat = l.length by omega, List.drop_length] at h2
    exact ⟨by rw [h2]; rfl, rfl⟩
theorem p_impl_risesOf (a b : List Bool) (ha : a.length = 8) (hb : b.length = 8) : v_impl_risesOf C (fun r os => r = .one (.row 0) ∧ os = [.row t_int (.int .i64) (rises a b 8)]) a b := by
  refine ⟨fun m x y n i r => a = x ∧ b = y ∧ n = 8 ∧ 0 ≤ i ∧ i ≤ 8 ∧ m = (8 - i).toNat ∧ r = rises a b i.toNat, ⟨_, rfl, rfl, by omega, by omega, by omega, rfl, rfl⟩, ?_⟩
  rintro m _ _ _ i r ⟨rfl, rfl, rfl, h5, h6, rfl, rfl⟩
  have hs := rises_succ a b i.toNat
  have hl := rises_length a b i.toNat
  rw [← toNat_succ h5, show ((i.toNat : Nat) : Int) = i by omega] at hs
  refine ifP (fun hlt => ?_) (fun hge => by rw [show i = 8 by omega]; exact ⟨rfl, rfl⟩)
  rw [w64 (by omega)]
  refine ⟨⟨h5, by omega⟩, ifB_cases (fun h7 => ⟨⟨h5, by omega⟩, ifB_cases (fun h8 => ⟨by simp; omega, _, ?_, rfl, rfl, rfl, by omega, by omega, rfl, ?_⟩) (fun h8 => ⟨_, ?_, rfl, rfl, rfl, by omega, by omega, rfl, ?_⟩)⟩) (fun h7 => ⟨_, ?_, rfl, rfl, rfl, by omega, by omega, rfl, ?_⟩)⟩
  · omega
  · rw [hs, if_pos (by rw [Bool.and_eq_true]; exact ⟨h7, h8⟩)]
  · omega
  · rw [hs, if_neg (by rw [Bool.and_eq_true]; intro h; rw [show (!a.getD i.toNat false) = _ from h8] at h; simp at h), List.append_nil]
  · omega
  · rw [hs, if_neg (by rw [Bool.and_eq_true]; intro h; rw [show (b.getD i.toNat false) = _ from h7] at h; simp at h), List.append_nil]

/-! ### the contracts -/
def K_toBoolS (C : Calls_) : Prop := ∀ l : List Bool, l.length ≤ 1048576 → C n_laws_toBoolS [.one (.sl .bool l)] [] (.one (.row 0)) [.row t_bool .bool l]
def K_eqIntS (C : Calls_) : Prop := ∀ l : List Int, l.length ≤ 1048576 → C n_laws_eqIntS [.one (.sl (.int .i64) l), .one (.sl (.int .i64) l)] [] (.one (.bool true)) []
def K_eqBoolS (C : Calls_) : Prop := ∀ l : List Bool, l.length ≤ 1048576 → C n_laws_eqBoolS [.one (.sl .bool l), .one (.sl .bool l)] [] (.one (.bool true)) []
def K_markBoolS (C : Calls_) : Prop := ∀ (n : Int) (r : List Bool), 0 ≤ n ∧ n ≤ 1099511627776 → r.length ≤ 1048576 → C n_laws_markBoolS [.one (.row 0), .one (.int .i64 n)] [.row t_bool .bool r] (.one (.int .i64 (n + r.length))) [.row t_bool .bool (markB n r)]
def K_markIntS (C : Calls_) : Prop := ∀ (n : Int) (r : List Int), 0 ≤ n ∧ n ≤ 1099511627776 → r.length ≤ 1048576 → C n_laws_markIntS [.one (.row 0), .one (.int .i64 n)] [.row t_int (.int .i64) r] (.one (.int .i64 (n + r.length))) [.row t_int (.int .i64) (markI n r)]
def K_heldIntS (C : Calls_) : Prop := ∀ (n : Int) (r : List Int), 0 ≤ n ∧ n ≤ 1099511627776 → r.length ≤ 1048576 → C n_laws_heldIntS [.one (.sl (.int .i64) (markI n r)), .one (.int .i64 n)] [] (.one (.int .i64 (n + r.length))) []
def K_when (C : Calls_) : Prop := ∀ (b : Bool) (n : Int), C n_impl_when [.one (.bool b), .one (.int .i64 n)] [] (.one (.int .i64 (if b = true then n else 0))) []
def K_many_bool (C : Calls_) : Prop := ∀ l : List Bool, C n_impl_many_bool [.one (.sl .bool l)] [] (.one (.int .i64 (if 4096 < l.length then 2 else 0))) []
def K_first (C : Calls_) : Prop := ∀ l : List Int, l.length ≤ 1048576 → C n_impl_first [.one (.sl (.int .i64) l)] [] (.one (.int .i64 (firstN l))) []
def K_risesOf (C : Calls_) : Prop := ∀ a b : List Bool, a.length = 8 → b.length = 8 → C n_impl_risesOf [.one (.sl .bool a), .one (.sl .bool b)] [] (.one (.row 0)) [.row t_int (.int .i64) (rises a b 8)]
def K_specRisesOf (C : Calls_) : Prop := ∀ a b : List Bool, C n_spec_RisesOf [.one (.sl .bool a), .one (.sl .bool b)] [] (.tup [(false, [.row 0]), (false, [.int .i64 (risesR a b).1])]) [.row t_int (.int .i64) (risesR a b).2]
def K_implRisesOf (C : Calls_) : Prop := ∀ a b : List Bool, C n_impl_RisesOf [.one (.sl .bool a), .one (.sl .bool b)] [] (.tup [(false, [.row 0]), (false, [.int .i64 (risesR a b).1])]) [.row t_int (.int .i64) (risesR a b).2]
def K_FnExactRisesOf (C : Calls_) : Prop := ∀ a b : List Bool, C n_laws_FnExactRisesOf [.one (.sl .bool a), .one (.sl .bool b)] [] (.one (.bool true)) []

section
variable (hw : K_when C) (hm : K_many_bool C) (hf : K_first C) (hr : K_risesOf C)
include hw hm hf hr
theorem p_impl_RisesOf (a b : List Bool) : v_impl_RisesOf C (fun r os => r = .tup [(false, [.row 0]), (false, [.int .i64 (risesR a b).1])] ∧ os = [.row t_int (.int .i64) (risesR a b).2]) a b := by
  have key : ∀ (x : Int) (y z : Int), x = firstN [y, z, 8] → True := fun _ _ _ _ => trivial
  have fin : ∀ c : Bool, (c = true ↔ a.length ≠ 8 ∨ b.length ≠ 8) → ∃ n5 : Int, C n_impl_when [(.one (.bool c)), (.one (.int .i64 8))] [] (.one (.int .i64 n5)) [] ∧ true = true ∧ (∃ n6 : Int, C n_impl_first [(.one (.sl (.int .i64) [if 4096 < a.length then 2 else 0, if 4096 < b.length then 2 else 0, n5]))] [] (.one (.int .i64 n6)) [] ∧ true = true ∧
      ifB (n6 != (0 : Int)) ((fun r os => r = Ent.tup [(false, [.row 0]), (false, [.int .i64 (risesR a b).1])] ∧ os = [Ob.row t_int (.int .i64) (risesR a b).2]) (.tup [(false, [.row 0]), (false, [.int .i64 n6])]) [.row t_int (.int .i64) ([] : List Int)])
        (∃ r7 : List Int, C n_impl_risesOf [(.one (.sl .bool a)), (.one (.sl .bool b))] [] (.one (.row 0)) [.row t_int (.int .i64) r7] ∧ true = true ∧ (fun r os => r = Ent.tup [(false, [.row 0]), (false, [.int .i64 (risesR a b).1])] ∧ os = [Ob.row t_int (.int .i64) (risesR a b).2]) (.tup [(false, [.row 0]), (false, [.int .i64 0])]) [.row t_int (.int .i64) r7])) := by
    intro c hc
    refine ⟨_, hw _ _, rfl, _, hf _ (by simp), rfl, ifN (fun h => ?_) (fun h => ?_)⟩
    · unfold risesR
      by_cases h1 : 4096 < a.length
      · simp [h1, firstN]
      · by_cases h2 : 4096 < b.length
        · simp [h1, h2, firstN]
        · by_cases h3 : a.length ≠ 8
          · have := hc.2 (.inl h3); simp [h1, h2, h3, this, firstN]
          · by_cases h4 : b.length ≠ 8
            · have := hc.2 (.inr h4); simp [h1, h2, h3, h4, this, firstN]
            · have hcf : c = false := by
                cases hcc : c
                · rfl
                · exact absurd (hc.1 hcc) (by omega)
              rw [if_neg h1, if_neg h2, hcf] at h
              simp [firstN] at h
    · have h1 : ¬ 4096 < a.length := by
        intro h1; rw [if_pos h1] at h; simp [firstN] at h
      have h2 : ¬ 4096 < b.length := by
        intro h2; rw [if_neg h1, if_pos h2] at h; simp [firstN] at h
      have h3 : ¬ (a.length ≠ 8 ∨ b.length ≠ 8) := by
        intro h3; rw [if_neg h1, if_neg h2, hc.2 h3] at h; simp [firstN] at h
      refine ⟨_, hr a b (by omega) (by omega), rfl, ?_⟩
      unfold risesR
      rw [if_neg h1, if_neg h2, if_neg (by omega), if_neg (by omega)]
      exact ⟨rfl, rfl⟩
  refine ⟨_, hm a, rfl, _, hm b, rfl, ifN (fun h => fin true ?_) (fun h => fin _ ?_)⟩
  · exact ⟨fun _ => .inl (by omega), fun _ => rfl⟩
  · rw [bne_iff_ne]
    constructor
    · intro h2; exact .inr (by omega)
    · intro h2; rcases h2 with h2 | h2 <;> omega
end

section
variable (hto : K_toBoolS C) (hei : K_eqIntS C) (heb : K_eqBoolS C) (hmb : K_markBoolS C) (hmi : K_markIntS C) (hhi : K_heldIntS C) (hs : K_specRisesOf C) (hi : K_implRisesOf C)
include hto hei heb hmb hmi hhi hs hi
theorem p_laws_FnExactRisesOf (a b : List Bool) : v_laws_FnExactRisesOf C (fun r os => r = .one (.bool true) ∧ os = []) a b := by
  refine ifP (fun _ => ⟨rfl, rfl⟩) (fun h1 => ifP (fun _ => ⟨rfl, rfl⟩) (fun h2 => ?_))
  have ha : a.length ≤ 1048576 := by omega
  have hb : b.length ≤ 1048576 := by omega
  have hr : (risesR a b).2.length ≤ 8 := by
    have := rises_length a b 8
    unfold risesR
    by_cases c1 : 4096 < a.length
    · simp [c1]
    · by_cases c2 : 4096 < b.length
      · simp [c1, c2]
      · by_cases c3 : a.length ≠ 8
        · simp [c1, c2, c3]
        · by_cases c4 : b.length ≠ 8
          · simp [c1, c2, c3, c4]
          · rw [if_neg c1, if_neg c2, if_neg c3, if_neg c4]; exact this
  have he := hei (risesR a b).2 (by omega)
  refine ⟨_, hto a ha, rfl, _, hto b hb, rfl, _, _, hs a b, rfl, _, hto a ha, rfl, _, hto b hb, rfl, _, _, hi a b, rfl, _, he, rfl, ifB_f rfl (ifN_f rfl ?_)⟩
  refine ⟨_, hto a ha, rfl, _, heb a ha, rfl, ifB_f rfl ⟨_, hto b hb, rfl, _, heb b hb, rfl, ifB_f rfl ?_⟩⟩
  refine ⟨_, _, hmb 1 a (by omega) ha, rfl, _, _, hmb _ b (by omega) hb, rfl, ifP_f (by omega) ⟨_, he, rfl, ifB_f rfl (ifN_f rfl ?_)⟩⟩
  have hh := hhi 1 (risesR a b).2 (by omega) (by omega)
  refine ⟨_, _, hmi 1 (risesR a b).2 (by omega) (by omega), rfl, _, hh, rfl, ifP_f (by omega) (ifN_f rfl ?_)⟩
  refine ⟨_, hto a ha, rfl, _, hto b hb, rfl, _, _, hi a b, rfl, _, he, rfl, ifB_f rfl (ifN_f rfl ⟨_, hh, rfl, ifP_f (by omega) (ifN_f rfl ⟨rfl, rfl⟩)⟩)⟩
end
end Go.Ry
