/- What the laws' own marks do. No condition. -/
import Derived.Test.YthpolfpbioebnaaDoorPNum1
set_option linter.unusedVariables false
set_option linter.unusedSimpArgs false
namespace Go.Ry
open Go.Proofs

theorem getD_set_self {α : Type} {l : List α} {i : Nat} (h : i < l.length) {x d : α} : (l.set i x).getD i d = x := by
  rw [List.getD_eq_getElem?_getD, List.getElem?_set_self h]; rfl
def g_Bool (n : Int) (j : Nat) : Bool := (Int.tmod (n + 1 * (j : Int)) 3 == 0)
def mk_BoolS (n : Int) (r : List Bool) : List Bool := (List.range r.length).map (g_Bool n)
theorem mk_BoolS_len (n : Int) (r : List Bool) : (mk_BoolS n r).length = r.length := by simp [mk_BoolS]
theorem c_mark_BoolS (r : List Bool) (h : r.length ≤ 1048576) (n : Int) (hn : 0 ≤ n ∧ n ≤ 1099511627776000) : TT n_laws_markBoolS [.one (.row 0), eI n] [.row t_bool .bool r] (eI (n + 1 * (r.length : Int))) [.row t_bool .bool (mk_BoolS n r)] := by
  refine r_laws_markBoolS n r ⟨fun m k i s => 0 ≤ i ∧ i ≤ r.length ∧ m = (r.length - i).toNat ∧ k = n + 1 * i ∧ s = markTo (g_Bool n) r i.toNat, ⟨_, by omega, by omega, rfl, by omega, (markTo_zero _ _).symm⟩, ?_⟩
  rintro m k i s ⟨h0, h1, rfl, rfl, rfl⟩
  have hl := markTo_length (g := g_Bool n) (r := r) (i := i.toNat) (by omega)
  refine ifP (fun hlt => ?_) (fun hge => ?_)
  · rw [hl] at hlt
    have hs : (markTo (g_Bool n) r i.toNat).set i.toNat (g_Bool n i.toNat) = markTo (g_Bool n) r (i + 1).toNat := by rw [toNat_succ h0]; exact markTo_set (by omega)
    have hg : g_Bool n i.toNat = (Int.tmod (n + 1 * i) 3 == 0) := by simp only [g_Bool, Int.toNat_of_nonneg h0]
    revert hl hs
    generalize markTo (g_Bool n) r i.toNat = S
    intro hl hs
    have gd : ∀ x d0 : Bool, (S.set i.toNat x).getD i.toNat d0 = x := fun x d0 => getD_set_self (by omega)
    have w1 : wI (n + 1 * i + 1) = n + 1 * i + 1 := w64 (by omega)
    simp only [List.set_set, List.length_set, gd, hl, w64 (x := i + 1) (show _ by omega), w1]
    exact ⟨by decide, ⟨h0, hlt⟩, _, by omega, by omega, by omega, rfl, by omega, by rw [← hs, hg]⟩
  · have : i.toNat = r.length := by omega
    rw [this, markTo_all, show n + 1 * i = n + 1 * (r.length : Int) by omega]; exact ⟨rfl, rfl⟩
theorem c_held_BoolS (r : List Bool) (h : r.length ≤ 1048576) (n : Int) (hn : 0 ≤ n ∧ n ≤ 1099511627776000) : TT n_laws_heldBoolS [.one (.sl .bool (mk_BoolS n r)), eI n] [] (eI (n + 1 * (r.length : Int))) [] := by
  have hlen := mk_BoolS_len n r
  refine r_laws_heldBoolS (mk_BoolS n r) n ⟨fun m k i => 0 ≤ i ∧ i ≤ r.length ∧ m = (r.length - i).toNat ∧ k = n + 1 * i, ⟨_, rfl, by omega, by omega, rfl, by omega⟩, ?_⟩
  rintro m k i ⟨h0, h1, rfl, rfl⟩
  refine ifP (fun hlt => ?_) (fun hge => ?_)
  · have hat : ∀ d0 : Bool, (mk_BoolS n r).getD i.toNat d0 = (Int.tmod (n + 1 * i) 3 == 0) := fun d0 => by
      rw [List.getD_eq_getElem?_getD, mk_BoolS, List.getElem?_map, List.getElem?_range (by omega)]
      simp only [Option.map_some, Option.getD_some, g_Bool, Int.toNat_of_nonneg h0]
    have w1 : wI (n + 1 * i + 1) = n + 1 * i + 1 := w64 (by omega)
    simp only [hat, w64 (x := i + 1) (show _ by omega), w1]
    exact ⟨⟨h0, hlt⟩, by decide, ifB_f (by simp) ⟨_, by omega, by first | exact rfl | trivial, by omega, by omega, rfl, by omega⟩⟩
  · rw [show n + 1 * i = n + 1 * (r.length : Int) by omega]; exact ⟨rfl, rfl⟩
end Go.Ry
