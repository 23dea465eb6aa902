/- What the laws' own marks do. No condition. -/
import Derived.Test.YtmcgmmmbnidpnaaDoorPNum1
set_option linter.unusedVariables false
set_option linter.unusedSimpArgs false
namespace Go.Ry
open Go.Proofs

theorem getD_set_self {α : Type} {l : List α} {i : Nat} (h : i < l.length) {x d : α} : (l.set i x).getD i d = x := by
  rw [List.getD_eq_getElem?_getD, List.getElem?_set_self h]; rfl
def g_Int (n : Int) (j : Nat) : Int := n + 1 * (j : Int)
def mk_IntS (n : Int) (r : List Int) : List Int := (List.range r.length).map (g_Int n)
theorem mk_IntS_len (n : Int) (r : List Int) : (mk_IntS n r).length = r.length := by simp [mk_IntS]
theorem c_mark_IntS (r : List Int) (h : r.length ≤ 1048576) (n : Int) (hn : 0 ≤ n ∧ n ≤ 1099511627776000) : TT n_laws_markIntS [.one (.row 0), eI n] [.row t_int (.int .i64) r] (eI (n + 1 * (r.length : Int))) [.row t_int (.int .i64) (mk_IntS n r)] := by
  refine r_laws_markIntS n r ⟨fun m k i s => 0 ≤ i ∧ i ≤ r.length ∧ m = (r.length - i).toNat ∧ k = n + 1 * i ∧ s = markTo (g_Int n) r i.toNat, ⟨_, by omega, by omega, rfl, by omega, (markTo_zero _ _).symm⟩, ?_⟩
  rintro m k i s ⟨h0, h1, rfl, rfl, rfl⟩
  have hl := markTo_length (g := g_Int n) (r := r) (i := i.toNat) (by omega)
  refine ifP (fun hlt => ?_) (fun hge => ?_)
  · rw [hl] at hlt
    have hs : (markTo (g_Int n) r i.toNat).set i.toNat (g_Int n i.toNat) = markTo (g_Int n) r (i + 1).toNat := by rw [toNat_succ h0]; exact markTo_set (by omega)
    have hg : g_Int n i.toNat = n + 1 * i := by simp only [g_Int, Int.toNat_of_nonneg h0]
    revert hl hs
    generalize markTo (g_Int n) r i.toNat = S
    intro hl hs
    have gd : ∀ x d0 : Int, (S.set i.toNat x).getD i.toNat d0 = x := fun x d0 => getD_set_self (by omega)
    have w1 : wI (n + 1 * i + 1) = n + 1 * i + 1 := w64 (by omega)
    simp only [List.set_set, List.length_set, gd, hl, w64 (x := i + 1) (show _ by omega), w1]
    exact ⟨⟨h0, hlt⟩, _, by omega, by omega, by omega, rfl, by omega, by rw [← hs, hg]⟩
  · have : i.toNat = r.length := by omega
    rw [this, markTo_all, show n + 1 * i = n + 1 * (r.length : Int) by omega]; exact ⟨rfl, rfl⟩
def g_Bool (n : Int) (j : Nat) : Bool := (Int.tmod (n + 1 * (j : Int)) 3 == 0)
def mk_BoolS (n : Int) (r : List Bool) : List Bool := (List.range r.length).map (g_Bool n)
theorem mk_BoolS_len (n : Int) (r : List Bool) : (mk_BoolS n r).length = r.length := by simp [mk_BoolS]
theorem c_mark_BoolS (r : List Bool) (h : r.length ≤ 1048576) (n : Int) (hn : 0 ≤ n ∧ n ≤ 1099511627776000) : TT n_laws_markBoolS [.one (.row 0), eI n] [.row t_bool .bool r] (eI (n + 1 * (r.length : Int))) [.row t_bool .bool (mk_BoolS n r)] := by
  refine r_laws_markBoolS n r ⟨fun m k i s => 0 ≤ i ∧ i ≤ r.length ∧ m = (r.length - i).toNat ∧ k = n + 1 * i ∧ s = markTo (g_Bool n) r i.toNat, ⟨_, by omega, by omega, rfl, by omega, (markTo_zero _ _).symm⟩, ?_⟩
  rintro m k i s ⟨h0, h1, rfl, rfl, rfl⟩
  have hl := markTo_length (g := g_Bool n) (r := r) (i := i.toNat) (by omega)
  refine ifP (fun hlt => ?_) (fun hge => ?_)
  · rw [hl] at hlt
    have hs : (markTo (g_Bool n) r i.toNat).set i.toNat (g_Bool n i.toNat) = markTo (g_Bool n) r (i + 1).toNat := by rw [toNat_succ h0]; exact markTo_set (by omega)
    have hg : g_Bool n i.toNat = (Int.tmod (n + 1 * i) 3 == 0) := by simp only [g_Bool, Int.toNat_of_nonneg h0]
    revert hl hs
    generalize markTo (g_Bool n) r i.toNat = S
    intro hl hs
    have gd : ∀ x d0 : Bool, (S.set i.toNat x).getD i.toNat d0 = x := fun x d0 => getD_set_self (by omega)
    have w1 : wI (n + 1 * i + 1) = n + 1 * i + 1 := w64 (by omega)
    simp only [List.set_set, List.length_set, gd, hl, w64 (x := i + 1) (show _ by omega), w1]
    exact ⟨by decide, ⟨h0, hlt⟩, _, by omega, by omega, by omega, rfl, by omega, by rw [← hs, hg]⟩
  · have : i.toNat = r.length := by omega
    rw [this, markTo_all, show n + 1 * i = n + 1 * (r.length : Int) by omega]; exact ⟨rfl, rfl⟩
def g_Fb (n : Int) (j : Nat) : Int × Bool × Int × Int × Unit := (n + 4 * (j : Int), ((Int.tmod (n + 4 * (j : Int) + 1) 3 == 0), (n + 4 * (j : Int) + 1 + 1, (n + 4 * (j : Int) + 1 + 1 + 1, ()))))
def mk_FbS (n : Int) (r : List (Int × Bool × Int × Int × Unit)) : List (Int × Bool × Int × Int × Unit) := (List.range r.length).map (g_Fb n)
theorem mk_FbS_len (n : Int) (r : List (Int × Bool × Int × Int × Unit)) : (mk_FbS n r).length = r.length := by simp [mk_FbS]
theorem c_mark_FbS (r : List (Int × Bool × Int × Int × Unit)) (h : r.length ≤ 1048576) (n : Int) (hn : 0 ≤ n ∧ n ≤ 1099511627776000) : TT n_laws_markFbS [.one (.row 0), eI n] [.row t_impl_Fb (.pair (.int .i64) (.pair .bool (.pair (.int .i64) (.pair (.int .i64) .unit)))) r] (eI (n + 4 * (r.length : Int))) [.row t_impl_Fb (.pair (.int .i64) (.pair .bool (.pair (.int .i64) (.pair (.int .i64) .unit)))) (mk_FbS n r)] := by
  refine r_laws_markFbS n r ⟨fun m k i s => 0 ≤ i ∧ i ≤ r.length ∧ m = (r.length - i).toNat ∧ k = n + 4 * i ∧ s = markTo (g_Fb n) r i.toNat, ⟨_, by omega, by omega, rfl, by omega, (markTo_zero _ _).symm⟩, ?_⟩
  rintro m k i s ⟨h0, h1, rfl, rfl, rfl⟩
  have hl := markTo_length (g := g_Fb n) (r := r) (i := i.toNat) (by omega)
  refine ifP (fun hlt => ?_) (fun hge => ?_)
  · rw [hl] at hlt
    have hs : (markTo (g_Fb n) r i.toNat).set i.toNat (g_Fb n i.toNat) = markTo (g_Fb n) r (i + 1).toNat := by rw [toNat_succ h0]; exact markTo_set (by omega)
    have hg : g_Fb n i.toNat = (n + 4 * i, ((Int.tmod (n + 4 * i + 1) 3 == 0), (n + 4 * i + 1 + 1, (n + 4 * i + 1 + 1 + 1, ())))) := by simp only [g_Fb, Int.toNat_of_nonneg h0]
    revert hl hs
    generalize markTo (g_Fb n) r i.toNat = S
    intro hl hs
    have gd : ∀ x d0 : Int × Bool × Int × Int × Unit, (S.set i.toNat x).getD i.toNat d0 = x := fun x d0 => getD_set_self (by omega)
    have w1 : wI (n + 4 * i + 1) = n + 4 * i + 1 := w64 (by omega)
    have w2 : wI (n + 4 * i + 1 + 1) = n + 4 * i + 1 + 1 := w64 (by omega)
    have w3 : wI (n + 4 * i + 1 + 1 + 1) = n + 4 * i + 1 + 1 + 1 := w64 (by omega)
    have w4 : wI (n + 4 * i + 1 + 1 + 1 + 1) = n + 4 * i + 1 + 1 + 1 + 1 := w64 (by omega)
    simp only [List.set_set, List.length_set, gd, hl, w64 (x := i + 1) (show _ by omega), w1, w2, w3, w4]
    exact ⟨⟨h0, hlt⟩, by decide, ⟨h0, hlt⟩, ⟨h0, hlt⟩, ⟨h0, hlt⟩, _, by omega, by omega, by omega, rfl, by omega, by rw [← hs, hg]⟩
  · have : i.toNat = r.length := by omega
    rw [this, markTo_all, show n + 4 * i = n + 4 * (r.length : Int) by omega]; exact ⟨rfl, rfl⟩
def g_Done (n : Int) (j : Nat) : Int × Int × Int × Int × Unit := (n + 4 * (j : Int), (n + 4 * (j : Int) + 1, (n + 4 * (j : Int) + 1 + 1, (n + 4 * (j : Int) + 1 + 1 + 1, ()))))
def mk_DoneS (n : Int) (r : List (Int × Int × Int × Int × Unit)) : List (Int × Int × Int × Int × Unit) := (List.range r.length).map (g_Done n)
theorem mk_DoneS_len (n : Int) (r : List (Int × Int × Int × Int × Unit)) : (mk_DoneS n r).length = r.length := by simp [mk_DoneS]
theorem c_mark_DoneS (r : List (Int × Int × Int × Int × Unit)) (h : r.length ≤ 1048576) (n : Int) (hn : 0 ≤ n ∧ n ≤ 1099511627776000) : TT n_laws_markDoneS [.one (.row 0), eI n] [.row t_impl_Done (.pair (.int .i64) (.pair (.int .i64) (.pair (.int .i64) (.pair (.int .i64) .unit)))) r] (eI (n + 4 * (r.length : Int))) [.row t_impl_Done (.pair (.int .i64) (.pair (.int .i64) (.pair (.int .i64) (.pair (.int .i64) .unit)))) (mk_DoneS n r)] := by
  refine r_laws_markDoneS n r ⟨fun m k i s => 0 ≤ i ∧ i ≤ r.length ∧ m = (r.length - i).toNat ∧ k = n + 4 * i ∧ s = markTo (g_Done n) r i.toNat, ⟨_, by omega, by omega, rfl, by omega, (markTo_zero _ _).symm⟩, ?_⟩
  rintro m k i s ⟨h0, h1, rfl, rfl, rfl⟩
  have hl := markTo_length (g := g_Done n) (r := r) (i := i.toNat) (by omega)
  refine ifP (fun hlt => ?_) (fun hge => ?_)
  · rw [hl] at hlt
    have hs : (markTo (g_Done n) r i.toNat).set i.toNat (g_Done n i.toNat) = markTo (g_Done n) r (i + 1).toNat := by rw [toNat_succ h0]; exact markTo_set (by omega)
    have hg : g_Done n i.toNat = (n + 4 * i, (n + 4 * i + 1, (n + 4 * i + 1 + 1, (n + 4 * i + 1 + 1 + 1, ())))) := by simp only [g_Done, Int.toNat_of_nonneg h0]
    revert hl hs
    generalize markTo (g_Done n) r i.toNat = S
    intro hl hs
    have gd : ∀ x d0 : Int × Int × Int × Int × Unit, (S.set i.toNat x).getD i.toNat d0 = x := fun x d0 => getD_set_self (by omega)
    have w1 : wI (n + 4 * i + 1) = n + 4 * i + 1 := w64 (by omega)
    have w2 : wI (n + 4 * i + 1 + 1) = n + 4 * i + 1 + 1 := w64 (by omega)
    have w3 : wI (n + 4 * i + 1 + 1 + 1) = n + 4 * i + 1 + 1 + 1 := w64 (by omega)
    have w4 : wI (n + 4 * i + 1 + 1 + 1 + 1) = n + 4 * i + 1 + 1 + 1 + 1 := w64 (by omega)
    simp only [List.set_set, List.length_set, gd, hl, w64 (x := i + 1) (show _ by omega), w1, w2, w3, w4]
    exact ⟨⟨h0, hlt⟩, ⟨h0, hlt⟩, ⟨h0, hlt⟩, ⟨h0, hlt⟩, _, by omega, by omega, by omega, rfl, by omega, by rw [← hs, hg]⟩
  · have : i.toNat = r.length := by omega
    rw [this, markTo_all, show n + 4 * i = n + 4 * (r.length : Int) by omega]; exact ⟨rfl, rfl⟩
end Go.Ry
