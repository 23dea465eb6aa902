/- What the laws' own marks do. No condition. -/
import Derived.Test.YtlfapnlaalnbjaaGreatPNum1
set_option linter.unusedVariables false
set_option linter.unusedSimpArgs false
namespace Go.Ry
open Go.Proofs

theorem getD_set_self {α : Type} {l : List α} {i : Nat} (h : i < l.length) {x d : α} : (l.set i x).getD i d = x := by
  rw [List.getD_eq_getElem?_getD, List.getElem?_set_self h]; rfl
def g_Int (n : Int) (j : Nat) : Int := n + 1 * (j : Int)
def mk_IntS (n : Int) (r : List Int) : List Int := (List.range r.length).map (g_Int n)
theorem mk_IntS_len (n : Int) (r : List Int) : (mk_IntS n r).length = r.length := by simp [mk_IntS]
theorem c_mark_IntS (r : List Int) (h : r.length ≤ 1048576) (n : Int) (hn : 0 ≤ n ∧ n ≤ 1099511627776000) : TT n_laws_markIntS [.one (.row 0), eI n] [.row t_int (.int .i64) r] (eI (n + 1 * (r.length : Int))) [.row t_int (.int .i64) (mk_IntS n r)] := by
  refine r_laws_markIntS n r ⟨fun m k i s => 0 ≤ i ∧ i ≤ r.length ∧ m = (r.length - i).toNat ∧ k = n + 1 * i ∧ s = markTo (g_Int n) r i.toNat, ⟨_, by omega, by omega, rfl, by omega, (markTo_zero _ _).symm⟩, ?_⟩
  rintro m k i s ⟨h0, h1, rfl, rfl, rfl⟩
  have hl := markTo_length (g := g_Int n) (r := r) (i := i.toNat) (by omega)
  refine ifP (fun hlt => ?_) (fun hge => ?_)
  · rw [hl] at hlt
    have hs : (markTo (g_Int n) r i.toNat).set i.toNat (g_Int n i.toNat) = markTo (g_Int n) r (i + 1).toNat := by rw [toNat_succ h0]; exact markTo_set (by omega)
    have hg : g_Int n i.toNat = n + 1 * i := by simp only [g_Int, Int.toNat_of_nonneg h0]
    revert hl hs
    generalize markTo (g_Int n) r i.toNat = S
    intro hl hs
    have gd : ∀ x d0 : Int, (S.set i.toNat x).getD i.toNat d0 = x := fun x d0 => getD_set_self (by omega)
    have w1 : wI (n + 1 * i + 1) = n + 1 * i + 1 := w64 (by omega)
    simp only [List.set_set, List.length_set, gd, hl, w64 (x := i + 1) (show _ by omega), w1]
    exact ⟨⟨h0, hlt⟩, _, by omega, by omega, by omega, rfl, by omega, by rw [← hs, hg]⟩
  · have : i.toNat = r.length := by omega
    rw [this, markTo_all, show n + 1 * i = n + 1 * (r.length : Int) by omega]; exact ⟨rfl, rfl⟩
theorem c_held_IntS (r : List Int) (h : r.length ≤ 1048576) (n : Int) (hn : 0 ≤ n ∧ n ≤ 1099511627776000) : TT n_laws_heldIntS [.one (.sl (.int .i64) (mk_IntS n r)), eI n] [] (eI (n + 1 * (r.length : Int))) [] := by
  have hlen := mk_IntS_len n r
  refine r_laws_heldIntS (mk_IntS n r) n ⟨fun m k i => 0 ≤ i ∧ i ≤ r.length ∧ m = (r.length - i).toNat ∧ k = n + 1 * i, ⟨_, rfl, by omega, by omega, rfl, by omega⟩, ?_⟩
  rintro m k i ⟨h0, h1, rfl, rfl⟩
  refine ifP (fun hlt => ?_) (fun hge => ?_)
  · have hat : ∀ d0 : Int, (mk_IntS n r).getD i.toNat d0 = n + 1 * i := fun d0 => by
      rw [List.getD_eq_getElem?_getD, mk_IntS, List.getElem?_map, List.getElem?_range (by omega)]
      simp only [Option.map_some, Option.getD_some, g_Int, Int.toNat_of_nonneg h0]
    have w1 : wI (n + 1 * i + 1) = n + 1 * i + 1 := w64 (by omega)
    simp only [hat, w64 (x := i + 1) (show _ by omega), w1]
    exact ⟨⟨h0, hlt⟩, ifN_f rfl ⟨_, by omega, by first | exact rfl | trivial, by omega, by omega, rfl, by omega⟩⟩
  · rw [show n + 1 * i = n + 1 * (r.length : Int) by omega]; exact ⟨rfl, rfl⟩
def g_Bool (n : Int) (j : Nat) : Bool := (Int.tmod (n + 1 * (j : Int)) 3 == 0)
def mk_BoolS (n : Int) (r : List Bool) : List Bool := (List.range r.length).map (g_Bool n)
theorem mk_BoolS_len (n : Int) (r : List Bool) : (mk_BoolS n r).length = r.length := by simp [mk_BoolS]
theorem c_mark_BoolS (r : List Bool) (h : r.length ≤ 1048576) (n : Int) (hn : 0 ≤ n ∧ n ≤ 1099511627776000) : TT n_laws_markBoolS [.one (.row 0), eI n] [.row t_bool .bool r] (eI (n + 1 * (r.length : Int))) [.row t_bool .bool (mk_BoolS n r)] := by
  refine r_laws_markBoolS n r ⟨fun m k i s => 0 ≤ i ∧ i ≤ r.length ∧ m = (r.length - i).toNat ∧ k = n + 1 * i ∧ s = markTo (g_Bool n) r i.toNat, ⟨_, by omega, by omega, rfl, by omega, (markTo_zero _ _).symm⟩, ?_⟩
  rintro m k i s ⟨h0, h1, rfl, rfl, rfl⟩
  have hl := markTo_length (g := g_Bool n) (r := r) (i := i.toNat) (by omega)
  refine ifP (fun hlt => ?_) (fun hge => ?_)
  · rw [hl] at hlt
    have hs : (markTo (g_Bool n) r i.toNat).set i.toNat (g_Bool n i.toNat) = markTo (g_Bool n) r (i + 1).toNat := by rw [toNat_succ h0]; exact markTo_set (by omega)
    have hg : g_Bool n i.toNat = (Int.tmod (n + 1 * i) 3 == 0) := by simp only [g_Bool, Int.toNat_of_nonneg h0]
    revert hl hs
    generalize markTo (g_Bool n) r i.toNat = S
    intro hl hs
    have gd : ∀ x d0 : Bool, (S.set i.toNat x).getD i.toNat d0 = x := fun x d0 => getD_set_self (by omega)
    have w1 : wI (n + 1 * i + 1) = n + 1 * i + 1 := w64 (by omega)
    simp only [List.set_set, List.length_set, gd, hl, w64 (x := i + 1) (show _ by omega), w1]
    exact ⟨by decide, ⟨h0, hlt⟩, _, by omega, by omega, by omega, rfl, by omega, by rw [← hs, hg]⟩
  · have : i.toNat = r.length := by omega
    rw [this, markTo_all, show n + 1 * i = n + 1 * (r.length : Int) by omega]; exact ⟨rfl, rfl⟩
theorem c_held_BoolS (r : List Bool) (h : r.length ≤ 1048576) (n : Int) (hn : 0 ≤ n ∧ n ≤ 1099511627776000) : TT n_laws_heldBoolS [.one (.sl .bool (mk_BoolS n r)), eI n] [] (eI (n + 1 * (r.length : Int))) [] := by
  have hlen := mk_BoolS_len n r
  refine r_laws_heldBoolS (mk_BoolS n r) n ⟨fun m k i => 0 ≤ i ∧ i ≤ r.length ∧ m = (r.length - i).toNat ∧ k = n + 1 * i, ⟨_, rfl, by omega, by omega, rfl, by omega⟩, ?_⟩
  rintro m k i ⟨h0, h1, rfl, rfl⟩
  refine ifP (fun hlt => ?_) (fun hge => ?_)
  · have hat : ∀ d0 : Bool, (mk_BoolS n r).getD i.toNat d0 = (Int.tmod (n + 1 * i) 3 == 0) := fun d0 => by
      rw [List.getD_eq_getElem?_getD, mk_BoolS, List.getElem?_map, List.getElem?_range (by omega)]
      simp only [Option.map_some, Option.getD_some, g_Bool, Int.toNat_of_nonneg h0]
    have w1 : wI (n + 1 * i + 1) = n + 1 * i + 1 := w64 (by omega)
    simp only [hat, w64 (x := i + 1) (show _ by omega), w1]
    exact ⟨⟨h0, hlt⟩, by decide, ifB_f (by simp) ⟨_, by omega, by first | exact rfl | trivial, by omega, by omega, rfl, by omega⟩⟩
  · rw [show n + 1 * i = n + 1 * (r.length : Int) by omega]; exact ⟨rfl, rfl⟩
def g_Instr (n : Int) (j : Nat) : Int × Int × Unit := (n + 2 * (j : Int), (n + 2 * (j : Int) + 1, ()))
def mk_InstrS (n : Int) (r : List (Int × Int × Unit)) : List (Int × Int × Unit) := (List.range r.length).map (g_Instr n)
theorem mk_InstrS_len (n : Int) (r : List (Int × Int × Unit)) : (mk_InstrS n r).length = r.length := by simp [mk_InstrS]
theorem c_mark_InstrS (r : List (Int × Int × Unit)) (h : r.length ≤ 1048576) (n : Int) (hn : 0 ≤ n ∧ n ≤ 1099511627776000) : TT n_laws_markInstrS [.one (.row 0), eI n] [.row t_impl_Instr (.pair (.int .i64) (.pair (.int .i64) .unit)) r] (eI (n + 2 * (r.length : Int))) [.row t_impl_Instr (.pair (.int .i64) (.pair (.int .i64) .unit)) (mk_InstrS n r)] := by
  refine r_laws_markInstrS n r ⟨fun m k i s => 0 ≤ i ∧ i ≤ r.length ∧ m = (r.length - i).toNat ∧ k = n + 2 * i ∧ s = markTo (g_Instr n) r i.toNat, ⟨_, by omega, by omega, rfl, by omega, (markTo_zero _ _).symm⟩, ?_⟩
  rintro m k i s ⟨h0, h1, rfl, rfl, rfl⟩
  have hl := markTo_length (g := g_Instr n) (r := r) (i := i.toNat) (by omega)
  refine ifP (fun hlt => ?_) (fun hge => ?_)
  · rw [hl] at hlt
    have hs : (markTo (g_Instr n) r i.toNat).set i.toNat (g_Instr n i.toNat) = markTo (g_Instr n) r (i + 1).toNat := by rw [toNat_succ h0]; exact markTo_set (by omega)
    have hg : g_Instr n i.toNat = (n + 2 * i, (n + 2 * i + 1, ())) := by simp only [g_Instr, Int.toNat_of_nonneg h0]
    revert hl hs
    generalize markTo (g_Instr n) r i.toNat = S
    intro hl hs
    have gd : ∀ x d0 : Int × Int × Unit, (S.set i.toNat x).getD i.toNat d0 = x := fun x d0 => getD_set_self (by omega)
    have w1 : wI (n + 2 * i + 1) = n + 2 * i + 1 := w64 (by omega)
    have w2 : wI (n + 2 * i + 1 + 1) = n + 2 * i + 1 + 1 := w64 (by omega)
    simp only [List.set_set, List.length_set, gd, hl, w64 (x := i + 1) (show _ by omega), w1, w2]
    exact ⟨⟨h0, hlt⟩, ⟨h0, hlt⟩, _, by omega, by omega, by omega, rfl, by omega, by rw [← hs, hg]⟩
  · have : i.toNat = r.length := by omega
    rw [this, markTo_all, show n + 2 * i = n + 2 * (r.length : Int) by omega]; exact ⟨rfl, rfl⟩
theorem c_held_InstrS (r : List (Int × Int × Unit)) (h : r.length ≤ 1048576) (n : Int) (hn : 0 ≤ n ∧ n ≤ 1099511627776000) : TT n_laws_heldInstrS [.one (.sl (.pair (.int .i64) (.pair (.int .i64) .unit)) (mk_InstrS n r)), eI n] [] (eI (n + 2 * (r.length : Int))) [] := by
  have hlen := mk_InstrS_len n r
  refine r_laws_heldInstrS (mk_InstrS n r) n ⟨fun m k i => 0 ≤ i ∧ i ≤ r.length ∧ m = (r.length - i).toNat ∧ k = n + 2 * i, ⟨_, rfl, by omega, by omega, rfl, by omega⟩, ?_⟩
  rintro m k i ⟨h0, h1, rfl, rfl⟩
  refine ifP (fun hlt => ?_) (fun hge => ?_)
  · have hat : ∀ d0 : Int × Int × Unit, (mk_InstrS n r).getD i.toNat d0 = (n + 2 * i, (n + 2 * i + 1, ())) := fun d0 => by
      rw [List.getD_eq_getElem?_getD, mk_InstrS, List.getElem?_map, List.getElem?_range (by omega)]
      simp only [Option.map_some, Option.getD_some, g_Instr, Int.toNat_of_nonneg h0]
    have w1 : wI (n + 2 * i + 1) = n + 2 * i + 1 := w64 (by omega)
    have w2 : wI (n + 2 * i + 1 + 1) = n + 2 * i + 1 + 1 := w64 (by omega)
    simp only [hat, w64 (x := i + 1) (show _ by omega), w1, w2]
    exact ⟨⟨h0, hlt⟩, ifN_f rfl ⟨⟨h0, hlt⟩, ifN_f rfl ⟨_, by omega, by first | exact rfl | trivial, by omega, by omega, rfl, by omega⟩⟩⟩
  · rw [show n + 2 * i = n + 2 * (r.length : Int) by omega]; exact ⟨rfl, rfl⟩
def g_Task (n : Int) (j : Nat) : Int × Int × Int × Int × Int × Int × Unit := (n + 6 * (j : Int), (n + 6 * (j : Int) + 1, (n + 6 * (j : Int) + 1 + 1, (n + 6 * (j : Int) + 1 + 1 + 1, (n + 6 * (j : Int) + 1 + 1 + 1 + 1, (n + 6 * (j : Int) + 1 + 1 + 1 + 1 + 1, ()))))))
def mk_TaskS (n : Int) (r : List (Int × Int × Int × Int × Int × Int × Unit)) : List (Int × Int × Int × Int × Int × Int × Unit) := (List.range r.length).map (g_Task n)
theorem mk_TaskS_len (n : Int) (r : List (Int × Int × Int × Int × Int × Int × Unit)) : (mk_TaskS n r).length = r.length := by simp [mk_TaskS]
theorem c_mark_TaskS (r : List (Int × Int × Int × Int × Int × Int × Unit)) (h : r.length ≤ 1048576) (n : Int) (hn : 0 ≤ n ∧ n ≤ 1099511627776000) : TT n_laws_markTaskS [.one (.row 0), eI n] [.row t_impl_Task (.pair (.int .i64) (.pair (.int .i64) (.pair (.int .i64) (.pair (.int .i64) (.pair (.int .i64) (.pair (.int .i64) .unit)))))) r] (eI (n + 6 * (r.length : Int))) [.row t_impl_Task (.pair (.int .i64) (.pair (.int .i64) (.pair (.int .i64) (.pair (.int .i64) (.pair (.int .i64) (.pair (.int .i64) .unit)))))) (mk_TaskS n r)] := by
  refine r_laws_markTaskS n r ⟨fun m k i s => 0 ≤ i ∧ i ≤ r.length ∧ m = (r.length - i).toNat ∧ k = n + 6 * i ∧ s = markTo (g_Task n) r i.toNat, ⟨_, by omega, by omega, rfl, by omega, (markTo_zero _ _).symm⟩, ?_⟩
  rintro m k i s ⟨h0, h1, rfl, rfl, rfl⟩
  have hl := markTo_length (g := g_Task n) (r := r) (i := i.toNat) (by omega)
  refine ifP (fun hlt => ?_) (fun hge => ?_)
  · rw [hl] at hlt
    have hs : (markTo (g_Task n) r i.toNat).set i.toNat (g_Task n i.toNat) = markTo (g_Task n) r (i + 1).toNat := by rw [toNat_succ h0]; exact markTo_set (by omega)
    have hg : g_Task n i.toNat = (n + 6 * i, (n + 6 * i + 1, (n + 6 * i + 1 + 1, (n + 6 * i + 1 + 1 + 1, (n + 6 * i + 1 + 1 + 1 + 1, (n + 6 * i + 1 + 1 + 1 + 1 + 1, ())))))) := by simp only [g_Task, Int.toNat_of_nonneg h0]
    revert hl hs
    generalize markTo (g_Task n) r i.toNat = S
    intro hl hs
    have gd : ∀ x d0 : Int × Int × Int × Int × Int × Int × Unit, (S.set i.toNat x).getD i.toNat d0 = x := fun x d0 => getD_set_self (by omega)
    have w1 : wI (n + 6 * i + 1) = n + 6 * i + 1 := w64 (by omega)
    have w2 : wI (n + 6 * i + 1 + 1) = n + 6 * i + 1 + 1 := w64 (by omega)
    have w3 : wI (n + 6 * i + 1 + 1 + 1) = n + 6 * i + 1 + 1 + 1 := w64 (by omega)
    have w4 : wI (n + 6 * i + 1 + 1 + 1 + 1) = n + 6 * i + 1 + 1 + 1 + 1 := w64 (by omega)
    have w5 : wI (n + 6 * i + 1 + 1 + 1 + 1 + 1) = n + 6 * i + 1 + 1 + 1 + 1 + 1 := w64 (by omega)
    have w6 : wI (n + 6 * i + 1 + 1 + 1 + 1 + 1 + 1) = n + 6 * i + 1 + 1 + 1 + 1 + 1 + 1 := w64 (by omega)
    simp only [w64 (x := i + 1) (show _ by omega), w1, w2, w3, w4, w5, w6]
    refine ⟨⟨h0, by rw [hl]; exact hlt⟩, fun r0 e0 => ?_⟩
    refine ⟨⟨h0, by rw [e0, List.length_set, hl]; exact hlt⟩, fun r1 e1 => ?_⟩
    rw [e0] at e1
    simp only [List.set_set, gd] at e1
    refine ⟨⟨h0, by rw [e1, List.length_set, hl]; exact hlt⟩, fun r2 e2 => ?_⟩
    rw [e1] at e2
    simp only [List.set_set, gd] at e2
    refine ⟨⟨h0, by rw [e2, List.length_set, hl]; exact hlt⟩, fun r3 e3 => ?_⟩
    rw [e2] at e3
    simp only [List.set_set, gd] at e3
    refine ⟨⟨h0, by rw [e3, List.length_set, hl]; exact hlt⟩, fun r4 e4 => ?_⟩
    rw [e3] at e4
    simp only [List.set_set, gd] at e4
    refine ⟨⟨h0, by rw [e4, List.length_set, hl]; exact hlt⟩, fun r5 e5 => ?_⟩
    rw [e4] at e5
    simp only [List.set_set, gd] at e5
    exact ⟨_, by omega, by omega, by omega, rfl, by omega, by rw [e5, ← hs, hg]⟩
  · have : i.toNat = r.length := by omega
    rw [this, markTo_all, show n + 6 * i = n + 6 * (r.length : Int) by omega]; exact ⟨rfl, rfl⟩
theorem c_held_TaskS (r : List (Int × Int × Int × Int × Int × Int × Unit)) (h : r.length ≤ 1048576) (n : Int) (hn : 0 ≤ n ∧ n ≤ 1099511627776000) : TT n_laws_heldTaskS [.one (.sl (.pair (.int .i64) (.pair (.int .i64) (.pair (.int .i64) (.pair (.int .i64) (.pair (.int .i64) (.pair (.int .i64) .unit)))))) (mk_TaskS n r)), eI n] [] (eI (n + 6 * (r.length : Int))) [] := by
  have hlen := mk_TaskS_len n r
  refine r_laws_heldTaskS (mk_TaskS n r) n ⟨fun m k i => 0 ≤ i ∧ i ≤ r.length ∧ m = (r.length - i).toNat ∧ k = n + 6 * i, ⟨_, rfl, by omega, by omega, rfl, by omega⟩, ?_⟩
  rintro m k i ⟨h0, h1, rfl, rfl⟩
  refine ifP (fun hlt => ?_) (fun hge => ?_)
  · have hat : ∀ d0 : Int × Int × Int × Int × Int × Int × Unit, (mk_TaskS n r).getD i.toNat d0 = (n + 6 * i, (n + 6 * i + 1, (n + 6 * i + 1 + 1, (n + 6 * i + 1 + 1 + 1, (n + 6 * i + 1 + 1 + 1 + 1, (n + 6 * i + 1 + 1 + 1 + 1 + 1, ())))))) := fun d0 => by
      rw [List.getD_eq_getElem?_getD, mk_TaskS, List.getElem?_map, List.getElem?_range (by omega)]
      simp only [Option.map_some, Option.getD_some, g_Task, Int.toNat_of_nonneg h0]
    have w1 : wI (n + 6 * i + 1) = n + 6 * i + 1 := w64 (by omega)
    have w2 : wI (n + 6 * i + 1 + 1) = n + 6 * i + 1 + 1 := w64 (by omega)
    have w3 : wI (n + 6 * i + 1 + 1 + 1) = n + 6 * i + 1 + 1 + 1 := w64 (by omega)
    have w4 : wI (n + 6 * i + 1 + 1 + 1 + 1) = n + 6 * i + 1 + 1 + 1 + 1 := w64 (by omega)
    have w5 : wI (n + 6 * i + 1 + 1 + 1 + 1 + 1) = n + 6 * i + 1 + 1 + 1 + 1 + 1 := w64 (by omega)
    have w6 : wI (n + 6 * i + 1 + 1 + 1 + 1 + 1 + 1) = n + 6 * i + 1 + 1 + 1 + 1 + 1 + 1 := w64 (by omega)
    simp only [hat, w64 (x := i + 1) (show _ by omega), w1, w2, w3, w4, w5, w6]
    exact ⟨⟨h0, hlt⟩, ifN_f rfl ⟨⟨h0, hlt⟩, ifN_f rfl ⟨⟨h0, hlt⟩, ifN_f rfl ⟨⟨h0, hlt⟩, ifN_f rfl ⟨⟨h0, hlt⟩, ifN_f rfl ⟨⟨h0, hlt⟩, ifN_f rfl ⟨_, by omega, by first | exact rfl | trivial, by omega, by omega, rfl, by omega⟩⟩⟩⟩⟩⟩⟩
  · rw [show n + 6 * i = n + 6 * (r.length : Int) by omega]; exact ⟨rfl, rfl⟩
def g_Fb (n : Int) (j : Nat) : Int × Bool × Int × Int × Unit := (n + 4 * (j : Int), ((Int.tmod (n + 4 * (j : Int) + 1) 3 == 0), (n + 4 * (j : Int) + 1 + 1, (n + 4 * (j : Int) + 1 + 1 + 1, ()))))
def mk_FbS (n : Int) (r : List (Int × Bool × Int × Int × Unit)) : List (Int × Bool × Int × Int × Unit) := (List.range r.length).map (g_Fb n)
theorem mk_FbS_len (n : Int) (r : List (Int × Bool × Int × Int × Unit)) : (mk_FbS n r).length = r.length := by simp [mk_FbS]
theorem c_mark_FbS (r : List (Int × Bool × Int × Int × Unit)) (h : r.length ≤ 1048576) (n : Int) (hn : 0 ≤ n ∧ n ≤ 1099511627776000) : TT n_laws_markFbS [.one (.row 0), eI n] [.row t_impl_Fb (.pair (.int .i64) (.pair .bool (.pair (.int .i64) (.pair (.int .i64) .unit)))) r] (eI (n + 4 * (r.length : Int))) [.row t_impl_Fb (.pair (.int .i64) (.pair .bool (.pair (.int .i64) (.pair (.int .i64) .unit)))) (mk_FbS n r)] := by
  refine r_laws_markFbS n r ⟨fun m k i s => 0 ≤ i ∧ i ≤ r.length ∧ m = (r.length - i).toNat ∧ k = n + 4 * i ∧ s = markTo (g_Fb n) r i.toNat, ⟨_, by omega, by omega, rfl, by omega, (markTo_zero _ _).symm⟩, ?_⟩
  rintro m k i s ⟨h0, h1, rfl, rfl, rfl⟩
  have hl := markTo_length (g := g_Fb n) (r := r) (i := i.toNat) (by omega)
  refine ifP (fun hlt => ?_) (fun hge => ?_)
  · rw [hl] at hlt
    have hs : (markTo (g_Fb n) r i.toNat).set i.toNat (g_Fb n i.toNat) = markTo (g_Fb n) r (i + 1).toNat := by rw [toNat_succ h0]; exact markTo_set (by omega)
    have hg : g_Fb n i.toNat = (n + 4 * i, ((Int.tmod (n + 4 * i + 1) 3 == 0), (n + 4 * i + 1 + 1, (n + 4 * i + 1 + 1 + 1, ())))) := by simp only [g_Fb, Int.toNat_of_nonneg h0]
    revert hl hs
    generalize markTo (g_Fb n) r i.toNat = S
    intro hl hs
    have gd : ∀ x d0 : Int × Bool × Int × Int × Unit, (S.set i.toNat x).getD i.toNat d0 = x := fun x d0 => getD_set_self (by omega)
    have w1 : wI (n + 4 * i + 1) = n + 4 * i + 1 := w64 (by omega)
    have w2 : wI (n + 4 * i + 1 + 1) = n + 4 * i + 1 + 1 := w64 (by omega)
    have w3 : wI (n + 4 * i + 1 + 1 + 1) = n + 4 * i + 1 + 1 + 1 := w64 (by omega)
    have w4 : wI (n + 4 * i + 1 + 1 + 1 + 1) = n + 4 * i + 1 + 1 + 1 + 1 := w64 (by omega)
    simp only [List.set_set, List.length_set, gd, hl, w64 (x := i + 1) (show _ by omega), w1, w2, w3, w4]
    exact ⟨⟨h0, hlt⟩, by decide, ⟨h0, hlt⟩, ⟨h0, hlt⟩, ⟨h0, hlt⟩, _, by omega, by omega, by omega, rfl, by omega, by rw [← hs, hg]⟩
  · have : i.toNat = r.length := by omega
    rw [this, markTo_all, show n + 4 * i = n + 4 * (r.length : Int) by omega]; exact ⟨rfl, rfl⟩
theorem c_held_FbS (r : List (Int × Bool × Int × Int × Unit)) (h : r.length ≤ 1048576) (n : Int) (hn : 0 ≤ n ∧ n ≤ 1099511627776000) : TT n_laws_heldFbS [.one (.sl (.pair (.int .i64) (.pair .bool (.pair (.int .i64) (.pair (.int .i64) .unit)))) (mk_FbS n r)), eI n] [] (eI (n + 4 * (r.length : Int))) [] := by
  have hlen := mk_FbS_len n r
  refine r_laws_heldFbS (mk_FbS n r) n ⟨fun m k i => 0 ≤ i ∧ i ≤ r.length ∧ m = (r.length - i).toNat ∧ k = n + 4 * i, ⟨_, rfl, by omega, by omega, rfl, by omega⟩, ?_⟩
  rintro m k i ⟨h0, h1, rfl, rfl⟩
  refine ifP (fun hlt => ?_) (fun hge => ?_)
  · have hat : ∀ d0 : Int × Bool × Int × Int × Unit, (mk_FbS n r).getD i.toNat d0 = (n + 4 * i, ((Int.tmod (n + 4 * i + 1) 3 == 0), (n + 4 * i + 1 + 1, (n + 4 * i + 1 + 1 + 1, ())))) := fun d0 => by
      rw [List.getD_eq_getElem?_getD, mk_FbS, List.getElem?_map, List.getElem?_range (by omega)]
      simp only [Option.map_some, Option.getD_some, g_Fb, Int.toNat_of_nonneg h0]
    have w1 : wI (n + 4 * i + 1) = n + 4 * i + 1 := w64 (by omega)
    have w2 : wI (n + 4 * i + 1 + 1) = n + 4 * i + 1 + 1 := w64 (by omega)
    have w3 : wI (n + 4 * i + 1 + 1 + 1) = n + 4 * i + 1 + 1 + 1 := w64 (by omega)
    have w4 : wI (n + 4 * i + 1 + 1 + 1 + 1) = n + 4 * i + 1 + 1 + 1 + 1 := w64 (by omega)
    simp only [hat, w64 (x := i + 1) (show _ by omega), w1, w2, w3, w4]
    exact ⟨⟨h0, hlt⟩, ifN_f rfl ⟨⟨h0, hlt⟩, by decide, ifB_f (by simp) ⟨⟨h0, hlt⟩, ifN_f rfl ⟨⟨h0, hlt⟩, ifN_f rfl ⟨_, by omega, by first | exact rfl | trivial, by omega, by omega, rfl, by omega⟩⟩⟩⟩⟩
  · rw [show n + 4 * i = n + 4 * (r.length : Int) by omega]; exact ⟨rfl, rfl⟩
end Go.Ry
