/- What of a processor that is loaded is marked and held. No condition. -/
import Derived.Test.YtlfapnlaalnbjaaGreatPLpc1
import Derived.Test.YtlfapnlaalnbjaaGreatPMkHeld
set_option linter.unusedVariables false
set_option linter.unusedSimpArgs false
namespace Go.Ry
open Go.Proofs

theorem markTo_at {β : Type} {g : Nat → β} {r : List β} {i : Nat} (h : i < r.length) (d : β) : (markTo g r i).getD i d = r.getD i d := by
  have h1 : ((List.range i).map g).length = i := by simp
  rw [markTo, List.getD_eq_getElem?_getD, List.getElem?_append_right (by omega), h1, Nat.sub_self, List.getElem?_drop, Nat.add_zero, List.getD_eq_getElem?_getD]
def qOf (x : SrcQ) : List Int := x.2.2.2.2.2.2.1
def g_Src (n : Int) (j : Nat) : SrcQ := (n + 6 * (j : Int), (n + 6 * (j : Int) + 1, (n + 6 * (j : Int) + 1 + 1, (n + 6 * (j : Int) + 1 + 1 + 1, (n + 6 * (j : Int) + 1 + 1 + 1 + 1, (n + 6 * (j : Int) + 1 + 1 + 1 + 1 + 1, (([] : List Int), ())))))))
def mk_SrcQ (n : Int) (r : List SrcQ) : List SrcQ := (List.range r.length).map (g_Src n)
theorem mk_SrcQ_len (n : Int) (r : List SrcQ) : (mk_SrcQ n r).length = r.length := by simp [mk_SrcQ]
theorem c_mark_nil (n : Int) (hn : 0 ≤ n ∧ n ≤ 1099511627776000) : TT n_laws_markIntS [.one (.row 0), eI n] [.row t_int (.int .i64) ([] : List Int)] (eI n) [.row t_int (.int .i64) ([] : List Int)] := by
  have := c_mark_IntS [] (by simp) n hn
  simpa [mk_IntS] using this
theorem c_held_nil (n : Int) (hn : 0 ≤ n ∧ n ≤ 1099511627776000) : TT n_laws_heldIntS [.one (.sl (.int .i64) ([] : List Int)), eI n] [] (eI n) [] := by
  have := c_held_IntS [] (by simp) n hn
  simpa [mk_IntS] using this
theorem c_mark_SourceS (r : List SrcQ) (h : r.length ≤ 1048576) (hq : ∀ x ∈ r, qOf x = []) (n : Int) (hn : 0 ≤ n ∧ n ≤ 1099511600000000) : TT n_laws_markSourceS [.one (.row 0), eI n] [rwQ r] (eI (n + 6 * (r.length : Int))) [rwQ (mk_SrcQ n r)] := by
  refine r_laws_markSourceS n r ⟨fun m k i s => 0 ≤ i ∧ i ≤ r.length ∧ m = (r.length - i).toNat ∧ k = n + 6 * i ∧ s = markTo (g_Src n) r i.toNat, ⟨_, by omega, by omega, rfl, by omega, (markTo_zero _ _).symm⟩, ?_⟩
  rintro m k i s ⟨h0, h1, rfl, rfl, rfl⟩
  have hl := markTo_length (g := g_Src n) (r := r) (i := i.toNat) (by omega)
  refine ifP (fun hlt => ?_) (fun hge => ?_)
  · rw [hl] at hlt
    have hs : (markTo (g_Src n) r i.toNat).set i.toNat (g_Src n i.toNat) = markTo (g_Src n) r (i + 1).toNat := by rw [toNat_succ h0]; exact markTo_set (by omega)
    have hg : g_Src n i.toNat = (n + 6 * i, (n + 6 * i + 1, (n + 6 * i + 1 + 1, (n + 6 * i + 1 + 1 + 1, (n + 6 * i + 1 + 1 + 1 + 1, (n + 6 * i + 1 + 1 + 1 + 1 + 1, (([] : List Int), ()))))))) := by simp only [g_Src, Int.toNat_of_nonneg h0]
    have hqs : ∀ d0 : SrcQ, ((markTo (g_Src n) r i.toNat).getD i.toNat d0).2.2.2.2.2.2.1 = [] := fun d0 => by
      rw [markTo_at (by omega)]
      rw [List.getD_eq_getElem?_getD, List.getElem?_eq_getElem (by omega)]
      exact hq _ (List.getElem_mem (by omega))
    revert hl hs hqs
    generalize markTo (g_Src n) r i.toNat = S
    intro hl hs hqs
    have gd : ∀ x d0 : SrcQ, (S.set i.toNat x).getD i.toNat d0 = x := fun x d0 => getD_set_self (by omega)
    have w1 : wI (n + 6 * i + 1) = n + 6 * i + 1 := w64 (by omega)
    have w2 : wI (n + 6 * i + 1 + 1) = n + 6 * i + 1 + 1 := w64 (by omega)
    have w3 : wI (n + 6 * i + 1 + 1 + 1) = n + 6 * i + 1 + 1 + 1 := w64 (by omega)
    have w4 : wI (n + 6 * i + 1 + 1 + 1 + 1) = n + 6 * i + 1 + 1 + 1 + 1 := w64 (by omega)
    have w5 : wI (n + 6 * i + 1 + 1 + 1 + 1 + 1) = n + 6 * i + 1 + 1 + 1 + 1 + 1 := w64 (by omega)
    have w6 : wI (n + 6 * i + 1 + 1 + 1 + 1 + 1 + 1) = n + 6 * i + 1 + 1 + 1 + 1 + 1 + 1 := w64 (by omega)
    simp only [w64 (x := i + 1) (show _ by omega), w1, w2, w3, w4, w5, w6]
    refine ⟨⟨h0, by rw [hl]; exact hlt⟩, fun r0 e0 => ?_⟩
    simp only [hqs] at e0
    refine ⟨⟨h0, by rw [e0, List.length_set, hl]; exact hlt⟩, fun r1 e1 => ?_⟩
    rw [e0] at e1
    simp only [List.set_set, gd] at e1
    refine ⟨⟨h0, by rw [e1, List.length_set, hl]; exact hlt⟩, fun r2 e2 => ?_⟩
    rw [e1] at e2
    simp only [List.set_set, gd] at e2
    refine ⟨⟨h0, by rw [e2, List.length_set, hl]; exact hlt⟩, fun r3 e3 => ?_⟩
    rw [e2] at e3
    simp only [List.set_set, gd] at e3
    refine ⟨⟨h0, by rw [e3, List.length_set, hl]; exact hlt⟩, fun r4 e4 => ?_⟩
    rw [e3] at e4
    simp only [List.set_set, gd] at e4
    refine ⟨⟨h0, by rw [e4, List.length_set, hl]; exact hlt⟩, fun r5 e5 => ?_⟩
    rw [e4] at e5
    simp only [List.set_set, gd] at e5
    refine ⟨⟨h0, by rw [e5, List.length_set, hl]; exact hlt⟩, n + 6 * i + 1 + 1 + 1 + 1 + 1 + 1, [], ?_, by first | exact rfl | exact trivial, ?_⟩
    · rw [e5]
      simp only [gd]
      exact c_mark_nil _ (by omega)
    · rw [e5]
      simp only [List.set_set, gd]
      exact ⟨_, by omega, by omega, by omega, rfl, by omega, by rw [← hs, hg]⟩
  · have : i.toNat = r.length := by omega
    rw [this, markTo_all, show n + 6 * i = n + 6 * (r.length : Int) by omega]; exact ⟨rfl, rfl⟩
theorem c_held_SourceS (r : List SrcQ) (h : r.length ≤ 1048576) (n : Int) (hn : 0 ≤ n ∧ n ≤ 1099511600000000) : TT n_laws_heldSourceS [.one (.sl tSrcQ (mk_SrcQ n r)), eI n] [] (eI (n + 6 * (r.length : Int))) [] := by
  have hlen := mk_SrcQ_len n r
  refine r_laws_heldSourceS (mk_SrcQ n r) n ⟨fun m k i => 0 ≤ i ∧ i ≤ r.length ∧ m = (r.length - i).toNat ∧ k = n + 6 * i, ⟨_, rfl, by omega, by omega, rfl, by omega⟩, ?_⟩
  rintro m k i ⟨h0, h1, rfl, rfl⟩
  refine ifP (fun hlt => ?_) (fun hge => ?_)
  · have hat : ∀ d0 : SrcQ, (mk_SrcQ n r).getD i.toNat d0 = (n + 6 * i, (n + 6 * i + 1, (n + 6 * i + 1 + 1, (n + 6 * i + 1 + 1 + 1, (n + 6 * i + 1 + 1 + 1 + 1, (n + 6 * i + 1 + 1 + 1 + 1 + 1, (([] : List Int), ()))))))) := fun d0 => by
      rw [List.getD_eq_getElem?_getD, mk_SrcQ, List.getElem?_map, List.getElem?_range (by omega)]
      simp only [Option.map_some, Option.getD_some, g_Src, Int.toNat_of_nonneg h0]
    have w1 : wI (n + 6 * i + 1) = n + 6 * i + 1 := w64 (by omega)
    have w2 : wI (n + 6 * i + 1 + 1) = n + 6 * i + 1 + 1 := w64 (by omega)
    have w3 : wI (n + 6 * i + 1 + 1 + 1) = n + 6 * i + 1 + 1 + 1 := w64 (by omega)
    have w4 : wI (n + 6 * i + 1 + 1 + 1 + 1) = n + 6 * i + 1 + 1 + 1 + 1 := w64 (by omega)
    have w5 : wI (n + 6 * i + 1 + 1 + 1 + 1 + 1) = n + 6 * i + 1 + 1 + 1 + 1 + 1 := w64 (by omega)
    have w6 : wI (n + 6 * i + 1 + 1 + 1 + 1 + 1 + 1) = n + 6 * i + 1 + 1 + 1 + 1 + 1 + 1 := w64 (by omega)
    simp only [hat, w64 (x := i + 1) (show _ by omega), w1, w2, w3, w4, w5, w6]
    exact ⟨⟨h0, hlt⟩, ifN_f rfl ⟨⟨h0, hlt⟩, ifN_f rfl ⟨⟨h0, hlt⟩, ifN_f rfl ⟨⟨h0, hlt⟩, ifN_f rfl ⟨⟨h0, hlt⟩, ifN_f rfl ⟨⟨h0, hlt⟩, ifN_f rfl ⟨⟨h0, hlt⟩, _, c_held_nil _ (by omega), ifP_f (by omega) ⟨_, by omega, by first | exact rfl | trivial, by omega, by omega, rfl, by omega⟩⟩⟩⟩⟩⟩⟩⟩
  · rw [show n + 6 * i = n + 6 * (r.length : Int) by omega]; exact ⟨rfl, rfl⟩
/-- What is loaded is small. -/
structure LpSm (x : LpT) : Prop where
  p : sm_Program (x.ks, (x.rs, (x.ts, (x.sf, ()))))
  g : x.g.length ≤ 1048576
  f : x.f.length ≤ 1048576
  a : x.a.length ≤ 1048576
  b : x.b.length ≤ 1048576
  c : x.c.length ≤ 1048576
  d : x.d.length ≤ 1048576
  q : x.q.length ≤ 1048576
  qq : ∀ y ∈ x.q, qOf y = []
def lpP (x : LpT) : PrgV := (x.ks, (x.rs, (x.ts, (x.sf, ()))))
def dk1 (x : LpT) : Int := mkP5 (lpP x) + 1 * (x.g.length : Int)
def dk2 (x : LpT) : Int := dk1 x + 4 * (x.f.length : Int)
def dk3 (x : LpT) : Int := dk2 x + 1 * (x.a.length : Int)
def dk4 (x : LpT) : Int := dk3 x + 1 * (x.b.length : Int)
def dk5 (x : LpT) : Int := dk4 x + 1 * (x.c.length : Int)
def dk6 (x : LpT) : Int := dk5 x + 1 * (x.d.length : Int)
def dk7 (x : LpT) : Int := dk6 x + 6 * (x.q.length : Int)
theorem dk_range {x : LpT} (h : LpSm x) : (1 ≤ mkP5 (lpP x) ∧ mkP5 (lpP x) ≤ 3200000000000) ∧ (1 ≤ dk1 x ∧ dk1 x ≤ 3300000000000) ∧ (1 ≤ dk2 x ∧ dk2 x ≤ 3400000000000) ∧ (1 ≤ dk3 x ∧ dk3 x ≤ 3500000000000) ∧ (1 ≤ dk4 x ∧ dk4 x ≤ 3600000000000) ∧ (1 ≤ dk5 x ∧ dk5 x ≤ 3700000000000) ∧ (1 ≤ dk6 x ∧ dk6 x ≤ 3800000000000) ∧ (1 ≤ dk7 x ∧ dk7 x ≤ 3900000000000) := by
  obtain ⟨-, -, -, h5⟩ := mkP_range (x := lpP x) h.p
  have := h.g; have := h.f; have := h.a; have := h.b; have := h.c; have := h.d; have := h.q
  unfold dk7 dk6 dk5 dk4 dk3 dk2 dk1
  omega
theorem c_mark_Data' (x : LpT) (h : LpSm x) : TT n_laws_markData [.agg [.row 0, .row 1, .row 2, .row 3, .row 4, .row 5, cI 0], eI (mkP5 (lpP x))] [.row t_int (.int .i64) x.g, .row t_impl_Fb tFb x.f, .row t_bool .bool x.a, .row t_bool .bool x.b, .row t_bool .bool x.c, .row t_bool .bool x.d] (eI (dk6 x))
    [.row t_int (.int .i64) (mk_IntS (mkP5 (lpP x)) x.g), .row t_impl_Fb tFb (mk_FbS (dk1 x) x.f), .row t_bool .bool (mk_BoolS (dk2 x) x.a), .row t_bool .bool (mk_BoolS (dk3 x) x.b), .row t_bool .bool (mk_BoolS (dk4 x) x.c), .row t_bool .bool (mk_BoolS (dk5 x) x.d)] := by
  obtain ⟨k0, k1, k2, k3, k4, k5, k6, k7⟩ := dk_range h
  exact r_laws_markData 0 (mkP5 (lpP x)) x.g x.f x.a x.b x.c x.d ⟨_, _, c_mark_IntS x.g h.g _ (by omega), _, _, c_mark_FbS x.f h.f (dk1 x) (by omega), _, _, c_mark_BoolS x.a h.a (dk2 x) (by omega), _, _, c_mark_BoolS x.b h.b (dk3 x) (by omega), _, _, c_mark_BoolS x.c h.c (dk4 x) (by omega), _, _, c_mark_BoolS x.d h.d (dk5 x) (by omega), rfl, rfl⟩
theorem c_held_Data' (x : LpT) (h : LpSm x) : TT n_laws_heldData [.agg [.sl (.int .i64) (mk_IntS (mkP5 (lpP x)) x.g), .sl tFb (mk_FbS (dk1 x) x.f), .sl .bool (mk_BoolS (dk2 x) x.a), .sl .bool (mk_BoolS (dk3 x) x.b), .sl .bool (mk_BoolS (dk4 x) x.c), .sl .bool (mk_BoolS (dk5 x) x.d), cI 0], eI (mkP5 (lpP x))] [] (eI (dk6 x)) [] := by
  obtain ⟨k0, k1, k2, k3, k4, k5, k6, k7⟩ := dk_range h
  exact r_laws_heldData _ _ _ _ _ _ 0 _ ⟨_, c_held_IntS x.g h.g _ (by omega), ifP_f (show ¬ dk1 x < 0 by omega) ⟨_, c_held_FbS x.f h.f (dk1 x) (by omega), ifP_f (show ¬ dk2 x < 0 by omega) ⟨_, c_held_BoolS x.a h.a (dk2 x) (by omega), ifP_f (show ¬ dk3 x < 0 by omega)
    ⟨_, c_held_BoolS x.b h.b (dk3 x) (by omega), ifP_f (show ¬ dk4 x < 0 by omega) ⟨_, c_held_BoolS x.c h.c (dk4 x) (by omega), ifP_f (show ¬ dk5 x < 0 by omega) ⟨_, c_held_BoolS x.d h.d (dk5 x) (by omega), ifP_f (show ¬ dk6 x < 0 by omega) ⟨rfl, rfl⟩⟩⟩⟩⟩⟩⟩
def mkLp (x : LpT) : LpT := ⟨mk_IntS 1 x.ks, mk_RoutineS (mkP2 (lpP x)) x.rs, mk_TaskS (mkP3 (lpP x)) x.ts, mk_BoolS (mkP4 (lpP x)) x.sf, mk_IntS (mkP5 (lpP x)) x.g, mk_FbS (dk1 x) x.f, mk_BoolS (dk2 x) x.a, mk_BoolS (dk3 x) x.b, mk_BoolS (dk4 x) x.c, mk_BoolS (dk5 x) x.d, x.md, mk_SrcQ (dk6 x) x.q, x.cd⟩
theorem c_mark_Plc (x : LpT) (h : LpSm x) : TT n_laws_markPlc [.agg [.row 0, .row 1, .row 2, .row 3, .row 4, .row 5, .row 6, .row 7, .row 8, .row 9, cI 0, cI x.md, cI 0, cI 0, cI 0, .bool false, .row 10, .nils, .nils], eI 1] (lpO x) (eI (dk7 x)) (lpO (mkLp x)) := by
  obtain ⟨k0, k1, k2, k3, k4, k5, k6, k7⟩ := dk_range h
  have hj : TT n_laws_markJobS [.one .nils, eI (dk7 x)] [] (eI (dk7 x)) [] := r_laws_markJobS (dk7 x) ⟨fun _ => True, ⟨0, rfl, trivial⟩, fun m _ => ifP_f (by omega) ⟨rfl, rfl⟩⟩
  have hd : TT n_laws_markDoneS [.one .nils, eI (dk7 x)] [] (eI (dk7 x)) [] := r_laws_markDoneS (dk7 x) ⟨fun _ => True, ⟨0, rfl, trivial⟩, fun m _ => ifP_f (by omega) ⟨rfl, rfl⟩⟩
  exact r_laws_markPlc 0 x.md 0 0 0 false 1 x.ks x.rs x.ts x.sf x.g x.f x.a x.b x.c x.d x.q ⟨_, _, _, _, _, c_mark_ProgramX (lpP x) h.p, _, _, _, _, _, _, _, c_mark_Data' x h, _, _, c_mark_SourceS x.q h.q h.qq (dk6 x) (by omega), _, hj, _, hd, rfl, rfl⟩
theorem c_held_Plc (x : LpT) (h : LpSm x) : TT n_laws_heldPlc [.agg [.sl (.int .i64) (mkLp x).ks, .sl tRou (mkLp x).rs, .sl tTsk (mkLp x).ts, .sl .bool (mkLp x).sf, .sl (.int .i64) (mkLp x).g, .sl tFb (mkLp x).f, .sl .bool (mkLp x).a, .sl .bool (mkLp x).b, .sl .bool (mkLp x).c, .sl .bool (mkLp x).d, cI 0, cI x.md, cI 0, cI 0, cI 0, .bool false, .sl tSrcQ (mkLp x).q, .nils, .nils], eI 1] [] (eI (dk7 x)) [] := by
  obtain ⟨k0, k1, k2, k3, k4, k5, k6, k7⟩ := dk_range h
  have hj : TT n_laws_heldJobS [.one .nils, eI (dk7 x)] [] (eI (dk7 x)) [] := r_laws_heldJobS (dk7 x) ⟨fun _ => True, ⟨0, rfl, trivial⟩, fun m _ => ifP_f (by omega) ⟨rfl, rfl⟩⟩
  have hd : TT n_laws_heldDoneS [.one .nils, eI (dk7 x)] [] (eI (dk7 x)) [] := r_laws_heldDoneS (dk7 x) ⟨fun _ => True, ⟨0, rfl, trivial⟩, fun m _ => ifP_f (by omega) ⟨rfl, rfl⟩⟩
  exact r_laws_heldPlc _ _ _ _ _ _ _ _ _ _ 0 x.md 0 0 0 false _ 1 ⟨_, c_held_ProgramX (lpP x) h.p, ifP_f (show ¬ mkP5 (lpP x) < 0 by omega) ⟨_, c_held_Data' x h, ifP_f (show ¬ dk6 x < 0 by omega) ⟨_, c_held_SourceS x.q h.q (dk6 x) (by omega), ifP_f (show ¬ dk7 x < 0 by omega) ⟨_, hj, ifP_f (show ¬ dk7 x < 0 by omega) ⟨_, hd, ifP_f (show ¬ dk7 x < 0 by omega) ⟨rfl, rfl⟩⟩⟩⟩⟩⟩
end Go.Ry
