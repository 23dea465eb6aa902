/- What the law of operations compares. No condition. -/
import Derived.Test.YtonmkhdbgofbpaaPOps12
set_option linter.unusedVariables false
set_option linter.unusedSimpArgs false
namespace Go.Ry
open Go.Proofs

theorem c_DataDrawn (l ks : List Int) (hl : l.length ≤ 1048576) (hb : ∀ n ∈ l, 0 ≤ n ∧ n ≤ 255) (hk : ks.length ≤ 8) (hkk : ks.all isKind = true) :
    ∃ x : Dat, DatOK x ∧ kindsD x.f = ks ∧ TT n_spec_DataDrawn [.one (.sl u8s l), .one (.sl tyInt ks)] [] (.agg [.row 0, .row 1, .row 2, .row 3, .row 4, .row 5, cI x.w]) x.os := by
  obtain ⟨q, h1, h2⟩ := c_source l hl hb
  obtain ⟨x, p', q', a1, a2, a3⟩ := c_data l ks 0 q h1 (by omega) hk hkk
  exact ⟨x, a1, a2, r_spec_DataDrawn l ks ⟨_, _, _, h2, _, _, _, _, _, _, _, _, _, _, a3, rfl, rfl⟩⟩
theorem c_laws_at (l : List Int) (i : Int) (hl : l.length ≤ 1048576) (hb : ∀ n ∈ l, 0 ≤ n ∧ n ≤ 255) (hi : 0 ≤ i ∧ i ≤ 3) : ∃ n, bin n ∧ TT n_laws_at [.one (.sl u8s l), eI i, eI 2] [] (eI n) [] := by
  have two : ∀ m : Int, 0 ≤ m → bin (Int.tmod m 2) := fun m hm => by
    obtain ⟨a, b⟩ := tmod_rng hm (b := 2) (by omega)
    unfold bin; omega
  by_cases h0 : (l.length : Int) = 0
  · refine ⟨Int.tmod (wI (i * 7)) 2, two _ (by rw [w64 (by omega)]; omega), r_laws_at l i 2 ?_⟩
    unfold v_laws_at
    exact ifP_f (by omega) (ifE_t h0 ⟨by omega, rfl, rfl⟩)
  · obtain ⟨a0, a1⟩ := tmod_rng (a := i) (b := (l.length : Int)) (by omega) (by omega)
    obtain ⟨b0, b1⟩ := tmod_rng (a := i + 1) (b := (l.length : Int)) (by omega) (by omega)
    have c0 := by_at hb (Int.tmod i l.length).toNat
    have c1 := by_at hb (Int.tmod (i + 1) l.length).toNat
    have d0 : 0 ≤ Int.tdiv i l.length := Int.tdiv_nonneg (by omega) (by omega)
    have d1 : Int.tdiv i l.length ≤ 3 := by
      rw [Int.tdiv_eq_ediv_of_nonneg (by omega)]
      have := Int.ediv_le_self (b := (l.length : Int)) (a := i) (by omega)
      omega
    refine ⟨Int.tmod (wI ((wI ((wI ((wI (l.getD (Int.toNat (Int.tmod i l.length)) 0)) * 31)) + (wI (l.getD (Int.toNat (Int.tmod (wI (i + 1)) l.length)) 0)))) + (wI (Int.tdiv i l.length)))) 2, two _ ?_, r_laws_at l i 2 ?_⟩
    · rw [w64 (x := i + 1) (by omega), w64 (x := l.getD (Int.tmod i l.length).toNat 0) (by omega), w64 (x := l.getD (Int.tmod (i + 1) l.length).toNat 0) (by omega), w64 (x := Int.tdiv i l.length) (by omega),
        w64 (x := _ * 31) (by omega), w64 (x := _ * 31 + _) (by omega), w64 (by omega)]
      omega
    · unfold v_laws_at
      have e : wI (i + 1) = i + 1 := w64 (by omega)
      rw [e]
      exact ifP_f (by omega) (ifE_f h0 ⟨h0, ⟨a0, a1⟩, h0, ⟨b0, b1⟩, h0, by omega, rfl, rfl⟩)
theorem c_laws_sameInts (l : List Int) (hl : l.length ≤ 1048576) : TT n_laws_sameInts [.one (.sl tyInt l), .one (.sl tyInt l)] [] (eB true) [] := by
  refine r_laws_sameInts l l (ifN_f rfl ⟨fun m i => 0 ≤ i ∧ i ≤ l.length ∧ m = (l.length - i).toNat, ⟨_, rfl, by omega, by omega, rfl⟩, ?_⟩)
  rintro m i ⟨h0, h1, rfl⟩
  refine ifP (fun hlt => ⟨⟨h0, hlt⟩, ⟨h0, hlt⟩, ifN_f rfl ⟨_, ?_, rfl, ?_, ?_, rfl⟩⟩) (fun hge => ⟨rfl, rfl⟩)
  all_goals rw [w64 (by omega)]; omega
theorem c_Equal_int (l : List Int) (hl : l.length ≤ 1048576) : TT n_slices_Equal_int_int [.one (.sl tyInt l), .one (.sl tyInt l)] [] (eB true) [] := by
  refine r_slices_Equal_int_int l l (ifN_f rfl ⟨fun m i => 0 ≤ i ∧ i ≤ l.length ∧ m = (l.length - i).toNat, ⟨_, rfl, by omega, by omega, rfl⟩, ?_⟩)
  rintro m i ⟨h0, h1, rfl⟩
  refine ifP (fun hlt => ⟨⟨h0, hlt⟩, ⟨h0, hlt⟩, ifN_f rfl ⟨_, ?_, rfl, ?_, ?_, rfl⟩⟩) (fun hge => ⟨rfl, rfl⟩)
  all_goals rw [w64 (by omega)]; omega
theorem c_Equal_bool (l : List Bool) (hl : l.length ≤ 1048576) : TT n_slices_Equal_bool_bool [.one (.sl .bool l), .one (.sl .bool l)] [] (eB true) [] := by
  refine r_slices_Equal_bool_bool l l (ifN_f rfl ⟨fun m i => 0 ≤ i ∧ i ≤ l.length ∧ m = (l.length - i).toNat, ⟨_, rfl, by omega, by omega, rfl⟩, ?_⟩)
  rintro m i ⟨h0, h1, rfl⟩
  refine ifP (fun hlt => ⟨⟨h0, hlt⟩, ⟨h0, hlt⟩, ifB_f (by simp) ⟨_, ?_, rfl, ?_, ?_, rfl⟩⟩) (fun hge => ⟨rfl, rfl⟩)
  all_goals rw [w64 (by omega)]; omega
theorem c_Equal_Fb (l : List FbT) (hl : l.length ≤ 1048576) : TT n_slices_Equal_impl_Fb_impl_Fb [.one (.sl tFb l), .one (.sl tFb l)] [] (eB true) [] := by
  refine r_slices_Equal_impl_Fb_impl_Fb l l (ifN_f rfl ⟨fun m i => 0 ≤ i ∧ i ≤ l.length ∧ m = (l.length - i).toNat, ⟨_, rfl, by omega, by omega, rfl⟩, ?_⟩)
  rintro m i ⟨h0, h1, rfl⟩
  refine ifP (fun hlt => ⟨⟨h0, hlt⟩, ⟨h0, hlt⟩, ifB_f (by simp) ⟨_, ?_, rfl, ?_, ?_, rfl⟩⟩) (fun hge => ⟨rfl, rfl⟩)
  all_goals rw [w64 (by omega)]; omega
theorem c_impl_SameData (x : Dat) (hx : DatOK x) : TT n_impl_SameData [.agg x.cs, .agg x.cs] [] (eB true) [] := by
  have hd := c_impl_DataOK x (by have := hx.g; omega)
  rw [datOK_iff.2 hx] at hd
  have hs : TT n_impl_sameData [.agg x.cs, .agg x.cs] [] (eB true) [] :=
    r_impl_sameData x.g x.f x.a x.b x.c x.d x.w x.g x.f x.a x.b x.c x.d x.w ⟨_, c_Equal_int _ (by have := hx.g; omega), _, c_Equal_Fb _ (by have := hx.f; omega), _, c_Equal_bool _ (by have := hx.a; omega),
      _, c_Equal_bool _ (by have := hx.b; omega), _, c_Equal_bool _ (by have := hx.c; omega), _, c_Equal_bool _ (by have := hx.d; omega), by simp, rfl⟩
  exact r_impl_SameData x.g x.f x.a x.b x.c x.d x.w x.g x.f x.a x.b x.c x.d x.w ⟨_, hd, _, hd, _, hs, rfl, rfl⟩
end Go.Ry
