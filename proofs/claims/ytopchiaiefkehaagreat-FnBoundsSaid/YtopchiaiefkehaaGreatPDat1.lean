/- Data, blocks and lists of numbers: what is right. No condition. -/
import Derived.Test.YtopchiaiefkehaaGreatPNum2
import Derived.Test.YtopchiaiefkehaaGreatPStr
set_option linter.unusedVariables false
set_option linter.unusedSimpArgs false
namespace Go.Ry
open Go.Proofs

abbrev FbT := Int × Bool × Int × Int × Unit
@[reducible] def tFb : Ty := .pair (.int .i64) (.pair .bool (.pair (.int .i64) (.pair (.int .i64) .unit)))
@[reducible] def dFb : FbT := ((0 : Int), (false, ((0 : Int), ((0 : Int), ()))))

/-! ### small tests -/
def isTm (n : Int) : Bool := within n 0 2147483647
theorem c_impl_isValue (n : Int) : TT n_impl_isValue [eI n] [] (eB (isVal n)) [] := r_impl_isValue n ⟨_, c_impl_within _ _ _, rfl, rfl⟩
theorem c_impl_isTime (n : Int) : TT n_impl_isTime [eI n] [] (eB (isTm n)) [] := r_impl_isTime n ⟨_, c_impl_within _ _ _, rfl, rfl⟩
def isCtl (n : Int) : Bool := within n 21 24 || n == 26
def bitI (b : Bool) : Int := if b = true then 1 else 0
theorem c_impl_bit (b : Bool) : TT n_impl_bit [eB b] [] (eI (bitI b)) [] := r_impl_bit b (by cases b <;> exact ⟨rfl, rfl⟩)
/-! ### blocks -/
def fbOK (f : FbT) : Bool :=
  if f.1 = 1 then isTm f.2.2.1 && (isTm f.2.2.2.1 && (f.2.1 || (f.2.2.1 == 0 && f.2.2.2.1 == 0)))
  else if f.1 = 2 then f.2.2.1 == 0 && isTm f.2.2.2.1
  else (f.1 == 3 || f.1 == 4) && (f.2.2.1 == 0 && f.2.2.2.1 == 0)
@[reducible] def fbE (f : FbT) : Ent := .agg [cI f.1, .bool f.2.1, cI f.2.2.1, cI f.2.2.2.1]
theorem isTm0 : isTm 0 = true := by decide
theorem c_impl_FbOK (f : FbT) : TT n_impl_FbOK [fbE f] [] (eB (fbOK f)) [] := by
  obtain ⟨kd, on, st, ct, u⟩ := f
  refine r_impl_FbOK kd on st ct ?_
  unfold v_impl_FbOK
  refine ⟨_, c_impl_isTime st, ifB_cases (fun h => ?_) fun h => ⟨_, c_impl_isTime ct, ifB_cases (fun h' => ?_) fun h' => ?_⟩⟩
  · have h0 : st ≠ 0 := fun e => by simp [e, isTm0] at h
    simp only [Bool.not_eq_true'] at h
    refine ⟨?_, rfl⟩
    unfold fbOK
    simp only
    split
    · simp [h]
    · split <;> simp [h0]
  · have h0 : ct ≠ 0 := fun e => by simp [e, isTm0] at h'
    simp only [Bool.not_eq_true'] at h'
    refine ⟨?_, rfl⟩
    unfold fbOK
    simp only
    split
    · simp [h']
    · split <;> simp [h0, h']
  simp only [Bool.not_eq_false'] at h h'
  refine ifE (fun h1 => ?_) fun h1 => ?_
  · subst h1
    refine ifB_cases (fun ho => ⟨by simp [fbOK, h, h', ho], rfl⟩) fun ho => ifE (fun hs => ⟨by simp [fbOK, h, h', ho, hs, isTm0], rfl⟩) fun hs => ⟨by simp [fbOK, h, h', ho, hs], rfl⟩
  refine ifE (fun h2 => ⟨by simp [fbOK, h2, h'], rfl⟩) fun h2 => ?_
  refine ⟨fun b => b = (kd == 3 || kd == 4), ?_, ?_⟩
  · exact ifE (fun h3 => ⟨rfl, by simp [h3]⟩) fun h3 => ⟨rfl, by simp [h3]⟩
  rintro b rfl
  refine ifB_cases (fun hb => ifE (fun hs => ⟨by simp [fbOK, h1, h2, hb, hs], rfl⟩) fun hs => ⟨by simp [fbOK, h1, h2, hb, hs], rfl⟩) fun hb => ⟨by simp [fbOK, h1, h2, hb], rfl⟩
/-! ### lists of them -/
theorem c_impl_all_int_1v (n : Int) : TT n_impl_all_int_1 [eI n, .one (.ptrB 0 0)] [.box [.fn n_impl_isValue []]] (eB (!isVal n)) [.box [.fn n_impl_isValue []]] :=
  r_impl_all_int_1_1 n ⟨_, c_impl_isValue n, rfl, rfl⟩
theorem c_IndexFunc_intv (l : List Int) (hl : l.length ≤ 1048576) : ∃ n : Int, decide (n ≥ 0) = (l.any fun x => !isVal x) ∧
    TT n_slices_IndexFunc_int_int [.one (.sl (.int .i64) l), .one (.fn n_impl_all_int_1 [0])] [.box [.fn n_impl_isValue []]] (eI n) [.box [.fn n_impl_isValue []]] := by
  refine ⟨findI (fun x => !isVal x) l 0, findI_ge, r_slices_IndexFunc_int_int_1 l ⟨fun m i => 0 ≤ i ∧ i ≤ l.length ∧ m = (l.length - i).toNat ∧ findI (fun x => !isVal x) (l.drop i.toNat) i.toNat = findI (fun x => !isVal x) l 0, ⟨_, rfl, by omega, by omega, rfl, rfl⟩, ?_⟩⟩
  rintro m i ⟨h0, h1, rfl, h2⟩
  refine ifP (fun hlt => ⟨⟨h0, hlt⟩, _, c_impl_all_int_1v _, ?_⟩) (fun hge => ?_)
  · rw [drop_getD (by omega) 0, findI] at h2
    refine ifB_cases (fun hb => ?_) (fun hb => ?_)
    · rw [if_pos hb] at h2
      exact ⟨by rw [← h2]; congr 1; omega, rfl⟩
    · rw [if_neg (by rw [hb]; exact Bool.false_ne_true)] at h2
      rw [w64 (by omega)]
      exact ⟨_, by omega, rfl, by omega, by omega, rfl, by rw [toNat_succ h0]; exact h2⟩
  · rw [List.drop_eq_nil_of_le (by omega)] at h2
    exact ⟨by rw [← h2]; rfl, rfl⟩
theorem c_ContainsFunc_intv (l : List Int) (hl : l.length ≤ 1048576) :
    TT n_slices_ContainsFunc_int_int [.one (.sl (.int .i64) l), .one (.fn n_impl_all_int_1 [0])] [.box [.fn n_impl_isValue []]] (eB (l.any fun x => !isVal x)) [.box [.fn n_impl_isValue []]] := by
  obtain ⟨n, hn, hc⟩ := c_IndexFunc_intv l hl
  exact r_slices_ContainsFunc_int_int_1 l ⟨_, hc, by rw [hn], rfl⟩
theorem c_impl_all_intv (l : List Int) (hl : l.length ≤ 1048576) : TT n_impl_all_int [.one (.sl (.int .i64) l), .one (.fn n_impl_isValue [])] [] (eB (l.all isVal)) [] :=
  r_impl_all_int_k1 l ⟨_, c_ContainsFunc_intv l hl, by rw [all_any], rfl⟩
theorem c_impl_all_int_1t (n : Int) : TT n_impl_all_int_1 [eI n, .one (.ptrB 0 0)] [.box [.fn n_impl_isTime []]] (eB (!isTm n)) [.box [.fn n_impl_isTime []]] :=
  r_impl_all_int_1_2 n ⟨_, c_impl_isTime n, rfl, rfl⟩
theorem c_IndexFunc_intt (l : List Int) (hl : l.length ≤ 1048576) : ∃ n : Int, decide (n ≥ 0) = (l.any fun x => !isTm x) ∧
    TT n_slices_IndexFunc_int_int [.one (.sl (.int .i64) l), .one (.fn n_impl_all_int_1 [0])] [.box [.fn n_impl_isTime []]] (eI n) [.box [.fn n_impl_isTime []]] := by
  refine ⟨findI (fun x => !isTm x) l 0, findI_ge, r_slices_IndexFunc_int_int_2 l ⟨fun m i => 0 ≤ i ∧ i ≤ l.length ∧ m = (l.length - i).toNat ∧ findI (fun x => !isTm x) (l.drop i.toNat) i.toNat = findI (fun x => !isTm x) l 0, ⟨_, rfl, by omega, by omega, rfl, rfl⟩, ?_⟩⟩
  rintro m i ⟨h0, h1, rfl, h2⟩
  refine ifP (fun hlt => ⟨⟨h0, hlt⟩, _, c_impl_all_int_1t _, ?_⟩) (fun hge => ?_)
  · rw [drop_getD (by omega) 0, findI] at h2
    refine ifB_cases (fun hb => ?_) (fun hb => ?_)
    · rw [if_pos hb] at h2
      exact ⟨by rw [← h2]; congr 1; omega, rfl⟩
    · rw [if_neg (by rw [hb]; exact Bool.false_ne_true)] at h2
      rw [w64 (by omega)]
      exact ⟨_, by omega, rfl, by omega, by omega, rfl, by rw [toNat_succ h0]; exact h2⟩
  · rw [List.drop_eq_nil_of_le (by omega)] at h2
    exact ⟨by rw [← h2]; rfl, rfl⟩
theorem c_ContainsFunc_intt (l : List Int) (hl : l.length ≤ 1048576) :
    TT n_slices_ContainsFunc_int_int [.one (.sl (.int .i64) l), .one (.fn n_impl_all_int_1 [0])] [.box [.fn n_impl_isTime []]] (eB (l.any fun x => !isTm x)) [.box [.fn n_impl_isTime []]] := by
  obtain ⟨n, hn, hc⟩ := c_IndexFunc_intt l hl
  exact r_slices_ContainsFunc_int_int_2 l ⟨_, hc, by rw [hn], rfl⟩
theorem c_impl_all_intt (l : List Int) (hl : l.length ≤ 1048576) : TT n_impl_all_int [.one (.sl (.int .i64) l), .one (.fn n_impl_isTime [])] [] (eB (l.all isTm)) [] :=
  r_impl_all_int_2 l ⟨_, c_ContainsFunc_intt l hl, by rw [all_any], rfl⟩
theorem c_impl_all_Fb_1 (f : FbT) : TT n_impl_all_impl_Fb_1 [fbE f, .one (.ptrB 0 0)] [.box [.fn n_impl_FbOK []]] (eB (!fbOK f)) [.box [.fn n_impl_FbOK []]] := by
  obtain ⟨kd, on, st, ct, u⟩ := f
  exact r_impl_all_impl_Fb_1 kd on st ct ⟨_, c_impl_FbOK (kd, on, st, ct, u), rfl, rfl⟩
theorem c_IndexFunc_Fb (l : List FbT) (hl : l.length ≤ 1048576) : ∃ n : Int, decide (n ≥ 0) = (l.any fun x => !fbOK x) ∧
    TT n_slices_IndexFunc_impl_Fb_impl_Fb [.one (.sl tFb l), .one (.fn n_impl_all_impl_Fb_1 [0])] [.box [.fn n_impl_FbOK []]] (eI n) [.box [.fn n_impl_FbOK []]] := by
  refine ⟨findI (fun x => !fbOK x) l 0, findI_ge, r_slices_IndexFunc_impl_Fb_impl_Fb l ⟨fun m i => 0 ≤ i ∧ i ≤ l.length ∧ m = (l.length - i).toNat ∧ findI (fun x => !fbOK x) (l.drop i.toNat) i.toNat = findI (fun x => !fbOK x) l 0, ⟨_, rfl, by omega, by omega, rfl, rfl⟩, ?_⟩⟩
  rintro m i ⟨h0, h1, rfl, h2⟩
  refine ifP (fun hlt => ⟨⟨h0, hlt⟩, _, c_impl_all_Fb_1 _, ?_⟩) (fun hge => ?_)
  · rw [drop_getD (by omega) dFb, findI] at h2
    refine ifB_cases (fun hb => ?_) (fun hb => ?_)
    · rw [if_pos hb] at h2
      exact ⟨by rw [← h2]; congr 1; omega, rfl⟩
    · rw [if_neg (by rw [hb]; exact Bool.false_ne_true)] at h2
      rw [w64 (by omega)]
      exact ⟨_, by omega, rfl, by omega, by omega, rfl, by rw [toNat_succ h0]; exact h2⟩
  · rw [List.drop_eq_nil_of_le (by omega)] at h2
    exact ⟨by rw [← h2]; rfl, rfl⟩
theorem c_ContainsFunc_Fb (l : List FbT) (hl : l.length ≤ 1048576) :
    TT n_slices_ContainsFunc_impl_Fb_impl_Fb [.one (.sl tFb l), .one (.fn n_impl_all_impl_Fb_1 [0])] [.box [.fn n_impl_FbOK []]] (eB (l.any fun x => !fbOK x)) [.box [.fn n_impl_FbOK []]] := by
  obtain ⟨n, hn, hc⟩ := c_IndexFunc_Fb l hl
  exact r_slices_ContainsFunc_impl_Fb_impl_Fb l ⟨_, hc, by rw [hn], rfl⟩
theorem c_impl_all_Fb (l : List FbT) (hl : l.length ≤ 1048576) : TT n_impl_all_impl_Fb [.one (.sl tFb l), .one (.fn n_impl_FbOK [])] [] (eB (l.all fbOK)) [] :=
  r_impl_all_impl_Fb l ⟨_, c_ContainsFunc_Fb l hl, by rw [all_any], rfl⟩

/-! ### data -/
structure Dat where
  g : List Int
  f : List FbT
  a : List Bool
  b : List Bool
  c : List Bool
  d : List Bool
  w : Int
@[reducible] def Dat.cs (x : Dat) : List Cell := [.sl tyInt x.g, .sl tFb x.f, .sl .bool x.a, .sl .bool x.b, .sl .bool x.c, .sl .bool x.d, cI x.w]
def dataOK (x : Dat) : Bool := decide ((x.g.length : Int) = 16) && (decide ((x.f.length : Int) ≤ 8) && (decide ((x.a.length : Int) = 8) && (decide ((x.b.length : Int) = 8) && (decide ((x.c.length : Int) = 8) && (decide ((x.d.length : Int) = 8) && (isTm x.w && (x.g.all isVal && x.f.all fbOK)))))))
theorem c_impl_DataOK (x : Dat) (hg : x.g.length ≤ 1048576) : TT n_impl_DataOK [.agg x.cs] [] (eB (dataOK x)) [] := by
  obtain ⟨g, f, a, b, c, d, w⟩ := x
  refine r_impl_DataOK g f a b c d w ?_
  unfold v_impl_DataOK
  refine ⟨(a.length : Int) = 8 ∧ (b.length : Int) = 8 ∧ (c.length : Int) = 8 ∧ (d.length : Int) = 8, ?_, fun hJ => ?_⟩
  · refine ⟨fun m i => 0 ≤ i ∧ i ≤ 4 ∧ m = (4 - i).toNat ∧ (0 < i → (a.length : Int) = 8) ∧ (1 < i → (b.length : Int) = 8) ∧ (2 < i → (c.length : Int) = 8) ∧ (3 < i → (d.length : Int) = 8), ⟨_, rfl, rfl, by omega, by omega, rfl, by omega, by omega, by omega, by omega⟩, ?_⟩
    rintro m i ⟨h0, h1, rfl, k1, k2, k3, k4⟩
    refine ifP (fun hlt => ⟨⟨h0, hlt⟩, ?_⟩) (fun hge => ⟨rfl, k1 (by omega), k2 (by omega), k3 (by omega), k4 (by omega)⟩)
    have hi : i = 0 ∨ i = 1 ∨ i = 2 ∨ i = 3 := by omega
    rw [w64 (by omega)]
    rcases hi with rfl | rfl | rfl | rfl
    · exact ifN (fun hn => ⟨by have : ¬ (a.length : Int) = 8 := hn; simp [dataOK, this], rfl⟩) fun hn => ⟨_, by omega, rfl, rfl, by omega, by omega, rfl, fun _ => hn, by omega, by omega, by omega⟩
    · exact ifN (fun hn => ⟨by have : ¬ (b.length : Int) = 8 := hn; simp [dataOK, this], rfl⟩) fun hn => ⟨_, by omega, rfl, rfl, by omega, by omega, rfl, fun _ => k1 (by omega), fun _ => hn, by omega, by omega⟩
    · exact ifN (fun hn => ⟨by have : ¬ (c.length : Int) = 8 := hn; simp [dataOK, this], rfl⟩) fun hn => ⟨_, by omega, rfl, rfl, by omega, by omega, rfl, fun _ => k1 (by omega), fun _ => k2 (by omega), fun _ => hn, by omega⟩
    · exact ifN (fun hn => ⟨by have : ¬ (d.length : Int) = 8 := hn; simp [dataOK, this], rfl⟩) fun hn => ⟨_, by omega, rfl, rfl, by omega, by omega, rfl, fun _ => k1 (by omega), fun _ => k2 (by omega), fun _ => k3 (by omega), fun _ => hn⟩
  obtain ⟨h1, h2, h3, h4⟩ := hJ
  refine ifE (fun hg' => ?_) fun hg' => ⟨by simp [dataOK, hg'], rfl⟩
  refine ⟨_, c_impl_all_intv g hg, ifB_cases (fun hv => ?_) fun hv => ⟨by simp [dataOK, hv], rfl⟩⟩
  refine ifP (fun hf => ?_) fun hf => ⟨by simp [dataOK, hf], rfl⟩
  refine ⟨_, c_impl_all_Fb f (by omega), ifB_cases (fun hq => ?_) fun hq => ⟨by simp [dataOK, hq], rfl⟩⟩
  exact ⟨_, c_impl_isTime w, by simp [dataOK, hg', hv, hf, hq, h1, h2, h3, h4], rfl⟩
/-! ### kinds -/
def kindsD (f : List FbT) : List Int := f.map (·.1)
theorem c_impl_kindsOf (x : Dat) (h : x.f.length ≤ 1048576) : TT n_impl_kindsOf [.agg x.cs] [] (.one (.row 0)) [.row t_int tyInt (kindsD x.f)] := by
  obtain ⟨g, f, a, b, c, d, w⟩ := x
  refine r_impl_kindsOf g f a b c d w ⟨fun m i r => 0 ≤ i ∧ i ≤ f.length ∧ m = (f.length - i).toNat ∧ r = kindsD (f.take i.toNat), ⟨_, rfl, by omega, by omega, rfl, by simp [kindsD]⟩, ?_⟩
  rintro m i r ⟨h0, h1, rfl, rfl⟩
  have h : f.length ≤ 1048576 := h
  refine ifP (fun hlt => ⟨⟨h0, hlt⟩, ?_⟩) (fun hge => ?_)
  · refine ⟨by simp [kindsD]; omega, _, ?_, rfl, ?_, ?_, rfl, ?_⟩
    · rw [w64 (by omega)]; omega
    · rw [w64 (by omega)]; omega
    · rw [w64 (by omega)]; omega
    · rw [w64 (by omega), toNat_succ h0, take_succ_getD (by omega) dFb]
      simp [kindsD]
  · rw [List.take_of_length_le (by omega)]
    exact ⟨rfl, rfl⟩
end Go.Ry
