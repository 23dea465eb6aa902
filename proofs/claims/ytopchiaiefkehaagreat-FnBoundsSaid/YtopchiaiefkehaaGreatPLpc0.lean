/- A processor that is loaded: the program's. No condition. -/
import Derived.Test.YtopchiaiefkehaaGreatPImg3
import Derived.Test.YtopchiaiefkehaaGreatPAdm1
import Derived.Test.YtopchiaiefkehaaGreatPNew1
set_option linter.unusedVariables false
set_option linter.unusedSimpArgs false
namespace Go.Ry
open Go.Proofs

abbrev SrcQ := Int × Int × Int × Int × Int × Int × List Int × Unit
abbrev FrmQ := Int × Int × List Int × Unit
abbrev JobQ := Int × Int × Int × Int × Int × (List FrmQ × List Int × Unit) × List Bool × List Bool × List Bool × Unit
abbrev DonQ := Int × Int × Int × Int × Unit
@[reducible] def tSrcQ : Ty := .pair (.int .i64) (.pair (.int .i64) (.pair (.int .i64) (.pair (.int .i64) (.pair (.int .i64) (.pair (.int .i64) (.pair (.slice (.int .i64)) .unit))))))
@[reducible] def tFrmQ : Ty := .pair (.int .i64) (.pair (.int .i64) (.pair (.slice (.int .i64)) .unit))
@[reducible] def tJobQ : Ty := .pair (.int .i64) (.pair (.int .i64) (.pair (.int .i64) (.pair (.int .i64) (.pair (.int .i64) (.pair (.pair (.slice tFrmQ) (.pair (.slice (.int .i64)) .unit)) (.pair (.slice .bool) (.pair (.slice .bool) (.pair (.slice .bool) .unit))))))))
@[reducible] def tDonQ : Ty := .pair (.int .i64) (.pair (.int .i64) (.pair (.int .i64) (.pair (.int .i64) .unit)))
@[reducible] def rwQ (l : List SrcQ) : Ob := .nest t_impl_Source tSrcQ ⟨6, t_int, .int .i64⟩ l none
def src0 : SrcQ := ((-1 : Int), ((0 : Int), ((0 : Int), ((0 : Int), ((0 : Int), ((0 : Int), (([] : List Int), ())))))))
theorem img_fit {s : ByteArray} (h : imgE s = 0) : PrgFit (imgK s) (imgR s) (imgT s) (imgF s) := by
  unfold imgK imgR imgT imgF
  rw [if_pos h, if_pos h, if_pos h, if_pos h]
  unfold imgE at h
  split at h
  · cases h
  split at h
  · rename_i h1; exact absurd h h1
  unfold imgC at h
  split at h
  · rename_i h1; exact absurd h h1
  split at h
  · cases h
  exact prgOK_fit (by rw [prgOK, h]; rfl)
/-- What is loaded. -/
structure LpT where
  ks : List Int
  rs : List Rou
  ts : List Tsk
  sf : List Bool
  g : List Int
  f : List FbT
  a : List Bool
  b : List Bool
  c : List Bool
  d : List Bool
  md : Int
  q : List SrcQ
  cd : Int
def lpC (s : ByteArray) : Int := if imgE s ≠ 0 then imgE s else (admM (costsM (imgR s)) (imgT s)).2.2
def lpT (s : ByteArray) : LpT := if lpC s = 0 then ⟨imgK s, imgR s, imgT s, imgF s, List.replicate 16 0, newF (imgK s), rep8, rep8, rep8, imgF s, 1, List.replicate (imgT s).length src0, 0⟩ else ⟨[], [], [], [], [], [], [], [], [], [], 0, [], lpC s⟩
@[reducible] def lpO (x : LpT) : List Ob := [rwK x.ks, rwR x.rs, .row t_impl_Task tTsk x.ts, .row t_bool .bool x.sf, .row t_int (.int .i64) x.g, .row t_impl_Fb tFb x.f, .row t_bool .bool x.a, .row t_bool .bool x.b, .row t_bool .bool x.c, .row t_bool .bool x.d, rwQ x.q]
@[reducible] def lpE (x : LpT) : Ent := .tup [(true, [.row 0, .row 1, .row 2, .row 3, .row 4, .row 5, .row 6, .row 7, .row 8, .row 9, cI 0, cI x.md, cI 0, cI 0, cI 0, .bool false, .row 10, .nils, .nils]), (false, [cI x.cd])]
@[reducible] def lpE' (x : LpT) : Ent := .tup [(true, [.row 0, .row 1, .row 2, .row 3, .row 4, .row 5, .row 6, .row 7, .row 8, .row 9, cI 0, cI x.md, cI 0, cI 0, cI 0, .bool false, .row 10, .row 11, .row 12]), (false, [cI x.cd])]
theorem lp_bad {s : ByteArray} {c : Int} (h : lpC s = c) (h0 : c ≠ 0) : lpT s = ⟨[], [], [], [], [], [], [], [], [], [], 0, [], c⟩ := by
  unfold lpT; rw [if_neg (by rw [h]; exact h0), h]
theorem lp_good {s : ByteArray} (h : lpC s = 0) : lpT s = ⟨imgK s, imgR s, imgT s, imgF s, List.replicate 16 0, newF (imgK s), rep8, rep8, rep8, imgF s, 1, List.replicate (imgT s).length src0, 0⟩ := by
  unfold lpT; rw [if_pos h]
theorem c_impl_LoadPlc (s : ByteArray) : TT n_impl_LoadPlc [eS s] [] (lpE (lpT s)) (lpO (lpT s)) := by
  refine r_impl_LoadPlc s ⟨_, _, _, _, _, c_impl_ReadImage s, ifN (fun h => ?_) (fun h => ?_)⟩
  · rw [lp_bad (show lpC s = imgE s from if_pos h) h]; exact ⟨rfl, rfl⟩
  have hf := img_fit h
  have hc : lpC s = (admM (costsM (imgR s)) (imgT s)).2.2 := if_neg (fun e => e h)
  have ht5 := hf.ts5
  have hs8 := hf.hs
  have hk8 := (kindsOK_in hf.hk).1
  refine ⟨_, _, _, c_impl_admit _ _ _ _ hf, ifN (fun h2 => ?_) (fun h2 => ?_)⟩
  · rw [lp_bad hc h2]; exact ⟨rfl, rfl⟩
  rw [lp_good (hc.trans h2)]
  have hn := c_impl_newData (imgK s) (by omega)
  revert hf hs8 ht5 hn
  generalize imgK s = K
  generalize imgR s = R
  generalize imgT s = T
  generalize imgF s = F
  intro hf ht5 hs8 hn
  refine ⟨fun n k r t sf g f a b c d => n = 0 ∧ k = K ∧ r = R ∧ t = T ∧ sf = F ∧ g = List.replicate 16 0 ∧ f = newF K ∧ a = rep8 ∧ b = rep8 ∧ c = rep8 ∧ d = rep8,
    ⟨⟨_, _, _, _, _, _, _, hn, rfl, rfl, rfl, rfl, rfl, rfl, rfl, rfl, rfl, rfl, rfl, rfl⟩, ⟨_, _, _, _, _, _, _, hn, rfl, rfl, rfl, rfl, rfl, rfl, rfl, rfl, rfl, rfl, rfl, rfl⟩⟩, ?_⟩
  rintro n k r t sf g f a b c d ⟨rfl, rfl, rfl, rfl, rfl, rfl, rfl, rfl, rfl, rfl, rfl⟩
  refine ⟨by rw [hs8]; rfl, fun m n i x k' r' t' sf' g f a b c d q => n = t.length ∧ 0 ≤ i ∧ i ≤ t.length ∧ m = (t.length - i).toNat ∧ x = 0 ∧ k' = k ∧ r' = r ∧ t' = t ∧ sf' = sf ∧ g = List.replicate 16 0 ∧ f = newF k ∧ a = rep8 ∧ b = rep8 ∧ c = rep8 ∧ d = sf ∧ q = List.replicate i.toNat src0,
    ⟨_, rfl, rfl, by omega, by omega, rfl, rfl, rfl, rfl, rfl, rfl, rfl, rfl, rfl, rfl, rfl, rfl, rfl⟩, ?_⟩
  rintro m n i x k' r' t' sf' g f a b c d q ⟨rfl, h0, h1, rfl, rfl, rfl, rfl, rfl, rfl, rfl, rfl, rfl, rfl, rfl, rfl, rfl⟩
  refine ifP (fun hlt => ?_) (fun hge => ?_)
  · rw [w64 (x := i + 1) (by omega)]
    refine ⟨_, _, _, _, _, _, r_impl_NewSource ⟨rfl, rfl⟩, by simp; omega, _, ?_, rfl, rfl, by omega, by omega, rfl, rfl, rfl, rfl, rfl, rfl, rfl, rfl, rfl, rfl, rfl, rfl, ?_⟩
    · omega
    · rw [toNat_succ h0, List.replicate_succ']; rfl
  · rw [show i.toNat = t'.length by omega]; exact ⟨rfl, rfl⟩

/-! ### the reference's -/
theorem c_spec_l08Own (ks : List Int) (rs : List Rou) (ts : List Tsk) (sf : List Bool) (hk : ks.length ≤ 1048576) (hr : small rs) (ht : ts.length ≤ 1048576) (hs : sf.length ≤ 1048576) :
    TT n_spec_l08Own [prgE ks rs ts sf] [] (.agg [.row 0, .row 1, .row 2, .row 3]) [rwK ks, rwR rs, .row t_impl_Task tTsk ts, .row t_bool .bool sf] := by
  have hrl := hr.1
  refine r_spec_l08Own ks rs ts sf ⟨by simp; omega, fun r k => k = ks ∧ r = rs, ⟨fun m i r k => 0 ≤ i ∧ i ≤ rs.length ∧ m = (rs.length - i).toNat ∧ k = ks ∧ r = rs.take i.toNat, ⟨_, rfl, by omega, by omega, rfl, by simp, by simp⟩, ?_⟩, ?_⟩
  · rintro m i r k ⟨h0, h1, rfl, rfl, rfl⟩
    refine ifP (fun hlt => ?_) (fun hge => ?_)
    · have hc := small.at hr i.toNat
      have htk := take_succ_getD (l := rs) (i := i.toNat) (by omega) (([] : List Ins), ())
      rw [w64 (x := i + 1) (by omega)]
      refine ⟨⟨h0, hlt⟩, ?_, ?_, _, ?_, rfl, by omega, by omega, rfl, rfl, ?_⟩
      · simp only [List.length_nil]; omega
      · simp only [List.length_take, List.length_cons, List.length_nil]; omega
      · omega
      · rw [toNat_succ h0, htk]; simp
    · exact ⟨rfl, rfl, by rw [List.take_of_length_le (by omega)]⟩
  · rintro r k ⟨rfl, rfl⟩
    exact ⟨by simp; omega, by simp; omega, rfl, by simp⟩
end Go.Ry
