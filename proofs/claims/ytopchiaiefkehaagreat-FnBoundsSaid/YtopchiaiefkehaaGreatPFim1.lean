/- Images that are drawn; the law on images. No condition. -/
import Derived.Test.YtopchiaiefkehaaGreatPPgm1
import Derived.Test.YtopchiaiefkehaaGreatPImt1
import Derived.Test.YtopchiaiefkehaaGreatPAdm1
import Derived.Test.YtopchiaiefkehaaGreatPAt1
set_option linter.unusedVariables false
set_option linter.unusedSimpArgs false
set_option synthInstance.maxSize 4000
namespace Go.Ry
open Go.Proofs

theorem wY_byte {n : Int} (h : 0 ≤ n ∧ n ≤ 255) : wY n = n := by show IntKind.wrap .u8 n = n; rw [wu8_eq]; omega
/-! ### programs that are admitted -/
def demoK : List Int := [1, 2]
def demoR : List Rou := [([(3, (0, ())), (1, (1, ())), (9, (0, ())), (4, (0, ()))], ()), ([(26, (0, ())), (5, (1, ())), (8, (1, ()))], ()), ([(5, (2, ())), (1, (30, ())), (19, (0, ())), (6, (2, ())), (25, (0, ())), (24, (3, ())), (3, (1, ())), (1, (2, ())), (9, (0, ())), (4, (1, ())), (25, (0, ())), (23, (0, ()))], ())]
def demoT : List Tsk := [(2, (40, (30, (0, (1, (1, ())))))), (1, (100, (90, (0, (1, (2, ()))))))]
def demoS : List Bool := [true, false, false, false, false, false, false, false]
theorem demo_drawn : Drawn demoK demoR demoT demoS := drawn_of (by decide +kernel) (by decide +kernel) rfl (by decide +kernel) (by decide) (by decide +kernel)
theorem c_DemoProgram : TT n_spec_DemoProgram [] [] (.agg [.row 0, .row 1, .row 2, .row 3]) [.row t_int tyInt demoK, .row t_impl_Routine tRou demoR, .row t_impl_Task tTsk demoT, .row t_bool .bool demoS] := r_spec_DemoProgram ⟨rfl, rfl⟩
structure AdS where
  i : Int
  p : Int
  q : Int
structure AdInv (l : List Int) (m : Nat) (x : AdS) : Prop where
  hm : m = (8 - x.i).toNat
  i0 : 0 ≤ x.i
  i8 : x.i ≤ 8
  src : SrcOK l x.p x.q
  hp : 0 ≤ x.p ∧ x.p ≤ 10 + 44200 * x.i
def AdStep (l : List Int) (x y : AdS) : Prop := x.i < 8 ∧ ∃ ks rs ts sf, TT n_spec_l00Src_program [.one (.ptrB 0 0)] [srcO l x.p x.q] (prgR ks 1) (srcO l y.p y.q :: prgX rs ts sf) ∧ PrgFit ks rs ts sf ∧ (admM (costsM rs) ts).2.2 ≠ 0 ∧ y.i = x.i + 1
def AdDone (l : List Int) (x : AdS) : Prop := x.i = 8 ∨ (x.i < 8 ∧ ∃ ks rs ts sf p' q', TT n_spec_l00Src_program [.one (.ptrB 0 0)] [srcO l x.p x.q] (prgR ks 1) (srcO l p' q' :: prgX rs ts sf) ∧ SrcOK l p' q' ∧ p' ≤ 360000 ∧ Drawn ks rs ts sf ∧ (admM (costsM rs) ts).2.2 = 0)
theorem ad_go (l : List Int) : ∀ m x, AdInv l m x → AdDone l x ∨ ∃ m' y, m' < m ∧ AdInv l m' y ∧ AdStep l x y := by
  rintro m ⟨i, p, q⟩ ⟨h1, h2, h3, h4, h5⟩
  simp only at h1 h2 h3 h4 h5
  by_cases hd : i = 8
  · exact .inl (.inl hd)
  obtain ⟨ks, rs, ts, sf, p1, q1, v1, v2, v3, v4⟩ := c_program l p q h4 (by omega)
  by_cases hc : (admM (costsM rs) ts).2.2 = 0
  · exact .inl (.inr ⟨by show i < 8; omega, ks, rs, ts, sf, p1, q1, v4, v3, by omega, v1, hc⟩)
  · exact .inr ⟨(8 - (i + 1)).toNat, ⟨i + 1, p1, q1⟩, by omega, ⟨rfl, by show 0 ≤ i + 1; omega, by show i + 1 ≤ 8; omega, v3, by show 0 ≤ p1 ∧ p1 ≤ 10 + 44200 * (i + 1); omega⟩, by show i < 8; omega, ks, rs, ts, sf, v4, prgOK_fit v1.ok, hc, rfl⟩
@[reducible] def prgA (ks : List Int) (rs : List Rou) : Ent := .agg [.sl tyInt ks, .sl tRou rs, .row 1, .row 2]
theorem c_admitted (l : List Int) (p q : Int) (hs : SrcOK l p q) (hp : p ≤ 10) :
    ∃ (ks : List Int) (rs : List Rou) (ts : List Tsk) (sf : List Bool) (p' q' : Int), Drawn ks rs ts sf ∧ (admM (costsM rs) ts).2.2 = 0 ∧ SrcOK l p' q' ∧ TT n_spec_l00Src_admitted [.one (.ptrB 0 0)] [srcO l p q] (prgA ks rs) [srcO l p' q', .row t_impl_Task tTsk ts, .row t_bool .bool sf] := by
  have p0 := hs.p0
  have i0 : AdInv l ((8 : Int) - 0).toNat ⟨0, p, q⟩ := ⟨rfl, by show (0 : Int) ≤ 0; omega, by show (0 : Int) ≤ 8; omega, hs, by show 0 ≤ p ∧ p ≤ 10 + 44200 * 0; omega⟩
  obtain ⟨fin, hrun⟩ := Runs.go (ad_go l) ((8 : Int) - 0).toNat _ i0
  obtain ⟨hdone, m0, hinv⟩ := hrun.fin
  obtain ⟨fi, fp, fq⟩ := fin
  rcases hdone with h8 | ⟨hlt8, ks, rs, ts, sf, p', q', t1, t2, t3, t4, t5⟩
  · have h8 : fi = 8 := h8
    have hfp := hinv.src
    refine ⟨demoK, demoR, demoT, demoS, fp, fq, demo_drawn, by decide +kernel, hfp, r_spec_l00Src_admitted l p q ⟨fun m i l' p' q' => l = l' ∧ Runs (AdInv l) (AdStep l) (AdDone l) m ⟨i, p', q'⟩ ⟨fi, fp, fq⟩, ⟨_, rfl, hrun⟩, ?_⟩⟩
    rintro m i l' p' q' ⟨rfl, hrun⟩
    cases hrun with
    | done h1 h2 => exact ifP_f (by omega) ⟨_, _, _, _, c_DemoProgram, rfl, rfl⟩
    | @step _ _ m' y _ h1 hlt hst hrest =>
      obtain ⟨hc, ks, rs, ts, sf, u1, u2, u3, u4⟩ := hst
      have hc : i < 8 := hc
      have hi0 : 0 ≤ i := h1.i0
      obtain ⟨yi, yp, yq⟩ := y
      simp only at u1 u4
      subst u4
      refine ifP_t hc ⟨_, _, _, _, _, _, _, u1, _, _, _, c_spec_l09Admit ks rs ts sf u2, ifE_f u3 ⟨m', hlt, rfl, ?_⟩⟩
      rw [w64 (x := i + 1) (by omega)]; exact hrest
  · have hlt8 : fi < 8 := hlt8
    refine ⟨ks, rs, ts, sf, p', q', t4, t5, t2, r_spec_l00Src_admitted l p q ⟨fun m i l' p' q' => l = l' ∧ Runs (AdInv l) (AdStep l) (AdDone l) m ⟨i, p', q'⟩ ⟨fi, fp, fq⟩, ⟨_, rfl, hrun⟩, ?_⟩⟩
    rintro m i l' p'' q'' ⟨rfl, hrun⟩
    cases hrun with
    | done h1 h2 => exact ifP_t hlt8 ⟨_, _, _, _, _, _, _, t1, _, _, _, c_spec_l09Admit ks rs ts sf (prgOK_fit t4.ok), ifE_t t5 ⟨rfl, rfl⟩⟩
    | @step _ _ m' y _ h1 hlt hst hrest =>
      obtain ⟨hc, ks, rs, ts, sf, u1, u2, u3, u4⟩ := hst
      have hc : i < 8 := hc
      have hi0 : 0 ≤ i := h1.i0
      obtain ⟨yi, yp, yq⟩ := y
      simp only at u1 u4
      subst u4
      refine ifP_t hc ⟨_, _, _, _, _, _, _, u1, _, _, _, c_spec_l09Admit ks rs ts sf u2, ifE_f u3 ⟨m', hlt, rfl, ?_⟩⟩
      rw [w64 (x := i + 1) (by omega)]; exact hrest
end Go.Ry
