/- What is drawn: the data. No condition. -/
import Derived.Test.YtonmkhdbgofbpaaPOps11
set_option linter.unusedVariables false
set_option linter.unusedSimpArgs false
namespace Go.Ry
open Go.Proofs

noncomputable def valsF (l : List Int) : Nat → Nat → Int → Int → List Int → List Int × Int × Int
  | 0, _, p, q, g => (g, p, q)
  | k + 1, i, p, q, g => valsF l k (i + 1) (vx l p q).2.1 (vx l p q).2.2 (g.set i (vx l p q).1)
/-- What four draws make of block i. -/
noncomputable def drawF (l : List Int) (i : Nat) (p q : Int) (f : List FbT) : List FbT × Int × Int :=
  let a := bx 2 l p q
  let b := bx 4 l a.2.1 a.2.2
  let n := nx 20 l b.2.1 b.2.2
  let t := nx 50 l n.2.1 n.2.2
  (f.set i (stepF (f.getD i dFb) a.1 b.1 n.1 t.1).1, t.2.1, t.2.2)
noncomputable def innerF (l : List Int) (i : Nat) : Nat → Int → Int → List FbT → List FbT × Int × Int
  | 0, p, q, f => (f, p, q)
  | k + 1, p, q, f => innerF l i k (drawF l i p q f).2.1 (drawF l i p q f).2.2 (drawF l i p q f).1
noncomputable def outerF (l : List Int) : Nat → Nat → Int → Int → List FbT → List FbT × Int × Int
  | 0, _, p, q, f => (f, p, q)
  | k + 1, i, p, q, f =>
    let c := nx 3 l p q
    let r := innerF l i c.1.toNat c.2.1 c.2.2 f
    outerF l k (i + 1) r.2.1 r.2.2 r.1
def FsOK (N : Nat) (ks : List Int) (f : List FbT) : Prop := f.length = N ∧ f.all fbOK = true ∧ kindsD f = ks
theorem FsOK.set {N : Nat} {ks : List Int} {f : List FbT} (h : FsOK N ks f) {i : Nat} (hi : i < N) {a b : Bool} {n now : Int} (hn : isVal n = true) (ht : isTm now = true) :
    FsOK N ks (f.set i (stepF (f.getD i dFb) a b n now).1) := by
  obtain ⟨h1, h2, h3⟩ := h
  have hm : f.getD i dFb ∈ f := by simp [List.getD_eq_getElem?_getD, h1 ▸ hi]
  obtain ⟨k1, k2⟩ := step_ok (a := a) (b := b) (List.all_eq_true.1 h2 _ hm) hn ht
  refine ⟨by simp [h1], ?_, ?_⟩
  · rw [List.all_eq_true]
    intro x hx
    rcases List.mem_or_eq_of_mem_set hx with h | rfl
    · exact List.all_eq_true.1 h2 _ h
    · exact k1
  · rw [← h3]
    unfold kindsD
    rw [List.map_set, k2]
    apply List.ext_getElem?
    intro j
    rw [List.getElem?_set]
    split
    · rename_i e
      subst e
      have hj : i < f.length := h1 ▸ hi
      simp [List.getD_eq_getElem?_getD, hj]
    · rfl
theorem draw_ok (l : List Int) (i : Nat) (p q : Int) (f : List FbT) {N : Nat} {ks : List Int} (hi : i < N) (hf : FsOK N ks f) (h : SrcOK l p q) (hp : p < 1099511626000) :
    FsOK N ks (drawF l i p q f).1 ∧ (p ≤ (drawF l i p q f).2.1 ∧ (drawF l i p q f).2.1 ≤ p + 12) ∧ SrcOK l (drawF l i p q f).2.1 (drawF l i p q f).2.2 := by
  obtain ⟨a1, a2, a3⟩ := bx_ok 2 (by omega) l p q h (by omega)
  obtain ⟨b1, b2, b3⟩ := bx_ok 4 (by omega) l _ _ a2 (by omega)
  obtain ⟨c0, c1, c2, c3⟩ := nx_ok 20 l _ _ b2 (by omega)
  obtain ⟨d0, d1, d2, d3⟩ := nx_ok 50 l _ _ c2 (by omega)
  refine ⟨hf.set hi (by rw [isVal_iff]; omega) (by rw [isTm_iff]; omega), ?_, d2⟩
  show p ≤ (nx 50 l _ _).2.1 ∧ (nx 50 l _ _).2.1 ≤ p + 12
  omega
theorem c_data (l ks : List Int) (p q : Int) (h : SrcOK l p q) (hp : p ≤ 1000) (hk : ks.length ≤ 8) (hkk : ks.all isKind = true) :
    ∃ (x : Dat) (p' q' : Int), DatOK x ∧ kindsD x.f = ks ∧
      TT n_spec_l00Src_data [.one (.ptrB 0 0), .one (.sl tyInt ks)] [srcO l p q] (.agg [.row 1, .row 2, .row 3, .row 4, .row 5, .row 6, cI x.w]) (srcO l p' q' :: x.os) := by
  have hN : FsOK ks.length ks (newF ks) := by
    refine ⟨by simp [newF], ?_, by simp [newF, kindsD, Function.comp_def]⟩
    rw [List.all_eq_true]
    intro x hx
    simp only [newF, List.mem_map] at hx
    obtain ⟨k, hk', rfl⟩ := hx
    have := List.all_eq_true.1 hkk _ hk'
    simp only [isKind, within_iff] at this
    have e : k = 1 ∨ k = 2 ∨ k = 3 ∨ k = 4 := by omega
    rcases e with rfl | rfl | rfl | rfl <;> decide
  -- the values
  have hG : ∀ (k i : Nat) (p q : Int) (g : List Int), SrcOK l p q → p + 12 * k < 1099511620000 → g.length = 16 → g.all isVal = true →
      (valsF l k i p q g).1.length = 16 ∧ (valsF l k i p q g).1.all isVal = true ∧ (valsF l k i p q g).2.1 ≤ p + 12 * k ∧ SrcOK l (valsF l k i p q g).2.1 (valsF l k i p q g).2.2 := by
    intro k
    induction k with
    | zero => intro i p q g h hp h1 h2; exact ⟨h1, h2, by simp [valsF], h⟩
    | succ k ih =>
      intro i p q g h hp h1 h2
      obtain ⟨a0, a1, a2, a3⟩ := vx_ok l p q h (by omega)
      obtain ⟨b1, b2, b3, b4⟩ := ih (i + 1) (vx l p q).2.1 (vx l p q).2.2 (g.set i (vx l p q).1) a2 (by omega) (by simp [h1]) (by
        rw [List.all_eq_true]
        intro x hx
        rcases List.mem_or_eq_of_mem_set hx with h | rfl
        · exact List.all_eq_true.1 h2 _ h
        · exact a0)
      exact ⟨b1, b2, by rw [valsF]; omega, b4⟩
  have hI : ∀ (i : Nat), i < ks.length → ∀ (k : Nat) (p q : Int) (f : List FbT), SrcOK l p q → p + 12 * k < 1099511620000 → FsOK ks.length ks f →
      FsOK ks.length ks (innerF l i k p q f).1 ∧ (innerF l i k p q f).2.1 ≤ p + 12 * k ∧ SrcOK l (innerF l i k p q f).2.1 (innerF l i k p q f).2.2 := by
    intro i hi k
    induction k with
    | zero => intro p q f h hp hf; exact ⟨hf, by simp [innerF], h⟩
    | succ k ih =>
      intro p q f h hp hf
      obtain ⟨a1, a2, a3⟩ := draw_ok l i p q f hi hf h (by omega)
      obtain ⟨b1, b2, b3⟩ := ih _ _ _ a3 (by omega) a1
      exact ⟨b1, by rw [innerF]; omega, b3⟩
  have hO : ∀ (k i : Nat), i + k ≤ ks.length → ∀ (p q : Int) (f : List FbT), SrcOK l p q → p + 40 * k < 1099511620000 → FsOK ks.length ks f →
      FsOK ks.length ks (outerF l k i p q f).1 ∧ (outerF l k i p q f).2.1 ≤ p + 40 * k ∧ SrcOK l (outerF l k i p q f).2.1 (outerF l k i p q f).2.2 := by
    intro k
    induction k with
    | zero => intro i hi p q f h hp hf; exact ⟨hf, by simp [outerF], h⟩
    | succ k ih =>
      intro i hi p q f h hp hf
      obtain ⟨c0, c1, c2, c3⟩ := nx_ok 3 l p q h (by omega)
      obtain ⟨a1, a2, a3⟩ := hI i (by omega) (nx 3 l p q).1.toNat (nx 3 l p q).2.1 (nx 3 l p q).2.2 f c2 (by omega) hf
      obtain ⟨b1, b2, b3⟩ := ih (i + 1) (by omega) _ _ _ a3 (by omega) a1
      exact ⟨b1, by rw [outerF]; omega, b3⟩
  obtain ⟨g1, g2, g3, g4⟩ := hG 4 0 p q (List.replicate 16 0) h (by omega) (by simp) (by decide)
  generalize hGV : valsF l 4 0 p q (List.replicate 16 0) = GV at *
  obtain ⟨o1, o2, o3⟩ := hO ks.length 0 (by omega) GV.2.1 GV.2.2 (newF ks) g4 (by omega) hN
  generalize hOV : outerF l ks.length 0 GV.2.1 GV.2.2 (newF ks) = OV at *
  obtain ⟨p1, p2, p3⟩ := boolsF_ok l 8 OV.2.1 OV.2.2 [] o3 (by omega)
  have cb1 := c_bools l OV.2.1 OV.2.2 o3 (by omega)
  generalize boolsF l 8 OV.2.1 OV.2.2 [] = B1 at *
  obtain ⟨p4, p5, p6⟩ := boolsF_ok l 8 B1.2.1 B1.2.2 [] p3 (by omega)
  have cb2 := c_bools l B1.2.1 B1.2.2 p3 (by omega)
  generalize boolsF l 8 B1.2.1 B1.2.2 [] = B2 at *
  obtain ⟨p7, p8, p9⟩ := boolsF_ok l 8 B2.2.1 B2.2.2 [] p6 (by omega)
  have cb3 := c_bools l B2.2.1 B2.2.2 p6 (by omega)
  generalize boolsF l 8 B2.2.1 B2.2.2 [] = B3 at *
  obtain ⟨p10, p11, p12⟩ := boolsF_ok l 8 B3.2.1 B3.2.2 [] p9 (by omega)
  have cb4 := c_bools l B3.2.1 B3.2.2 p9 (by omega)
  generalize boolsF l 8 B3.2.1 B3.2.2 [] = B4 at *
  obtain ⟨w0, w1, w2, w3⟩ := nx_ok 3 l B4.2.1 B4.2.2 p12 (by omega)
  generalize nx 3 l B4.2.1 B4.2.2 = W at *
  refine ⟨⟨GV.1, OV.1, B1.1, B2.1, B3.1, B4.1, W.1⟩, W.2.1, W.2.2, ⟨g1, by rw [o1.1]; omega, by simpa using p1, by simpa using p4, by simpa using p7, by simpa using p10, by show isTm W.1 = true; rw [isTm_iff]; omega, g2, o1.2.1⟩, o1.2.2, ?_⟩
  refine r_spec_l00Src_data ks l p q ?_
  unfold v_spec_l00Src_data
  refine ⟨_, _, _, _, _, _, _, c_l06New ks (by omega), ?_⟩
  refine ⟨fun l' p' q' w g f a b c d => l' = l ∧ p' = GV.2.1 ∧ q' = GV.2.2 ∧ w = 0 ∧ g = GV.1 ∧ f = newF ks, ?_, ?_⟩
  · refine ⟨fun m i l' p' q' w g f a b c d => 0 ≤ i ∧ i ≤ 4 ∧ m = (4 - i).toNat ∧ l' = l ∧ SrcOK l p' q' ∧ p' ≤ p + 12 * i ∧ w = 0 ∧ g.length = 16 ∧ f = newF ks ∧ valsF l (4 - i.toNat) i.toNat p' q' g = GV,
      ⟨_, rfl, rfl, by omega, by omega, rfl, rfl, h, by omega, rfl, by simp, rfl, hGV⟩, ?_⟩
    rintro m i l' p' q' w g f a b c d ⟨k0, k1, rfl, rfl, k2, k3, rfl, k4, rfl, k5⟩
    refine ifP (fun hlt => ?_) (fun hge => ?_)
    · obtain ⟨a0, a1, a2, a3⟩ := vx_ok l' p' q' k2 (by omega)
      rw [w64 (by omega)]
      refine ⟨_, _, _, _, a3, by omega, _, ?_, rfl, rfl, by omega, by omega, rfl, rfl, a2, by omega, rfl, by simp [k4], rfl, ?_⟩
      · omega
      · rw [← k5, show 4 - i.toNat = (4 - (i + 1).toNat) + 1 by omega, valsF, toNat_succ k0]
    · have : i = 4 := by omega
      subst this
      rw [← k5]
      exact ⟨rfl, rfl, rfl, rfl, rfl, rfl, rfl, rfl⟩
  rintro l' p' q' w g f a b c d ⟨rfl, rfl, rfl, rfl, rfl, rfl⟩
  refine ⟨fun l'' p' q' w g f a b c d => l'' = l' ∧ p' = OV.2.1 ∧ q' = OV.2.2 ∧ g = GV.1 ∧ f = OV.1, ?_, ?_⟩
  · refine ⟨fun m i l'' p' q' w g f a b c d => 0 ≤ i ∧ i ≤ ks.length ∧ m = (ks.length - i).toNat ∧ l'' = l' ∧ SrcOK l' p' q' ∧ p' ≤ 2000 + 40 * i ∧ g = GV.1 ∧ FsOK ks.length ks f ∧ outerF l' (ks.length - i.toNat) i.toNat p' q' f = OV,
      ⟨_, rfl, rfl, by omega, by omega, rfl, rfl, g4, by omega, rfl, hN, by simpa using hOV⟩, ?_⟩
    rintro m i l'' p' q' w g f a b c d ⟨k0, k1, rfl, rfl, k2, k3, rfl, k4, k5⟩
    refine ifP (fun hlt => ?_) (fun hge => ?_)
    · obtain ⟨c0, c1, c2, c3⟩ := nx_ok 3 l'' p' q' k2 (by omega)
      refine ⟨_, _, _, _, c3, ?_⟩
      refine ⟨fun m j k l3 pp qq w g f a b c d => j = i ∧ 0 ≤ k ∧ k ≤ 2 ∧ m = k.toNat ∧ l3 = l'' ∧ SrcOK l'' pp qq ∧ pp ≤ 2000 + 40 * i + 3 + 12 * (2 - k) ∧ g = GV.1 ∧ FsOK ks.length ks f ∧
          outerF l'' (ks.length - (i + 1).toNat) (i + 1).toNat (innerF l'' i.toNat k.toNat pp qq f).2.1 (innerF l'' i.toNat k.toNat pp qq f).2.2 (innerF l'' i.toNat k.toNat pp qq f).1 = OV,
        ⟨_, rfl, rfl, rfl, by omega, by omega, rfl, rfl, c2, by omega, rfl, k4, ?_⟩, ?_⟩
      · rw [← k5, show ks.length - i.toNat = (ks.length - (i + 1).toNat) + 1 by omega, outerF, toNat_succ k0]
      rintro m j k l3 pp qq w g f a b c d ⟨rfl, m0', m1, rfl, rfl, m2, m3, rfl, m4, m5⟩
      refine ifP (fun hpos => ?_) (fun hge => ?_)
      · have hb : 0 ≤ j ∧ j < (f.length : Int) := ⟨k0, by rw [m4.1]; exact hlt⟩
        have hj : j.toNat < ks.length := by omega
        obtain ⟨d1, d2, d3⟩ := draw_ok l3 j.toNat pp qq f hj m4 m2 (by omega)
        obtain ⟨a1, a2, hA⟩ := bx_ok 2 (by omega) l3 pp qq m2 (by omega)
        obtain ⟨b1, b2, hB⟩ := bx_ok 4 (by omega) l3 _ _ a2 (by omega)
        obtain ⟨e0, e1, e2, hC⟩ := nx_ok 20 l3 _ _ b2 (by omega)
        obtain ⟨f0, f1, f2, hD⟩ := nx_ok 50 l3 _ _ e2 (by omega)
        have hS := c_spec_l03Step (f.getD j.toNat dFb) (bx 2 l3 pp qq).1 (bx 4 l3 (bx 2 l3 pp qq).2.1 (bx 2 l3 pp qq).2.2).1
          (nx 20 l3 (bx 4 l3 (bx 2 l3 pp qq).2.1 (bx 2 l3 pp qq).2.2).2.1 (bx 4 l3 (bx 2 l3 pp qq).2.1 (bx 2 l3 pp qq).2.2).2.2).1
          (nx 50 l3 (nx 20 l3 (bx 4 l3 (bx 2 l3 pp qq).2.1 (bx 2 l3 pp qq).2.2).2.1 (bx 4 l3 (bx 2 l3 pp qq).2.1 (bx 2 l3 pp qq).2.2).2.2).2.1 (nx 20 l3 (bx 4 l3 (bx 2 l3 pp qq).2.1 (bx 2 l3 pp qq).2.2).2.1 (bx 4 l3 (bx 2 l3 pp qq).2.1 (bx 2 l3 pp qq).2.2).2.2).2.2).1
        have ek : k.toNat = (k - 1).toNat + 1 := by omega
        rw [ek, innerF] at m5
        rw [w64 (x := k - 1) (by omega)]
        have fin := fun (a b c d : List Bool) => (⟨rfl, by omega, by omega, rfl, rfl, d3, by omega, rfl, d1, m5⟩ : j = j ∧ 0 ≤ k - 1 ∧ k - 1 ≤ 2 ∧ (k - 1).toNat = (k - 1).toNat ∧ l3 = l3 ∧ SrcOK l3 (drawF l3 j.toNat pp qq f).2.1 (drawF l3 j.toNat pp qq f).2.2 ∧
          (drawF l3 j.toNat pp qq f).2.1 ≤ 2000 + 40 * j + 3 + 12 * (2 - (k - 1)) ∧ GV.1 = GV.1 ∧ FsOK ks.length ks (drawF l3 j.toNat pp qq f).1 ∧ _)
        refine ⟨hb, ?_⟩
        repeat' (first
          | exact ⟨hb, (k - 1).toNat, by omega, rfl, rfl, fin a b c d⟩
          | refine ⟨_, _, _, _, hA, ?_⟩
          | refine ⟨_, _, _, _, hB, ?_⟩
          | refine ⟨_, _, _, _, hC, ?_⟩
          | refine ⟨_, _, _, _, hD, ?_⟩
          | refine ⟨_, _, _, _, _, hS, ?_⟩
          | refine ⟨?_, ?_⟩
          | fail)
      · have : k = 0 := by omega
        subst this
        rw [w64 (by omega)]
        exact ⟨(ks.length - (j + 1)).toNat, by omega, rfl, rfl, by omega, by omega, rfl, rfl, m2, by omega, rfl, m4, m5⟩
    · have : i = (ks.length : Int) := by omega
      subst this
      simp [outerF] at k5
      rw [← k5]
      exact ⟨rfl, rfl, rfl, rfl, rfl, rfl⟩
  rintro l'' p' q' w g f a b c d ⟨rfl, rfl, rfl, rfl, rfl⟩
  exact ⟨_, _, _, _, cb1, _, _, _, _, cb2, _, _, _, _, cb3, _, _, _, _, cb4, _, _, _, _, w3, rfl, rfl⟩
end Go.Ry
