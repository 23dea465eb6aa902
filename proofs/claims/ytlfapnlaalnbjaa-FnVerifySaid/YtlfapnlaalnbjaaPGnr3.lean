/- Code that is drawn: tests. No condition. -/
import Derived.Test.YtlfapnlaalnbjaaPGnr2
set_option linter.unusedVariables false
set_option linter.unusedSimpArgs false
namespace Go.Ry
open Go.Proofs

theorem bool_go (ks : List Int) (n : Int) (hk : kindsOK ks = true) (d : Int) (hd : 0 ≤ d ∧ d ≤ 2) (m : Nat) (D : Int)
    (rec : 0 < d → GX n_spec_l00Src_wantBool ks n bB 3 m D (d - 1) ∧ GX n_spec_l00Src_wantInt ks n bI 1 1 20 0 ∧ GX n_spec_l00Src_wantBool ks n bB 1 1 20 0)
    (h m' : Nat) (D' : Int) (e0 : 1 ≤ h ∧ 1 ≤ m' ∧ 20 ≤ D') (e1 : 0 < d → 3 ≤ h ∧ m + 4 ≤ m' ∧ D + 100 ≤ D' ∧ 0 ≤ D ∧ D ≤ 1000 ∧ m ≤ 1000) : GX n_spec_l00Src_wantBool ks n bB h m' D' d := by
  intro l p q hs hp
  have hk8 : ks.length ≤ 8 := (kindsOK_in hk).1
  obtain ⟨b, p1, q1, hb, hr1, hs1, hJ⟩ := at_depth ks d hd.1 l p q hs (by omega)
  cases b
  · have J0 := hJ (fun b' l' p' q' => b' = false ∧ l = l' ∧ p1 = p' ∧ q1 = q') ⟨rfl, rfl, rfl, rfl⟩
    have hd0 := hb rfl
    obtain ⟨g1, g2, g3⟩ := rec hd0
    obtain ⟨k1, k2, k3, k4, k5, k6⟩ := e1 hd0
    obtain ⟨v, p2, q2, v1, v2, v3, v4⟩ := c_next 4 l p1 q1 hs1 (by omega)
    by_cases a0 : v = 0
    · obtain ⟨x, p3, q3, m3, d3, s3, t3⟩ := g2 l p2 q2 v3 (by omega)
      obtain ⟨y, p4, q4, m4, d4, s4, t4⟩ := g2 l p3 q3 s3 (by omega)
      obtain ⟨u, p5, q5, u1, u2, u3, u4⟩ := c_next 2 l p4 q4 s4 (by omega)
      have hop : TT n_spec_l04Op [eI (wI (13 + u))] [] (.one (.row 0)) [rwI [(13 + u, (0, ()))]] := by rw [w64 (x := 13 + u) (by omega)]; exact c_Op _
      have hu : u = 0 ∨ u = 1 := by omega
      have he : effect (13 + u) 0 ks = (bI ++ bI, bB) := by
        rw [bII_eq]
        rcases hu with rfl | rfl <;> rfl
      have hi : instrOK (13 + u) 0 = true := by rcases hu with rfl | rfl <;> decide
      have mk : Made ks n bB 3 0 (1 + 1 + 1) ((x ++ y) ++ [(13 + u, (0, ()))]) := (m3.app (h := 3) (d := 0) m4 (by omega) (by decide) (by omega) (by omega)).op he hi (by omega) (by omega) (by decide) (by omega)
      have hcat := c_Cat [x, y, [(13 + u, (0, ()))]] ((x ++ y) ++ [(13 + u, (0, ()))]) (by simp) (by simp) (by
        intro z hz
        simp only [List.mem_cons, List.not_mem_nil, or_false] at hz
        rcases hz with rfl | rfl | rfl
        · exact ins_len m3 (by omega)
        · exact ins_len m4 (by omega)
        · simp)
      refine ⟨_, p5, q5, mk.mono (by omega) (by omega) (by omega), by omega, u3, r_spec_l00Src_wantBool ks d l p q ⟨fun b' l' p' q' => b' = false ∧ l = l' ∧ p1 = p' ∧ q1 = q', J0, ?_⟩⟩
      rintro _ _ _ _ ⟨rfl, rfl, rfl, rfl⟩
      exact ifB_f rfl ⟨fun _ _ _ => False, ⟨_, _, _, _, v4, ifE_t a0 ⟨_, _, _, _, t3, _, _, _, _, t4, _, _, _, _, u4, _, hop, _, hcat, rfl, rfl⟩⟩, fun _ _ _ hf => hf.elim⟩
    by_cases a1 : v = 1
    · obtain ⟨x, p3, q3, m3, d3, s3, t3⟩ := g1 l p2 q2 v3 (by omega)
      have t3' : TT n_spec_l00Src_wantBool [.one (.ptrB 0 0), .one (.sl tyInt ks), eI (wI (d - 1))] [srcO l p2 q2] (.one (.row 1)) [srcO l p3 q3, rwI x] := by rw [w64 (x := d - 1) (by omega)]; exact t3
      have mk : Made ks n bB 3 0 (m + 1) (x ++ [(17, (0, ()))]) := m3.op rfl (by decide) (by omega) (by omega) (by decide) (by omega)
      have hcat := c_Cat [x, [(17, (0, ()))]] (x ++ [(17, (0, ()))]) (by simp) (by simp) (by
        intro z hz
        simp only [List.mem_cons, List.not_mem_nil, or_false] at hz
        rcases hz with rfl | rfl
        · exact ins_len m3 (by omega)
        · simp)
      refine ⟨_, p3, q3, mk.mono (by omega) (by omega) (by omega), by omega, s3, r_spec_l00Src_wantBool ks d l p q ⟨fun b' l' p' q' => b' = false ∧ l = l' ∧ p1 = p' ∧ q1 = q', J0, ?_⟩⟩
      rintro _ _ _ _ ⟨rfl, rfl, rfl, rfl⟩
      exact ifB_f rfl ⟨fun _ _ _ => False, ⟨_, _, _, _, v4, ifE_f a0 (ifE_t a1 ⟨_, _, _, _, t3', _, c_Op 17, _, hcat, rfl, rfl⟩)⟩, fun _ _ _ hf => hf.elim⟩
    by_cases a2 : v = 2 ∧ 0 < ks.length
    · obtain ⟨u, p3, q3, u1, u2, u3, u4⟩ := c_next ks.length l p2 q2 v3 (by omega)
      have hkk : isKind (ks.getD u.toNat 0) = true := (kindsOK_in hk).2 _ (by omega)
      obtain ⟨tp1, tp2⟩ := takes_pfx hkk
      have ht := c_spec_l03Takes _ hkk
      have heff : effect 19 u ks = (takes (ks.getD u.toNat 0), bB) := rfl
      revert tp1 tp2 ht heff
      generalize takes (ks.getD u.toNat 0) = t
      intro tp1 tp2 ht heff
      have i0 : BkInv ks n l p3 t t.size ⟨0, p3, q3, []⟩ := ⟨by show t.size = ((t.size : Int) - 0).toNat; omega, by show (0 : Int) ≤ 0; omega, by show (0 : Int) ≤ t.size; omega, u3, by show p3 ≤ p3 ∧ p3 ≤ p3 + 3 * 0; omega, Made.nil.mono (by omega) (by omega) (by omega)⟩
      obtain ⟨fin, hrun⟩ := Runs.go (bk_go ks n l p3 (by omega) t tp2) t.size _ i0
      obtain ⟨hdone, m0, hinv⟩ := hrun.fin
      have hfi : fin.i = t.size := hdone
      have hmade := hinv.made
      have hbl := bytesL_size t
      rw [hfi, Int.toNat_natCast, List.take_of_length_le (by omega), tp1] at hmade
      have mk : Made ks n bB 3 0 (t.size + 1) (fin.r ++ [(19, (u, ()))]) := hmade.op heff (iok19 (by omega)) (by omega) (by omega) (by decide) (by omega)
      have hpf := hinv.hp
      refine ⟨_, fin.p, fin.q, mk.mono (by omega) (by omega) (by omega), by omega, hinv.src, r_spec_l00Src_wantBool ks d l p q ⟨fun b' l' p' q' => b' = false ∧ l = l' ∧ p1 = p' ∧ q1 = q', J0, ?_⟩⟩
      rintro _ _ _ _ ⟨rfl, rfl, rfl, rfl⟩
      refine ifB_f rfl ⟨fun _ _ _ => False, ⟨_, _, _, _, v4, ifE_f a0 (ifE_f a1 (ifE_t a2.1 (ifP_t (by omega) ⟨_, _, _, _, u4, by omega, _, ht,
        fun m u' t' i l' p' q' r => u = u' ∧ t = t' ∧ l = l' ∧ Runs (BkInv ks n l p3 t) (BkStep l t) (BkDone t) m ⟨i, p', q', r⟩ fin, ⟨_, rfl, rfl, rfl, hrun⟩, ?_⟩)))⟩, fun _ _ _ hf => hf.elim⟩
      rintro m u' t' i l' p' q' r ⟨rfl, rfl, rfl, hrun⟩
      cases hrun with
      | done h1 h2 =>
        have h2 : i = t.size := h2
        have hml : r.length ≤ i.toNat := h1.made.len
        exact ifP_f (by omega) ⟨by simp only [List.length_cons, List.length_nil]; omega, rfl, rfl⟩
      | @step _ _ m' y _ h1 hlt hst hrest =>
        obtain ⟨hc, hy, hor⟩ := hst
        have hc : i < t.size := hc
        have h0 : 0 ≤ i := h1.i0
        have hml : r.length ≤ i.toNat := h1.made.len
        obtain ⟨yi, yp, yq, yr⟩ := y
        simp only at hy hor
        subst hy
        rw [w64 (x := i + 1) (by omega)]
        refine ifP_t hc ⟨⟨h0, hc⟩, ?_⟩
        rcases hor with ⟨w1, w, w2, rfl⟩ | ⟨w1, w, w2, rfl⟩
        · exact ifE_t w1 ⟨_, _, _, _, w2, _, c_OpA 5 w, by simp only [List.length_cons, List.length_nil]; omega, m', hlt, rfl, rfl, rfl, hrest⟩
        · exact ifE_f w1 ⟨_, _, _, _, w2, _, c_OpA 1 w, by simp only [List.length_cons, List.length_nil]; omega, m', hlt, rfl, rfl, rfl, hrest⟩
    · -- and, or
      obtain ⟨x, p3, q3, m3, d3, s3, t3⟩ := g1 l p2 q2 v3 (by omega)
      obtain ⟨y, p4, q4, m4, d4, s4, t4⟩ := g3 l p3 q3 s3 (by omega)
      obtain ⟨u, p5, q5, u1, u2, u3, u4⟩ := c_next 2 l p4 q4 s4 (by omega)
      have t3' : TT n_spec_l00Src_wantBool [.one (.ptrB 0 0), .one (.sl tyInt ks), eI (wI (d - 1))] [srcO l p2 q2] (.one (.row 1)) [srcO l p3 q3, rwI x] := by rw [w64 (x := d - 1) (by omega)]; exact t3
      have hop : TT n_spec_l04Op [eI (wI (15 + u))] [] (.one (.row 0)) [rwI [(15 + u, (0, ()))]] := by rw [w64 (x := 15 + u) (by omega)]; exact c_Op _
      have hu : u = 0 ∨ u = 1 := by omega
      have he : effect (15 + u) 0 ks = (bB ++ bB, bB) := by
        rw [bBB_eq]
        rcases hu with rfl | rfl <;> rfl
      have hi : instrOK (15 + u) 0 = true := by rcases hu with rfl | rfl <;> decide
      have mk : Made ks n bB 3 0 (m + 1 + 1) ((x ++ y) ++ [(15 + u, (0, ()))]) := (m3.app (h := 3) (d := 0) m4 (by omega) (by decide) (by omega) (by omega)).op he hi (by omega) (by omega) (by decide) (by omega)
      have hcat := c_Cat [x, y, [(15 + u, (0, ()))]] ((x ++ y) ++ [(15 + u, (0, ()))]) (by simp) (by simp) (by
        intro z hz
        simp only [List.mem_cons, List.not_mem_nil, or_false] at hz
        rcases hz with rfl | rfl | rfl
        · exact ins_len m3 (by omega)
        · exact ins_len m4 (by omega)
        · simp)
      refine ⟨_, p5, q5, mk.mono (by omega) (by omega) (by omega), by omega, u3, r_spec_l00Src_wantBool ks d l p q ⟨fun b' l' p' q' => b' = false ∧ l = l' ∧ p1 = p' ∧ q1 = q', J0, ?_⟩⟩
      rintro _ _ _ _ ⟨rfl, rfl, rfl, rfl⟩
      refine ifB_f rfl ⟨fun l'' p'' q'' => l = l'' ∧ p2 = p'' ∧ q2 = q'', ?_, ?_⟩
      · exact ⟨_, _, _, _, v4, ifE_f a0 (ifE_f a1 (ifE (fun a3 => ifP_f (by omega) ⟨rfl, rfl, rfl, rfl⟩) (fun _ => ⟨rfl, rfl, rfl, rfl⟩)))⟩
      · rintro _ _ _ ⟨rfl, rfl, rfl⟩
        exact ⟨_, _, _, _, t3', _, _, _, _, t4, _, _, _, _, u4, _, hop, _, hcat, rfl, rfl⟩
  · -- a leaf
    have J0 := hJ (fun b' l' p' q' => b' = true ∧ l = l' ∧ p1 = p' ∧ q1 = q') ⟨rfl, rfl, rfl, rfl⟩
    obtain ⟨v, p2, q2, v1, v2, v3, v4⟩ := c_next 4 l p1 q1 hs1 (by omega)
    by_cases a0 : v = 0
    · obtain ⟨w, p3, q3, w1, w2, w3, w4⟩ := c_next 2 l p2 q2 v3 (by omega)
      have mk : Made ks n bB 1 0 1 [(2, (w, ()))] := Made.one rfl (iok2 (by omega)) (by omega) (by omega) (by decide) (by omega)
      refine ⟨_, p3, q3, mk.mono (by omega) (by omega) (by omega), by omega, w3, r_spec_l00Src_wantBool ks d l p q ⟨fun b' l' p' q' => b' = true ∧ l = l' ∧ p1 = p' ∧ q1 = q', J0, ?_⟩⟩
      rintro _ _ _ _ ⟨rfl, rfl, rfl, rfl⟩
      exact ifB_t rfl ⟨_, _, _, _, v4, ifE_t a0 ⟨_, _, _, _, w4, _, c_OpA 2 w, rfl, rfl⟩⟩
    obtain ⟨w, p3, q3, w1, w2, w3, w4⟩ := c_next 4 l p2 q2 v3 (by omega)
    by_cases a1 : v = 1
    · have mk : Made ks n bB 1 0 1 [(7, (w, ()))] := Made.one rfl (iok7 (by omega)) (by omega) (by omega) (by decide) (by omega)
      refine ⟨_, p3, q3, mk.mono (by omega) (by omega) (by omega), by omega, w3, r_spec_l00Src_wantBool ks d l p q ⟨fun b' l' p' q' => b' = true ∧ l = l' ∧ p1 = p' ∧ q1 = q', J0, ?_⟩⟩
      rintro _ _ _ _ ⟨rfl, rfl, rfl, rfl⟩
      exact ifB_t rfl ⟨_, _, _, _, v4, ifE_f a0 (ifE_t a1 ⟨_, _, _, _, w4, _, c_OpA 7 w, rfl, rfl⟩)⟩
    · have mk : Made ks n bB 1 0 1 [(5, (w, ()))] := Made.one rfl (iok5 (by omega)) (by omega) (by omega) (by decide) (by omega)
      refine ⟨_, p3, q3, mk.mono (by omega) (by omega) (by omega), by omega, w3, r_spec_l00Src_wantBool ks d l p q ⟨fun b' l' p' q' => b' = true ∧ l = l' ∧ p1 = p' ∧ q1 = q', J0, ?_⟩⟩
      rintro _ _ _ _ ⟨rfl, rfl, rfl, rfl⟩
      exact ifB_t rfl ⟨_, _, _, _, v4, ifE_f a0 (ifE_f a1 ⟨_, _, _, _, w4, _, c_OpA 5 w, rfl, rfl⟩)⟩

theorem int0 (ks : List Int) (n : Int) (hk : kindsOK ks = true) : GX n_spec_l00Src_wantInt ks n bI 1 1 20 0 := int_go ks n hk 0 (by omega) 0 0 (by omega) 1 1 20 (by omega) (by omega)
theorem bool0 (ks : List Int) (n : Int) (hk : kindsOK ks = true) : GX n_spec_l00Src_wantBool ks n bB 1 1 20 0 := bool_go ks n hk 0 (by omega) 0 0 (by omega) 1 1 20 (by omega) (by omega)
theorem int1 (ks : List Int) (n : Int) (hk : kindsOK ks = true) : GX n_spec_l00Src_wantInt ks n bI 3 5 120 1 :=
  int_go ks n hk 1 (by omega) 1 20 (fun _ => ⟨(int0 ks n hk).mono (by omega) (by omega) (by omega), int0 ks n hk, bool0 ks n hk⟩) 3 5 120 (by omega) (by omega)
theorem int2 (ks : List Int) (n : Int) (hk : kindsOK ks = true) : GX n_spec_l00Src_wantInt ks n bI 3 9 220 2 :=
  int_go ks n hk 2 (by omega) 5 120 (fun _ => ⟨int1 ks n hk, int0 ks n hk, bool0 ks n hk⟩) 3 9 220 (by omega) (by omega)
theorem bool1 (ks : List Int) (n : Int) (hk : kindsOK ks = true) : GX n_spec_l00Src_wantBool ks n bB 3 5 120 1 :=
  bool_go ks n hk 1 (by omega) 1 20 (fun _ => ⟨(bool0 ks n hk).mono (by omega) (by omega) (by omega), int0 ks n hk, bool0 ks n hk⟩) 3 5 120 (by omega) (by omega)
theorem bool2 (ks : List Int) (n : Int) (hk : kindsOK ks = true) : GX n_spec_l00Src_wantBool ks n bB 3 9 220 2 :=
  bool_go ks n hk 2 (by omega) 5 120 (fun _ => ⟨bool1 ks n hk, int0 ks n hk, bool0 ks n hk⟩) 3 9 220 (by omega) (by omega)
end Go.Ry
