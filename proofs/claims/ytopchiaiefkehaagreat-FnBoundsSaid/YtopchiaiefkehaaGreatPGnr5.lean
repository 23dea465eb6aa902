/- Texts Gnr2, Gnr3, Gnr4, Gnr5, one behind the other. No condition. -/
import Derived.Test.YtopchiaiefkehaaGreatPGnr1
import Derived.Test.YtopchiaiefkehaaGreatPDrw1
import Derived.Test.YtopchiaiefkehaaGreatPGen
set_option linter.unusedVariables false
set_option linter.unusedSimpArgs false
namespace Go.Ry
open Go.Proofs

@[reducible] def rwI (l : List Ins) : Ob := .row t_impl_Instr tIns l
theorem c_OpA (op a : Int) : TT n_spec_l04OpA [eI op, eI a] [] (.one (.row 0)) [rwI [(op, (a, ()))]] := r_spec_l04OpA op a ⟨rfl, rfl⟩
theorem c_Op (op : Int) : TT n_spec_l04Op [eI op] [] (.one (.row 0)) [rwI [(op, (0, ()))]] := r_spec_l04Op op ⟨rfl, rfl⟩
theorem c_Cat (L : List (List Ins)) (r : List Ins) (hr : L.flatten = r) (h : L.length ≤ 10) (hl : ∀ x ∈ L, x.length ≤ 100000) : TT n_spec_l04Cat [.one (.sl (.slice tIns) L)] [] (.one (.row 0)) [rwI r] := by
  subst hr
  refine r_spec_l04Cat L ⟨fun m i r => 0 ≤ i ∧ i ≤ L.length ∧ m = (L.length - i).toNat ∧ (r.length : Int) ≤ 100000 * i ∧ r = (L.take i.toNat).flatten, ⟨_, rfl, by omega, by omega, rfl, by simp, by simp⟩, ?_⟩
  rintro m i r ⟨h0, h1, rfl, h2, rfl⟩
  refine ifP (fun hlt => ?_) (fun hge => ?_)
  · have hx : (L.getD i.toNat []).length ≤ 100000 := by
      rw [List.getD_eq_getElem?_getD, List.getElem?_eq_getElem (by omega)]
      exact hl _ (List.getElem_mem (by omega))
    have htk := take_succ_getD (l := L) (i := i.toNat) (by omega) []
    rw [w64 (x := i + 1) (by omega)]
    refine ⟨⟨h0, hlt⟩, by omega, _, ?_, rfl, by omega, by omega, rfl, ?_, ?_⟩
    · omega
    · rw [List.length_append]; omega
    · rw [toNat_succ h0, htk, List.flatten_append]; simp
  · rw [List.take_of_length_le (by omega)]; exact ⟨rfl, rfl⟩
theorem bII_eq : bI ++ bI = bII := bytesL_inj (by rw [bytesL_append]; rfl)
theorem bBB_eq : bB ++ bB = bBB := bytesL_inj (by rw [bytesL_append]; rfl)
theorem bBII_eq : (bB ++ bI) ++ bI = bBII := bytesL_inj (by rw [bytesL_append, bytesL_append]; rfl)
/-- What a generator of code for an expression does. -/
def GX (fn : Nat) (ks : List Int) (n : Int) (t : ByteArray) (h m : Nat) (D d : Int) : Prop :=
  ∀ (l : List Int) (p q : Int), SrcOK l p q → p ≤ 2000000 - 10000 * d → ∃ (r : List Ins) (p' q' : Int), Made ks n t h 0 m r ∧ (p ≤ p' ∧ p' ≤ p + D) ∧ SrcOK l p' q' ∧ TT fn [.one (.ptrB 0 0), .one (.sl tyInt ks), eI d] [srcO l p q] (.one (.row 1)) [srcO l p' q', rwI r]
theorem GX.mono {fn : Nat} {ks : List Int} {n : Int} {t : ByteArray} {h h' m m' : Nat} {D D' d : Int} (k : GX fn ks n t h m D d) (e1 : h ≤ h') (e2 : m ≤ m') (e3 : D ≤ D') : GX fn ks n t h' m' D' d := by
  intro l p q hs hp
  obtain ⟨r, p', q', a, b, c, e⟩ := k l p q hs hp
  exact ⟨r, p', q', a.mono e1 (by omega) e2, by omega, c, e⟩
/-- At no depth the leaf comes at once; else a draw decides. -/
theorem at_depth (ks : List Int) (d : Int) (hd : 0 ≤ d) (l : List Int) (p q : Int) (hs : SrcOK l p q) (hp : p ≤ 2000000) :
    ∃ b p1 q1, (b = false → 0 < d) ∧ (p ≤ p1 ∧ p1 ≤ p + 3) ∧ SrcOK l p1 q1 ∧ ∀ J : Bool → List Int → Int → Int → Prop, J b l p1 q1 →
      ifB (d == 0) (eqC [.sl tyInt ks, cI d] ∧ J true l p q) (∃ (b7 : Bool) (l8 : List Int) (n9 n10 : Int), TT n_spec_l00Src_chance [(.one (.ptrB 0 0)), (eI 2)] [srcO l p q] (eB b7) [srcO l8 n9 n10] ∧ (eqC [.sl tyInt ks, cI d] ∧ J b7 l8 n9 n10)) := by
  by_cases h0 : d = 0
  · exact ⟨true, p, q, fun e => (by cases e), by omega, hs, fun J hj => ifE_t h0 ⟨rfl, hj⟩⟩
  · obtain ⟨b, p1, q1, a1, a2, a3⟩ := c_chance 2 (by omega) l p q hs (by omega)
    exact ⟨b, p1, q1, fun _ => by omega, a1, a2, fun J hj => ifE_f h0 ⟨_, _, _, _, a3, rfl, hj⟩⟩
theorem ins_len {ks : List Int} {n : Int} {t : ByteArray} {h d m : Nat} {r : List Ins} (k : Made ks n t h d m r) (hm : m ≤ 100000) : r.length ≤ 100000 := Nat.le_trans k.len hm
theorem iok1 {a : Int} (h : isVal a = true) : instrOK 1 a = true := by simpa [instrOK, rangeOf, isOp, within, isVal] using h
theorem iok3 {a : Int} (h : 0 ≤ a ∧ a ≤ 3) : instrOK 3 a = true := by simp [instrOK, rangeOf, isOp, within]; omega
theorem iok4 {a : Int} (h : 0 ≤ a ∧ a ≤ 3) : instrOK 4 a = true := by simp [instrOK, rangeOf, isOp, within]; omega
theorem iok2 {a : Int} (h : 0 ≤ a ∧ a ≤ 1) : instrOK 2 a = true := by simp [instrOK, rangeOf, isOp, within]; omega
theorem iok5 {a : Int} (h : 0 ≤ a ∧ a ≤ 3) : instrOK 5 a = true := by simp [instrOK, rangeOf, isOp, within]; omega
theorem iok6 {a : Int} (h : 0 ≤ a ∧ a ≤ 3) : instrOK 6 a = true := by simp [instrOK, rangeOf, isOp, within]; omega
theorem iok7 {a : Int} (h : 0 ≤ a ∧ a ≤ 3) : instrOK 7 a = true := by simp [instrOK, rangeOf, isOp, within]; omega
theorem iok8 {a : Int} (h : 0 ≤ a ∧ a ≤ 3) : instrOK 8 a = true := by simp [instrOK, rangeOf, isOp, within]; omega
theorem iok19 {a : Int} (h : 0 ≤ a ∧ a ≤ 7) : instrOK 19 a = true := by simp [instrOK, rangeOf, isOp, within]; omega
theorem iok20 {a : Int} (h : 0 ≤ a ∧ a ≤ 7) : instrOK 20 a = true := by simp [instrOK, rangeOf, isOp, within]; omega
theorem iok24 {a : Int} (h : 1 ≤ a ∧ a ≤ 20) : instrOK 24 a = true := by simp [instrOK, rangeOf, isOp, within]; omega
theorem iok26 {a : Int} (h : 0 ≤ a ∧ a ≤ 5) : instrOK 26 a = true := by simp [instrOK, rangeOf, isOp, within]; omega
theorem val_small {a : Int} (h : 0 ≤ a ∧ a ≤ 1000) : isVal a = true := by simp only [isVal, within_iff]; omega
theorem int_go (ks : List Int) (n : Int) (hk : kindsOK ks = true) (d : Int) (hd : 0 ≤ d ∧ d ≤ 2) (m : Nat) (D : Int)
    (rec : 0 < d → GX n_spec_l00Src_wantInt ks n bI 3 m D (d - 1) ∧ GX n_spec_l00Src_wantInt ks n bI 1 1 20 0 ∧ GX n_spec_l00Src_wantBool ks n bB 1 1 20 0)
    (h m' : Nat) (D' : Int) (e0 : 1 ≤ h ∧ 1 ≤ m' ∧ 20 ≤ D') (e1 : 0 < d → 3 ≤ h ∧ m + 4 ≤ m' ∧ D + 100 ≤ D' ∧ 0 ≤ D ∧ D ≤ 1000 ∧ m ≤ 1000) : GX n_spec_l00Src_wantInt ks n bI h m' D' d := by
  intro l p q hs hp
  have hk8 : ks.length ≤ 8 := (kindsOK_in hk).1
  obtain ⟨b, p1, q1, hb, hr1, hs1, hJ⟩ := at_depth ks d hd.1 l p q hs (by omega)
  cases b
  · have J0 := hJ (fun b' l' p' q' => b' = false ∧ l' = l ∧ p' = p1 ∧ q' = q1) ⟨rfl, rfl, rfl, rfl⟩
    have hd0 := hb rfl
    obtain ⟨g1, g2, g3⟩ := rec hd0
    obtain ⟨k1, k2, k3, k4, k5, k6⟩ := e1 hd0
    obtain ⟨b2, p2, q2, c1, c2, c3⟩ := c_chance 4 (by omega) l p1 q1 hs1 (by omega)
    cases b2
    · obtain ⟨x, p3, q3, m3, d3, s3, t3⟩ := g1 l p2 q2 c2 (by omega)
      obtain ⟨y, p4, q4, m4, d4, s4, t4⟩ := g2 l p3 q3 s3 (by omega)
      obtain ⟨v, p5, q5, v1, v2, v3, v4⟩ := c_next 4 l p4 q4 s4 (by omega)
      have t3' : TT n_spec_l00Src_wantInt [.one (.ptrB 0 0), .one (.sl tyInt ks), eI (wI (d - 1))] [srcO l p2 q2] (.one (.row 1)) [srcO l p3 q3, rwI x] := by rw [w64 (x := d - 1) (by omega)]; exact t3
      have hop : TT n_spec_l04Op [eI (wI (9 + v))] [] (.one (.row 0)) [rwI [(9 + v, (0, ()))]] := by rw [w64 (x := 9 + v) (by omega)]; exact c_Op _
      have he : effect (9 + v) 0 ks = (bI ++ bI, bI) := by
        rw [bII_eq]
        have : v = 0 ∨ v = 1 ∨ v = 2 ∨ v = 3 := by omega
        rcases this with rfl | rfl | rfl | rfl <;> rfl
      have hi : instrOK (9 + v) 0 = true := by
        have : v = 0 ∨ v = 1 ∨ v = 2 ∨ v = 3 := by omega
        rcases this with rfl | rfl | rfl | rfl <;> decide
      have mk : Made ks n bI 3 0 (m + 1 + 1) ((x ++ y) ++ [(9 + v, (0, ()))]) := (m3.app (h := 3) (d := 0) m4 (by omega) (by decide) (by omega) (by omega)).op he hi (by omega) (by omega) (by decide) (by omega)
      have hcat := c_Cat [x, y, [(9 + v, (0, ()))]] ((x ++ y) ++ [(9 + v, (0, ()))]) (by simp) (by simp) (by
        intro z hz
        simp only [List.mem_cons, List.not_mem_nil, or_false] at hz
        rcases hz with rfl | rfl | rfl
        · exact ins_len m3 (by omega)
        · exact ins_len m4 (by omega)
        · simp)
      refine ⟨_, p5, q5, mk.mono (by omega) (by omega) (by omega), by omega, v3, r_spec_l00Src_wantInt ks d l p q ⟨fun b' l' p' q' => b' = false ∧ l' = l ∧ p' = p1 ∧ q' = q1, J0, ?_⟩⟩
      rintro _ _ _ _ ⟨rfl, rfl, rfl, rfl⟩
      exact ifB_f rfl ⟨_, _, _, _, c3, ifB_f rfl ⟨_, _, _, _, t3', _, _, _, _, t4, _, _, _, _, v4, _, hop, _, hcat, rfl, rfl⟩⟩
    · obtain ⟨x, p3, q3, m3, d3, s3, t3⟩ := g3 l p2 q2 c2 (by omega)
      obtain ⟨y, p4, q4, m4, d4, s4, t4⟩ := g2 l p3 q3 s3 (by omega)
      obtain ⟨z, p5, q5, m5, d5, s5, t5⟩ := g2 l p4 q4 s4 (by omega)
      have he : effect 18 0 ks = ((bB ++ bI) ++ bI, bI) := by rw [bBII_eq]; rfl
      have mk : Made ks n bI 3 0 (1 + 1 + 1 + 1) (((x ++ y) ++ z) ++ [(18, (0, ()))]) := ((m3.app (h := 3) (d := 0) m4 (by omega) (by decide) (by omega) (by omega)).app (h := 3) (d := 0) m5 (by omega) (by rw [size_append]; decide) (by omega) (by omega)).op he (by decide) (by omega) (by omega) (by decide) (by omega)
      have hcat := c_Cat [x, y, z, [(18, (0, ()))]] (((x ++ y) ++ z) ++ [(18, (0, ()))]) (by simp) (by simp) (by
        intro u hu
        simp only [List.mem_cons, List.not_mem_nil, or_false] at hu
        rcases hu with rfl | rfl | rfl | rfl
        · exact ins_len m3 (by omega)
        · exact ins_len m4 (by omega)
        · exact ins_len m5 (by omega)
        · simp)
      refine ⟨_, p5, q5, mk.mono (by omega) (by omega) (by omega), by omega, s5, r_spec_l00Src_wantInt ks d l p q ⟨fun b' l' p' q' => b' = false ∧ l' = l ∧ p' = p1 ∧ q' = q1, J0, ?_⟩⟩
      rintro _ _ _ _ ⟨rfl, rfl, rfl, rfl⟩
      exact ifB_f rfl ⟨_, _, _, _, c3, ifB_t rfl ⟨_, _, _, _, t3, _, _, _, _, t4, _, _, _, _, t5, _, c_Op 18, _, hcat, rfl, rfl⟩⟩
  · -- a leaf
    have J0 := hJ (fun b' l' p' q' => b' = true ∧ l' = l ∧ p' = p1 ∧ q' = q1) ⟨rfl, rfl, rfl, rfl⟩
    obtain ⟨v, p2, q2, v1, v2, v3, v4⟩ := c_next 4 l p1 q1 hs1 (by omega)
    by_cases a0 : v = 0
    · obtain ⟨w, p3, q3, w1, w2, w3, w4⟩ := c_value l p2 q2 v3 (by omega)
      have mk : Made ks n bI 1 0 1 [(1, (w, ()))] := Made.one rfl (iok1 w1) (by omega) (by omega) (by decide) (by omega)
      refine ⟨_, p3, q3, mk.mono (by omega) (by omega) (by omega), by omega, w3, r_spec_l00Src_wantInt ks d l p q ⟨fun b' l' p' q' => b' = true ∧ l' = l ∧ p' = p1 ∧ q' = q1, J0, ?_⟩⟩
      rintro _ _ _ _ ⟨rfl, rfl, rfl, rfl⟩
      exact ifB_t rfl ⟨_, _, _, _, v4, ifE_t a0 ⟨_, _, _, _, w4, _, c_OpA 1 w, rfl, rfl⟩⟩
    by_cases a1 : v = 1 ∧ 0 < ks.length
    · obtain ⟨w, p3, q3, w1, w2, w3, w4⟩ := c_next ks.length l p2 q2 v3 (by omega)
      have mk : Made ks n bI 1 0 1 [(20, (w, ()))] := Made.one rfl (iok20 (by omega)) (by omega) (by omega) (by decide) (by omega)
      refine ⟨_, p3, q3, mk.mono (by omega) (by omega) (by omega), by omega, w3, r_spec_l00Src_wantInt ks d l p q ⟨fun b' l' p' q' => b' = true ∧ l' = l ∧ p' = p1 ∧ q' = q1, J0, ?_⟩⟩
      rintro _ _ _ _ ⟨rfl, rfl, rfl, rfl⟩
      exact ifB_t rfl ⟨_, _, _, _, v4, ifE_f a0 (ifE_t a1.1 (ifP_t (by omega) ⟨_, _, _, _, w4, _, c_OpA 20 w, rfl, rfl⟩))⟩
    · obtain ⟨w, p3, q3, w1, w2, w3, w4⟩ := c_next 4 l p2 q2 v3 (by omega)
      have mk : Made ks n bI 1 0 1 [(3, (w, ()))] := Made.one rfl (iok3 (by omega)) (by omega) (by omega) (by decide) (by omega)
      refine ⟨_, p3, q3, mk.mono (by omega) (by omega) (by omega), by omega, w3, r_spec_l00Src_wantInt ks d l p q ⟨fun b' l' p' q' => b' = true ∧ l' = l ∧ p' = p1 ∧ q' = q1, J0, ?_⟩⟩
      rintro _ _ _ _ ⟨rfl, rfl, rfl, rfl⟩
      refine ifB_t rfl ⟨_, _, _, _, v4, ifE_f a0 (ifE (fun a2 => ifP_f (by omega) ⟨_, _, _, _, w4, _, c_OpA 3 w, rfl, rfl⟩) (fun _ => ⟨_, _, _, _, w4, _, c_OpA 3 w, rfl, rfl⟩))⟩

/-! ### what a block takes -/
def tyB (c : Int) : ByteArray := if c = 98 then bB else bI
def pfx : List Int → ByteArray
  | [] => e0
  | c :: r => tyB c ++ pfx r
theorem pfx_snoc : ∀ (a : List Int) (c : Int), pfx (a ++ [c]) = pfx a ++ tyB c
  | [], c => by show tyB c ++ e0 = e0 ++ tyB c; rw [app_e0, e0_app]
  | x :: a, c => by show tyB x ++ pfx (a ++ [c]) = (tyB x ++ pfx a) ++ tyB c; rw [pfx_snoc a c, append_assoc']
theorem tyB_size (c : Int) : (tyB c).size = 1 := by unfold tyB; split <;> rfl
theorem pfx_size : ∀ a : List Int, (pfx a).size = a.length
  | [] => rfl
  | x :: a => by show (tyB x ++ pfx a).size = a.length + 1; rw [size_append, tyB_size, pfx_size a]; omega
theorem takes_pfx {k : Int} (h : isKind k = true) : pfx (bytesL (takes k)) = takes k ∧ (takes k).size ≤ 3 := by
  have hr := within_iff.1 (show within k 1 4 = true from h)
  have : k = 1 ∨ k = 2 ∨ k = 3 ∨ k = 4 := by omega
  rcases this with rfl | rfl | rfl | rfl
  · exact ⟨bytesL_inj (by show bytesL (tyB 98 ++ (tyB 105 ++ e0)) = _; rw [bytesL_append, bytesL_append]; rfl), by decide⟩
  · exact ⟨bytesL_inj (by show bytesL (tyB 98 ++ (tyB 98 ++ (tyB 105 ++ e0))) = _; rw [bytesL_append, bytesL_append, bytesL_append]; rfl), by decide⟩
  · exact ⟨bytesL_inj (by show bytesL (tyB 98 ++ e0) = _; rw [bytesL_append]; rfl), by decide⟩
  · exact ⟨bytesL_inj (by show bytesL (tyB 98 ++ (tyB 98 ++ e0)) = _; rw [bytesL_append, bytesL_append]; rfl), by decide⟩
structure BkS where
  i : Int
  p : Int
  q : Int
  r : List Ins
structure BkInv (ks : List Int) (n : Int) (l : List Int) (p0 : Int) (t : ByteArray) (m : Nat) (x : BkS) : Prop where
  hm : m = (t.size - x.i).toNat
  i0 : 0 ≤ x.i
  i1 : x.i ≤ t.size
  src : SrcOK l x.p x.q
  hp : p0 ≤ x.p ∧ x.p ≤ p0 + 3 * x.i
  made : Made ks n (pfx ((bytesL t).take x.i.toNat)) 3 0 x.i.toNat x.r
def BkStep (l : List Int) (t : ByteArray) (x y : BkS) : Prop := x.i < t.size ∧ y.i = x.i + 1 ∧
  (((bytesL t).getD x.i.toNat 0 = 98 ∧ ∃ v, TT n_spec_l00Src_next [.one (.ptrB 0 0), eI 4] [srcO l x.p x.q] (eI v) [srcO l y.p y.q] ∧ y.r = x.r ++ [(5, (v, ()))]) ∨
   (¬ (bytesL t).getD x.i.toNat 0 = 98 ∧ ∃ v, TT n_spec_l00Src_next [.one (.ptrB 0 0), eI 12] [srcO l x.p x.q] (eI v) [srcO l y.p y.q] ∧ y.r = x.r ++ [(1, (v, ()))]))
def BkDone (t : ByteArray) (x : BkS) : Prop := x.i = t.size
theorem bk_go (ks : List Int) (n : Int) (l : List Int) (p0 : Int) (hp0 : p0 ≤ 2000000) (t : ByteArray) (ht : t.size ≤ 3) : ∀ m x, BkInv ks n l p0 t m x → BkDone t x ∨ ∃ m' y, m' < m ∧ BkInv ks n l p0 t m' y ∧ BkStep l t x y := by
  rintro m ⟨i, p, q, r⟩ ⟨h1, h2, h3, h4, h5, h6⟩
  simp only at h1 h2 h3 h4 h5 h6
  by_cases hd : i = t.size
  · exact .inl hd
  have hlt : i < t.size := by omega
  have hbl := bytesL_size t
  have htk : (bytesL t).take (i + 1).toNat = (bytesL t).take i.toNat ++ [(bytesL t).getD i.toNat 0] := by
    rw [toNat_succ h2]; exact take_succ_getD (by omega) 0
  have hsz : (pfx ((bytesL t).take i.toNat)).size + 1 ≤ 3 := by rw [pfx_size, List.length_take]; omega
  by_cases hc : (bytesL t).getD i.toNat 0 = 98
  · obtain ⟨v, p1, q1, v1, v2, v3, v4⟩ := c_next 4 l p q h4 (by omega)
    have mk : Made ks n bB 1 0 1 [(5, (v, ()))] := Made.one rfl (iok5 (by omega)) (by omega) (by omega) (by decide) (by omega)
    refine .inr ⟨(t.size - (i + 1)).toNat, ⟨i + 1, p1, q1, r ++ [(5, (v, ()))]⟩, by omega, ⟨rfl, by show 0 ≤ i + 1; omega, by show i + 1 ≤ t.size; omega, v3, by show p0 ≤ p1 ∧ p1 ≤ p0 + 3 * (i + 1); omega, ?_⟩, hlt, rfl, .inl ⟨hc, v, v4, rfl⟩⟩
    show Made ks n (pfx ((bytesL t).take (i + 1).toNat)) 3 0 (i + 1).toNat (r ++ [(5, (v, ()))])
    rw [htk, pfx_snoc, hc]
    have e : tyB 98 = bB := rfl
    rw [e]
    exact (h6.app (h := 3) (d := 0) mk (by omega) (by omega) (by omega) (by omega)).mono (by omega) (by omega) (by omega)
  · obtain ⟨v, p1, q1, v1, v2, v3, v4⟩ := c_next 12 l p q h4 (by omega)
    have mk : Made ks n bI 1 0 1 [(1, (v, ()))] := Made.one rfl (iok1 (val_small (by omega))) (by omega) (by omega) (by decide) (by omega)
    refine .inr ⟨(t.size - (i + 1)).toNat, ⟨i + 1, p1, q1, r ++ [(1, (v, ()))]⟩, by omega, ⟨rfl, by show 0 ≤ i + 1; omega, by show i + 1 ≤ t.size; omega, v3, by show p0 ≤ p1 ∧ p1 ≤ p0 + 3 * (i + 1); omega, ?_⟩, hlt, rfl, .inr ⟨hc, v, v4, rfl⟩⟩
    show Made ks n (pfx ((bytesL t).take (i + 1).toNat)) 3 0 (i + 1).toNat (r ++ [(1, (v, ()))])
    rw [htk, pfx_snoc]
    have e : tyB ((bytesL t).getD i.toNat 0) = bI := if_neg hc
    rw [e]
    exact (h6.app (h := 3) (d := 0) mk (by omega) (by omega) (by omega) (by omega)).mono (by omega) (by omega) (by omega)
end Go.Ry

set_option linter.unusedVariables false
set_option linter.unusedSimpArgs false
namespace Go.Ry
open Go.Proofs

theorem bool_go (ks : List Int) (n : Int) (hk : kindsOK ks = true) (d : Int) (hd : 0 ≤ d ∧ d ≤ 2) (m : Nat) (D : Int)
    (rec : 0 < d → GX n_spec_l00Src_wantBool ks n bB 3 m D (d - 1) ∧ GX n_spec_l00Src_wantInt ks n bI 1 1 20 0 ∧ GX n_spec_l00Src_wantBool ks n bB 1 1 20 0)
    (h m' : Nat) (D' : Int) (e0 : 1 ≤ h ∧ 1 ≤ m' ∧ 20 ≤ D') (e1 : 0 < d → 3 ≤ h ∧ m + 4 ≤ m' ∧ D + 100 ≤ D' ∧ 0 ≤ D ∧ D ≤ 1000 ∧ m ≤ 1000) : GX n_spec_l00Src_wantBool ks n bB h m' D' d := by
  intro l p q hs hp
  have hk8 : ks.length ≤ 8 := (kindsOK_in hk).1
  obtain ⟨b, p1, q1, hb, hr1, hs1, hJ⟩ := at_depth ks d hd.1 l p q hs (by omega)
  cases b
  · have J0 := hJ (fun b' l' p' q' => b' = false ∧ l = l' ∧ p1 = p' ∧ q1 = q') ⟨rfl, rfl, rfl, rfl⟩
    have hd0 := hb rfl
    obtain ⟨g1, g2, g3⟩ := rec hd0
    obtain ⟨k1, k2, k3, k4, k5, k6⟩ := e1 hd0
    obtain ⟨v, p2, q2, v1, v2, v3, v4⟩ := c_next 4 l p1 q1 hs1 (by omega)
    by_cases a0 : v = 0
    · obtain ⟨x, p3, q3, m3, d3, s3, t3⟩ := g2 l p2 q2 v3 (by omega)
      obtain ⟨y, p4, q4, m4, d4, s4, t4⟩ := g2 l p3 q3 s3 (by omega)
      obtain ⟨u, p5, q5, u1, u2, u3, u4⟩ := c_next 2 l p4 q4 s4 (by omega)
      have hop : TT n_spec_l04Op [eI (wI (13 + u))] [] (.one (.row 0)) [rwI [(13 + u, (0, ()))]] := by rw [w64 (x := 13 + u) (by omega)]; exact c_Op _
      have hu : u = 0 ∨ u = 1 := by omega
      have he : effect (13 + u) 0 ks = (bI ++ bI, bB) := by
        rw [bII_eq]
        rcases hu with rfl | rfl <;> rfl
      have hi : instrOK (13 + u) 0 = true := by rcases hu with rfl | rfl <;> decide
      have mk : Made ks n bB 3 0 (1 + 1 + 1) ((x ++ y) ++ [(13 + u, (0, ()))]) := (m3.app (h := 3) (d := 0) m4 (by omega) (by decide) (by omega) (by omega)).op he hi (by omega) (by omega) (by decide) (by omega)
      have hcat := c_Cat [x, y, [(13 + u, (0, ()))]] ((x ++ y) ++ [(13 + u, (0, ()))]) (by simp) (by simp) (by
        intro z hz
        simp only [List.mem_cons, List.not_mem_nil, or_false] at hz
        rcases hz with rfl | rfl | rfl
        · exact ins_len m3 (by omega)
        · exact ins_len m4 (by omega)
        · simp)
      refine ⟨_, p5, q5, mk.mono (by omega) (by omega) (by omega), by omega, u3, r_spec_l00Src_wantBool ks d l p q ⟨fun b' l' p' q' => b' = false ∧ l = l' ∧ p1 = p' ∧ q1 = q', J0, ?_⟩⟩
      rintro _ _ _ _ ⟨rfl, rfl, rfl, rfl⟩
      exact ifB_f rfl ⟨fun _ _ _ => False, ⟨_, _, _, _, v4, ifE_t a0 ⟨_, _, _, _, t3, _, _, _, _, t4, _, _, _, _, u4, _, hop, _, hcat, rfl, rfl⟩⟩, fun _ _ _ hf => hf.elim⟩
    by_cases a1 : v = 1
    · obtain ⟨x, p3, q3, m3, d3, s3, t3⟩ := g1 l p2 q2 v3 (by omega)
      have t3' : TT n_spec_l00Src_wantBool [.one (.ptrB 0 0), .one (.sl tyInt ks), eI (wI (d - 1))] [srcO l p2 q2] (.one (.row 1)) [srcO l p3 q3, rwI x] := by rw [w64 (x := d - 1) (by omega)]; exact t3
      have mk : Made ks n bB 3 0 (m + 1) (x ++ [(17, (0, ()))]) := m3.op rfl (by decide) (by omega) (by omega) (by decide) (by omega)
      have hcat := c_Cat [x, [(17, (0, ()))]] (x ++ [(17, (0, ()))]) (by simp) (by simp) (by
        intro z hz
        simp only [List.mem_cons, List.not_mem_nil, or_false] at hz
        rcases hz with rfl | rfl
        · exact ins_len m3 (by omega)
        · simp)
      refine ⟨_, p3, q3, mk.mono (by omega) (by omega) (by omega), by omega, s3, r_spec_l00Src_wantBool ks d l p q ⟨fun b' l' p' q' => b' = false ∧ l = l' ∧ p1 = p' ∧ q1 = q', J0, ?_⟩⟩
      rintro _ _ _ _ ⟨rfl, rfl, rfl, rfl⟩
      exact ifB_f rfl ⟨fun _ _ _ => False, ⟨_, _, _, _, v4, ifE_f a0 (ifE_t a1 ⟨_, _, _, _, t3', _, c_Op 17, _, hcat, rfl, rfl⟩)⟩, fun _ _ _ hf => hf.elim⟩
    by_cases a2 : v = 2 ∧ 0 < ks.length
    · obtain ⟨u, p3, q3, u1, u2, u3, u4⟩ := c_next ks.length l p2 q2 v3 (by omega)
      have hkk : isKind (ks.getD u.toNat 0) = true := (kindsOK_in hk).2 _ (by omega)
      obtain ⟨tp1, tp2⟩ := takes_pfx hkk
      have ht := c_spec_l03Takes _ hkk
      have heff : effect 19 u ks = (takes (ks.getD u.toNat 0), bB) := rfl
      revert tp1 tp2 ht heff
      generalize takes (ks.getD u.toNat 0) = t
      intro tp1 tp2 ht heff
      have i0 : BkInv ks n l p3 t t.size ⟨0, p3, q3, []⟩ := ⟨by show t.size = ((t.size : Int) - 0).toNat; omega, by show (0 : Int) ≤ 0; omega, by show (0 : Int) ≤ t.size; omega, u3, by show p3 ≤ p3 ∧ p3 ≤ p3 + 3 * 0; omega, Made.nil.mono (by omega) (by omega) (by omega)⟩
      obtain ⟨fin, hrun⟩ := Runs.go (bk_go ks n l p3 (by omega) t tp2) t.size _ i0
      obtain ⟨hdone, m0, hinv⟩ := hrun.fin
      have hfi : fin.i = t.size := hdone
      have hmade := hinv.made
      have hbl := bytesL_size t
      rw [hfi, Int.toNat_natCast, List.take_of_length_le (by omega), tp1] at hmade
      have mk : Made ks n bB 3 0 (t.size + 1) (fin.r ++ [(19, (u, ()))]) := hmade.op heff (iok19 (by omega)) (by omega) (by omega) (by decide) (by omega)
      have hpf := hinv.hp
      refine ⟨_, fin.p, fin.q, mk.mono (by omega) (by omega) (by omega), by omega, hinv.src, r_spec_l00Src_wantBool ks d l p q ⟨fun b' l' p' q' => b' = false ∧ l = l' ∧ p1 = p' ∧ q1 = q', J0, ?_⟩⟩
      rintro _ _ _ _ ⟨rfl, rfl, rfl, rfl⟩
      refine ifB_f rfl ⟨fun _ _ _ => False, ⟨_, _, _, _, v4, ifE_f a0 (ifE_f a1 (ifE_t a2.1 (ifP_t (by omega) ⟨_, _, _, _, u4, by omega, _, ht,
        fun m u' t' i l' p' q' r => u = u' ∧ t = t' ∧ l = l' ∧ Runs (BkInv ks n l p3 t) (BkStep l t) (BkDone t) m ⟨i, p', q', r⟩ fin, ⟨_, rfl, rfl, rfl, hrun⟩, ?_⟩)))⟩, fun _ _ _ hf => hf.elim⟩
      rintro m u' t' i l' p' q' r ⟨rfl, rfl, rfl, hrun⟩
      cases hrun with
      | done h1 h2 =>
        have h2 : i = t.size := h2
        have hml : r.length ≤ i.toNat := h1.made.len
        exact ifP_f (by omega) ⟨by simp only [List.length_cons, List.length_nil]; omega, rfl, rfl⟩
      | @step _ _ m' y _ h1 hlt hst hrest =>
        obtain ⟨hc, hy, hor⟩ := hst
        have hc : i < t.size := hc
        have h0 : 0 ≤ i := h1.i0
        have hml : r.length ≤ i.toNat := h1.made.len
        obtain ⟨yi, yp, yq, yr⟩ := y
        simp only at hy hor
        subst hy
        rw [w64 (x := i + 1) (by omega)]
        refine ifP_t hc ⟨⟨h0, hc⟩, ?_⟩
        rcases hor with ⟨w1, w, w2, rfl⟩ | ⟨w1, w, w2, rfl⟩
        · exact ifE_t w1 ⟨_, _, _, _, w2, _, c_OpA 5 w, by simp only [List.length_cons, List.length_nil]; omega, m', hlt, rfl, rfl, rfl, hrest⟩
        · exact ifE_f w1 ⟨_, _, _, _, w2, _, c_OpA 1 w, by simp only [List.length_cons, List.length_nil]; omega, m', hlt, rfl, rfl, rfl, hrest⟩
    · -- and, or
      obtain ⟨x, p3, q3, m3, d3, s3, t3⟩ := g1 l p2 q2 v3 (by omega)
      obtain ⟨y, p4, q4, m4, d4, s4, t4⟩ := g3 l p3 q3 s3 (by omega)
      obtain ⟨u, p5, q5, u1, u2, u3, u4⟩ := c_next 2 l p4 q4 s4 (by omega)
      have t3' : TT n_spec_l00Src_wantBool [.one (.ptrB 0 0), .one (.sl tyInt ks), eI (wI (d - 1))] [srcO l p2 q2] (.one (.row 1)) [srcO l p3 q3, rwI x] := by rw [w64 (x := d - 1) (by omega)]; exact t3
      have hop : TT n_spec_l04Op [eI (wI (15 + u))] [] (.one (.row 0)) [rwI [(15 + u, (0, ()))]] := by rw [w64 (x := 15 + u) (by omega)]; exact c_Op _
      have hu : u = 0 ∨ u = 1 := by omega
      have he : effect (15 + u) 0 ks = (bB ++ bB, bB) := by
        rw [bBB_eq]
        rcases hu with rfl | rfl <;> rfl
      have hi : instrOK (15 + u) 0 = true := by rcases hu with rfl | rfl <;> decide
      have mk : Made ks n bB 3 0 (m + 1 + 1) ((x ++ y) ++ [(15 + u, (0, ()))]) := (m3.app (h := 3) (d := 0) m4 (by omega) (by decide) (by omega) (by omega)).op he hi (by omega) (by omega) (by decide) (by omega)
      have hcat := c_Cat [x, y, [(15 + u, (0, ()))]] ((x ++ y) ++ [(15 + u, (0, ()))]) (by simp) (by simp) (by
        intro z hz
        simp only [List.mem_cons, List.not_mem_nil, or_false] at hz
        rcases hz with rfl | rfl | rfl
        · exact ins_len m3 (by omega)
        · exact ins_len m4 (by omega)
        · simp)
      refine ⟨_, p5, q5, mk.mono (by omega) (by omega) (by omega), by omega, u3, r_spec_l00Src_wantBool ks d l p q ⟨fun b' l' p' q' => b' = false ∧ l = l' ∧ p1 = p' ∧ q1 = q', J0, ?_⟩⟩
      rintro _ _ _ _ ⟨rfl, rfl, rfl, rfl⟩
      refine ifB_f rfl ⟨fun l'' p'' q'' => l = l'' ∧ p2 = p'' ∧ q2 = q'', ?_, ?_⟩
      · exact ⟨_, _, _, _, v4, ifE_f a0 (ifE_f a1 (ifE (fun a3 => ifP_f (by omega) ⟨rfl, rfl, rfl, rfl⟩) (fun _ => ⟨rfl, rfl, rfl, rfl⟩)))⟩
      · rintro _ _ _ ⟨rfl, rfl, rfl⟩
        exact ⟨_, _, _, _, t3', _, _, _, _, t4, _, _, _, _, u4, _, hop, _, hcat, rfl, rfl⟩
  · -- a leaf
    have J0 := hJ (fun b' l' p' q' => b' = true ∧ l = l' ∧ p1 = p' ∧ q1 = q') ⟨rfl, rfl, rfl, rfl⟩
    obtain ⟨v, p2, q2, v1, v2, v3, v4⟩ := c_next 4 l p1 q1 hs1 (by omega)
    by_cases a0 : v = 0
    · obtain ⟨w, p3, q3, w1, w2, w3, w4⟩ := c_next 2 l p2 q2 v3 (by omega)
      have mk : Made ks n bB 1 0 1 [(2, (w, ()))] := Made.one rfl (iok2 (by omega)) (by omega) (by omega) (by decide) (by omega)
      refine ⟨_, p3, q3, mk.mono (by omega) (by omega) (by omega), by omega, w3, r_spec_l00Src_wantBool ks d l p q ⟨fun b' l' p' q' => b' = true ∧ l = l' ∧ p1 = p' ∧ q1 = q', J0, ?_⟩⟩
      rintro _ _ _ _ ⟨rfl, rfl, rfl, rfl⟩
      exact ifB_t rfl ⟨_, _, _, _, v4, ifE_t a0 ⟨_, _, _, _, w4, _, c_OpA 2 w, rfl, rfl⟩⟩
    obtain ⟨w, p3, q3, w1, w2, w3, w4⟩ := c_next 4 l p2 q2 v3 (by omega)
    by_cases a1 : v = 1
    · have mk : Made ks n bB 1 0 1 [(7, (w, ()))] := Made.one rfl (iok7 (by omega)) (by omega) (by omega) (by decide) (by omega)
      refine ⟨_, p3, q3, mk.mono (by omega) (by omega) (by omega), by omega, w3, r_spec_l00Src_wantBool ks d l p q ⟨fun b' l' p' q' => b' = true ∧ l = l' ∧ p1 = p' ∧ q1 = q', J0, ?_⟩⟩
      rintro _ _ _ _ ⟨rfl, rfl, rfl, rfl⟩
      exact ifB_t rfl ⟨_, _, _, _, v4, ifE_f a0 (ifE_t a1 ⟨_, _, _, _, w4, _, c_OpA 7 w, rfl, rfl⟩)⟩
    · have mk : Made ks n bB 1 0 1 [(5, (w, ()))] := Made.one rfl (iok5 (by omega)) (by omega) (by omega) (by decide) (by omega)
      refine ⟨_, p3, q3, mk.mono (by omega) (by omega) (by omega), by omega, w3, r_spec_l00Src_wantBool ks d l p q ⟨fun b' l' p' q' => b' = true ∧ l = l' ∧ p1 = p' ∧ q1 = q', J0, ?_⟩⟩
      rintro _ _ _ _ ⟨rfl, rfl, rfl, rfl⟩
      exact ifB_t rfl ⟨_, _, _, _, v4, ifE_f a0 (ifE_f a1 ⟨_, _, _, _, w4, _, c_OpA 5 w, rfl, rfl⟩)⟩

theorem int0 (ks : List Int) (n : Int) (hk : kindsOK ks = true) : GX n_spec_l00Src_wantInt ks n bI 1 1 20 0 := int_go ks n hk 0 (by omega) 0 0 (by omega) 1 1 20 (by omega) (by omega)
theorem bool0 (ks : List Int) (n : Int) (hk : kindsOK ks = true) : GX n_spec_l00Src_wantBool ks n bB 1 1 20 0 := bool_go ks n hk 0 (by omega) 0 0 (by omega) 1 1 20 (by omega) (by omega)
theorem int1 (ks : List Int) (n : Int) (hk : kindsOK ks = true) : GX n_spec_l00Src_wantInt ks n bI 3 5 120 1 :=
  int_go ks n hk 1 (by omega) 1 20 (fun _ => ⟨(int0 ks n hk).mono (by omega) (by omega) (by omega), int0 ks n hk, bool0 ks n hk⟩) 3 5 120 (by omega) (by omega)
theorem int2 (ks : List Int) (n : Int) (hk : kindsOK ks = true) : GX n_spec_l00Src_wantInt ks n bI 3 9 220 2 :=
  int_go ks n hk 2 (by omega) 5 120 (fun _ => ⟨int1 ks n hk, int0 ks n hk, bool0 ks n hk⟩) 3 9 220 (by omega) (by omega)
theorem bool1 (ks : List Int) (n : Int) (hk : kindsOK ks = true) : GX n_spec_l00Src_wantBool ks n bB 3 5 120 1 :=
  bool_go ks n hk 1 (by omega) 1 20 (fun _ => ⟨(bool0 ks n hk).mono (by omega) (by omega) (by omega), int0 ks n hk, bool0 ks n hk⟩) 3 5 120 (by omega) (by omega)
theorem bool2 (ks : List Int) (n : Int) (hk : kindsOK ks = true) : GX n_spec_l00Src_wantBool ks n bB 3 9 220 2 :=
  bool_go ks n hk 2 (by omega) 5 120 (fun _ => ⟨bool1 ks n hk, int0 ks n hk, bool0 ks n hk⟩) 3 9 220 (by omega) (by omega)
end Go.Ry

set_option linter.unusedVariables false
set_option linter.unusedSimpArgs false
namespace Go.Ry
open Go.Proofs

/-- What a generator of statements does. -/
def GSt (ks : List Int) (n : Int) (dp m : Nat) (D d : Int) : Prop :=
  ∀ (l : List Int) (p q : Int), SrcOK l p q → p ≤ 1000000 - 100000 * d → ∃ (r : List Ins) (p' q' : Int), Made ks n e0 3 dp m r ∧ (p ≤ p' ∧ p' ≤ p + D) ∧ SrcOK l p' q' ∧ TT n_spec_l00Src_statement [.one (.ptrB 0 0), .one (.sl tyInt ks), eI n, eI d] [srcO l p q] (.one (.row 1)) [srcO l p' q', rwI r]
@[reducible] def defC : List Ins := [(3, (0, ())), (1, (1, ())), (9, (0, ())), (4, (0, ()))]
theorem def_made (ks : List Int) (n : Int) : Made ks n e0 3 0 4 defC := by
  have a : Made ks n bI 1 0 1 [(3, (0, ()))] := Made.one rfl (iok3 (by omega)) (by omega) (by omega) (by decide) (by omega)
  have b : Made ks n bI 1 0 1 [(1, (1, ()))] := Made.one rfl (iok1 (by decide)) (by omega) (by omega) (by decide) (by omega)
  have he : effect 9 0 ks = (bI ++ bI, bI) := by rw [bII_eq]; rfl
  exact ((a.app (h := 3) (d := 0) b (by omega) (by decide) (by omega) (by omega)).op he (by decide) (by omega) (by omega) (by decide) (by omega)).op (op := 4) (a := 0) rfl (iok4 (by omega)) (by omega) (by omega) (by decide) (by omega)
theorem def_cat : TT n_spec_l04Cat [.one (.sl (.slice tIns) [[(3, (0, ()))], [(1, (1, ()))], [(9, (0, ()))], [(4, (0, ()))]])] [] (.one (.row 0)) [rwI defC] := c_Cat _ _ rfl (by simp) (by simp)
theorem stm_go (ks : List Int) (n : Int) (hk : kindsOK ks = true) (hn : 0 ≤ n ∧ n ≤ 6) (d : Int) (hd : 0 ≤ d ∧ d ≤ 2) (dp m : Nat) (D : Int) (rec : 0 < d → GSt ks n dp m D (d - 1))
    (dp' m' : Nat) (D' : Int) (e0' : 10 ≤ m' ∧ 300 ≤ D') (e1 : 0 < d → dp + 1 ≤ dp' ∧ 2 * m + 8 ≤ m' ∧ 2 * D + 300 ≤ D' ∧ m ≤ 1000 ∧ 0 ≤ D ∧ D ≤ 20000) : GSt ks n dp' m' D' d := by
  intro l p q hs hp
  obtain ⟨v, p1, q1, v1, v2, v3, v4⟩ := c_next 9 l p q hs (by omega)
  have z0 : e0.size = 0 := rfl
  by_cases c1 : v ≤ 1
  · -- a number is stored
    obtain ⟨x, p2, q2, mx, dx, sx, tx⟩ := int2 ks n hk l p1 q1 v3 (by omega)
    obtain ⟨w, p3, q3, w1, w2, w3, w4⟩ := c_next 4 l p2 q2 sx (by omega)
    have mk : Made ks n e0 3 0 (9 + 1) (x ++ [(4, (w, ()))]) := mx.op rfl (iok4 (by omega)) (by omega) (by omega) (by decide) (by omega)
    have hcat := c_Cat [x, [(4, (w, ()))]] (x ++ [(4, (w, ()))]) (by simp) (by simp) (by
      intro z hz
      simp only [List.mem_cons, List.not_mem_nil, or_false] at hz
      rcases hz with rfl | rfl
      · exact ins_len mx (by omega)
      · simp)
    refine ⟨_, p3, q3, mk.mono (by omega) (by omega) (by omega), by omega, w3, r_spec_l00Src_statement ks n d l p q ⟨_, _, _, _, v4, fun v' b' l' p' q' => b' = true ∧ l = l' ∧ p1 = p' ∧ q1 = q',
      ifE (fun e => ⟨rfl, by simp [e], rfl, rfl, rfl⟩) (fun e => ⟨rfl, by simp; omega, rfl, rfl, rfl⟩), ?_⟩⟩
    rintro v' b' l' p' q' ⟨rfl, rfl, rfl, rfl⟩
    exact ifB_t rfl ⟨_, _, _, _, tx, _, _, _, _, w4, _, c_OpA 4 w, _, hcat, rfl, rfl⟩
  have J1 : ∀ J : Int → Bool → List Int → Int → Int → Prop, J v false l p1 q1 → ifB (v == 0) (eqC [.sl tyInt ks, cI n, cI d] ∧ J v (v == 0) l p1 q1) (eqC [.sl tyInt ks, cI n, cI d] ∧ J v (v == 1) l p1 q1) := fun J hj =>
    ifE (fun e => absurd e (by omega)) (fun _ => ⟨rfl, by rw [show (v == 1) = false by simp; omega]; exact hj⟩)
  have J1' := J1 (fun v' b' l' p' q' => v = v' ∧ b' = false ∧ l = l' ∧ p1 = p' ∧ q1 = q') ⟨rfl, rfl, rfl, rfl, rfl⟩
  by_cases c2 : v ≤ 3
  · -- a bit is put out
    obtain ⟨x, p2, q2, mx, dx, sx, tx⟩ := bool2 ks n hk l p1 q1 v3 (by omega)
    obtain ⟨u, p3, q3, u1, u2, u3, u4⟩ := c_next 3 l p2 q2 sx (by omega)
    obtain ⟨w, p4, q4, w1, w2, w3, w4⟩ := c_next 4 l p3 q3 u3 (by omega)
    have hu : u = 0 ∨ u = 1 ∨ u = 2 := by omega
    have hop : ([6, 6, 8] : List Int).getD (Int.toNat u) 0 = 6 ∨ ([6, 6, 8] : List Int).getD (Int.toNat u) 0 = 8 := by
      rcases hu with rfl | rfl | rfl
      · exact .inl rfl
      · exact .inl rfl
      · exact .inr rfl
    have hidx : 0 ≤ u ∧ u < (3 : Int) := by omega
    have tO := c_OpA (([6, 6, 8] : List Int).getD (Int.toNat u) 0) w
    have mk : Made ks n e0 3 0 (9 + 1) (x ++ [(([6, 6, 8] : List Int).getD (Int.toNat u) 0, (w, ()))]) := by
      rcases hop with e | e
      · rw [e]; exact mx.op rfl (iok6 (by omega)) (by omega) (by omega) (by decide) (by omega)
      · rw [e]; exact mx.op rfl (iok8 (by omega)) (by omega) (by omega) (by decide) (by omega)
    have hcat := c_Cat [x, [(([6, 6, 8] : List Int).getD (Int.toNat u) 0, (w, ()))]] (x ++ [(([6, 6, 8] : List Int).getD (Int.toNat u) 0, (w, ()))]) (by simp) (by simp) (by
      intro z hz
      simp only [List.mem_cons, List.not_mem_nil, or_false] at hz
      rcases hz with rfl | rfl
      · exact ins_len mx (by omega)
      · simp)
    refine ⟨_, p4, q4, mk.mono (by omega) (by omega) (by omega), by omega, w3, r_spec_l00Src_statement ks n d l p q ⟨_, _, _, _, v4, fun v' b' l' p' q' => v = v' ∧ b' = false ∧ l = l' ∧ p1 = p' ∧ q1 = q', J1', ?_⟩⟩
    rintro v' b' l' p' q' ⟨rfl, rfl, rfl, rfl, rfl⟩
    refine ifB_f rfl ⟨fun v' b' l' p' q' => b' = true ∧ l = l' ∧ p1 = p' ∧ q1 = q', ifE (fun e => ⟨rfl, by simp [e], rfl, rfl, rfl⟩) (fun e => ⟨rfl, by simp; omega, rfl, rfl, rfl⟩), ?_⟩
    rintro v' b' l' p' q' ⟨rfl, rfl, rfl, rfl⟩
    refine ifB_t rfl ?_
    repeat' (first
      | exact ⟨rfl, rfl⟩
      | exact hidx
      | refine ⟨_, _, _, _, tx, ?_⟩
      | refine ⟨_, _, _, _, u4, ?_⟩
      | refine ⟨_, _, _, _, w4, ?_⟩
      | refine ⟨_, tO, ?_⟩
      | refine ⟨_, hcat, ?_⟩
      | refine ⟨?_, ?_⟩
      | fail)
  have J2 : ∀ J : Int → Bool → List Int → Int → Int → Prop, J v false l p1 q1 → ifB (v == 2) (eqC [.sl tyInt ks, cI n, cI d] ∧ J v (v == 2) l p1 q1) (eqC [.sl tyInt ks, cI n, cI d] ∧ J v (v == 3) l p1 q1) := fun J hj =>
    ifE (fun e => absurd e (by omega)) (fun _ => ⟨rfl, by rw [show (v == 3) = false by simp; omega]; exact hj⟩)
  have J2' := J2 (fun v' b' l' p' q' => v = v' ∧ b' = false ∧ l = l' ∧ p1 = p' ∧ q1 = q') ⟨rfl, rfl, rfl, rfl, rfl⟩
  by_cases c4 : v = 4
  · have mk : Made ks n e0 1 0 1 [(25, (0, ()))] := Made.one rfl (by decide) (by omega) (by omega) (by decide) (by omega)
    refine ⟨_, p1, q1, mk.mono (by omega) (by omega) (by omega), by omega, v3, r_spec_l00Src_statement ks n d l p q ⟨_, _, _, _, v4, fun v' b' l' p' q' => v = v' ∧ b' = false ∧ l = l' ∧ p1 = p' ∧ q1 = q', J1', ?_⟩⟩
    rintro v' b' l' p' q' ⟨rfl, rfl, rfl, rfl, rfl⟩
    refine ifB_f rfl ⟨fun v' b' l' p' q' => v = v' ∧ b' = false ∧ l = l' ∧ p1 = p' ∧ q1 = q', J2', ?_⟩
    rintro v' b' l' p' q' ⟨rfl, rfl, rfl, rfl, rfl⟩
    exact ifB_f rfl (ifE_t c4 ⟨_, c_Op 25, rfl, rfl⟩)
  by_cases c5 : v = 5 ∧ 0 < n
  · obtain ⟨w, p2, q2, w1, w2, w3, w4⟩ := c_next n l p1 q1 v3 (by omega)
    have mk : Made ks n e0 1 0 1 [(26, (w, ()))] := Made.one rfl (iok26 (by omega)) (by omega) (by omega) (by decide) (by omega)
    refine ⟨_, p2, q2, mk.mono (by omega) (by omega) (by omega), by omega, w3, r_spec_l00Src_statement ks n d l p q ⟨_, _, _, _, v4, fun v' b' l' p' q' => v = v' ∧ b' = false ∧ l = l' ∧ p1 = p' ∧ q1 = q', J1', ?_⟩⟩
    rintro v' b' l' p' q' ⟨rfl, rfl, rfl, rfl, rfl⟩
    refine ifB_f rfl ⟨fun v' b' l' p' q' => v = v' ∧ b' = false ∧ l = l' ∧ p1 = p' ∧ q1 = q', J2', ?_⟩
    rintro v' b' l' p' q' ⟨rfl, rfl, rfl, rfl, rfl⟩
    exact ifB_f rfl (ifE_f c4 (ifE_t c5.1 (ifP_t (by omega) ⟨_, _, _, _, w4, _, c_OpA 26 w, rfl, rfl⟩)))
  by_cases c6 : v = 6 ∧ 0 < d
  · obtain ⟨k1, k2, k3, k4, k5, k6⟩ := e1 c6.2
    have hrec := rec c6.2
    obtain ⟨x, p2, q2, mx, dx, sx, tx⟩ := bool1 ks n hk l p1 q1 v3 (by omega)
    obtain ⟨y, p3, q3, my, dy, sy, ty⟩ := hrec l p2 q2 sx (by omega)
    have ty' : TT n_spec_l00Src_statement [.one (.ptrB 0 0), .one (.sl tyInt ks), eI n, eI (wI (d - 1))] [srcO l p2 q2] (.one (.row 1)) [srcO l p3 q3, rwI y] := by rw [w64 (x := d - 1) (by omega)]; exact ty
    have hc1 := c_Cat [x, [(21, (0, ()))], y] ((x ++ [(21, (0, ()))]) ++ y) (by simp) (by simp) (by
      intro z hz
      simp only [List.mem_cons, List.not_mem_nil, or_false] at hz
      rcases hz with rfl | rfl | rfl
      · exact ins_len mx (by omega)
      · simp
      · exact ins_len my (by omega))
    have hl1 : ((x ++ [((21 : Int), ((0 : Int), ()))]) ++ y).length ≤ 2000 := by
      have := mx.len; have := my.len
      simp only [List.length_append, List.length_singleton]; omega
    obtain ⟨b, p4, q4, b1, b2, b3⟩ := c_chance 2 (by omega) l p3 q3 sy (by omega)
    cases b
    · have mk := Made.branch (mx.mono (h' := 3) (d' := dp) (m' := 5) (by omega) (by omega) (by omega)) my
      have hc2 := c_Cat [(x ++ [(21, (0, ()))]) ++ y, [(23, (0, ()))]] (x ++ [(21, (0, ()))] ++ y ++ [(23, (0, ()))]) (by simp) (by simp) (by
        intro z hz
        simp only [List.mem_cons, List.not_mem_nil, or_false] at hz
        rcases hz with rfl | rfl
        · omega
        · simp)
      refine ⟨_, p4, q4, mk.mono (by omega) (by omega) (by omega), by omega, b2, r_spec_l00Src_statement ks n d l p q ⟨_, _, _, _, v4, fun v' b' l' p' q' => v = v' ∧ b' = false ∧ l = l' ∧ p1 = p' ∧ q1 = q', J1', ?_⟩⟩
      rintro v' b' l' p' q' ⟨rfl, rfl, rfl, rfl, rfl⟩
      refine ifB_f rfl ⟨fun v' b' l' p' q' => v = v' ∧ b' = false ∧ l = l' ∧ p1 = p' ∧ q1 = q', J2', ?_⟩
      rintro v' b' l' p' q' ⟨rfl, rfl, rfl, rfl, rfl⟩
      exact ifB_f rfl (ifE_f c4 (ifE_f (by omega) (ifE_t c6.1 (ifP_t c6.2 ⟨_, _, _, _, tx, _, c_Op 21, _, _, _, _, ty', _, hc1, _, _, _, _, b3, ifB_f rfl ⟨_, c_Op 23, _, hc2, rfl, rfl⟩⟩))))
    · obtain ⟨z, p5, q5, mz, dz, sz, tz⟩ := hrec l p4 q4 b2 (by omega)
      have tz' : TT n_spec_l00Src_statement [.one (.ptrB 0 0), .one (.sl tyInt ks), eI n, eI (wI (d - 1))] [srcO l p4 q4] (.one (.row 1)) [srcO l p5 q5, rwI z] := by rw [w64 (x := d - 1) (by omega)]; exact tz
      have mk := Made.branch2 (mx.mono (h' := 3) (d' := dp) (m' := 5) (by omega) (by omega) (by omega)) my mz
      have hc2 := c_Cat [(x ++ [(21, (0, ()))]) ++ y, [(22, (0, ()))], z] (x ++ [(21, (0, ()))] ++ y ++ [(22, (0, ()))] ++ z) (by simp) (by simp) (by
        intro u hu
        simp only [List.mem_cons, List.not_mem_nil, or_false] at hu
        rcases hu with rfl | rfl | rfl
        · omega
        · simp
        · exact ins_len mz (by omega))
      have hl2 : (x ++ [((21 : Int), ((0 : Int), ()))] ++ y ++ [((22 : Int), ((0 : Int), ()))] ++ z).length ≤ 4000 := by
        have := mx.len; have := my.len; have := mz.len
        simp only [List.length_append, List.length_singleton]; omega
      have hc3 := c_Cat [x ++ [(21, (0, ()))] ++ y ++ [(22, (0, ()))] ++ z, [(23, (0, ()))]] (x ++ [(21, (0, ()))] ++ y ++ [(22, (0, ()))] ++ z ++ [(23, (0, ()))]) (by simp) (by simp) (by
        intro u hu
        simp only [List.mem_cons, List.not_mem_nil, or_false] at hu
        rcases hu with rfl | rfl
        · omega
        · simp)
      refine ⟨_, p5, q5, mk.mono (by omega) (by omega) (by omega), by omega, sz, r_spec_l00Src_statement ks n d l p q ⟨_, _, _, _, v4, fun v' b' l' p' q' => v = v' ∧ b' = false ∧ l = l' ∧ p1 = p' ∧ q1 = q', J1', ?_⟩⟩
      rintro v' b' l' p' q' ⟨rfl, rfl, rfl, rfl, rfl⟩
      refine ifB_f rfl ⟨fun v' b' l' p' q' => v = v' ∧ b' = false ∧ l = l' ∧ p1 = p' ∧ q1 = q', J2', ?_⟩
      rintro v' b' l' p' q' ⟨rfl, rfl, rfl, rfl, rfl⟩
      exact ifB_f rfl (ifE_f c4 (ifE_f (by omega) (ifE_t c6.1 (ifP_t c6.2 ⟨_, _, _, _, tx, _, c_Op 21, _, _, _, _, ty', _, hc1, _, _, _, _, b3, ifB_t rfl ⟨_, c_Op 22, _, _, _, _, tz', _, hc2, _, c_Op 23, _, hc3, rfl, rfl⟩⟩))))
  by_cases c7 : v = 7 ∧ 0 < d
  · obtain ⟨k1, k2, k3, k4, k5, k6⟩ := e1 c7.2
    have hrec := rec c7.2
    obtain ⟨w, p2, q2, w1, w2, w3, w4⟩ := c_next 4 l p1 q1 v3 (by omega)
    obtain ⟨y, p3, q3, my, dy, sy, ty⟩ := hrec l p2 q2 w3 (by omega)
    have ty' : TT n_spec_l00Src_statement [.one (.ptrB 0 0), .one (.sl tyInt ks), eI n, eI (wI (d - 1))] [srcO l p2 q2] (.one (.row 1)) [srcO l p3 q3, rwI y] := by rw [w64 (x := d - 1) (by omega)]; exact ty
    have hop : TT n_spec_l04OpA [eI 24, eI (wI (1 + w))] [] (.one (.row 0)) [rwI [(24, (1 + w, ()))]] := by rw [w64 (x := 1 + w) (by omega)]; exact c_OpA 24 _
    have mk := Made.loop (a := 1 + w) (iok24 (by omega)) my
    have hcat := c_Cat [[(24, (1 + w, ()))], y, [(23, (0, ()))]] ([(24, (1 + w, ()))] ++ y ++ [(23, (0, ()))]) (by simp) (by simp) (by
      intro u hu
      simp only [List.mem_cons, List.not_mem_nil, or_false] at hu
      rcases hu with rfl | rfl | rfl
      · simp
      · exact ins_len my (by omega)
      · simp)
    refine ⟨_, p3, q3, mk.mono (by omega) (by omega) (by omega), by omega, sy, r_spec_l00Src_statement ks n d l p q ⟨_, _, _, _, v4, fun v' b' l' p' q' => v = v' ∧ b' = false ∧ l = l' ∧ p1 = p' ∧ q1 = q', J1', ?_⟩⟩
    rintro v' b' l' p' q' ⟨rfl, rfl, rfl, rfl, rfl⟩
    refine ifB_f rfl ⟨fun v' b' l' p' q' => v = v' ∧ b' = false ∧ l = l' ∧ p1 = p' ∧ q1 = q', J2', ?_⟩
    rintro v' b' l' p' q' ⟨rfl, rfl, rfl, rfl, rfl⟩
    exact ifB_f rfl (ifE_f c4 (ifE_f (by omega) (ifE_f (by omega) (ifE_t c7.1 (ifP_t c7.2 ⟨_, _, _, _, w4, _, hop, _, _, _, _, ty', _, c_Op 23, _, hcat, rfl, rfl⟩)))))
  · refine ⟨_, p1, q1, (def_made ks n).mono (by omega) (by omega) (by omega), by omega, v3, r_spec_l00Src_statement ks n d l p q ⟨_, _, _, _, v4, fun v' b' l' p' q' => v = v' ∧ b' = false ∧ l = l' ∧ p1 = p' ∧ q1 = q', J1', ?_⟩⟩
    rintro v' b' l' p' q' ⟨rfl, rfl, rfl, rfl, rfl⟩
    refine ifB_f rfl ⟨fun v' b' l' p' q' => v = v' ∧ b' = false ∧ l = l' ∧ p1 = p' ∧ q1 = q', J2', ?_⟩
    rintro v' b' l' p' q' ⟨rfl, rfl, rfl, rfl, rfl⟩
    have fin : ∃ r, TT n_spec_l04OpA [eI 3, eI 0] [] (.one (.row 0)) [rwI r] ∧ ∃ r1, TT n_spec_l04OpA [eI 1, eI 1] [] (.one (.row 0)) [rwI r1] ∧ ∃ r2, TT n_spec_l04Op [eI 9] [] (.one (.row 0)) [rwI r2] ∧ ∃ r3, TT n_spec_l04OpA [eI 4, eI 0] [] (.one (.row 0)) [rwI r3] ∧ ∃ r4, TT n_spec_l04Cat [.one (.sl (.slice tIns) [r, r1, r2, r3])] [] (.one (.row 0)) [rwI r4] ∧ r4 = defC :=
      ⟨_, c_OpA 3 0, _, c_OpA 1 1, _, c_Op 9, _, c_OpA 4 0, _, def_cat, rfl⟩
    obtain ⟨r, f1, r1, f2, r2, f3, r3, f4, r4, f5, rfl⟩ := fin
    exact ifB_f rfl (ifE_f c4 (ifE (fun e => ifP_f (by omega) ⟨_, f1, _, f2, _, f3, _, f4, _, f5, rfl, rfl⟩) (fun _ => ifE (fun e => ifP_f (by omega) ⟨_, f1, _, f2, _, f3, _, f4, _, f5, rfl, rfl⟩) (fun _ =>
      ifE (fun e => ifP_f (by omega) ⟨_, f1, _, f2, _, f3, _, f4, _, f5, rfl, rfl⟩) (fun _ => ⟨_, f1, _, f2, _, f3, _, f4, _, f5, rfl, rfl⟩)))))
theorem stm0 (ks : List Int) (n : Int) (hk : kindsOK ks = true) (hn : 0 ≤ n ∧ n ≤ 6) : GSt ks n 0 10 300 0 := stm_go ks n hk hn 0 (by omega) 0 0 0 (by omega) 0 10 300 (by omega) (by omega)
theorem stm1 (ks : List Int) (n : Int) (hk : kindsOK ks = true) (hn : 0 ≤ n ∧ n ≤ 6) : GSt ks n 1 28 900 1 := stm_go ks n hk hn 1 (by omega) 0 10 300 (fun _ => stm0 ks n hk hn) 1 28 900 (by omega) (by omega)
theorem stm2 (ks : List Int) (n : Int) (hk : kindsOK ks = true) (hn : 0 ≤ n ∧ n ≤ 6) : GSt ks n 2 64 2100 2 := stm_go ks n hk hn 2 (by omega) 1 28 900 (fun _ => stm1 ks n hk hn) 2 64 2100 (by omega) (by omega)
end Go.Ry

set_option linter.unusedVariables false
set_option linter.unusedSimpArgs false
namespace Go.Ry
open Go.Proofs

/-! ### whole codes -/
structure RtS where
  i : Int
  p : Int
  q : Int
  r : List Ins
structure RtInv (ks : List Int) (n : Int) (l : List Int) (p0 : Int) (m : Nat) (x : RtS) : Prop where
  hm : m = x.i.toNat
  i0 : 0 ≤ x.i
  i5 : x.i ≤ 5
  src : SrcOK l x.p x.q
  hp : p0 ≤ x.p ∧ x.p ≤ p0 + 2100 * (5 - x.i)
  made : Made ks n e0 3 2 40 x.r
def RtStep (ks : List Int) (n : Int) (l : List Int) (x y : RtS) : Prop := 0 < x.i ∧ ∃ s, s.length ≤ 64 ∧ TT n_spec_l00Src_statement [.one (.ptrB 0 0), .one (.sl tyInt ks), eI n, eI 2] [srcO l x.p x.q] (.one (.row 1)) [srcO l y.p y.q, rwI s] ∧
  ((x.r.length + s.length ≤ 40 ∧ y.i = x.i - 1 ∧ y.r = x.r ++ s) ∨ (40 < x.r.length + s.length ∧ y.i = 0 ∧ y.r = x.r))
def RtDone (x : RtS) : Prop := x.i = 0
theorem rt_go (ks : List Int) (n : Int) (hk : kindsOK ks = true) (hn : 0 ≤ n ∧ n ≤ 6) (l : List Int) (p0 : Int) (hp0 : p0 ≤ 700000) : ∀ m x, RtInv ks n l p0 m x → RtDone x ∨ ∃ m' y, m' < m ∧ RtInv ks n l p0 m' y ∧ RtStep ks n l x y := by
  rintro m ⟨i, p, q, r⟩ ⟨h1, h2, h3, h4, h5, h6⟩
  simp only at h1 h2 h3 h4 h5 h6
  by_cases hd : i = 0
  · exact .inl hd
  obtain ⟨s, p1, q1, ms, ds, ss, ts⟩ := stm2 ks n hk hn l p q h4 (by omega)
  have hsl := ms.len
  by_cases hc : r.length + s.length ≤ 40
  · refine .inr ⟨(i - 1).toNat, ⟨i - 1, p1, q1, r ++ s⟩, by omega, ⟨rfl, by show 0 ≤ i - 1; omega, by show i - 1 ≤ 5; omega, ss, by show p0 ≤ p1 ∧ p1 ≤ p0 + 2100 * (5 - (i - 1)); omega, ?_⟩, by show 0 < i; omega, s, hsl, ts, .inl ⟨hc, rfl, rfl⟩⟩
    have := h6.app (h := 3) (d := 2) ms (by omega) (by decide) (by omega) (by omega)
    rw [app_e0] at this
    exact ⟨this.runs, this.ok, by rw [List.length_append]; exact hc⟩
  · exact .inr ⟨0, ⟨0, p1, q1, r⟩, by omega, ⟨rfl, by show (0 : Int) ≤ 0; omega, by show (0 : Int) ≤ 5; omega, ss, by show p0 ≤ p1 ∧ p1 ≤ p0 + 2100 * (5 - 0); omega, h6⟩, by show 0 < i; omega, s, hsl, ts, .inr ⟨by show 40 < r.length + s.length; omega, rfl, rfl⟩⟩
theorem c_right (ks : List Int) (n : Int) (hk : kindsOK ks = true) (hn : 0 ≤ n ∧ n ≤ 6) (l : List Int) (p q : Int) (hs : SrcOK l p q) (hp : p ≤ 600000) :
    ∃ (r : List Ins) (p' q' : Int), (codeOK r = true ∧ verM ks n r = (0, 0)) ∧ (p ≤ p' ∧ p' ≤ p + 11000) ∧ SrcOK l p' q' ∧ TT n_spec_l00Src_right [.one (.ptrB 0 0), .one (.sl tyInt ks), eI n] [srcO l p q] (.one (.row 1)) [srcO l p' q', rwI r] := by
  obtain ⟨v, p1, q1, v1, v2, v3, v4⟩ := c_next 5 l p q hs (by omega)
  have i0 : RtInv ks n l p1 (1 + v).toNat ⟨1 + v, p1, q1, []⟩ := ⟨rfl, by show 0 ≤ 1 + v; omega, by show 1 + v ≤ 5; omega, v3, by show p1 ≤ p1 ∧ p1 ≤ p1 + 2100 * (5 - (1 + v)); omega, Made.nil.mono (by omega) (by omega) (by omega)⟩
  obtain ⟨fin, hrun⟩ := Runs.go (rt_go ks n hk hn l p1 (by omega)) (1 + v).toNat _ i0
  obtain ⟨hdone, m0, hinv⟩ := hrun.fin
  have hfi : fin.i = 0 := hdone
  have hpf := hinv.hp
  rw [hfi] at hpf
  refine ⟨fin.r, fin.p, fin.q, hinv.made.code (by omega) (by omega) (by omega), by omega, hinv.src, r_spec_l00Src_right ks n l p q ⟨_, _, _, _, v4,
    fun m i l' p' q' r => l = l' ∧ Runs (RtInv ks n l p1) (RtStep ks n l) RtDone m ⟨i, p', q', r⟩ fin, ⟨_, rfl, rfl, by rw [w64 (x := 1 + v) (by omega)]; exact hrun⟩, ?_⟩⟩
  rintro m i l' p' q' r ⟨rfl, hrun⟩
  cases hrun with
  | done h1 h2 =>
    have h2 : i = 0 := h2
    exact ifP_f (by omega) ⟨rfl, rfl⟩
  | @step _ _ m' y _ h1 hlt hst hrest =>
    obtain ⟨hc, s, hsl, ts, hor⟩ := hst
    have hc : i > 0 := hc
    have hi5 : i ≤ 5 := h1.i5
    have hrl : r.length ≤ 40 := h1.made.len
    obtain ⟨yi, yp, yq, yr⟩ := y
    simp only at ts hor
    refine ifP_t hc ⟨_, _, _, _, ts, ?_⟩
    rw [w64 (x := (r.length : Int) + s.length) (by omega), w64 (x := i - 1) (by omega)]
    rcases hor with ⟨g1, rfl, rfl⟩ | ⟨g1, rfl, rfl⟩
    · exact ifP_f (by omega) ⟨by omega, m', hlt, rfl, rfl, hrest⟩
    · refine ifP_t (by omega) ?_
      cases hrest with
      | done _ _ => exact ⟨rfl, rfl⟩
      | step _ _ hst2 _ => exact absurd hst2.1 (by show ¬ (0 : Int) < 0; omega)
/-! ### kinds -/
structure KdS where
  i : Int
  p : Int
  q : Int
  r : List Int
structure KdInv (l : List Int) (p0 : Int) (m : Nat) (x : KdS) : Prop where
  hm : m = x.i.toNat
  i0 : 0 ≤ x.i
  i4 : x.i + x.r.length ≤ 4
  src : SrcOK l x.p x.q
  hp : p0 ≤ x.p ∧ x.p ≤ p0 + 3 * x.r.length
  ok : ∀ k ∈ x.r, isKind k = true
def KdStep (l : List Int) (x y : KdS) : Prop := 0 < x.i ∧ ∃ v, (0 ≤ v ∧ v ≤ 3) ∧ TT n_spec_l00Src_next [.one (.ptrB 0 0), eI 4] [srcO l x.p x.q] (eI v) [srcO l y.p y.q] ∧ y.i = x.i - 1 ∧ y.r = x.r ++ [1 + v]
def KdDone (x : KdS) : Prop := x.i = 0
theorem kd_go (l : List Int) (p0 : Int) (hp0 : p0 ≤ 1000000) : ∀ m x, KdInv l p0 m x → KdDone x ∨ ∃ m' y, m' < m ∧ KdInv l p0 m' y ∧ KdStep l x y := by
  rintro m ⟨i, p, q, r⟩ ⟨h1, h2, h3, h4, h5, h6⟩
  simp only at h1 h2 h3 h4 h5 h6
  by_cases hd : i = 0
  · exact .inl hd
  obtain ⟨v, p1, q1, v1, v2, v3, v4⟩ := c_next 4 l p q h4 (by omega)
  refine .inr ⟨(i - 1).toNat, ⟨i - 1, p1, q1, r ++ [1 + v]⟩, by omega, ⟨rfl, by show 0 ≤ i - 1; omega, by show i - 1 + ((r ++ [1 + v]).length : Int) ≤ 4; rw [List.length_append, List.length_singleton]; omega, v3, by show p0 ≤ p1 ∧ p1 ≤ p0 + 3 * ((r ++ [1 + v]).length : Int); rw [List.length_append, List.length_singleton]; omega, fun k hk => ?_⟩, by show 0 < i; omega, v, by omega, v4, rfl, rfl⟩
  rcases List.mem_append.1 hk with hk | hk
  · exact h6 k hk
  · rw [List.mem_singleton] at hk
    subst hk
    rw [isKind, within_iff]; omega
theorem c_kinds (l : List Int) (p q : Int) (hs : SrcOK l p q) (hp : p ≤ 900000) : ∃ (ks : List Int) (p' q' : Int), (kindsOK ks = true ∧ ks.length ≤ 4) ∧ (p ≤ p' ∧ p' ≤ p + 20) ∧ SrcOK l p' q' ∧ TT n_spec_l00Src_kinds [.one (.ptrB 0 0)] [srcO l p q] (.one (.row 1)) [srcO l p' q', .row t_int tyInt ks] := by
  obtain ⟨v, p1, q1, v1, v2, v3, v4⟩ := c_next 5 l p q hs (by omega)
  have i0 : KdInv l p1 v.toNat ⟨v, p1, q1, []⟩ := ⟨rfl, by show 0 ≤ v; omega, by show v + 0 ≤ 4; omega, v3, by show p1 ≤ p1 ∧ p1 ≤ p1 + 3 * 0; omega, fun k hk => by cases hk⟩
  obtain ⟨fin, hrun⟩ := Runs.go (kd_go l p1 (by omega)) v.toNat _ i0
  obtain ⟨hdone, m0, hinv⟩ := hrun.fin
  have hfi : fin.i = 0 := hdone
  have hpf := hinv.hp
  have h4 := hinv.i4
  refine ⟨fin.r, fin.p, fin.q, ⟨?_, by omega⟩, by omega, hinv.src, r_spec_l00Src_kinds l p q ⟨_, _, _, _, v4, fun m i l' p' q' r => l = l' ∧ Runs (KdInv l p1) (KdStep l) KdDone m ⟨i, p', q', r⟩ fin, ⟨_, rfl, hrun⟩, ?_⟩⟩
  · simp only [kindsOK, Bool.and_eq_true, decide_eq_true_eq, List.all_eq_true]
    exact ⟨by omega, hinv.ok⟩
  rintro m i l' p' q' r ⟨rfl, hrun⟩
  cases hrun with
  | done h1 h2 =>
    have h2 : i = 0 := h2
    exact ifP_f (by omega) ⟨rfl, rfl⟩
  | @step _ _ m' y _ h1 hlt hst hrest =>
    obtain ⟨hc, w, w1, w2, w3, w4⟩ := hst
    have hc : i > 0 := hc
    have hi4 : i + (r.length : Int) ≤ 4 := h1.i4
    obtain ⟨yi, yp, yq, yr⟩ := y
    simp only at w2 w3 w4
    subst w3 w4
    refine ifP_t hc ⟨_, _, _, _, w2, ?_⟩
    rw [w64 (x := 1 + w) (by omega), w64 (x := i - 1) (by omega)]
    exact ⟨by simp only [List.length_cons, List.length_nil]; omega, m', hlt, rfl, hrest⟩
end Go.Ry
