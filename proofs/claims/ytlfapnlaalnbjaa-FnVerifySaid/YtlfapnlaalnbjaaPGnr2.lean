/- Code that is drawn: expressions. No condition. -/
import Derived.Test.YtlfapnlaalnbjaaPGnr1
import Derived.Test.YtlfapnlaalnbjaaPDrw1
import Derived.Test.YtlfapnlaalnbjaaPGen
set_option linter.unusedVariables false
set_option linter.unusedSimpArgs false
namespace Go.Ry
open Go.Proofs

@[reducible] def rwI (l : List Ins) : Ob := .row t_impl_Instr tIns l
theorem c_OpA (op a : Int) : TT n_spec_l04OpA [eI op, eI a] [] (.one (.row 0)) [rwI [(op, (a, ()))]] := r_spec_l04OpA op a ⟨rfl, rfl⟩
theorem c_Op (op : Int) : TT n_spec_l04Op [eI op] [] (.one (.row 0)) [rwI [(op, (0, ()))]] := r_spec_l04Op op ⟨rfl, rfl⟩
theorem c_Cat (L : List (List Ins)) (r : List Ins) (hr : L.flatten = r) (h : L.length ≤ 10) (hl : ∀ x ∈ L, x.length ≤ 100000) : TT n_spec_l04Cat [.one (.sl (.slice tIns) L)] [] (.one (.row 0)) [rwI r] := by
  subst hr
  refine r_spec_l04Cat L ⟨fun m i r => 0 ≤ i ∧ i ≤ L.length ∧ m = (L.length - i).toNat ∧ (r.length : Int) ≤ 100000 * i ∧ r = (L.take i.toNat).flatten, ⟨_, rfl, by omega, by omega, rfl, by simp, by simp⟩, ?_⟩
  rintro m i r ⟨h0, h1, rfl, h2, rfl⟩
  refine ifP (fun hlt => ?_) (fun hge => ?_)
  · have hx : (L.getD i.toNat []).length ≤ 100000 := by
      rw [List.getD_eq_getElem?_getD, List.getElem?_eq_getElem (by omega)]
      exact hl _ (List.getElem_mem (by omega))
    have htk := take_succ_getD (l := L) (i := i.toNat) (by omega) []
    rw [w64 (x := i + 1) (by omega)]
    refine ⟨⟨h0, hlt⟩, by omega, _, ?_, rfl, by omega, by omega, rfl, ?_, ?_⟩
    · omega
    · rw [List.length_append]; omega
    · rw [toNat_succ h0, htk, List.flatten_append]; simp
  · rw [List.take_of_length_le (by omega)]; exact ⟨rfl, rfl⟩
theorem bII_eq : bI ++ bI = bII := bytesL_inj (by rw [bytesL_append]; rfl)
theorem bBB_eq : bB ++ bB = bBB := bytesL_inj (by rw [bytesL_append]; rfl)
theorem bBII_eq : (bB ++ bI) ++ bI = bBII := bytesL_inj (by rw [bytesL_append, bytesL_append]; rfl)
/-- What a generator of code for an expression does. -/
def GX (fn : Nat) (ks : List Int) (n : Int) (t : ByteArray) (h m : Nat) (D d : Int) : Prop :=
  ∀ (l : List Int) (p q : Int), SrcOK l p q → p ≤ 2000000 - 10000 * d → ∃ (r : List Ins) (p' q' : Int), Made ks n t h 0 m r ∧ (p ≤ p' ∧ p' ≤ p + D) ∧ SrcOK l p' q' ∧ TT fn [.one (.ptrB 0 0), .one (.sl tyInt ks), eI d] [srcO l p q] (.one (.row 1)) [srcO l p' q', rwI r]
theorem GX.mono {fn : Nat} {ks : List Int} {n : Int} {t : ByteArray} {h h' m m' : Nat} {D D' d : Int} (k : GX fn ks n t h m D d) (e1 : h ≤ h') (e2 : m ≤ m') (e3 : D ≤ D') : GX fn ks n t h' m' D' d := by
  intro l p q hs hp
  obtain ⟨r, p', q', a, b, c, e⟩ := k l p q hs hp
  exact ⟨r, p', q', a.mono e1 (by omega) e2, by omega, c, e⟩
/-- At no depth the leaf comes at once; else a draw decides. -/
theorem at_depth (ks : List Int) (d : Int) (hd : 0 ≤ d) (l : List Int) (p q : Int) (hs : SrcOK l p q) (hp : p ≤ 2000000) :
    ∃ b p1 q1, (b = false → 0 < d) ∧ (p ≤ p1 ∧ p1 ≤ p + 3) ∧ SrcOK l p1 q1 ∧ ∀ J : Bool → List Int → Int → Int → Prop, J b l p1 q1 →
      ifB (d == 0) (eqC [.sl tyInt ks, cI d] ∧ J true l p q) (∃ (b7 : Bool) (l8 : List Int) (n9 n10 : Int), TT n_spec_l00Src_chance [(.one (.ptrB 0 0)), (eI 2)] [srcO l p q] (eB b7) [srcO l8 n9 n10] ∧ (eqC [.sl tyInt ks, cI d] ∧ J b7 l8 n9 n10)) := by
  by_cases h0 : d = 0
  · exact ⟨true, p, q, fun e => (by cases e), by omega, hs, fun J hj => ifE_t h0 ⟨rfl, hj⟩⟩
  · obtain ⟨b, p1, q1, a1, a2, a3⟩ := c_chance 2 (by omega) l p q hs (by omega)
    exact ⟨b, p1, q1, fun _ => by omega, a1, a2, fun J hj => ifE_f h0 ⟨_, _, _, _, a3, rfl, hj⟩⟩
theorem ins_len {ks : List Int} {n : Int} {t : ByteArray} {h d m : Nat} {r : List Ins} (k : Made ks n t h d m r) (hm : m ≤ 100000) : r.length ≤ 100000 := Nat.le_trans k.len hm
theorem iok1 {a : Int} (h : isVal a = true) : instrOK 1 a = true := by simpa [instrOK, rangeOf, isOp, within, isVal] using h
theorem iok3 {a : Int} (h : 0 ≤ a ∧ a ≤ 3) : instrOK 3 a = true := by simp [instrOK, rangeOf, isOp, within]; omega
theorem iok4 {a : Int} (h : 0 ≤ a ∧ a ≤ 3) : instrOK 4 a = true := by simp [instrOK, rangeOf, isOp, within]; omega
theorem iok2 {a : Int} (h : 0 ≤ a ∧ a ≤ 1) : instrOK 2 a = true := by simp [instrOK, rangeOf, isOp, within]; omega
theorem iok5 {a : Int} (h : 0 ≤ a ∧ a ≤ 3) : instrOK 5 a = true := by simp [instrOK, rangeOf, isOp, within]; omega
theorem iok6 {a : Int} (h : 0 ≤ a ∧ a ≤ 3) : instrOK 6 a = true := by simp [instrOK, rangeOf, isOp, within]; omega
theorem iok7 {a : Int} (h : 0 ≤ a ∧ a ≤ 3) : instrOK 7 a = true := by simp [instrOK, rangeOf, isOp, within]; omega
theorem iok8 {a : Int} (h : 0 ≤ a ∧ a ≤ 3) : instrOK 8 a = true := by simp [instrOK, rangeOf, isOp, within]; omega
theorem iok19 {a : Int} (h : 0 ≤ a ∧ a ≤ 7) : instrOK 19 a = true := by simp [instrOK, rangeOf, isOp, within]; omega
theorem iok20 {a : Int} (h : 0 ≤ a ∧ a ≤ 7) : instrOK 20 a = true := by simp [instrOK, rangeOf, isOp, within]; omega
theorem iok24 {a : Int} (h : 1 ≤ a ∧ a ≤ 20) : instrOK 24 a = true := by simp [instrOK, rangeOf, isOp, within]; omega
theorem iok26 {a : Int} (h : 0 ≤ a ∧ a ≤ 5) : instrOK 26 a = true := by simp [instrOK, rangeOf, isOp, within]; omega
theorem val_small {a : Int} (h : 0 ≤ a ∧ a ≤ 1000) : isVal a = true := by simp only [isVal, within_iff]; omega
theorem int_go (ks : List Int) (n : Int) (hk : kindsOK ks = true) (d : Int) (hd : 0 ≤ d ∧ d ≤ 2) (m : Nat) (D : Int)
    (rec : 0 < d → GX n_spec_l00Src_wantInt ks n bI 3 m D (d - 1) ∧ GX n_spec_l00Src_wantInt ks n bI 1 1 20 0 ∧ GX n_spec_l00Src_wantBool ks n bB 1 1 20 0)
    (h m' : Nat) (D' : Int) (e0 : 1 ≤ h ∧ 1 ≤ m' ∧ 20 ≤ D') (e1 : 0 < d → 3 ≤ h ∧ m + 4 ≤ m' ∧ D + 100 ≤ D' ∧ 0 ≤ D ∧ D ≤ 1000 ∧ m ≤ 1000) : GX n_spec_l00Src_wantInt ks n bI h m' D' d := by
  intro l p q hs hp
  have hk8 : ks.length ≤ 8 := (kindsOK_in hk).1
  obtain ⟨b, p1, q1, hb, hr1, hs1, hJ⟩ := at_depth ks d hd.1 l p q hs (by omega)
  cases b
  · have J0 := hJ (fun b' l' p' q' => b' = false ∧ l' = l ∧ p' = p1 ∧ q' = q1) ⟨rfl, rfl, rfl, rfl⟩
    have hd0 := hb rfl
    obtain ⟨g1, g2, g3⟩ := rec hd0
    obtain ⟨k1, k2, k3, k4, k5, k6⟩ := e1 hd0
    obtain ⟨b2, p2, q2, c1, c2, c3⟩ := c_chance 4 (by omega) l p1 q1 hs1 (by omega)
    cases b2
    · obtain ⟨x, p3, q3, m3, d3, s3, t3⟩ := g1 l p2 q2 c2 (by omega)
      obtain ⟨y, p4, q4, m4, d4, s4, t4⟩ := g2 l p3 q3 s3 (by omega)
      obtain ⟨v, p5, q5, v1, v2, v3, v4⟩ := c_next 4 l p4 q4 s4 (by omega)
      have t3' : TT n_spec_l00Src_wantInt [.one (.ptrB 0 0), .one (.sl tyInt ks), eI (wI (d - 1))] [srcO l p2 q2] (.one (.row 1)) [srcO l p3 q3, rwI x] := by rw [w64 (x := d - 1) (by omega)]; exact t3
      have hop : TT n_spec_l04Op [eI (wI (9 + v))] [] (.one (.row 0)) [rwI [(9 + v, (0, ()))]] := by rw [w64 (x := 9 + v) (by omega)]; exact c_Op _
      have he : effect (9 + v) 0 ks = (bI ++ bI, bI) := by
        rw [bII_eq]
        have : v = 0 ∨ v = 1 ∨ v = 2 ∨ v = 3 := by omega
        rcases this with rfl | rfl | rfl | rfl <;> rfl
      have hi : instrOK (9 + v) 0 = true := by
        have : v = 0 ∨ v = 1 ∨ v = 2 ∨ v = 3 := by omega
        rcases this with rfl | rfl | rfl | rfl <;> decide
      have mk : Made ks n bI 3 0 (m + 1 + 1) ((x ++ y) ++ [(9 + v, (0, ()))]) := (m3.app (h := 3) (d := 0) m4 (by omega) (by decide) (by omega) (by omega)).op he hi (by omega) (by omega) (by decide) (by omega)
      have hcat := c_Cat [x, y, [(9 + v, (0, ()))]] ((x ++ y) ++ [(9 + v, (0, ()))]) (by simp) (by simp) (by
        intro z hz
        simp only [List.mem_cons, List.not_mem_nil, or_false] at hz
        rcases hz with rfl | rfl | rfl
        · exact ins_len m3 (by omega)
        · exact ins_len m4 (by omega)
        · simp)
      refine ⟨_, p5, q5, mk.mono (by omega) (by omega) (by omega), by omega, v3, r_spec_l00Src_wantInt ks d l p q ⟨fun b' l' p' q' => b' = false ∧ l' = l ∧ p' = p1 ∧ q' = q1, J0, ?_⟩⟩
      rintro _ _ _ _ ⟨rfl, rfl, rfl, rfl⟩
      exact ifB_f rfl ⟨_, _, _, _, c3, ifB_f rfl ⟨_, _, _, _, t3', _, _, _, _, t4, _, _, _, _, v4, _, hop, _, hcat, rfl, rfl⟩⟩
    · obtain ⟨x, p3, q3, m3, d3, s3, t3⟩ := g3 l p2 q2 c2 (by omega)
      obtain ⟨y, p4, q4, m4, d4, s4, t4⟩ := g2 l p3 q3 s3 (by omega)
      obtain ⟨z, p5, q5, m5, d5, s5, t5⟩ := g2 l p4 q4 s4 (by omega)
      have he : effect 18 0 ks = ((bB ++ bI) ++ bI, bI) := by rw [bBII_eq]; rfl
      have mk : Made ks n bI 3 0 (1 + 1 + 1 + 1) (((x ++ y) ++ z) ++ [(18, (0, ()))]) := ((m3.app (h := 3) (d := 0) m4 (by omega) (by decide) (by omega) (by omega)).app (h := 3) (d := 0) m5 (by omega) (by rw [size_append]; decide) (by omega) (by omega)).op he (by decide) (by omega) (by omega) (by decide) (by omega)
      have hcat := c_Cat [x, y, z, [(18, (0, ()))]] (((x ++ y) ++ z) ++ [(18, (0, ()))]) (by simp) (by simp) (by
        intro u hu
        simp only [List.mem_cons, List.not_mem_nil, or_false] at hu
        rcases hu with rfl | rfl | rfl | rfl
        · exact ins_len m3 (by omega)
        · exact ins_len m4 (by omega)
        · exact ins_len m5 (by omega)
        · simp)
      refine ⟨_, p5, q5, mk.mono (by omega) (by omega) (by omega), by omega, s5, r_spec_l00Src_wantInt ks d l p q ⟨fun b' l' p' q' => b' = false ∧ l' = l ∧ p' = p1 ∧ q' = q1, J0, ?_⟩⟩
      rintro _ _ _ _ ⟨rfl, rfl, rfl, rfl⟩
      exact ifB_f rfl ⟨_, _, _, _, c3, ifB_t rfl ⟨_, _, _, _, t3, _, _, _, _, t4, _, _, _, _, t5, _, c_Op 18, _, hcat, rfl, rfl⟩⟩
  · -- a leaf
    have J0 := hJ (fun b' l' p' q' => b' = true ∧ l' = l ∧ p' = p1 ∧ q' = q1) ⟨rfl, rfl, rfl, rfl⟩
    obtain ⟨v, p2, q2, v1, v2, v3, v4⟩ := c_next 4 l p1 q1 hs1 (by omega)
    by_cases a0 : v = 0
    · obtain ⟨w, p3, q3, w1, w2, w3, w4⟩ := c_value l p2 q2 v3 (by omega)
      have mk : Made ks n bI 1 0 1 [(1, (w, ()))] := Made.one rfl (iok1 w1) (by omega) (by omega) (by decide) (by omega)
      refine ⟨_, p3, q3, mk.mono (by omega) (by omega) (by omega), by omega, w3, r_spec_l00Src_wantInt ks d l p q ⟨fun b' l' p' q' => b' = true ∧ l' = l ∧ p' = p1 ∧ q' = q1, J0, ?_⟩⟩
      rintro _ _ _ _ ⟨rfl, rfl, rfl, rfl⟩
      exact ifB_t rfl ⟨_, _, _, _, v4, ifE_t a0 ⟨_, _, _, _, w4, _, c_OpA 1 w, rfl, rfl⟩⟩
    by_cases a1 : v = 1 ∧ 0 < ks.length
    · obtain ⟨w, p3, q3, w1, w2, w3, w4⟩ := c_next ks.length l p2 q2 v3 (by omega)
      have mk : Made ks n bI 1 0 1 [(20, (w, ()))] := Made.one rfl (iok20 (by omega)) (by omega) (by omega) (by decide) (by omega)
      refine ⟨_, p3, q3, mk.mono (by omega) (by omega) (by omega), by omega, w3, r_spec_l00Src_wantInt ks d l p q ⟨fun b' l' p' q' => b' = true ∧ l' = l ∧ p' = p1 ∧ q' = q1, J0, ?_⟩⟩
      rintro _ _ _ _ ⟨rfl, rfl, rfl, rfl⟩
      exact ifB_t rfl ⟨_, _, _, _, v4, ifE_f a0 (ifE_t a1.1 (ifP_t (by omega) ⟨_, _, _, _, w4, _, c_OpA 20 w, rfl, rfl⟩))⟩
    · obtain ⟨w, p3, q3, w1, w2, w3, w4⟩ := c_next 4 l p2 q2 v3 (by omega)
      have mk : Made ks n bI 1 0 1 [(3, (w, ()))] := Made.one rfl (iok3 (by omega)) (by omega) (by omega) (by decide) (by omega)
      refine ⟨_, p3, q3, mk.mono (by omega) (by omega) (by omega), by omega, w3, r_spec_l00Src_wantInt ks d l p q ⟨fun b' l' p' q' => b' = true ∧ l' = l ∧ p' = p1 ∧ q' = q1, J0, ?_⟩⟩
      rintro _ _ _ _ ⟨rfl, rfl, rfl, rfl⟩
      refine ifB_t rfl ⟨_, _, _, _, v4, ifE_f a0 (ifE (fun a2 => ifP_f (by omega) ⟨_, _, _, _, w4, _, c_OpA 3 w, rfl, rfl⟩) (fun _ => ⟨_, _, _, _, w4, _, c_OpA 3 w, rfl, rfl⟩))⟩

/-! ### what a block takes -/
def tyB (c : Int) : ByteArray := if c = 98 then bB else bI
def pfx : List Int → ByteArray
  | [] => e0
  | c :: r => tyB c ++ pfx r
theorem pfx_snoc : ∀ (a : List Int) (c : Int), pfx (a ++ [c]) = pfx a ++ tyB c
  | [], c => by show tyB c ++ e0 = e0 ++ tyB c; rw [app_e0, e0_app]
  | x :: a, c => by show tyB x ++ pfx (a ++ [c]) = (tyB x ++ pfx a) ++ tyB c; rw [pfx_snoc a c, append_assoc']
theorem tyB_size (c : Int) : (tyB c).size = 1 := by unfold tyB; split <;> rfl
theorem pfx_size : ∀ a : List Int, (pfx a).size = a.length
  | [] => rfl
  | x :: a => by show (tyB x ++ pfx a).size = a.length + 1; rw [size_append, tyB_size, pfx_size a]; omega
theorem takes_pfx {k : Int} (h : isKind k = true) : pfx (bytesL (takes k)) = takes k ∧ (takes k).size ≤ 3 := by
  have hr := within_iff.1 (show within k 1 4 = true from h)
  have : k = 1 ∨ k = 2 ∨ k = 3 ∨ k = 4 := by omega
  rcases this with rfl | rfl | rfl | rfl
  · exact ⟨bytesL_inj (by show bytesL (tyB 98 ++ (tyB 105 ++ e0)) = _; rw [bytesL_append, bytesL_append]; rfl), by decide⟩
  · exact ⟨bytesL_inj (by show bytesL (tyB 98 ++ (tyB 98 ++ (tyB 105 ++ e0))) = _; rw [bytesL_append, bytesL_append, bytesL_append]; rfl), by decide⟩
  · exact ⟨bytesL_inj (by show bytesL (tyB 98 ++ e0) = _; rw [bytesL_append]; rfl), by decide⟩
  · exact ⟨bytesL_inj (by show bytesL (tyB 98 ++ (tyB 98 ++ e0)) = _; rw [bytesL_append, bytesL_append]; rfl), by decide⟩
structure BkS where
  i : Int
  p : Int
  q : Int
  r : List Ins
structure BkInv (ks : List Int) (n : Int) (l : List Int) (p0 : Int) (t : ByteArray) (m : Nat) (x : BkS) : Prop where
  hm : m = (t.size - x.i).toNat
  i0 : 0 ≤ x.i
  i1 : x.i ≤ t.size
  src : SrcOK l x.p x.q
  hp : p0 ≤ x.p ∧ x.p ≤ p0 + 3 * x.i
  made : Made ks n (pfx ((bytesL t).take x.i.toNat)) 3 0 x.i.toNat x.r
def BkStep (l : List Int) (t : ByteArray) (x y : BkS) : Prop := x.i < t.size ∧ y.i = x.i + 1 ∧
  (((bytesL t).getD x.i.toNat 0 = 98 ∧ ∃ v, TT n_spec_l00Src_next [.one (.ptrB 0 0), eI 4] [srcO l x.p x.q] (eI v) [srcO l y.p y.q] ∧ y.r = x.r ++ [(5, (v, ()))]) ∨
   (¬ (bytesL t).getD x.i.toNat 0 = 98 ∧ ∃ v, TT n_spec_l00Src_next [.one (.ptrB 0 0), eI 12] [srcO l x.p x.q] (eI v) [srcO l y.p y.q] ∧ y.r = x.r ++ [(1, (v, ()))]))
def BkDone (t : ByteArray) (x : BkS) : Prop := x.i = t.size
theorem bk_go (ks : List Int) (n : Int) (l : List Int) (p0 : Int) (hp0 : p0 ≤ 2000000) (t : ByteArray) (ht : t.size ≤ 3) : ∀ m x, BkInv ks n l p0 t m x → BkDone t x ∨ ∃ m' y, m' < m ∧ BkInv ks n l p0 t m' y ∧ BkStep l t x y := by
  rintro m ⟨i, p, q, r⟩ ⟨h1, h2, h3, h4, h5, h6⟩
  simp only at h1 h2 h3 h4 h5 h6
  by_cases hd : i = t.size
  · exact .inl hd
  have hlt : i < t.size := by omega
  have hbl := bytesL_size t
  have htk : (bytesL t).take (i + 1).toNat = (bytesL t).take i.toNat ++ [(bytesL t).getD i.toNat 0] := by
    rw [toNat_succ h2]; exact take_succ_getD (by omega) 0
  have hsz : (pfx ((bytesL t).take i.toNat)).size + 1 ≤ 3 := by rw [pfx_size, List.length_take]; omega
  by_cases hc : (bytesL t).getD i.toNat 0 = 98
  · obtain ⟨v, p1, q1, v1, v2, v3, v4⟩ := c_next 4 l p q h4 (by omega)
    have mk : Made ks n bB 1 0 1 [(5, (v, ()))] := Made.one rfl (iok5 (by omega)) (by omega) (by omega) (by decide) (by omega)
    refine .inr ⟨(t.size - (i + 1)).toNat, ⟨i + 1, p1, q1, r ++ [(5, (v, ()))]⟩, by omega, ⟨rfl, by show 0 ≤ i + 1; omega, by show i + 1 ≤ t.size; omega, v3, by show p0 ≤ p1 ∧ p1 ≤ p0 + 3 * (i + 1); omega, ?_⟩, hlt, rfl, .inl ⟨hc, v, v4, rfl⟩⟩
    show Made ks n (pfx ((bytesL t).take (i + 1).toNat)) 3 0 (i + 1).toNat (r ++ [(5, (v, ()))])
    rw [htk, pfx_snoc, hc]
    have e : tyB 98 = bB := rfl
    rw [e]
    exact (h6.app (h := 3) (d := 0) mk (by omega) (by omega) (by omega) (by omega)).mono (by omega) (by omega) (by omega)
  · obtain ⟨v, p1, q1, v1, v2, v3, v4⟩ := c_next 12 l p q h4 (by omega)
    have mk : Made ks n bI 1 0 1 [(1, (v, ()))] := Made.one rfl (iok1 (val_small (by omega))) (by omega) (by omega) (by decide) (by omega)
    refine .inr ⟨(t.size - (i + 1)).toNat, ⟨i + 1, p1, q1, r ++ [(1, (v, ()))]⟩, by omega, ⟨rfl, by show 0 ≤ i + 1; omega, by show i + 1 ≤ t.size; omega, v3, by show p0 ≤ p1 ∧ p1 ≤ p0 + 3 * (i + 1); omega, ?_⟩, hlt, rfl, .inr ⟨hc, v, v4, rfl⟩⟩
    show Made ks n (pfx ((bytesL t).take (i + 1).toNat)) 3 0 (i + 1).toNat (r ++ [(1, (v, ()))])
    rw [htk, pfx_snoc]
    have e : tyB ((bytesL t).getD i.toNat 0) = bI := if_neg hc
    rw [e]
    exact (h6.app (h := 3) (d := 0) mk (by omega) (by omega) (by omega) (by omega)).mono (by omega) (by omega) (by omega)
end Go.Ry
