/- Equal processors: the law of SamePlc. No condition. -/
import Derived.Test.YthpolfpbioebnaaGreatPSam4
import Derived.Test.YthpolfpbioebnaaGreatPSrc0
import Derived.Test.YthpolfpbioebnaaGreatPRdn1
set_option linter.unusedVariables false
set_option linter.unusedSimpArgs false
set_option synthInstance.maxSize 4000
namespace Go.Ry
open Go.Proofs

/-! ### texts of sources -/
theorem cut_eq {c : UInt8} : ∀ {x y r s : List UInt8}, c ∉ x → c ∉ y → x ++ c :: r = y ++ c :: s → x = y ∧ r = s
  | [], [], r, s, _, _, h => ⟨rfl, by simpa using h⟩
  | [], b :: y, r, s, _, hy, h => by
    simp only [List.nil_append, List.cons_append, List.cons.injEq] at h
    exact absurd (h.1 ▸ List.mem_cons_self) hy
  | a :: x, [], r, s, hx, _, h => by
    simp only [List.nil_append, List.cons_append, List.cons.injEq] at h
    exact absurd (h.1 ▸ List.mem_cons_self) hx
  | a :: x, b :: y, r, s, hx, hy, h => by
    simp only [List.cons_append, List.cons.injEq] at h
    obtain ⟨e1, e2⟩ := cut_eq (fun k => hx (List.mem_cons_of_mem _ k)) (fun k => hy (List.mem_cons_of_mem _ k)) h.2
    exact ⟨by rw [h.1, e1], e2⟩
theorem dec_no32 (u : Nat) : (32 : UInt8) ∉ Lib.decDigits u := by
  intro h
  obtain ⟨k, hk, e⟩ := List.getElem_of_mem h
  obtain ⟨d, hd⟩ := Lib.digit_of_decFrom _ 0 u (decFrom_dec u) k 32 (by rw [List.getElem?_eq_getElem hk, e])
  simp [Lib.digitVal] at hd
theorem dec_inj {u v : Nat} (h : Lib.decDigits u = Lib.decDigits v) : u = v := by
  have h1 := decFrom_dec u
  rw [h, decFrom_dec v] at h1
  exact (Option.some.inj h1).symm
def srcL (a d t l p n : List UInt8) : List UInt8 := [97, 114, 114, 105, 118, 101, 100, 32] ++ (a ++ 32 :: ([100, 111, 110, 101, 32] ++ (d ++ 32 :: ([116, 104, 114, 111, 116, 116, 108, 101, 100, 32] ++ (t ++ 32 :: ([108, 111, 115, 116, 32] ++ (l ++ 32 :: ([100, 114, 111, 112, 112, 101, 100, 32] ++ (p ++ 32 :: ([119, 97, 105, 116, 105, 110, 103, 32] ++ n))))))))))
theorem sourceB_data {ar dn th lo dr n : Int} (h1 : 0 ≤ ar ∧ ar ≤ 2147483647) (h2 : 0 ≤ dn ∧ dn ≤ 2147483647) (h3 : 0 ≤ th ∧ th ≤ 2147483647) (h4 : 0 ≤ lo ∧ lo ≤ 2147483647) (h5 : 0 ≤ dr ∧ dr ≤ 2147483647) (h6 : 0 ≤ n ∧ n ≤ 2147483647) :
    (sourceB ar dn th lo dr n).data.toList = srcL (Lib.decDigits ar.toNat) (Lib.decDigits dn.toNat) (Lib.decDigits th.toNat) (Lib.decDigits lo.toNat) (Lib.decDigits dr.toNat) (Lib.decDigits n.toNat) := by
  have k : ∀ {x : Int}, 0 ≤ x ∧ x ≤ 2147483647 → i64 x := fun h => by unfold i64; omega
  unfold sourceB srcL
  simp only [data_app, itoaB_nat h1.1 (k h1), itoaB_nat h2.1 (k h2), itoaB_nat h3.1 (k h3), itoaB_nat h4.1 (k h4), itoaB_nat h5.1 (k h5), itoaB_nat h6.1 (k h6)]
  simp only [List.append_assoc, List.cons_append, List.nil_append]
theorem sourceB_inj {ar dn th lo dr n ar' dn' th' lo' dr' n' : Int} (h1 : 0 ≤ ar ∧ ar ≤ 2147483647) (h2 : 0 ≤ dn ∧ dn ≤ 2147483647) (h3 : 0 ≤ th ∧ th ≤ 2147483647) (h4 : 0 ≤ lo ∧ lo ≤ 2147483647) (h5 : 0 ≤ dr ∧ dr ≤ 2147483647) (h6 : 0 ≤ n ∧ n ≤ 2147483647)
    (g1 : 0 ≤ ar' ∧ ar' ≤ 2147483647) (g2 : 0 ≤ dn' ∧ dn' ≤ 2147483647) (g3 : 0 ≤ th' ∧ th' ≤ 2147483647) (g4 : 0 ≤ lo' ∧ lo' ≤ 2147483647) (g5 : 0 ≤ dr' ∧ dr' ≤ 2147483647) (g6 : 0 ≤ n' ∧ n' ≤ 2147483647)
    (h : sourceB ar dn th lo dr n = sourceB ar' dn' th' lo' dr' n') : ar = ar' ∧ dn = dn' ∧ th = th' ∧ lo = lo' ∧ dr = dr' := by
  have e := congrArg (fun s : ByteArray => s.data.toList) h
  simp only [sourceB_data h1 h2 h3 h4 h5 h6, sourceB_data g1 g2 g3 g4 g5 g6] at e
  unfold srcL at e
  obtain ⟨a1, e⟩ := cut_eq (dec_no32 _) (dec_no32 _) (List.append_cancel_left e)
  obtain ⟨a2, e⟩ := cut_eq (dec_no32 _) (dec_no32 _) (List.append_cancel_left e)
  obtain ⟨a3, e⟩ := cut_eq (dec_no32 _) (dec_no32 _) (List.append_cancel_left e)
  obtain ⟨a4, e⟩ := cut_eq (dec_no32 _) (dec_no32 _) (List.append_cancel_left e)
  obtain ⟨a5, e⟩ := cut_eq (dec_no32 _) (dec_no32 _) (List.append_cancel_left e)
  have a1 := dec_inj a1
  have a2 := dec_inj a2
  have a3 := dec_inj a3
  have a4 := dec_inj a4
  have a5 := dec_inj a5
  exact ⟨by omega, by omega, by omega, by omega, by omega⟩
structure ScFit (s : Sc) : Prop where
  ar : 0 ≤ s.2.1 ∧ s.2.1 ≤ 2147483647
  dn : 0 ≤ s.2.2.1 ∧ s.2.2.1 ≤ 2147483647
  th : 0 ≤ s.2.2.2.1 ∧ s.2.2.2.1 ≤ 2147483647
  lo : 0 ≤ s.2.2.2.2.1 ∧ s.2.2.2.2.1 ≤ 2147483647
  dr : 0 ≤ s.2.2.2.2.2.1 ∧ s.2.2.2.2.2.1 ≤ 2147483647
  q : s.2.2.2.2.2.2.1.length ≤ 4
theorem src_fit {X : Pl} (h : srcM X = true) {i : Nat} (hi : i < X.src.length) : ScFit (X.src.getD i dSc) := by
  unfold srcM at h
  rw [Bool.and_eq_true] at h
  have k := allR_at h.2 hi
  unfold srcE1 scOK at k
  rw [Bool.and_eq_true] at k
  obtain ⟨_, _, h1, h2, h3, h4, h5, h6⟩ := source_i64 k.1
  exact ⟨h1, h2, h3, h4, h5, h6⟩

/-! ### data -/
@[reducible] def sameD (x y : Dat) : Prop := x.g = y.g ∧ x.f = y.f ∧ x.a = y.a ∧ x.b = y.b ∧ x.c = y.c ∧ x.d = y.d ∧ x.w = y.w
structure DatSm (x : Dat) : Prop where
  g : x.g.length ≤ 1048576
  f : x.f.length ≤ 1048576
  a : x.a.length ≤ 1048576
  b : x.b.length ≤ 1048576
  c : x.c.length ≤ 1048576
  d : x.d.length ≤ 1048576
theorem c_impl_sameData (x y : Dat) (h : DatSm x) : TT n_impl_sameData [.agg x.cs, .agg y.cs] [] (eB (decide (sameD x y))) [] := by
  refine r_impl_sameData x.g x.f x.a x.b x.c x.d x.w y.g y.f y.a y.b y.c y.d y.w ⟨_, c_Equal_int2 x.g y.g h.g, ifP (fun e1 => ⟨_, c_Eq_Fb x.f y.f h.f, ifP (fun e2 => ⟨_, c_Equal_bool2 x.a y.a h.a, ifP (fun e3 => ⟨_, c_Equal_bool2 x.b y.b h.b, ifP (fun e4 => ⟨_, c_Equal_bool2 x.c y.c h.c, ifP (fun e5 => ⟨_, c_Equal_bool2 x.d y.d h.d, ifP (fun e6 => ⟨?_, rfl⟩)
    (fun e => ⟨?_, rfl⟩)⟩) (fun e => ⟨?_, rfl⟩)⟩) (fun e => ⟨?_, rfl⟩)⟩) (fun e => ⟨?_, rfl⟩)⟩) (fun e => ⟨?_, rfl⟩)⟩) (fun e => ⟨?_, rfl⟩)⟩
  · have : (x.w == y.w) = decide (sameD x y) := by
      rw [Bool.eq_iff_iff, beq_iff_eq, decide_eq_true_eq]
      exact ⟨fun k => ⟨e1, e2, e3, e4, e5, e6, k⟩, fun k => k.2.2.2.2.2.2⟩
    rw [this]
  · rw [decide_eq_false (fun k => e k.2.2.2.2.2.1)]
  · rw [decide_eq_false (fun k => e k.2.2.2.2.1)]
  · rw [decide_eq_false (fun k => e k.2.2.2.1)]
  · rw [decide_eq_false (fun k => e k.2.2.1)]
  · rw [decide_eq_false (fun k => e k.2.1)]
  · rw [decide_eq_false (fun k => e k.1)]
theorem c_spec_l06Same (x y : Dat) (h : DatSm x) : TT n_spec_l06Same [.agg x.cs, .agg y.cs] [] (eB (decide (sameD x y))) [] := by
  refine r_spec_l06Same x.g x.f x.a x.b x.c x.d x.w y.g y.f y.a y.b y.c y.d y.w ⟨_, c_spec_l00Same x.g y.g h.g, ifB_cases (fun e => ⟨by rw [decide_eq_false (fun k => nd_t e k.1)], rfl⟩) (fun e1 => ifN (fun e => ⟨by rw [decide_eq_false (fun k => e (by rw [k.2.1]))], rfl⟩) (fun e2 => ifN (fun e => ⟨by rw [decide_eq_false (fun k => e k.2.2.2.2.2.2)], rfl⟩) (fun e3 => ?_)))⟩
  have e1 := nd_f e1
  have hf := h.f
  refine ⟨x.f = y.f, ⟨fun m i => 0 ≤ i ∧ i ≤ x.f.length ∧ m = (x.f.length - i).toNat ∧ ∀ j, j < i.toNat → x.f.getD j ((0 : Int), (false, ((0 : Int), ((0 : Int), ())))) = y.f.getD j ((0 : Int), (false, ((0 : Int), ((0 : Int), ())))), ⟨_, rfl, by omega, by omega, rfl, fun j hj => by simp at hj⟩, ?_⟩, fun e4 => ?_⟩
  · rintro m i ⟨h0, h1, rfl, h2⟩
    refine ifP (fun hlt => ⟨⟨h0, hlt⟩, ⟨h0, by omega⟩, ?_⟩) (fun hge => ⟨rfl, ext_getD (by omega) fun j hj => h2 j (by omega)⟩)
    rw [beq_Fb]
    refine ifB_cases (fun he => ⟨by rw [decide_eq_false (fun k => ne_of_getD (nd_t he) k.2.1)], rfl⟩) (fun he => ?_)
    rw [w64 (x := i + 1) (by omega)]
    exact ⟨_, by omega, rfl, by omega, by omega, rfl, same_next h0 h2 (nd_f he)⟩
  · refine ⟨_, c_spec_l06SameBools x.a y.a h.a, ifP (fun e5 => ⟨_, c_spec_l06SameBools x.b y.b h.b, ifP (fun e6 => ⟨_, c_spec_l06SameBools x.c y.c h.c, ifP (fun e7 => ⟨_, c_spec_l06SameBools x.d y.d h.d, ?_, rfl⟩)
      (fun e => ⟨by rw [decide_eq_false (fun k => e k.2.2.2.2.1)], rfl⟩)⟩) (fun e => ⟨by rw [decide_eq_false (fun k => e k.2.2.2.1)], rfl⟩)⟩) (fun e => ⟨by rw [decide_eq_false (fun k => e k.2.2.1)], rfl⟩)⟩
    exact congrArg eB (decide_eq_decide.2 ⟨fun k => ⟨e1, e4, e5, e6, e7, k, e3⟩, fun k => k.2.2.2.2.2.1⟩)

/-! ### processors -/
structure SameX (X Y : Pl) : Prop where
  p : sameP X.ks X.rs X.ts X.sf Y.ks Y.rs Y.ts Y.sf
  d : sameD X.x Y.x
  m : X.mode = Y.mode
  n : X.now = Y.now
  s : X.since = Y.since
  l : X.late = Y.late
  b : X.busy = Y.busy
  src : X.src = Y.src
  j : jobsSame X.jobs Y.jobs = true
  g : X.log = Y.log
noncomputable instance sameXDec (X Y : Pl) : Decidable (SameX X Y) := Classical.propDecidable _
noncomputable def sameX (X Y : Pl) : Bool := decide (SameX X Y)
theorem sameX_no {X Y : Pl} (h : ¬ SameX X Y) : eB false = eB (sameX X Y) := by unfold sameX; rw [decide_eq_false h]
theorem sameX_yes {X Y : Pl} (h : SameX X Y) : eB true = eB (sameX X Y) := by unfold sameX; rw [decide_eq_true h]
structure PlSm (X : Pl) : Prop where
  sm : X.Sm
  prg : prgSmall X.ks X.rs X.ts X.sf
  d : DatSm X.x
  ts : X.ts.length ≤ 1048576
  sf : X.sf.length ≤ 1048576
  rs : X.rs.length ≤ 1048576
  r : ∀ r ∈ X.rs, r.1.length ≤ 1048576
  s : ∀ s ∈ X.src, s.2.2.2.2.2.2.1.length ≤ 1048576
  j : ∀ j ∈ X.jobs, JbSm j
theorem c_impl_SamePlc (X Y : Pl) (h : PlSm X) (h' : PlSm Y) : TT n_impl_SamePlc [X.e, Y.e] [] (eB (plcM X && (plcM Y && sameX X Y))) [] := by
  refine r_impl_SamePlc X.ks X.rs X.ts X.sf X.x.g X.x.f X.x.a X.x.b X.x.c X.x.d X.x.w X.mode X.now X.since X.late X.busy X.src X.jobs X.log Y.ks Y.rs Y.ts Y.sf Y.x.g Y.x.f Y.x.a Y.x.b Y.x.c Y.x.d Y.x.w Y.mode Y.now Y.since Y.late Y.busy Y.src Y.jobs Y.log ⟨_, c_impl_PlcOK X h.sm h.prg, ifB_cases (fun g1 => ?_) (fun g1 => ⟨by rw [g1]; rfl, rfl⟩)⟩
  refine ⟨_, c_impl_PlcOK Y h'.sm h'.prg, ifB_cases (fun g2 => ?_) (fun g2 => ⟨by rw [g1, g2]; rfl, rfl⟩)⟩
  rw [g1, g2, Bool.true_and, Bool.true_and]
  refine ⟨_, c_impl_sameProgram X.ks X.rs X.ts X.sf Y.ks Y.rs Y.ts Y.sf h.sm.ks h.ts h.sf h.rs h.r, ifP (fun e1 => ⟨_, c_impl_sameData X.x Y.x h.d, ifP (fun e2 => ifE (fun e3 => ifE (fun e4 => ifE (fun e5 => ifE (fun e6 => ifB_cases (fun e7 => ⟨_, c_EqF_Source X.src Y.src h.sm.src h.s, ifP (fun e8 => ⟨_, c_EqF_Job X.jobs Y.jobs h.sm.jobs h.j, ifB_cases (fun e9 => ⟨_, c_Eq_Done X.log Y.log h.sm.log, ?_, rfl⟩)
    (fun e => ⟨sameX_no fun k => (by rw [k.j] at e; cases e), rfl⟩)⟩) (fun e => ⟨sameX_no fun k => e k.src, rfl⟩)⟩) (fun e => ⟨sameX_no fun k => (by rw [k.b] at e; simp at e), rfl⟩)) (fun e => ⟨sameX_no fun k => e k.l, rfl⟩)) (fun e => ⟨sameX_no fun k => e k.s, rfl⟩)) (fun e => ⟨sameX_no fun k => e k.n, rfl⟩)) (fun e => ⟨sameX_no fun k => e k.m, rfl⟩)) (fun e => ⟨sameX_no fun k => e k.d, rfl⟩)⟩) (fun e => ⟨sameX_no fun k => e k.p, rfl⟩)⟩
  by_cases e10 : X.log = Y.log
  · rw [decide_eq_true e10]
    exact sameX_yes ⟨e1, e2, e3, e4, e5, e6, by simpa using e7, e8, e9, e10⟩
  · rw [decide_eq_false e10]; exact sameX_no fun k => e10 k.g
theorem c_spec_l11SameJobs (X Y : Pl) (h : PlSm X) : TT n_spec_l11SameJobs [X.e, Y.e] [] (eB (jobsSame X.jobs Y.jobs)) [] := by
  have hl := h.sm.jobs
  refine r_spec_l11SameJobs X.ks X.rs X.ts X.sf X.x.g X.x.f X.x.a X.x.b X.x.c X.x.d X.x.w X.mode X.now X.since X.late X.busy X.src X.jobs X.log Y.ks Y.rs Y.ts Y.sf Y.x.g Y.x.f Y.x.a Y.x.b Y.x.c Y.x.d Y.x.w Y.mode Y.now Y.since Y.late Y.busy Y.src Y.jobs Y.log (ifN (fun e => ⟨by rw [jobsSame_len (fun x => e (by rw [x]))], rfl⟩) (fun e => ?_))
  refine ⟨fun m i => 0 ≤ i ∧ i ≤ X.jobs.length ∧ m = (X.jobs.length - i).toNat ∧ (∀ j, j < i.toNat → X.jobs.getD j dJb = Y.jobs.getD j dJb) ∧ ∀ j, j < i.toNat → smJ (X.jobs.getD j dJb) = true, ⟨_, rfl, by omega, by omega, rfl, fun j hj => by simp at hj, fun j hj => by simp at hj⟩, ?_⟩
  rintro m i ⟨h0, h1, rfl, h2, h3⟩
  refine ifP (fun hlt => ?_) (fun hge => ⟨by rw [jobsSame_yes (by omega) (fun j hj => h2 j (by omega)) (fun j hj => h3 j (by omega))], rfl⟩)
  have hm : X.jobs.getD i.toNat dJb ∈ X.jobs := by
    rw [List.getD_eq_getElem?_getD, List.getElem?_eq_getElem (by omega)]; exact List.getElem_mem _
  have hno := jobsSame_no (K := Y.jobs) (i := i.toNat) (J := X.jobs) (by omega)
  have hsm := h.j _ hm
  have hn : X.jobs.getD i.toNat dJb = Y.jobs.getD i.toNat dJb → ∀ j, j < (i + 1).toNat → X.jobs.getD j dJb = Y.jobs.getD j dJb := same_next h0 h2
  have hn3 : smJ (X.jobs.getD i.toNat dJb) = true → ∀ j, j < (i + 1).toNat → smJ (X.jobs.getD j dJb) = true := fun e j hj => by
    rcases Nat.lt_or_ge j i.toNat with h8 | h8
    · exact h3 j h8
    · rw [show j = i.toNat by omega]; exact e
  refine ⟨⟨h0, hlt⟩, ⟨h0, by omega⟩, ?_⟩
  rw [w64 (x := i + 1) (by omega)]
  revert hno hsm hn hn3
  generalize X.jobs.getD i.toNat dJb = x
  generalize Y.jobs.getD i.toNat dJb = y
  intro hno hsm hn hn3
  have no : ∀ {p : Prop}, (x = y → p) → ¬ p → eB false = eB (jobsSame X.jobs Y.jobs) := fun k k2 => by
    rw [hno (by rw [decide_eq_false (fun e => k2 (k e)), Bool.and_false])]
  have q := c_spec_SameCoreG x.2.2.2.2.2.1.1 y.2.2.2.2.2.1.1 x.2.2.2.2.2.1.2.1 y.2.2.2.2.2.1.2.1 hsm.st hsm.f
  refine ifN (fun e => ⟨no (fun k => by rw [k]) e, rfl⟩) (fun e1 => ifN (fun e => ⟨no (fun k => by rw [k]) e, rfl⟩) (fun e2 => ifN (fun e => ⟨no (fun k => by rw [k]) e, rfl⟩) (fun e3 => ifN (fun e => ⟨no (fun k => by rw [k]) e, rfl⟩) (fun e4 => ifN (fun e => ⟨no (fun k => by rw [k]) e, rfl⟩) (fun e5 => ⟨_, q, ifB_cases (fun e => ⟨?_, rfl⟩) (fun e6 => ?_)⟩)))))
  · have e := nb_t e
    rw [hno]
    cases h9 : smJ x && decide (x = y)
    · rfl
    · simp only [Bool.and_eq_true, decide_eq_true_eq] at h9
      have k1 : smC x.2.2.2.2.2.1.1 x.2.2.2.2.2.1.2.1 = true := h9.1
      rw [k1, decide_eq_true ⟨by rw [h9.2], by rw [h9.2]⟩] at e
      cases e
  have E6 := nb_f e6
  simp only [Bool.and_eq_true, decide_eq_true_eq] at E6
  refine ⟨_, c_spec_l06SameBools _ _ hsm.a, ifB_cases (fun e => ⟨no (fun k => by rw [k]) (nd_t e), rfl⟩) (fun e7 => ⟨_, c_spec_l06SameBools _ _ hsm.b, ifB_cases (fun e => ⟨no (fun k => by rw [k]) (nd_t e), rfl⟩) (fun e8 => ⟨_, c_spec_l06SameBools _ _ hsm.c, ifB_cases (fun e => ⟨no (fun k => by rw [k]) (nd_t e), rfl⟩) (fun e9 => ?_)⟩)⟩)⟩
  have E7 := nd_f e7
  have E8 := nd_f e8
  have E9 := nd_f e9
  refine ⟨_, by omega, rfl, by omega, by omega, rfl, hn ?_, hn3 E6.1⟩
  obtain ⟨a, b, c, d, f, ⟨fs, st, u⟩, l, m, n, v⟩ := x
  obtain ⟨a', b', c', d', f', ⟨fs', st', u'⟩, l', m', n', v'⟩ := y
  simp only at e1 e2 e3 e4 e5 E6 E7 E8 E9
  obtain ⟨_, x6, x6'⟩ := E6
  subst e1 e2 e3 e4 e5 x6 x6' E7 E8 E9
  rfl
theorem c_spec_l11Same (X Y : Pl) (h : PlSm X) (h' : PlSm Y) (g1 : plcM X = true) (g2 : plcM Y = true) (s1 : srcM X = true) (s2 : srcM Y = true) : TT n_spec_l11Same [X.e, Y.e] [] (eB (sameX X Y)) [] := by
  refine r_spec_l11Same X.ks X.rs X.ts X.sf X.x.g X.x.f X.x.a X.x.b X.x.c X.x.d X.x.w X.mode X.now X.since X.late X.busy X.src X.jobs X.log Y.ks Y.rs Y.ts Y.sf Y.x.g Y.x.f Y.x.a Y.x.b Y.x.c Y.x.d Y.x.w Y.mode Y.now Y.since Y.late Y.busy Y.src Y.jobs Y.log ⟨_, c_spec_SameProgram X.ks X.rs X.ts X.sf Y.ks Y.rs Y.ts Y.sf h.prg h'.prg (plcM_prg g1) (plcM_prg g2), ifB_cases (fun e => ⟨sameX_no fun k => nd_t e k.p, rfl⟩) (fun e1 => ⟨_, c_spec_l06Same X.x Y.x h.d, ifB_cases (fun e => ⟨sameX_no fun k => nd_t e k.d, rfl⟩) (fun e2 => ifN (fun e => ⟨sameX_no fun k => e k.m, rfl⟩) (fun e3 => ifN (fun e => ⟨sameX_no fun k => e k.n, rfl⟩) (fun e4 => ifN (fun e => ⟨sameX_no fun k => e k.s, rfl⟩) (fun e5 => ifN (fun e => ⟨sameX_no fun k => e k.l, rfl⟩) (fun e6 =>
    ifB_cases (fun e => ⟨sameX_no fun k => (by rw [k.b] at e; simp at e), rfl⟩) (fun e7 => ifN (fun e => ⟨sameX_no fun k => e (by rw [k.g]), rfl⟩) (fun e8 => ⟨_, c_spec_l11SameJobs X Y h, ifB_cases (fun e => ⟨sameX_no fun k => (by rw [k.j] at e; cases e), rfl⟩) (fun e9 => ?_)⟩)))))))⟩)⟩
  have e1 := nd_f e1
  have e2 := nd_f e2
  have e9 := nb_f e9
  have hsl := h.sm.src
  have hll := h.sm.log
  have hlen : X.src.length = Y.src.length := by
    have k1 := s1
    have k2 := s2
    unfold srcM at k1 k2
    rw [Bool.and_eq_true, decide_eq_true_eq] at k1 k2
    rw [k1.1, k2.1, e1.2.2.1]
  refine ⟨X.src = Y.src, ⟨fun m i => 0 ≤ i ∧ i ≤ X.src.length ∧ m = (X.src.length - i).toNat ∧ ∀ j, j < i.toNat → X.src.getD j dSc = Y.src.getD j dSc, ⟨_, rfl, by omega, by omega, rfl, fun j hj => by simp at hj⟩, ?_⟩, fun e10 => ?_⟩
  · rintro m i ⟨h0, h1, rfl, h2⟩
    refine ifP (fun hlt => ?_) (fun hge => ⟨rfl, ext_getD hlen fun j hj => h2 j (by omega)⟩)
    have f1 := src_fit s1 (i := i.toNat) (by omega)
    have f2 := src_fit s2 (i := i.toNat) (by omega)
    have hne : X.src.getD i.toNat dSc ≠ Y.src.getD i.toNat dSc → eB false = eB (sameX X Y) := fun e => sameX_no fun k => ne_of_getD e k.src
    have hn : X.src.getD i.toNat dSc = Y.src.getD i.toNat dSc → ∀ j, j < (i + 1).toNat → X.src.getD j dSc = Y.src.getD j dSc := same_next h0 h2
    refine ⟨⟨h0, hlt⟩, ⟨h0, by omega⟩, ?_⟩
    rw [w64 (x := i + 1) (by omega)]
    revert f1 f2 hne hn
    generalize X.src.getD i.toNat dSc = x
    generalize Y.src.getD i.toNat dSc = y
    intro f1 f2 hne hn
    have k : ∀ {z : Int}, 0 ≤ z ∧ z ≤ 2147483647 → i64 z := fun h => by unfold i64; omega
    have q1 := f1.q
    have q2 := f2.q
    refine ⟨_, c_spec_l10Text x.1 x.2.1 x.2.2.1 x.2.2.2.1 x.2.2.2.2.1 x.2.2.2.2.2.1 x.2.2.2.2.2.2.1 (k f1.ar) (k f1.dn) (k f1.th) (k f1.lo) (k f1.dr) f1.q, _, c_spec_l10Text y.1 y.2.1 y.2.2.1 y.2.2.2.1 y.2.2.2.2.1 y.2.2.2.2.2.1 y.2.2.2.2.2.2.1 (k f2.ar) (k f2.dn) (k f2.th) (k f2.lo) (k f2.dr) f2.q, ?_⟩
    rw [toList_beq]
    refine ifB_cases (fun e => ⟨hne fun k => nd_t e (by rw [k]), rfl⟩) (fun e => ifN (fun e => ⟨hne fun k => e (by rw [k]), rfl⟩) (fun e12 => ⟨_, c_spec_l00Same _ _ (by omega), ifB_cases (fun e => ⟨hne fun k => nd_t e (by rw [k]), rfl⟩) (fun e13 => ?_)⟩))
    obtain ⟨a1, a2, a3, a4, a5⟩ := sourceB_inj f1.ar f1.dn f1.th f1.lo f1.dr (by omega) f2.ar f2.dn f2.th f2.lo f2.dr (by omega) (nd_f e)
    have E13 := nd_f e13
    refine ⟨_, by omega, rfl, by omega, by omega, rfl, hn ?_⟩
    obtain ⟨la, ar, dn, th, lo, dr, q, u⟩ := x
    obtain ⟨la', ar', dn', th', lo', dr', q', u'⟩ := y
    simp only at a1 a2 a3 a4 a5 e12 E13
    subst a1 a2 a3 a4 a5 e12 E13
    rfl
  · refine ⟨fun m i => 0 ≤ i ∧ i ≤ X.log.length ∧ m = (X.log.length - i).toNat ∧ ∀ j, j < i.toNat → X.log.getD j dDn1 = Y.log.getD j dDn1, ⟨_, rfl, by omega, by omega, rfl, fun j hj => by simp at hj⟩, ?_⟩
    rintro m i ⟨h0, h1, rfl, h2⟩
    refine ifP (fun hlt => ⟨⟨h0, hlt⟩, ⟨h0, by omega⟩, ?_⟩) (fun hge => ⟨sameX_yes ⟨e1, e2, e3, e4, e5, e6, by simpa using e7, e10, e9, ext_getD (by omega) fun j hj => h2 j (by omega)⟩, rfl⟩)
    rw [beq_Done]
    refine ifB_cases (fun he => ⟨sameX_no fun k => ne_of_getD (nd_t he) k.g, rfl⟩) (fun he => ?_)
    rw [w64 (x := i + 1) (by omega)]
    exact ⟨_, by omega, rfl, by omega, by omega, rfl, same_next h0 h2 (nd_f he)⟩
theorem plcM_src {X : Pl} (h : plcM X = true) : srcM X = true := by
  unfold plcM at h
  simp only [Bool.and_eq_true] at h
  exact h.2.2.2.2.2.2.2.2.2.1
theorem c_spec_SamePlc (X Y : Pl) (h : PlSm X) (h' : PlSm Y) : TT n_spec_SamePlc [X.e, Y.e] [] (eB (plcM X && (plcM Y && sameX X Y))) [] := by
  refine r_spec_SamePlc X.ks X.rs X.ts X.sf X.x.g X.x.f X.x.a X.x.b X.x.c X.x.d X.x.w X.mode X.now X.since X.late X.busy X.src X.jobs X.log Y.ks Y.rs Y.ts Y.sf Y.x.g Y.x.f Y.x.a Y.x.b Y.x.c Y.x.d Y.x.w Y.mode Y.now Y.since Y.late Y.busy Y.src Y.jobs Y.log ⟨_, c_spec_l11OK X h.sm h.prg, ifB_cases (fun g1 => ?_) (fun g1 => ⟨by rw [g1]; rfl, rfl⟩)⟩
  refine ⟨_, c_spec_l11OK Y h'.sm h'.prg, ifB_cases (fun g2 => ?_) (fun g2 => ⟨by rw [g1, g2]; rfl, rfl⟩)⟩
  rw [g1, g2, Bool.true_and, Bool.true_and]
  exact ⟨_, c_spec_l11Same X Y h h' g1 g2 (plcM_src g1) (plcM_src g2), rfl, rfl⟩

/-! ### the law -/
theorem plX_all {x : PlT} (h : sm_Plc x) : PlSm (plX x) := by
  have h0 := h
  obtain ⟨⟨h1, h2, h3, h4⟩, ⟨d1, d2, d3, d4, d5, d6⟩, h5, h6, h7⟩ := h
  exact ⟨plX_sm h0, ⟨h1, h2, h3, h4⟩, ⟨d1, d2, d3, d4, d5, d6⟩, h3, h4, h2.1, fun r hr => h2.2 r hr, fun s hs => h5.2 s hs,
    fun j hj => ⟨(h6.2 j hj).1.1.1, (h6.2 j hj).1.2, fun f hf => (h6.2 j hj).1.1.2 f hf, (h6.2 j hj).2.1, (h6.2 j hj).2.2.1, (h6.2 j hj).2.2.2⟩⟩
theorem c_laws_FnExactSamePlc (x : PlT) (hw : Ty.wf tPlc x) (y : PlT) (hv : Ty.wf tPlc y) : TT n_laws_FnExactSamePlc [(plX x).e, (plX y).e] [] (eB true) [] := by
  refine r_laws_FnExactSamePlc _ _ _ _ _ _ _ _ _ _ _ _ _ _ _ _ _ _ _ _ _ _ _ _ _ _ _ _ _ _ _ _ _ _ _ _ _ _ ⟨_, c_sz_Plc x 1048576 hw (by omega), ifP (fun _ => ⟨rfl, rfl⟩) (fun h0 => ?_)⟩
  have k0 := sz_Plc_ok (l := x) (n := 1048576) (by omega)
  have hs := k0.2 (by omega)
  refine ⟨_, c_sz_Plc y _ hv (by omega), ifP (fun _ => ⟨rfl, rfl⟩) (fun h1 => ?_)⟩
  have ht := (sz_Plc_ok (l := y) (n := sz_Plc x 1048576) (by omega)).2 (by omega)
  have t := c_to_Plc x hs
  have e := c_eq_Plc x hs
  have t' := c_to_Plc y ht
  have e' := c_eq_Plc y ht
  have ci := c_impl_SamePlc (plX x) (plX y) (plX_all hs) (plX_all ht)
  have cs := c_spec_SamePlc (plX x) (plX y) (plX_all hs) (plX_all ht)
  exact ⟨_, _, _, _, _, _, _, _, _, _, _, _, _, _, _, _, _, _, _, t, _, _, _, _, _, _, _, _, _, _, _, _, _, _, _, _, _, _, _, t', _, cs, _, _, _, _, _, _, _, _, _, _, _, _, _, _, _, _, _, _, _, t, _, _, _, _, _, _, _, _, _, _, _, _, _, _, _, _, _, _, _, t', _, ci, ifB_f (by simp) ⟨_, _, _, _, _, _, _, _, _, _, _, _, _, _, _, _, _, _, _, t, _, e, ifB_f rfl ⟨_, _, _, _, _, _, _, _, _, _, _, _, _, _, _, _, _, _, _, t', _, e', ifB_f rfl ⟨rfl, rfl⟩⟩⟩⟩
end Go.Ry
