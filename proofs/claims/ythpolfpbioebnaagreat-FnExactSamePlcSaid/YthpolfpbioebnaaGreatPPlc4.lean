/- New cores, equal lists. No condition. -/
import Derived.Test.YthpolfpbioebnaaGreatPPlc3
set_option linter.unusedVariables false
set_option linter.unusedSimpArgs false
namespace Go.Ry
open Go.Proofs

def allR (n : Nat) (p : Nat → Bool) : Bool := (List.range n).all p
theorem allR_f {n : Nat} {p : Nat → Bool} {i : Nat} (hi : i < n) (h : p i = false) : allR n p = false := by
  rw [← Bool.not_eq_true]
  intro e
  simp only [allR, List.all_eq_true, List.mem_range] at e
  rw [e i hi] at h
  exact absurd h (by decide)
theorem allR_t {n : Nat} {p : Nat → Bool} (h : ∀ j, j < n → p j = true) : allR n p = true := by
  simp only [allR, List.all_eq_true, List.mem_range]; exact h
theorem allR_at {n : Nat} {p : Nat → Bool} (h : allR n p = true) {i : Nat} (hi : i < n) : p i = true := by
  simp only [allR, List.all_eq_true, List.mem_range] at h; exact h i hi
theorem next_all {p : Nat → Bool} {i : Int} (h0 : 0 ≤ i) (h : ∀ j, j < i.toNat → p j = true) (hi : p i.toNat = true) : ∀ j, j < (i + 1).toNat → p j = true := by
  intro j hj
  rcases Nat.lt_or_ge j i.toNat with h8 | h8
  · exact h j h8
  · rw [show j = i.toNat by omega]; exact hi
theorem ext_getD {α : Type} {l m : List α} {d : α} (hl : l.length = m.length) (h : ∀ j, j < l.length → l.getD j d = m.getD j d) : l = m := by
  apply List.ext_getElem hl
  intro i h1 h2
  have := h i h1
  rw [List.getD_eq_getElem?_getD, List.getD_eq_getElem?_getD, List.getElem?_eq_getElem h1, List.getElem?_eq_getElem h2] at this
  exact this
theorem c_Equal_int2 (a b : List Int) (ha : a.length ≤ 1048576) : TT n_slices_Equal_int_int [.one (.sl tyInt a), .one (.sl tyInt b)] [] (eB (decide (a = b))) [] := by
  refine r_slices_Equal_int_int a b (ifN (fun h => ⟨by rw [decide_eq_false (fun e => h (by rw [e]))], rfl⟩) (fun h => ?_))
  refine ⟨fun m i => 0 ≤ i ∧ i ≤ a.length ∧ m = (a.length - i).toNat ∧ ∀ j, j < i.toNat → a.getD j 0 = b.getD j 0, ⟨_, rfl, by omega, by omega, rfl, fun j hj => by simp at hj⟩, ?_⟩
  rintro m i ⟨h0, h1, rfl, h2⟩
  refine ifP (fun hlt => ⟨⟨h0, hlt⟩, ⟨h0, by omega⟩, ifN (fun he => ⟨by rw [decide_eq_false (fun e => he (by rw [e]))], rfl⟩) (fun he => ?_)⟩) (fun hge => ⟨by rw [decide_eq_true (ext_getD (d := 0) (by omega) fun j hj => h2 j (by omega))], rfl⟩)
  rw [w64 (x := i + 1) (by omega)]
  refine ⟨_, by omega, rfl, by omega, by omega, rfl, fun j hj => ?_⟩
  rcases Nat.lt_or_ge j i.toNat with h8 | h8
  · exact h2 j h8
  · rw [show j = i.toNat by omega]; exact he
theorem c_spec_l00Same (a b : List Int) (ha : a.length ≤ 1048576) : TT n_spec_l00Same [.one (.sl tyInt a), .one (.sl tyInt b)] [] (eB (decide (a = b))) [] := by
  refine r_spec_l00Same a b (ifN (fun h => ⟨by rw [decide_eq_false (fun e => h (by rw [e]))], rfl⟩) (fun h => ?_))
  refine ⟨fun m i => 0 ≤ i ∧ i ≤ a.length ∧ m = (a.length - i).toNat ∧ ∀ j, j < i.toNat → a.getD j 0 = b.getD j 0, ⟨_, rfl, by omega, by omega, rfl, fun j hj => by simp at hj⟩, ?_⟩
  rintro m i ⟨h0, h1, rfl, h2⟩
  refine ifP (fun hlt => ⟨⟨h0, hlt⟩, ⟨h0, by omega⟩, ifN (fun he => ⟨by rw [decide_eq_false (fun e => he (by rw [e]))], rfl⟩) (fun he => ?_)⟩) (fun hge => ⟨by rw [decide_eq_true (ext_getD (d := 0) (by omega) fun j hj => h2 j (by omega))], rfl⟩)
  rw [w64 (x := i + 1) (by omega)]
  refine ⟨_, by omega, rfl, by omega, by omega, rfl, fun j hj => ?_⟩
  rcases Nat.lt_or_ge j i.toNat with h8 | h8
  · exact h2 j h8
  · rw [show j = i.toNat by omega]; exact he
theorem c_Equal_bool2 (a b : List Bool) (ha : a.length ≤ 1048576) : TT n_slices_Equal_bool_bool [.one (.sl .bool a), .one (.sl .bool b)] [] (eB (decide (a = b))) [] := by
  refine r_slices_Equal_bool_bool a b (ifN (fun h => ⟨by rw [decide_eq_false (fun e => h (by rw [e]))], rfl⟩) (fun h => ?_))
  refine ⟨fun m i => 0 ≤ i ∧ i ≤ a.length ∧ m = (a.length - i).toNat ∧ ∀ j, j < i.toNat → a.getD j false = b.getD j false, ⟨_, rfl, by omega, by omega, rfl, fun j hj => by simp at hj⟩, ?_⟩
  rintro m i ⟨h0, h1, rfl, h2⟩
  refine ifP (fun hlt => ⟨⟨h0, hlt⟩, ⟨h0, by omega⟩, ifB_cases (fun he => ⟨by rw [decide_eq_false (fun e => by rw [e] at he; simp at he)], rfl⟩) (fun he => ?_)⟩) (fun hge => ⟨by rw [decide_eq_true (ext_getD (d := false) (by omega) fun j hj => h2 j (by omega))], rfl⟩)
  rw [w64 (x := i + 1) (by omega)]
  refine ⟨_, by omega, rfl, by omega, by omega, rfl, fun j hj => ?_⟩
  rcases Nat.lt_or_ge j i.toNat with h8 | h8
  · exact h2 j h8
  · rw [show j = i.toNat by omega]
    simpa only [Bool.not_eq_false', beq_iff_eq] using he
theorem c_spec_l06SameBools (a b : List Bool) (ha : a.length ≤ 1048576) : TT n_spec_l06SameBools [.one (.sl .bool a), .one (.sl .bool b)] [] (eB (decide (a = b))) [] := by
  refine r_spec_l06SameBools a b (ifN (fun h => ⟨by rw [decide_eq_false (fun e => h (by rw [e]))], rfl⟩) (fun h => ?_))
  refine ⟨fun m i => 0 ≤ i ∧ i ≤ a.length ∧ m = (a.length - i).toNat ∧ ∀ j, j < i.toNat → a.getD j false = b.getD j false, ⟨_, rfl, by omega, by omega, rfl, fun j hj => by simp at hj⟩, ?_⟩
  rintro m i ⟨h0, h1, rfl, h2⟩
  refine ifP (fun hlt => ⟨⟨h0, hlt⟩, ⟨h0, by omega⟩, ifB_cases (fun he => ⟨by rw [decide_eq_false (fun e => by rw [e] at he; simp at he)], rfl⟩) (fun he => ?_)⟩) (fun hge => ⟨by rw [decide_eq_true (ext_getD (d := false) (by omega) fun j hj => h2 j (by omega))], rfl⟩)
  rw [w64 (x := i + 1) (by omega)]
  refine ⟨_, by omega, rfl, by omega, by omega, rfl, fun j hj => ?_⟩
  rcases Nat.lt_or_ge j i.toNat with h8 | h8
  · exact h2 j h8
  · rw [show j = i.toNat by omega]
    simpa only [Bool.not_eq_false', beq_iff_eq] using he

/-! ### a core at the beginning -/
def newF (rs : List Rou) (r : Int) : List Frm := if ((rs.getD r.toNat (([] : List Ins), ())).1.length : Int) = 0 then [] else [(r, (0, (([] : List Int), ())))]
def sameNew (rs : List Rou) (r : Int) (fs : List Frm) (st : List Int) : Bool := decide (st = []) && decide (fs = newF rs r)
theorem newF_len (rs : List Rou) (r : Int) : (newF rs r).length ≤ 1 := by unfold newF; split <;> simp
theorem newF_loops {rs : List Rou} {r : Int} {f : Frm} (h : f ∈ newF rs r) : f.2.2.1 = [] := by
  unfold newF at h
  split at h
  · simp at h
  · simp only [List.mem_singleton] at h; rw [h]
theorem c_impl_newCore (rs : List Rou) (r : Int) (hr : 0 ≤ r ∧ r < (rs.length : Int)) : TT n_impl_newCore [.one (.sl tRou rs), eI r] [] (.agg [.row 0, .nils]) [.nest t_impl_Frame tFrm ⟨2, t_int, tyInt⟩ (newF rs r) none] :=
  r_impl_newCore rs r ⟨hr, ifE (fun h => ⟨rfl, by rw [newF, if_pos h]⟩) (fun h => ⟨rfl, by rw [newF, if_neg h]⟩)⟩
def loops4 (f : Frm) : Bool := decide ((f.2.2.1.length : Int) ≤ 4)
def smallF (fs : List Frm) : Bool := fs.all loops4
theorem c_isSmall_1 (f : Frm) : TT n_impl_isSmall_1 [frmE f] [] (eB (loops4 f)) [] := r_impl_isSmall_1 f.1 f.2.1 f.2.2.1 ⟨rfl, rfl⟩
theorem c_IndexFunc_Frame (l : List Frm) (hl : l.length ≤ 1048576) : ∃ n : Int, decide (n ≥ 0) = (l.any fun x => !loops4 x) ∧
    TT n_slices_IndexFunc_impl_Frame_impl_Frame [.one (.sl tFrm l), .one (.fn n_impl_all_impl_Frame_1 [0])] [.box [.fn n_impl_isSmall_1 []]] (eI n) [.box [.fn n_impl_isSmall_1 []]] := by
  refine ⟨findI (fun x => !loops4 x) l 0, findI_ge, r_slices_IndexFunc_impl_Frame_impl_Frame l ⟨fun m i => 0 ≤ i ∧ i ≤ l.length ∧ m = (l.length - i).toNat ∧ findI (fun x => !loops4 x) (l.drop i.toNat) i.toNat = findI (fun x => !loops4 x) l 0, ⟨_, rfl, by omega, by omega, rfl, rfl⟩, ?_⟩⟩
  rintro m i ⟨h0, h1, rfl, h2⟩
  refine ifP (fun hlt => ?_) (fun hge => ?_)
  · rw [drop_getD (by omega) dFrm, findI] at h2
    revert h2
    generalize l.getD i.toNat dFrm = f
    intro h2
    refine ⟨⟨h0, hlt⟩, _, r_impl_all_impl_Frame_1 f.1 f.2.1 f.2.2.1 ⟨_, c_isSmall_1 f, rfl, rfl⟩, ifB_cases (fun hb => ?_) (fun hb => ?_)⟩
    · rw [if_pos hb] at h2
      exact ⟨by rw [← h2]; congr 1; omega, rfl⟩
    · rw [if_neg (by rw [hb]; exact Bool.false_ne_true)] at h2
      rw [w64 (by omega)]
      exact ⟨_, by omega, rfl, by omega, by omega, rfl, by rw [toNat_succ h0]; exact h2⟩
  · rw [List.drop_eq_nil_of_le (by omega)] at h2
    exact ⟨by rw [← h2]; rfl, rfl⟩
theorem c_all_Frame (l : List Frm) (hl : l.length ≤ 1048576) : TT n_impl_all_impl_Frame [.one (.sl tFrm l), .one (.fn n_impl_isSmall_1 [])] [] (eB (smallF l)) [] := by
  obtain ⟨n, hn, hc⟩ := c_IndexFunc_Frame l hl
  exact r_impl_all_impl_Frame l ⟨_, r_slices_ContainsFunc_impl_Frame_impl_Frame l ⟨_, hc, rfl, rfl⟩, by rw [hn, all_any]; rfl, rfl⟩
theorem c_impl_isSmall (fs : List Frm) (st : List Int) : TT n_impl_isSmall [.agg [.sl tFrm fs, .sl tyInt st]] [] (eB (decide ((fs.length : Int) ≤ 6) && (decide ((st.length : Int) ≤ 48) && smallF fs))) [] :=
  r_impl_isSmall fs st (ifP (fun h => ifP (fun h' => ⟨_, c_all_Frame fs (by omega), by rw [decide_eq_true h, decide_eq_true h']; rfl, rfl⟩) (fun h' => ⟨by rw [decide_eq_false h']; simp, rfl⟩)) (fun h => ⟨by rw [decide_eq_false h]; rfl, rfl⟩))
theorem smallF_new (rs : List Rou) (r : Int) : smallF (newF rs r) = true := by
  unfold newF
  split <;> rfl
theorem c_impl_isSmall_new (rs : List Rou) (r : Int) : TT n_impl_isSmall [.agg [.sl tFrm (newF rs r), .nils]] [] (eB true) [] := by
  have := newF_len rs r
  have hs := c_all_Frame (newF rs r) (by omega)
  rw [smallF_new] at hs
  exact r_impl_isSmall_k1 (newF rs r) (ifP_t (by omega) (ifP_t (by omega) ⟨_, hs, rfl, rfl⟩))
theorem c_Equal_nil (a : List Int) : TT n_slices_Equal_int_int [.one (.sl tyInt a), .one .nils] [] (eB (decide (a = []))) [] := by
  refine r_slices_Equal_int_int_1 a (ifN (fun h => ⟨by rw [decide_eq_false (fun e => h (by rw [e]; rfl))], rfl⟩) (fun h => ?_))
  have e : a = [] := List.eq_nil_of_length_eq_zero (by omega)
  subst e
  exact ⟨fun _ => True, ⟨0, rfl, trivial⟩, fun _ _ => ifP_f (by simp) ⟨rfl, rfl⟩⟩
theorem c_SameCore_1 (f g : Frm) (hf : f.2.2.1.length ≤ 1048576) : TT n_impl_SameCore_1 [frmE f, frmE g] [] (eB (decide (f = g))) [] := by
  obtain ⟨a, b, c, ⟨⟩⟩ := f
  obtain ⟨a', b', c', ⟨⟩⟩ := g
  refine r_impl_SameCore_1 a b c a' b' c' (ifE (fun h1 => ifE (fun h2 => ⟨_, c_Equal_int2 c c' hf, ?_, rfl⟩) (fun h2 => ⟨?_, rfl⟩)) (fun h1 => ⟨?_, rfl⟩))
  · subst h1; subst h2
    by_cases h3 : c = c'
    · subst h3; rw [decide_eq_true rfl, decide_eq_true rfl]
    · rw [decide_eq_false h3, decide_eq_false (fun e => h3 (by injection e with _ e; injection e with _ e; injection e))]
  · rw [decide_eq_false (fun e => h2 (by injection e with _ e; injection e))]
  · rw [decide_eq_false (fun e => h1 (by injection e))]
theorem c_EqualFunc (a b : List Frm) (ha : a.length ≤ 1048576) (hs : ∀ f ∈ a, f.2.2.1.length ≤ 1048576) : TT n_slices_EqualFunc_impl_Frame_impl_Frame_impl_Frame_impl_Frame [.one (.sl tFrm a), .one (.sl tFrm b), .one (.fn n_impl_SameCore_1 [])] [] (eB (decide (a = b))) [] := by
  refine r_slices_EqualFunc_impl_Frame_impl_Frame_impl_Frame_impl_Frame a b (ifN (fun h => ⟨by rw [decide_eq_false (fun e => h (by rw [e]))], rfl⟩) (fun h => ?_))
  refine ⟨fun m i => 0 ≤ i ∧ i ≤ a.length ∧ m = (a.length - i).toNat ∧ ∀ j, j < i.toNat → a.getD j dFrm = b.getD j dFrm, ⟨_, rfl, by omega, by omega, rfl, fun j hj => by simp at hj⟩, ?_⟩
  rintro m i ⟨h0, h1, rfl, h2⟩
  refine ifP (fun hlt => ?_) (fun hge => ⟨by rw [decide_eq_true (ext_getD (d := dFrm) (by omega) fun j hj => h2 j (by omega))], rfl⟩)
  have hm : a.getD i.toNat dFrm ∈ a := by
    rw [List.getD_eq_getElem?_getD, List.getElem?_eq_getElem (by omega)]; exact List.getElem_mem _
  refine ⟨⟨h0, hlt⟩, ⟨h0, by omega⟩, _, c_SameCore_1 (a.getD i.toNat dFrm) (b.getD i.toNat dFrm) (hs _ hm), ifB_cases (fun he => ?_) (fun he => ?_)⟩
  · have he : a.getD i.toNat dFrm ≠ b.getD i.toNat dFrm := by simpa only [Bool.not_eq_true', decide_eq_false_iff_not] using he
    exact ⟨by rw [decide_eq_false (fun e => he (by rw [e]))], rfl⟩
  · have he : a.getD i.toNat dFrm = b.getD i.toNat dFrm := by simpa only [Bool.not_eq_false', decide_eq_true_eq] using he
    rw [w64 (x := i + 1) (by omega)]
    refine ⟨_, by omega, rfl, by omega, by omega, rfl, fun j hj => ?_⟩
    rcases Nat.lt_or_ge j i.toNat with h8 | h8
    · exact h2 j h8
    · rw [show j = i.toNat by omega]; exact he
theorem c_impl_SameCore (rs : List Rou) (r : Int) (fs : List Frm) (st : List Int) (hf : fs.length ≤ 1048576) (hs : ∀ f ∈ fs, f.2.2.1.length ≤ 1048576) :
    TT n_impl_SameCore [.agg [.sl tFrm fs, .sl tyInt st], .agg [.sl tFrm (newF rs r), .nils]] [] (eB (sameNew rs r fs st)) [] := by
  have hnew : sameNew rs r fs st = true → (decide ((fs.length : Int) ≤ 6) && (decide ((st.length : Int) ≤ 48) && smallF fs)) = true := by
    intro h
    simp only [sameNew, Bool.and_eq_true, decide_eq_true_eq] at h
    obtain ⟨rfl, rfl⟩ := h
    have := newF_len rs r
    rw [smallF_new, decide_eq_true (by omega), decide_eq_true (by simp)]; rfl
  refine r_impl_SameCore fs st (newF rs r) ⟨_, c_impl_isSmall fs st, ifB_cases (fun h1 => ?_) (fun h1 => ⟨?_, rfl⟩)⟩
  · refine ⟨_, c_impl_isSmall_new rs r, ifB_t rfl ⟨_, c_Equal_nil st, ifB_cases (fun h2 => ⟨_, c_EqualFunc fs (newF rs r) hf hs, by rw [sameNew, h2]; rfl, rfl⟩) (fun h2 => ⟨by rw [sameNew, h2]; rfl, rfl⟩)⟩⟩
  · cases h : sameNew rs r fs st
    · rfl
    · rw [hnew h] at h1; simp at h1

/-! ### the reference's -/
theorem c_spec_l07New (rs : List Rou) (r : Int) (hr : 0 ≤ r ∧ r < (rs.length : Int)) : TT n_spec_l07New [.one (.sl tRou rs), eI r] [] (.agg [.sl tFrm (newF rs r), .sl tyInt []]) [] := by
  refine r_spec_l07New rs r ⟨newF rs r, [], ?_, rfl, rfl⟩
  refine r_spec_l07Up rs [(r, (0, (([] : List Int), ())))] [] ⟨fun m l => (m = 1 ∧ l = [(r, (0, (([] : List Int), ())))]) ∨ (m = 0 ∧ l = [] ∧ newF rs r = []), ⟨1, rfl, rfl, .inl ⟨rfl, rfl⟩⟩, ?_⟩
  rintro m l (⟨rfl, rfl⟩ | ⟨rfl, rfl, hn⟩)
  · refine ifP_t (by simp) ?_
    have e1 : wI ((([(r, (0, (([] : List Int), ())))] : List Frm).length   : Int) - 1) = 0 := by show wI (1 - 1) = 0; decide
    rw [e1]
    refine ⟨⟨by omega, by simp⟩, hr, ifP (fun h => ⟨?_, rfl⟩) (fun h => ⟨⟨by omega, by omega, by simp⟩, 0, by omega, rfl, rfl, .inr ⟨rfl, rfl, ?_⟩⟩)⟩
    · have h : (0 : Int) < ((rs.getD r.toNat (([] : List Ins), ())).1.length : Int) := h
      rw [newF, if_neg (by omega)]
    · have h : ¬ (0 : Int) < ((rs.getD r.toNat (([] : List Ins), ())).1.length : Int) := h
      rw [newF, if_pos (by omega)]
  · exact ifP_f (by simp) ⟨by rw [hn], rfl⟩
theorem c_spec_l07Frames (fs : List Frm) (st : List Int) : TT n_spec_l07Frames [.agg [.sl tFrm fs, .sl tyInt st]] [] (eB (decide ((fs.length : Int) ≤ 6) && decide ((st.length : Int) ≤ 48))) [] :=
  r_spec_l07Frames fs st (ifP (fun h => ⟨by rw [decide_eq_true h]; rfl, rfl⟩) (fun h => ⟨by rw [decide_eq_false h]; rfl, rfl⟩))
theorem c_spec_SameCore (rs : List Rou) (r : Int) (fs : List Frm) (st : List Int) (hs : ∀ f ∈ fs, f.2.2.1.length ≤ 1048576) :
    TT n_spec_SameCore [.agg [.sl tFrm fs, .sl tyInt st], .agg [.sl tFrm (newF rs r), .sl tyInt []]] [] (eB (sameNew rs r fs st)) [] := by
  have hl := newF_len rs r
  have hnew : sameNew rs r fs st = true → (decide ((fs.length : Int) ≤ 6) && decide ((st.length : Int) ≤ 48)) = true := by
    intro h
    simp only [sameNew, Bool.and_eq_true, decide_eq_true_eq] at h
    obtain ⟨rfl, rfl⟩ := h
    rw [decide_eq_true (by omega), decide_eq_true (by simp)]; rfl
  refine r_spec_SameCore fs st (newF rs r) [] ⟨_, c_spec_l07Frames fs st, ifB_cases (fun h1 => ⟨?_, rfl⟩) (fun h1 => ?_)⟩
  · cases h : sameNew rs r fs st
    · rfl
    · rw [hnew h] at h1; simp at h1
  have h1 : (decide ((fs.length : Int) ≤ 6) && decide ((st.length : Int) ≤ 48)) = true := by simpa only [Bool.not_eq_false'] using h1
  simp only [Bool.and_eq_true, decide_eq_true_eq] at h1
  have c2 := c_spec_l07Frames (newF rs r) []
  rw [show (decide (((newF rs r).length : Int) ≤ 6) && decide ((([] : List Int).length : Int) ≤ 48)) = true by rw [decide_eq_true (by omega), decide_eq_true (by simp)]; rfl] at c2
  refine ⟨_, c2, ifB_f rfl (ifN (fun hn => ⟨?_, rfl⟩) (fun hn => ⟨_, c_spec_l00Same st [] (by omega), ifB_cases (fun h2 => ⟨?_, rfl⟩) (fun h2 => ?_)⟩))⟩
  · rw [sameNew, decide_eq_false (p := fs = newF rs r) (fun e => hn (by rw [e]))]; simp
  · have h2 : ¬ st = [] := by simpa only [Bool.not_eq_true', decide_eq_false_iff_not] using h2
    rw [sameNew, decide_eq_false h2]; rfl
  have h2 : st = [] := by simpa only [Bool.not_eq_false', decide_eq_true_eq] using h2
  have es : sameNew rs r fs st = decide (fs = newF rs r) := by rw [sameNew, decide_eq_true h2]; rfl
  rw [es]
  refine ⟨fun m i => 0 ≤ i ∧ i ≤ fs.length ∧ m = (fs.length - i).toNat ∧ ∀ j, j < i.toNat → fs.getD j dFrm = (newF rs r).getD j dFrm, ⟨_, rfl, by omega, by omega, rfl, fun j hj => by simp at hj⟩, ?_⟩
  rintro m i ⟨k0, k1, rfl, k2⟩
  refine ifP (fun hlt => ?_) (fun hge => ⟨by rw [decide_eq_true (ext_getD (d := dFrm) (by omega) fun j hj => k2 j (by omega))], rfl⟩)
  have hm : fs.getD i.toNat dFrm ∈ fs := by
    rw [List.getD_eq_getElem?_getD, List.getElem?_eq_getElem (by omega)]; exact List.getElem_mem _
  have hm2 : (newF rs r).getD i.toNat dFrm ∈ newF rs r := by
    rw [List.getD_eq_getElem?_getD, List.getElem?_eq_getElem (by omega)]; exact List.getElem_mem _
  have hb : ∀ (p : Prop), (fs = newF rs r → fs.getD i.toNat dFrm = (newF rs r).getD i.toNat dFrm) := fun _ e => by rw [e]
  have hne : fs.getD i.toNat dFrm ≠ (newF rs r).getD i.toNat dFrm → decide (fs = newF rs r) = false := fun h => decide_eq_false fun e => h (by rw [e])
  have hls := hs _ hm
  have hlg := newF_loops hm2
  have fin : fs.getD i.toNat dFrm = (newF rs r).getD i.toNat dFrm → ∀ j, j < (i + 1).toNat → fs.getD j dFrm = (newF rs r).getD j dFrm := by
    intro he j hj
    rcases Nat.lt_or_ge j i.toNat with h8 | h8
    · exact k2 j h8
    · rw [show j = i.toNat by omega]; exact he
  revert hne hls hlg fin
  generalize fs.getD i.toNat dFrm = f
  generalize (newF rs r).getD i.toNat dFrm = g
  intro hne hls hlg fin
  obtain ⟨a, b, c, ⟨⟩⟩ := f
  obtain ⟨a', b', c', ⟨⟩⟩ := g
  simp only at hls hlg
  refine ⟨⟨k0, hlt⟩, ⟨k0, by omega⟩, ifN (fun h => ⟨by rw [hne (fun e => h (by injection e))], rfl⟩) (fun h3 => ifN (fun h => ⟨by rw [hne (fun e => h (by injection e with _ e; injection e))], rfl⟩) (fun h4 => ifP (fun h => ⟨?_, rfl⟩) (fun h => ⟨_, c_spec_l00Same c c' hls, ifB_cases (fun h5 => ⟨?_, rfl⟩) (fun h5 => ?_)⟩)))⟩
  · rw [hne (fun e => by injection e with _ e; injection e with _ e; injection e with e _; rw [e, hlg] at h; simp at h)]
  · have h5 : ¬ c = c' := by simpa only [Bool.not_eq_true', decide_eq_false_iff_not] using h5
    rw [hne (fun e => h5 (by injection e with _ e; injection e with _ e; injection e))]
  · have h5 : c = c' := by simpa only [Bool.not_eq_false', decide_eq_true_eq] using h5
    rw [w64 (x := i + 1) (by omega)]
    exact ⟨_, by omega, rfl, by omega, by omega, rfl, fin (by have h3 : a = a' := h3; have h4 : b = b' := h4; rw [h3, h4, h5])⟩
end Go.Ry
