/- Lines of tasks and scripts that are drawn; the law on them. No condition. -/
import Derived.Test.YtlfapnlaalnbjaaGreatDoorPTrp2
import Derived.Test.YtlfapnlaalnbjaaGreatDoorPScr3
import Derived.Test.YtlfapnlaalnbjaaGreatDoorPDrw2
import Derived.Test.YtlfapnlaalnbjaaGreatDoorPGen
set_option linter.unusedVariables false
set_option linter.unusedSimpArgs false
namespace Go.Ry
open Go.Proofs

theorem c_pick' (ls : List ByteArray) (h0 : 0 < ls.length) (h1 : ls.length ≤ 256) (l : List Int) (p q : Int) (h : SrcOK l p q) (hp : p < 1099511627000) :
    ∃ s p' q', TT n_spec_l00Src_pick [.one (.ptrB 0 0), .one (.sl .str ls)] [srcO l p q] (eS s) [srcO l p' q'] := by
  obtain ⟨n, p', q', a1, a2, a3, a4⟩ := c_next ls.length l p q h hp
  have hn : n < ls.length := by rcases a1.2 with h | h <;> omega
  exact ⟨_, p', q', r_spec_l00Src_pick ls l p q (ifE_f (by omega) ⟨_, _, _, _, a4, ⟨a1.1, hn⟩, rfl, rfl⟩)⟩
@[reducible] def lineT : List ByteArray := [(⟨#[]⟩ : ByteArray), (⟨#[99, 121, 99, 108, 105, 99]⟩ : ByteArray), (⟨#[99, 121, 99, 108, 105, 99, 32, 53, 32, 54, 32, 48]⟩ : ByteArray), (⟨#[99, 121, 99, 108, 105, 99, 32, 54, 32, 53, 32, 48]⟩ : ByteArray), (⟨#[101, 118, 101, 110, 116, 32, 53, 32, 53, 32, 56, 32, 49, 32, 48]⟩ : ByteArray), (⟨#[101, 118, 101, 110, 116, 32, 53, 32, 53, 32, 48, 32, 49]⟩ : ByteArray), (⟨#[99, 121, 99, 108, 105, 99, 32, 48, 32, 48, 32, 48]⟩ : ByteArray), (⟨#[103, 111, 32, 49, 32, 49, 32, 49]⟩ : ByteArray), (⟨#[101, 118, 101, 110, 116, 32, 53, 32, 48, 53, 32, 48, 32, 49, 32, 48]⟩ : ByteArray), (⟨#[99, 121, 99, 108, 105, 99, 32, 57, 32, 57, 32, 54]⟩ : ByteArray), (⟨#[101, 118, 101, 110, 116, 32, 49, 32, 49, 32, 49, 32, 53, 32, 49]⟩ : ByteArray)]
theorem c_TaskLine (l : List Int) (hl : l.length ≤ 1048576) (hb : ∀ n ∈ l, 0 ≤ n ∧ n ≤ 255) : ∃ s, TT n_spec_TaskLine [.one (.sl u8s l)] [] (eS s) [] := by
  obtain ⟨q0, s1, s2⟩ := c_source l hl hb
  obtain ⟨k, pe, d, pin, qu, r, p1, q1, ⟨a1, _⟩, a2, a3, a4⟩ := c_task 3 (by omega) l 0 q0 s1 (by omega)
  obtain ⟨n, p2, q2, b1, b2, b3, b4⟩ := c_next 8 l p1 q1 a3 (by omega)
  have ht := c_spec_l13Task k pe d pin qu r a1
  have hz := taskB_size k pe d pin qu r
  have key : ∃ s p' q', TT n_spec_l00Src_taskLine [.one (.ptrB 0 0)] [srcO l 0 q0] (eS s) [srcO l p' q'] := by
    by_cases n0 : n = 0
    · refine ⟨_, _, _, r_spec_l00Src_taskLine l 0 q0 ⟨_, _, _, _, _, _, _, _, _, a4, _, ht, _, _, _, _, b4, ifE_t n0 ⟨?_, ?_, rfl, rfl⟩⟩⟩
      · simp only [size_lit, List.length_cons, List.length_nil]; omega
      · simp only [size_append, size_lit, List.length_cons, List.length_nil]; omega
    by_cases n1 : n = 1
    · refine ⟨_, _, _, r_spec_l00Src_taskLine l 0 q0 ⟨_, _, _, _, _, _, _, _, _, a4, _, ht, _, _, _, _, b4, ifE_f n0 (ifE_t n1 ⟨?_, rfl, rfl⟩)⟩⟩
      simp only [size_lit, List.length_cons, List.length_nil]; omega
    by_cases n2 : n = 2
    · obtain ⟨s, p3, q3, c4⟩ := c_pick' lineT (by decide) (by decide) l p2 q2 b3 (by omega)
      exact ⟨_, _, _, r_spec_l00Src_taskLine l 0 q0 ⟨_, _, _, _, _, _, _, _, _, a4, _, ht, _, _, _, _, b4, ifE_f n0 (ifE_f n1 (ifE_t n2 ⟨_, _, _, _, c4, rfl, rfl⟩))⟩⟩
    · exact ⟨_, _, _, r_spec_l00Src_taskLine l 0 q0 ⟨_, _, _, _, _, _, _, _, _, a4, _, ht, _, _, _, _, b4, ifE_f n0 (ifE_f n1 (ifE_f n2 ⟨rfl, rfl⟩))⟩⟩
  obtain ⟨s, p', q', k⟩ := key
  exact ⟨s, r_spec_TaskLine l ⟨_, _, _, s2, _, _, _, _, k, rfl, rfl⟩⟩
theorem c_TaskDrawn' (l : List Int) (hl : l.length ≤ 1048576) (hb : ∀ n ∈ l, 0 ≤ n ∧ n ≤ 255) : ∃ k p d pin q r, taskOK k p d pin q r = true ∧ TT n_spec_TaskDrawn [.one (.sl u8s l)] [] (tsk k p d pin q r) [] := by
  obtain ⟨q0, s1, s2⟩ := c_source l hl hb
  obtain ⟨k, pe, d, pin, qu, r, p1, q1, ⟨a1, _⟩, a2, a3, a4⟩ := c_task 3 (by omega) l 0 q0 s1 (by omega)
  exact ⟨k, pe, d, pin, qu, r, a1, r_spec_TaskDrawn l ⟨_, _, _, s2, _, _, _, _, _, _, _, _, _, a4, rfl, rfl⟩⟩

/-! ### scripts -/
@[reducible] def hexDB : ByteArray := ⟨#[48, 49, 50, 51, 52, 53, 54, 55, 56, 57, 97, 98, 99, 100, 101, 102]⟩
@[reducible] def hexHi (s : ByteArray) : Int := (bytesL hexDB).getD (Int.toNat (wY (Int.tdiv ((bytesL s).getD (Int.toNat 0) 0) 16))) 0
@[reducible] def hexLo (s : ByteArray) : Int := (bytesL hexDB).getD (Int.toNat (Int.tmod ((bytesL s).getD (Int.toNat 0) 0) 16)) 0
theorem c_hex1 (s : ByteArray) (h : s.size = 1) : ∃ r, r.size = 2 ∧ TT n_spec_l01Hex [eS s] [] (eS r) [] := by
  have hb := byte_rng s 0
  have e0 : Int.toNat 0 = 0 := rfl
  have h16 : (⟨#[48, 49, 50, 51, 52, 53, 54, 55, 56, 57, 97, 98, 99, 100, 101, 102]⟩ : ByteArray).size = 16 := rfl
  have f1 : wY (Int.tdiv ((bytesL s).getD 0 0) 16) = (bytesL s).getD 0 0 / 16 := by
    rw [Int.tdiv_eq_ediv_of_nonneg hb.1]; exact u8_id (by omega)
  have f2 : Int.tmod ((bytesL s).getD 0 0) 16 = (bytesL s).getD 0 0 % 16 := Int.tmod_eq_emod_of_nonneg hb.1
  refine ⟨strL [hexHi s, hexLo s], rfl, r_spec_l01Hex s ⟨fun m i r => (i = 0 ∧ r = [] ∧ m = 1) ∨ (i = 1 ∧ m = 0 ∧ r = [hexHi s, hexLo s]), ⟨1, rfl, .inl ⟨rfl, rfl, rfl⟩⟩, ?_⟩⟩
  rintro m i r (⟨rfl, rfl, rfl⟩ | ⟨rfl, rfl, rfl⟩)
  · refine ifP_t (by omega) ⟨⟨by omega, by omega⟩, by decide, ⟨?_, ?_⟩, ⟨by omega, by omega⟩, by decide, ⟨?_, ?_⟩, by simp, 0, by omega, rfl, .inr ⟨rfl, rfl, rfl⟩⟩
    · rw [e0, f1]; omega
    · rw [e0, f1, h16]; omega
    · rw [e0, f2]; omega
    · rw [e0, f2, h16]; omega
  · exact ifP_f (by omega) ⟨rfl, rfl⟩
structure ScS where
  s : ByteArray
  n : Int
  p : Int
  q : Int
@[reducible] def scItem (a : Int) (h : ByteArray) : ByteArray := (((⟨#[32]⟩ : ByteArray) ++ itoaB (1 + a)) ++ (⟨#[58]⟩ : ByteArray)) ++ h
structure ScInv (l : List Int) (m : Nat) (x : ScS) : Prop where
  hm : m = x.n.toNat
  n0 : 0 ≤ x.n
  n4 : x.n ≤ 4
  src : SrcOK l x.p x.q
  hp : x.p ≤ 10 + 10 * (4 - x.n)
  hs : (x.s.size : Int) ≤ 40 * (4 - x.n)
def ScStep (l : List Int) (x y : ScS) : Prop := 0 < x.n ∧ ∃ a b p1 q1 h, (0 ≤ a ∧ a ≤ 39) ∧ (0 ≤ b ∧ b ≤ 7) ∧ h.size = 2 ∧ TT n_spec_l00Src_next [.one (.ptrB 0 0), eI 40] [srcO l x.p x.q] (eI a) [srcO l p1 q1] ∧
  TT n_spec_l00Src_next [.one (.ptrB 0 0), eI 8] [srcO l p1 q1] (eI b) [srcO l y.p y.q] ∧ TT n_spec_l01Hex [eS (strL [wY b])] [] (eS h) [] ∧ y.n = x.n - 1 ∧ y.s = x.s ++ scItem a h
def ScDone (x : ScS) : Prop := x.n = 0
theorem scItem_size (a : Int) (h : ByteArray) (hh : h.size = 2) : (scItem a h).size ≤ 25 := by
  have := itoaB_size (1 + a)
  simp only [size_append, size_lit, List.length_cons, List.length_nil]; omega
theorem sc_go (l : List Int) : ∀ m x, ScInv l m x → ScDone x ∨ ∃ m' y, m' < m ∧ ScInv l m' y ∧ ScStep l x y := by
  rintro m ⟨s, n, p, q⟩ ⟨h1, h2, h3, h4, h5, h6⟩
  simp only at h1 h2 h3 h4 h5 h6
  by_cases hn : n = 0
  · exact .inl hn
  · obtain ⟨a, p1, q1, a1, a2, a3, a4⟩ := c_next 40 l p q h4 (by omega)
    obtain ⟨b, p2, q2, b1, b2, b3, b4⟩ := c_next 8 l p1 q1 a3 (by omega)
    obtain ⟨h, k1, k2⟩ := c_hex1 (strL [wY b]) rfl
    have hz := scItem_size a h k1
    refine .inr ⟨(n - 1).toNat, ⟨s ++ scItem a h, n - 1, p2, q2⟩, by omega, ⟨rfl, by show 0 ≤ n - 1; omega, by show n - 1 ≤ 4; omega, b3, by show p2 ≤ 10 + 10 * (4 - (n - 1)); omega, ?_⟩, by show 0 < n; omega, a, b, p1, q1, h, by omega, by omega, k1, a4, b4, k2, rfl, rfl⟩
    show (((s ++ scItem a h).size : Nat) : Int) ≤ 40 * (4 - (n - 1))
    rw [size_append]; omega
theorem c_ScriptDrawn (l : List Int) (hl : l.length ≤ 1048576) (hb : ∀ n ∈ l, 0 ≤ n ∧ n ≤ 255) : ∃ s, TT n_spec_ScriptDrawn [.one (.sl u8s l)] [] (eS s) [] := by
  obtain ⟨q0, s1, s2⟩ := c_source l hl hb
  obtain ⟨n, p1, q1, a1, a2, a3, a4⟩ := c_next 5 l 0 q0 s1 (by omega)
  have i0 : ScInv l n.toNat ⟨⟨#[]⟩, n, p1, q1⟩ := ⟨rfl, a1.1, by show n ≤ 4; omega, a3, by show p1 ≤ 10 + 10 * (4 - n); omega, by show ((0 : Nat) : Int) ≤ 40 * (4 - n); omega⟩
  obtain ⟨fin, hr⟩ := Runs.go (sc_go l) n.toNat _ i0
  have hs : TT n_spec_l00Src_script [.one (.ptrB 0 0)] [srcO l 0 q0] (eS fin.s) [srcO l fin.p fin.q] := by
    refine r_spec_l00Src_script l 0 q0 ⟨_, _, _, _, a4, fun m s n l' p q => l = l' ∧ Runs (ScInv l) (ScStep l) ScDone m ⟨s, n, p, q⟩ fin, ⟨_, rfl, hr⟩, ?_⟩
    rintro m s n _ p q ⟨rfl, hrun⟩
    cases hrun with
    | done h1 h2 =>
      have h2 : n = 0 := h2
      exact ifP_f (by omega) ⟨rfl, rfl⟩
    | @step _ _ m' y _ h1 hlt hst hrest =>
      obtain ⟨hc, a, b, p1, q1, h, b1, b2, b3, b4, b5, b6, b7, b8⟩ := hst
      have hc : n > 0 := hc
      have hsz : (s.size : Int) ≤ 40 * (4 - n) := h1.hs
      have hn4 : n ≤ 4 := h1.n4
      have hz := itoaB_size (1 + a)
      obtain ⟨ys, yn, yp, yq⟩ := y
      simp only at b5 b7 b8
      subst b7 b8
      refine ifP_t hc ⟨_, _, _, _, b4, ?_⟩
      rw [w64 (x := 1 + a) (by omega), w64 (x := n - 1) (by omega)]
      refine ⟨_, c_spec_l00Digits _ (by unfold i64; omega), ?_, ?_, _, _, _, _, b5, _, b6, ?_, ?_, m', hlt, rfl, hrest⟩
      all_goals (simp only [size_append, size_lit, List.length_cons, List.length_nil]; omega)
  exact ⟨fin.s, r_spec_ScriptDrawn l ⟨_, _, _, s2, _, _, _, _, hs, rfl, rfl⟩⟩

/-! ### the law -/
def TkJ (T : ByteArray) (s : ByteArray) (a : Int) (s' : ByteArray) (b c k p d pi q r k' p' d' pi' q' r' : Int) : Prop := s = T ∧ a = 0 ∧ s' = T ∧ b = 0 ∧ c = 3 ∧ k' = k ∧ p' = p ∧ d' = d ∧ pi' = pi ∧ q' = q ∧ r' = r
theorem c_laws_FnTasks (l1 : List Int) (hw1 : Ty.wf (.slice (.int .u8)) l1) (l2 : List Int) (hw2 : Ty.wf (.slice (.int .u8)) l2) : TT n_laws_FnTasks [.one (.sl u8s l1), .one (.sl u8s l2)] [] (eB true) [] := by
  refine r_laws_FnTasks l1 l2 (ifP (fun _ => ⟨rfl, rfl⟩) (fun g1 => ifP (fun _ => ⟨rfl, rfl⟩) (fun g2 => ?_)))
  obtain ⟨t, ht⟩ := c_TaskLine l1 (by omega) (u8_of hw1)
  obtain ⟨k, p, d, pin, q, r, hk, hx⟩ := c_TaskDrawn' l2 (by omega) (u8_of hw2)
  obtain ⟨u, hu⟩ := c_ScriptDrawn l1 (by omega) (u8_of hw1)
  have hz := taskB_size k p d pin q r
  have tI : TT n_impl_TaskText [tsk k p d pin q r] [] (.tup [(false, [.str (taskB k p d pin q r)]), (false, [cI 0])]) [] := r_impl_TaskText k p d pin q r ⟨_, c_impl_TaskOK k p d pin q r, ifB_f (by rw [hk]; rfl) ⟨_, c_impl_taskText k p d pin q r hk, rfl, rfl⟩⟩
  have tS : TT n_spec_TaskText [tsk k p d pin q r] [] (.tup [(false, [.str (taskB k p d pin q r)]), (false, [cI 0])]) [] := r_spec_TaskText k p d pin q r ⟨_, c_spec_TaskOK k p d pin q r, ifB_f (by rw [hk]; rfl) ⟨_, c_spec_l13Task k p d pin q r hk, rfl, rfl⟩⟩
  have back := c_impl_ReadTask (((⟨#[32]⟩ : ByteArray) ++ taskB k p d pin q r) ++ (⟨#[32, 32]⟩ : ByteArray))
  rw [rtT_back hk] at back
  have more := c_impl_ReadTask (taskB k p d pin q r ++ (⟨#[32, 49]⟩ : ByteArray))
  rw [rtT_more hk] at more
  have sI := c_impl_ReadScript u
  have sS := c_spec_ReadScript u
  have hok := scrT_ok u
  revert sI sS hok
  generalize scrT u = S
  obtain ⟨l, c⟩ := S
  intro sI sS hok
  simp only at hok
  generalize taskB k p d pin q r = T at *
  refine ⟨_, ht, _, _, _, _, _, _, _, c_impl_ReadTask t, _, _, _, _, _, _, _, c_spec_ReadTask t, _, _, _, _, _, _, hx, _, _, tI, _, _, tS, ?_, ?_, _, _, _, _, _, _, _, back, ?_, _, _, _, _, _, _, _, more, _, hu, _, _, sI, _, _, sS,
    ifN_f rfl (ifB_f (by simp) (ifN_f rfl (ifN_f rfl ⟨fun s a s' b c k p d pi q r k' p' d' pi' q' r' => TkJ T s a s' b c k p d pi q r k' p' d' pi' q' r', ⟨fun m s a s' b c i k p d pi q r k' p' d' pi' q' r' x x' => TkJ T s a s' b c k p d pi q r k' p' d' pi' q' r' ∧ x = l ∧ x' = l ∧ 0 ≤ i ∧ i ≤ l.length ∧ m = (l.length - i).toNat, ⟨_, ⟨rfl, rfl, rfl, rfl, rfl, rfl, rfl, rfl, rfl, rfl, rfl⟩, rfl, rfl, by omega, by omega, rfl⟩, ?_⟩, ?_⟩)))⟩
  · simp only [size_lit, List.length_cons, List.length_nil]; omega
  · simp only [size_append, size_lit, List.length_cons, List.length_nil]; omega
  · simp only [size_lit, List.length_cons, List.length_nil]; omega
  · rintro m s a s' b c i k p d pi q r k' p' d' pi' q' r' x x' ⟨hj, rfl, rfl, h0, h1, rfl⟩
    refine ifP (fun hlt => ?_) (fun _ => hj)
    have h8 := ss_at hok (i := i.toNat) (by omega)
    refine ⟨⟨h0, hlt⟩, ifN_f (by rw [h8]; rfl) ⟨fun m s a s' b c i' j k p d pi q r k' p' d' pi' q' r' y y' => TkJ T s a s' b c k p d pi q r k' p' d' pi' q' r' ∧ y = x' ∧ y' = x' ∧ i' = i ∧ 0 ≤ j ∧ j ≤ 8 ∧ m = (8 - j).toNat, ⟨_, hj, rfl, rfl, rfl, by omega, by omega, rfl⟩, ?_⟩⟩
    rintro m s a s' b c i' j k p d pi q r k' p' d' pi' q' r' y y' ⟨hj, rfl, rfl, rfl, j0, j1, rfl⟩
    refine ifP (fun hjt => ?_) (fun _ => ?_)
    · rw [h8, w64 (x := j + 1) (by omega)]
      exact ⟨⟨h0, hlt⟩, ⟨j0, by omega⟩, ⟨h0, hlt⟩, ⟨j0, by omega⟩, ifB_f (by simp) ⟨_, by omega, hj, rfl, rfl, rfl, by omega, by omega, rfl⟩⟩
    · have hl4 := hok.1
      rw [w64 (x := i' + 1) (by omega)]
      exact ⟨_, by omega, hj, rfl, rfl, by omega, by omega, rfl⟩
  · rintro s a s' b c k p d pi q r k' p' d' pi' q' r' ⟨rfl, rfl, rfl, rfl, rfl, rfl, rfl, rfl, rfl, rfl, rfl⟩
    exact ifE_t rfl (ifB_t (by rw [toList_beq]; simp) (ifE_t rfl (ifB_t (by simp) ⟨by simp, rfl⟩)))
end Go.Ry
