/- The lines of bounds. No condition. -/
import Derived.Test.YtkgefledbigklaaGreatDoorPAdm1
import Derived.Test.YtkgefledbigklaaGreatDoorPTxt1
import Derived.Test.YtkgefledbigklaaGreatDoorPTxt2
import Derived.Test.YtkgefledbigklaaGreatDoorPMkNest
set_option linter.unusedVariables false
set_option linter.unusedSimpArgs false
namespace Go.Ry
open Go.Proofs

/-! ### the numbers of bounds are small -/
def qB (y : Bd) : Prop := (0 ≤ y.1 ∧ y.1 ≤ 2147483647) ∧ (-1 ≤ y.2.1 ∧ y.2.1 ≤ 2147483647) ∧ (0 ≤ y.2.2.1 ∧ y.2.2.1 ≤ 2147483647)
theorem blkL_q : ∀ {l : List Bd}, (∀ y ∈ l, qB y) → ∀ y ∈ blkL l, qB y
  | [], _, y, hy => by simp [blkL] at hy
  | x :: l, h, y, hy => by
    have hx := h x (by simp)
    have hl : ∀ y ∈ l, qB y := fun y hy => h y (List.mem_cons_of_mem _ hy)
    simp only [blkL, List.mem_cons] at hy
    rcases hy with rfl | hy
    · refine ⟨hx.1, hx.2.1, ?_⟩
      exact accB_range (fun k hk => (hl (l.getD k dBd) (getD_mem hk)).2.1.2) hx.2.2.1 hx.2.2.2
    · exact blkL_q hl y hy
theorem bndG_q : ∀ {l : List Bd} {ts : List Tsk} {cs ps : List Int} {acc : List Bd} {i : Int}, (∀ y ∈ l, qB y) → (∀ y ∈ acc, qB y) → ∀ y ∈ (bndG l ts cs ps acc i).1, qB y
  | [], ts, cs, ps, acc, i, _, ha => by
    have e : bndG [] ts cs ps acc i = (acc, 0, true) := by simp [bndG]
    rw [e]; exact ha
  | x :: l, [], cs, ps, acc, i, _, ha => by
    have e : bndG (x :: l) [] cs ps acc i = (acc, 0, true) := by simp [bndG]
    rw [e]; exact ha
  | x :: l, t :: ts, cs, ps, acc, i, h, ha => by
    rw [bndG_cons]
    split
    · refine bndG_q (fun y hy => h y (List.mem_cons_of_mem _ hy)) (fun y hy => ?_)
      rcases List.mem_append.1 hy with hy | hy
      · exact ha y hy
      · simp only [List.mem_singleton] at hy
        subst hy
        exact h x (by simp)
    · intro y hy; simp at hy
theorem bnd_i64 {ks : List Int} {rs : List Rou} {ts : List Tsk} {sf : List Bool} (hf : PrgFit ks rs ts sf) : ∀ y ∈ (bndM (costsM rs) ts).1, i64 y.1 ∧ i64 y.2.1 ∧ i64 y.2.2.1 ∧ i64 y.2.2.2.1 := by
  obtain ⟨c1, c2⟩ := costs_all hf.rous
  have hraw := raw_ok hf c1 c2
  have hq : ∀ y ∈ rawL (costsM rs) ts, qB y := by
    intro y hy
    obtain ⟨k, hk, rfl⟩ := List.getElem_of_mem hy
    have e : (rawL (costsM rs) ts).getD k dBd = (rawL (costsM rs) ts)[k] := by rw [List.getD_eq_getElem?_getD, List.getElem?_eq_getElem hk]; rfl
    have h1 := hraw.hc k hk
    have h2 := hraw.hl k hk
    rw [e] at h1 h2
    refine ⟨h1, h2, ?_⟩
    have hk' : k < ts.length := by rwa [rawL_len] at hk
    rw [← e, rawL_at hk']
    show (0 : Int) ≤ 0 ∧ (0 : Int) ≤ 2147483647
    omega
  intro y hy
  cases hb : (bndM (costsM rs) ts).2.2
  · rw [bndM_fail hb] at hy; simp at hy
  · have h4 := (bndM_ok hb).2 y hy
    have h3 : qB y := by
      unfold bndM at hy
      split at hy
      · simp at hy
      · exact bndG_q (blkL_q hq) (fun y hy => by simp at hy) y hy
    obtain ⟨q1, q2, q3⟩ := h3
    unfold okB at h4
    refine ⟨?_, ?_, ?_, ?_⟩ <;> (unfold i64; omega)

/-! ### the lines -/
def bndT (y : Bd) : ByteArray :=
  (((((((⟨#[99, 111, 115, 116, 32]⟩ : ByteArray) ++ itoaB y.1) ++ (⟨#[32, 108, 111, 110, 103, 101, 115, 116, 32]⟩ : ByteArray)) ++ itoaB y.2.1) ++ (⟨#[32, 98, 108, 111, 99, 107, 105, 110, 103, 32]⟩ : ByteArray)) ++ itoaB y.2.2.1) ++ (⟨#[32, 98, 111, 117, 110, 100, 32]⟩ : ByteArray)) ++ itoaB y.2.2.2.1
@[reducible] def bd64 (y : Bd) : Prop := i64 y.1 ∧ i64 y.2.1 ∧ i64 y.2.2.1 ∧ i64 y.2.2.2.1
theorem c_spec_l13Bounds (l : List Bd) (hl : l.length ≤ 4096) (hw : ∀ x ∈ l, bd64 x) : TT n_spec_l13Bounds [.one (.sl tBd l)] [] (.one (.row 0)) [.row t_string .str (l.map bndT)] := by
  refine r_spec_l13Bounds l ⟨fun m i r => 0 ≤ i ∧ i ≤ l.length ∧ m = (l.length - i).toNat ∧ r = (l.take i.toNat).map bndT, ⟨_, rfl, by omega, by omega, rfl, by simp⟩, ?_⟩
  rintro m i r ⟨h0, h1, rfl, rfl⟩
  refine ifP (fun hlt => ?_) (fun hge => ?_)
  · have hx := hw (l.getD i.toNat dBd) (getD_mem (by omega))
    have ht := take_succ_getD (l := l) (i := i.toNat) (by omega) dBd
    revert hx ht
    generalize l.getD i.toNat dBd = x
    intro hx ht
    have s1 := itoaB_size x.1; have s2 := itoaB_size x.2.1; have s3 := itoaB_size x.2.2.1; have s4 := itoaB_size x.2.2.2.1
    rw [w64 (x := i + 1) (by omega)]
    refine ⟨⟨h0, hlt⟩, _, c_spec_l00Digits _ hx.1, ?_, ?_, _, c_spec_l00Digits _ hx.2.1, ?_, ?_, _, c_spec_l00Digits _ hx.2.2.1, ?_, ?_, _, c_spec_l00Digits _ hx.2.2.2, ?_, ?_, _, ?_, rfl, by omega, by omega, rfl, ?_⟩
    case refine_10 => rw [toNat_succ h0, ht, List.map_append]; rfl
    case refine_8 => simp only [List.length_map, List.length_take, List.length_cons, List.length_nil]; omega
    case refine_9 => omega
    all_goals (simp only [size_append, size_lit, List.length_cons, List.length_nil]; omega)
  · rw [List.take_of_length_le (by omega)]; exact ⟨rfl, rfl⟩
def bndLM (ks : List Int) (rs : List Rou) (ts : List Tsk) (sf : List Bool) : List ByteArray × Int := if (boundsM ks rs ts sf).2 = 0 then ((boundsM ks rs ts sf).1.map bndT, 0) else ([], (boundsM ks rs ts sf).2)
theorem bounds_i64 {ks : List Int} {rs : List Rou} {ts : List Tsk} {sf : List Bool} : ∀ y ∈ (boundsM ks rs ts sf).1, bd64 y := by
  unfold boundsM
  split
  · rename_i h; exact bnd_i64 (prgOK_fit h)
  · intro y hy; simp at hy
theorem c_impl_BoundLines (ks : List Int) (rs : List Rou) (ts : List Tsk) (sf : List Bool) (h : prgSmall ks rs ts sf) : TT n_impl_BoundLines [prgE ks rs ts sf] [] (.tup [(false, [.row 0]), (false, [cI (bndLM ks rs ts sf).2])]) [.row t_string .str (bndLM ks rs ts sf).1] := by
  have hb := c_impl_BoundsOf ks rs ts sf h
  have hw := bounds_i64 (ks := ks) (rs := rs) (ts := ts) (sf := sf)
  have hl := boundsM_len (ks := ks) (rs := rs) (ts := ts) (sf := sf)
  have e : bndLM ks rs ts sf = if (boundsM ks rs ts sf).2 = 0 then ((boundsM ks rs ts sf).1.map bndT, 0) else ([], (boundsM ks rs ts sf).2) := rfl
  rw [e]
  clear e
  revert hb hw hl
  generalize boundsM ks rs ts sf = B
  obtain ⟨l, c⟩ := B
  intro hb hw hl
  simp only at hb hw hl
  refine r_impl_BoundLines ks rs ts sf ⟨_, _, hb, ifN (fun hc => ⟨by rw [if_neg hc], by rw [if_neg hc]⟩) (fun hc => ?_)⟩
  rw [if_pos hc]
  refine ⟨fun m n i r s => n = l.length ∧ s = l ∧ 0 ≤ i ∧ i ≤ l.length ∧ m = (l.length - i).toNat ∧ r = (l.take i.toNat).map bndT, ⟨_, rfl, rfl, by omega, by omega, rfl, by simp⟩, ?_⟩
  rintro m n i r s ⟨rfl, rfl, h0, h1, rfl, rfl⟩
  refine ifP (fun hlt => ?_) (fun hge => ?_)
  · have hx := hw (s.getD i.toNat dBd) (getD_mem (by omega))
    have ht := take_succ_getD (l := s) (i := i.toNat) (by omega) dBd
    revert hx ht
    generalize s.getD i.toNat dBd = x
    intro hx ht
    have s1 := itoaB_size x.1; have s2 := itoaB_size x.2.1; have s3 := itoaB_size x.2.2.1; have s4 := itoaB_size x.2.2.2.1
    rw [w64 (x := i + 1) (by omega)]
    refine ⟨⟨h0, hlt⟩, _, c_impl_decimal _ hx.1, ?_, ?_, _, c_impl_decimal _ hx.2.1, ?_, ?_, _, c_impl_decimal _ hx.2.2.1, ?_, ?_, _, c_impl_decimal _ hx.2.2.2, ?_, ?_, _, ?_, rfl, rfl, by omega, by omega, rfl, ?_⟩
    case refine_10 => rw [toNat_succ h0, ht, List.map_append]; rfl
    case refine_8 => simp only [List.length_map, List.length_take, List.length_cons, List.length_nil]; omega
    case refine_9 => omega
    all_goals (simp only [size_append, size_lit, List.length_cons, List.length_nil]; omega)
  · rw [List.take_of_length_le (by omega)]; exact ⟨rfl, rfl⟩
theorem c_spec_BoundLines (ks : List Int) (rs : List Rou) (ts : List Tsk) (sf : List Bool) (h : prgSmall ks rs ts sf) : TT n_spec_BoundLines [prgE ks rs ts sf] [] (.tup [(false, [.row 0]), (false, [cI (bndLM ks rs ts sf).2])]) [.row t_string .str (bndLM ks rs ts sf).1] := by
  refine r_spec_BoundLines ks rs ts sf ⟨_, c_spec_l08OK ks rs ts sf h, ifB_cases (fun h1 => ?_) (fun h1 => ?_)⟩
  · have h1 : prgOK ks rs ts sf = false := by simpa using h1
    have e : boundsM ks rs ts sf = ([], 1) := by unfold boundsM; rw [if_neg (by simp [h1])]
    have e2 : bndLM ks rs ts sf = ([], 1) := by unfold bndLM; rw [e]; rfl
    rw [e2]; exact ⟨rfl, rfl⟩
  have h1 : prgOK ks rs ts sf = true := by simpa using h1
  have hf := prgOK_fit h1
  have e : boundsM ks rs ts sf = ((bndM (costsM rs) ts).1, codeB (bndM (costsM rs) ts).2.2) := by unfold boundsM; rw [if_pos h1]
  have hw := bnd_i64 hf
  have hl : (bndM (costsM rs) ts).1.length ≤ 5 := by have := bndM_len (cs := costsM rs) (ts := ts); have := hf.ts5; omega
  refine ⟨_, _, _, c_spec_l09Bounds ks rs ts sf hf, ifB_cases (fun hb => ?_) (fun hb => ?_)⟩
  · have hb : (bndM (costsM rs) ts).2.2 = false := by simpa using hb
    have e2 : bndLM ks rs ts sf = ([], 18) := by unfold bndLM; rw [e, hb]; rfl
    rw [e2]; exact ⟨rfl, rfl⟩
  · have hb : (bndM (costsM rs) ts).2.2 = true := by simpa using hb
    have e2 : bndLM ks rs ts sf = ((bndM (costsM rs) ts).1.map bndT, 0) := by unfold bndLM; rw [e, hb]; rfl
    rw [e2]
    exact ⟨_, c_spec_l13Bounds _ (by omega) hw, rfl, rfl⟩
theorem bndLM_len {ks : List Int} {rs : List Rou} {ts : List Tsk} {sf : List Bool} : (bndLM ks rs ts sf).1.length ≤ 5 := by
  unfold bndLM
  split
  · simp only [List.length_map]; exact boundsM_len
  · simp
theorem c_laws_FnExactBoundLines (p : List Int × List Rou × List Tsk × List Bool × Unit) (hw : Ty.wf (.pair (.slice (.int .i64)) (.pair (.slice tRou) (.pair (.slice tTsk) (.pair (.slice .bool) .unit)))) p) :
    TT n_laws_FnExactBoundLines [prgE p.1 p.2.1 p.2.2.1 p.2.2.2.1] [] (eB true) [] := by
  obtain ⟨ks, rs, ts, sf, ⟨⟩⟩ := p
  refine r_laws_FnExactBoundLines ks rs ts sf ⟨_, c_sz_Program (ks, (rs, (ts, (sf, ())))) 1048576 hw (by omega), ifP (fun _ => ⟨rfl, rfl⟩) (fun h0 => ?_)⟩
  have hs := (sz_Program_ok (l := (ks, (rs, (ts, (sf, ()))))) (n := 1048576) (by omega)).2 (by omega)
  have hp : prgSmall ks rs ts sf := ⟨hs.1, hs.2.1, hs.2.2.1, hs.2.2.2⟩
  have t := c_to_Program (ks, (rs, (ts, (sf, ())))) hs
  have ci := c_impl_BoundLines ks rs ts sf hp
  have cs := c_spec_BoundLines ks rs ts sf hp
  have hl := bndLM_len (ks := ks) (rs := rs) (ts := ts) (sf := sf)
  generalize bndLM ks rs ts sf = B at *
  have te := c_eq_StringS B.1 (by omega)
  have th := c_held_StringS B.1 (by omega) 1 (by omega)
  have tk := c_mark_StringS B.1 (by omega) 1 (by omega)
  obtain ⟨k, ks', rs', ts', sf', k0, k1, hm⟩ := c_mark_Program (ks, (rs, (ts, (sf, ())))) hs
  exact ⟨_, _, _, _, t, _, _, cs, _, _, _, _, t, _, _, ci, _, te, ifB_f rfl (ifN_f rfl ⟨_, _, _, _, t, _, c_eq_Program (ks, (rs, (ts, (sf, ())))) hs, ifB_f rfl ⟨_, _, _, _, _, hm, ifP_f (by omega) ⟨_, te, ifB_f rfl (ifN_f rfl
    ⟨_, _, tk, _, th, ifP_f (by omega) (ifN_f rfl ⟨_, _, _, _, t, _, _, ci, _, te, ifB_f rfl (ifN_f rfl ⟨_, th, ifP_f (by omega) (ifN_f rfl ⟨rfl, rfl⟩)⟩)⟩)⟩)⟩⟩⟩)⟩
end Go.Ry
