/- Frames: what is open at a place, what is on the stack. No condition. -/
import Derived.Test.YthpolfpbioebnaaGreatPPlc1
set_option linter.unusedVariables false
set_option linter.unusedSimpArgs false
namespace Go.Ry
open Go.Proofs

theorem openT_succ {code : List Ins} {pc k : Nat} : openT code pc (k + 1) = openT code pc k ++ (if (insAt code k).1 = 24 ∧ pc ≤ (matchM code k).2.1 then [(insAt code k).2.1] else []) := rfl
theorem c_spec_l07Open (code : List Ins) (pc : Nat) (hl : code.length ≤ 40) (hp : pc ≤ code.length) : TT n_spec_l07Open [.one (.sl tIns code), eI pc] [] (.one (.row 0)) [.row t_int tyInt (openT code pc pc)] := by
  refine r_spec_l07Open code pc ⟨fun m i r => 0 ≤ i ∧ i ≤ pc ∧ m = (pc - i).toNat ∧ r = openT code pc i.toNat, ⟨_, rfl, by omega, by omega, rfl, rfl⟩, ?_⟩
  rintro m i r ⟨h0, h1, rfl, rfl⟩
  have ho := openT_len (code := code) (pc := pc) (k := i.toNat)
  refine ifP (fun hlt => ?_) (fun hge => ?_)
  · have hs := openT_succ (code := code) (pc := pc) (k := i.toNat)
    have hm := c_spec_l04Match code i.toNat (by omega) (by omega)
    rw [Int.toNat_of_nonneg h0] at hm
    rw [w64 (x := i + 1) (by omega)]
    refine ⟨by omega, ifE (fun h24 => ⟨_, _, _, hm, ifP (fun he => ?_) (fun he => ?_)⟩) (fun h24 => ?_)⟩
    · rw [if_pos ⟨h24, by omega⟩] at hs
      exact ⟨by omega, by simp only [List.length_cons, List.length_nil]; omega, _, by omega, rfl, by omega, by omega, rfl, by rw [toNat_succ h0]; exact hs.symm⟩
    · rw [if_neg (fun h => by have := h.2; omega), List.append_nil] at hs
      exact ⟨_, by omega, rfl, by omega, by omega, rfl, by rw [toNat_succ h0]; exact hs.symm⟩
    · rw [if_neg (fun h => h24 h.1), List.append_nil] at hs
      exact ⟨_, by omega, rfl, by omega, by omega, rfl, by rw [toNat_succ h0]; exact hs.symm⟩
  · rw [show i.toNat = pc by omega]; exact ⟨rfl, rfl⟩
theorem c_impl_openAt (code : List Ins) (pc : Nat) (hl : code.length ≤ 40) (hp : pc ≤ code.length) : TT n_impl_openAt [.one (.sl tIns code), eI pc] [] (.one (.row 0)) [.row t_int tyInt (openT code pc pc)] := by
  refine r_impl_openAt code pc ⟨fun m i r => 0 ≤ i ∧ i ≤ pc ∧ m = (pc - i).toNat ∧ r = openT code pc i.toNat, ⟨_, rfl, by omega, by omega, rfl, rfl⟩, ?_⟩
  rintro m i r ⟨h0, h1, rfl, rfl⟩
  have ho := openT_len (code := code) (pc := pc) (k := i.toNat)
  refine ifP (fun hlt => ?_) (fun hge => ?_)
  · have hs := openT_succ (code := code) (pc := pc) (k := i.toNat)
    rw [w64 (x := i + 1) (by omega)]
    refine ⟨by omega, ifN (fun h24 => ?_) (fun h24 => ?_)⟩
    · rw [if_neg (fun h => h24 h.1), List.append_nil] at hs
      exact ⟨_, by omega, rfl, by omega, by omega, rfl, by rw [toNat_succ h0]; exact hs.symm⟩
    · have hm := c_impl_match code i.toNat (by omega) (by omega) (.inr h24)
      rw [Int.toNat_of_nonneg h0] at hm
      refine ⟨_, _, _, hm, ifP (fun he => ?_) (fun he => ?_)⟩
      · rw [if_pos ⟨h24, by omega⟩] at hs
        exact ⟨by omega, by simp only [List.length_cons, List.length_nil]; omega, _, by omega, rfl, by omega, by omega, rfl, by rw [toNat_succ h0]; exact hs.symm⟩
      · rw [if_neg (fun h => by have := h.2; omega), List.append_nil] at hs
        exact ⟨_, by omega, rfl, by omega, by omega, rfl, by rw [toNat_succ h0]; exact hs.symm⟩
  · rw [show i.toNat = pc by omega]; exact ⟨rfl, rfl⟩

/-! ### frames -/
@[reducible] def frmE (f : Frm) : Ent := .agg [cI f.1, cI f.2.1, .sl tyInt f.2.2.1]
theorem loops_f {ls os : List Int} {i : Nat} (hi : i < ls.length) (h : within (ls.getD i 0) 1 (os.getD i 0) = false) : loopsOK ls os = false := by
  rw [← Bool.not_eq_true]
  intro e
  simp only [loopsOK, Bool.and_eq_true, List.all_eq_true, List.mem_range] at e
  rw [e.2 i hi] at h
  exact absurd h (by decide)
theorem loops_t {ls os : List Int} (hl : ls.length = os.length) (h : ∀ j, j < ls.length → within (ls.getD j 0) 1 (os.getD j 0) = true) : loopsOK ls os = true := by
  simp only [loopsOK, Bool.and_eq_true, decide_eq_true_eq, List.all_eq_true, List.mem_range]
  exact ⟨hl, h⟩
theorem loops_n {ls os : List Int} (hl : ls.length ≠ os.length) : loopsOK ls os = false := by simp [loopsOK, hl]
theorem c_spec_l07Frame (rs : List Rou) (f : Frm) (hr : rousFit rs) : TT n_spec_l07Frame [.one (.sl tRou rs), frmE f] [] (eB (frame0 rs f)) [] := by
  obtain ⟨ro, pc, ls, u⟩ := f
  have h6 := hr.1
  refine r_spec_l07Frame rs ro pc ls ⟨_, c_spec_l01In _ _ _, ?_⟩
  rw [w64 (x := (rs.length : Int) - 1) (by omega)]
  refine ifB_cases (fun h => ?_) (fun h => ?_)
  · have h : within ro 0 ((rs.length : Int) - 1) = false := by simpa using h
    exact ⟨by simp [frame0, h], rfl⟩
  have hro : within ro 0 ((rs.length : Int) - 1) = true := by simpa using h
  have hro' := within_iff.1 hro
  have hin : 0 ≤ ro ∧ ro < (rs.length : Int) := by omega
  have hc := hr.at (i := ro.toNat) (by omega)
  refine ⟨hin, _, c_spec_l01In _ _ _, ifB_cases (fun h => ?_) (fun h => ?_)⟩
  · have h : within pc 0 (rs.getD ro.toNat (([] : List Ins), ())).1.length = false := by simpa using h
    exact ⟨by simp only [frame0, h]; simp, rfl⟩
  have hpc : within pc 0 (rs.getD ro.toNat (([] : List Ins), ())).1.length = true := by simpa using h
  have hpc' := within_iff.1 hpc
  have ho := c_spec_l07Open (rs.getD ro.toNat (([] : List Ins), ())).1 pc.toNat hc.1 (by omega)
  rw [Int.toNat_of_nonneg hpc'.1] at ho
  have ho2 := openT_len (code := (rs.getD ro.toNat (([] : List Ins), ())).1) (pc := pc.toNat) (k := pc.toNat)
  have e : frame0 rs (ro, pc, ls, u) = loopsOK ls (openT (rs.getD ro.toNat (([] : List Ins), ())).1 pc.toNat pc.toNat) := by
    unfold frame0
    simp only
    rw [hro, hpc]; rfl
  rw [e]
  have hc40 : (rs.getD ro.toNat (([] : List Ins), ())).1.length ≤ 40 := hc.1
  refine ⟨hin, _, ho, ?_⟩
  revert ho2
  generalize openT (rs.getD ro.toNat (([] : List Ins), ())).1 pc.toNat pc.toNat = os
  intro ho2
  refine ifN (fun hn => ⟨by rw [loops_n (by omega)], rfl⟩) (fun hn => ?_)
  refine ⟨fun m i r => r = os ∧ 0 ≤ i ∧ i ≤ os.length ∧ m = (os.length - i).toNat ∧ ∀ j, j < i.toNat → within (ls.getD j 0) 1 (os.getD j 0) = true, ⟨_, rfl, rfl, by omega, by omega, rfl, fun j hj => by simp at hj⟩, ?_⟩
  rintro m i r ⟨rfl, h0, h1, rfl, h2⟩
  refine ifP (fun hlt => ⟨by omega, ⟨h0, hlt⟩, _, c_spec_l01In _ _ _, ifB_cases (fun hb => ?_) (fun hb => ?_)⟩) (fun hge => ⟨by rw [loops_t (by omega) fun j hj => h2 j (by omega)], rfl⟩)
  · exact ⟨by rw [loops_f (i := i.toNat) (by omega) (by simpa using hb)], rfl⟩
  · rw [w64 (x := i + 1) (by omega)]
    refine ⟨_, by omega, rfl, rfl, by omega, by omega, rfl, fun j hj => ?_⟩
    rcases Nat.lt_or_ge j i.toNat with h8 | h8
    · exact h2 j h8
    · rw [show j = i.toNat by omega]; simpa using hb
theorem c_impl_frameOK (rs : List Rou) (f : Frm) (last : Bool) (hr : rousFit rs) (hls : f.2.2.1.length ≤ 1048576) : TT n_impl_frameOK [.one (.sl tRou rs), frmE f, eB last] [] (eB (frameM rs f last)) [] := by
  obtain ⟨ro, pc, ls, u⟩ := f
  have hls : ls.length ≤ 1048576 := hls
  have h6 := hr.1
  refine r_impl_frameOK rs ro pc ls last ⟨_, c_impl_within _ _ _, ?_⟩
  rw [w64 (x := (rs.length : Int) - 1) (by omega)]
  refine ifB_cases (fun h => ?_) (fun h => ?_)
  · have h : within ro 0 ((rs.length : Int) - 1) = false := by simpa using h
    exact ⟨by simp [frameM, frame0, h], rfl⟩
  have hro : within ro 0 ((rs.length : Int) - 1) = true := by simpa using h
  have hro' := within_iff.1 hro
  have hin : 0 ≤ ro ∧ ro < (rs.length : Int) := by omega
  have hc := hr.at (i := ro.toNat) (by omega)
  refine ⟨hin, within pc 0 (rs.getD ro.toNat (([] : List Ins), ())).1.length = true ∧ ¬ (last = true ∧ pc = ((rs.getD ro.toNat (([] : List Ins), ())).1.length : Int)), ⟨_, c_impl_within _ _ _, ifB_cases (fun h => ?_) (fun h => ?_)⟩, fun hJ => ?_⟩
  · have h : within pc 0 (rs.getD ro.toNat (([] : List Ins), ())).1.length = false := by simpa using h
    exact ⟨by simp only [frameM, frame0, h]; simp, rfl⟩
  · have h : within pc 0 (rs.getD ro.toNat (([] : List Ins), ())).1.length = true := by simpa using h
    refine ifB_cases (fun hb => ifE (fun he => ?_) (fun he => ⟨rfl, rfl, h, fun hx => he hx.2⟩)) (fun hb => ⟨rfl, rfl, h, fun hx => by rw [hx.1] at hb; simp at hb⟩)
    exact ⟨by simp only [frameM]; rw [hb, decide_eq_true he]; simp, rfl⟩
  obtain ⟨hpc, hnl⟩ := hJ
  have hpc' := within_iff.1 hpc
  have ho := c_impl_openAt (rs.getD ro.toNat (([] : List Ins), ())).1 pc.toNat hc.1 (by omega)
  rw [Int.toNat_of_nonneg hpc'.1] at ho
  have ho2 := openT_len (code := (rs.getD ro.toNat (([] : List Ins), ())).1) (pc := pc.toNat) (k := pc.toNat)
  have e : frameM rs (ro, pc, ls, u) last = loopsOK ls (openT (rs.getD ro.toNat (([] : List Ins), ())).1 pc.toNat pc.toNat) := by
    have g : (last && decide (pc = ((rs.getD ro.toNat (([] : List Ins), ())).1.length : Int))) = false := by
      rw [← Bool.not_eq_true, Bool.and_eq_true, decide_eq_true_eq]; exact hnl
    unfold frameM frame0
    simp only
    rw [hro, hpc, g]; simp
  rw [e]
  have hc40 : (rs.getD ro.toNat (([] : List Ins), ())).1.length ≤ 40 := hc.1
  refine ⟨_, ho, ?_⟩
  revert ho2
  generalize openT (rs.getD ro.toNat (([] : List Ins), ())).1 pc.toNat pc.toNat = os
  intro ho2
  refine ifN (fun hn => ⟨by rw [loops_n (by omega)], rfl⟩) (fun hn => ?_)
  refine ⟨fun m i r => r = os ∧ 0 ≤ i ∧ i ≤ ls.length ∧ m = (ls.length - i).toNat ∧ ∀ j, j < i.toNat → within (ls.getD j 0) 1 (os.getD j 0) = true, ⟨_, rfl, rfl, by omega, by omega, rfl, fun j hj => by simp at hj⟩, ?_⟩
  rintro m i r ⟨rfl, h0, h1, rfl, h2⟩
  refine ifP (fun hlt => ⟨⟨h0, hlt⟩, by omega, _, c_impl_within _ _ _, ifB_cases (fun hb => ?_) (fun hb => ?_)⟩) (fun hge => ⟨by rw [loops_t (by omega) fun j hj => h2 j (by omega)], rfl⟩)
  · exact ⟨by rw [loops_f (i := i.toNat) (by omega) (by simpa using hb)], rfl⟩
  · rw [w64 (x := i + 1) (by omega)]
    refine ⟨_, by omega, rfl, rfl, by omega, by omega, rfl, fun j hj => ?_⟩
    rcases Nat.lt_or_ge j i.toNat with h8 | h8
    · exact h2 j h8
    · rw [show j = i.toNat by omega]; simpa using hb

/-! ### routines that the verifier has accepted -/
structure Verd (ks : List Int) (rs : List Rou) : Prop where
  hk : kindsOK ks = true
  hr : rousOK rs = true
  ver : ∀ i : Nat, i < rs.length → (verM ks i (rs.getD i (([] : List Ins), ())).1).2 = 0
theorem PrgFit.verd {ks : List Int} {rs : List Rou} {ts : List Tsk} {sf : List Bool} (h : PrgFit ks rs ts sf) : Verd ks rs := by
  refine ⟨h.hk, h.hr, fun i hi => ?_⟩
  have := verAllM_ok h.ver i (rs.getD i (([] : List Ins), ())) (by rw [List.getD_eq_getElem?_getD, List.getElem?_eq_getElem hi]; rfl)
  rwa [Int.zero_add] at this
theorem tyAt_size {ks : List Int} {rs : List Rou} {f : Frm} (h : Verd ks rs) (hf : 0 ≤ f.1 ∧ f.1 < rs.length) : (tyAt ks rs f).size ≤ 8 := by
  have hv := h.ver f.1.toNat (by omega)
  rw [Int.toNat_of_nonneg hf.1] at hv
  unfold tyAt
  rw [List.getD_eq_getElem?_getD]
  cases hx : (trS ks f.1 (rs.getD f.1.toNat (([] : List Ins), ())).1 0 e0 [])[f.2.1.toNat]? with
  | none => exact Nat.zero_le _
  | some s => exact trS_size Open.nil hv s (List.mem_of_getElem? hx)
theorem trS_zero {ks : List Int} {n : Int} {l : List Ins} {i : Int} {s : ByteArray} {o : List OS} : (trS ks n l i s o).getD 0 e0 = s := by cases l <;> rfl
theorem c_spec_l04Ask (code : List Ins) (ks : List Int) (n : Int) (hc : codeOK code = true) (hk : kindsOK ks = true) (hn : 0 ≤ n ∧ n ≤ 6) : TT n_spec_l04Ask [.one (.sl tIns code), .one (.sl tyInt ks), eI n] [] (eI 0) [] := by
  have h40 := (codeOK_fit hc).1
  have h8 := (kindsOK_in hk).1
  have hall : code.all insOK = true := by simp only [codeOK, Bool.and_eq_true] at hc; exact hc.2
  have k1 := c_spec_l04Kinds ks (by omega)
  have k2 := c_spec_l02All code (by omega)
  rw [hk] at k1
  rw [hall] at k2
  exact r_spec_l04Ask code ks n (ifP_f (by omega) (ifP_f (by omega) (ifP_f (by omega) ⟨_, k1, ifB_f rfl ⟨_, k2, ifB_f rfl ⟨_, c_spec_l01In n 0 6, ifB_f (by rw [within_iff.2 hn]; rfl) ⟨rfl, rfl⟩⟩⟩⟩)))
theorem c_spec_StackAt (ks : List Int) (rs : List Rou) (f : Frm) (h : Verd ks rs) (hf : 0 ≤ f.1 ∧ f.1 < rs.length) (hp : 0 ≤ f.2.1 ∧ f.2.1 ≤ (rs.getD f.1.toNat (([] : List Ins), ())).1.length) :
    TT n_spec_StackAt [.one (.sl tIns (rs.getD f.1.toNat (([] : List Ins), ())).1), .one (.sl tyInt ks), eI f.1, eI f.2.1] [] (.tup [(false, [.str (tyAt ks rs f)]), (false, [cI 0])]) [] := by
  have hv := h.ver f.1.toNat (by omega)
  rw [Int.toNat_of_nonneg hf.1] at hv
  have hr := rousOK_fit h.hr
  have hc := hr.at (i := f.1.toNat) (by omega)
  have h6 := hr.1
  have hk := kindsOK_in h.hk
  have h8 := hk.1
  have hco : codeOK (rs.getD f.1.toNat (([] : List Ins), ())).1 = true := by
    have := h.hr
    simp only [rousOK, Bool.and_eq_true, List.all_eq_true] at this
    exact this.2 _ (by rw [List.getD_eq_getElem?_getD, List.getElem?_eq_getElem (by omega)]; exact List.getElem_mem _)
  have hty : tyAt ks rs f = (trS ks f.1 (rs.getD f.1.toNat (([] : List Ins), ())).1 0 e0 []).getD f.2.1.toNat e0 := rfl
  rw [hty]
  revert hp hv hc hco
  generalize (rs.getD f.1.toNat (([] : List Ins), ())).1 = code
  intro hp hv hc hco
  have h40 := hc.1
  have va := c_spec_verify code ks f.1 hc hk
  have e1 : wI 0 = 0 := by decide
  refine r_spec_StackAt code ks f.1 f.2.1 (ifP_f (by omega) (ifP_f (by omega) ⟨_, c_spec_l04Ask code ks f.1 hco h.hk (by omega), ifN_f rfl ⟨_, _, va, ifN_f hv ⟨_, c_spec_l01In _ _ _, ifB_f (by rw [within_iff.2 hp]; rfl) ?_⟩⟩⟩))
  refine ⟨fun m i s o => 0 ≤ i ∧ i ≤ f.2.1 ∧ m = (f.2.1 - i).toNat ∧ Open s o ∧ (verS ks f.1 (code.drop i.toNat) i s o).2 = 0 ∧ (trS ks f.1 code 0 e0 []).getD f.2.1.toNat e0 = (trS ks f.1 (code.drop i.toNat) i s o).getD (f.2.1.toNat - i.toNat) e0,
    ⟨_, rfl, by omega, by omega, rfl, Open.nil, hv, rfl⟩, ?_⟩
  rintro m i s o ⟨h0, h1, rfl, hop, hve, htr⟩
  refine ifP (fun hlt => ?_) (fun hge => ?_)
  · refine ⟨by omega, _, _, _, c_spec_step i _ _ ks f.1 s o hop.len hop.size hop.floor hk (hc.at (by omega)), ?_⟩
    have hi : i.toNat < code.length := by omega
    rw [drop_getD hi ((0 : Int), ((0 : Int), ()))] at hve htr
    rw [verS_cons] at hve
    obtain ⟨k1, k2⟩ := step_rel (at_ := i) (op := (code.getD i.toNat ((0 : Int), ((0 : Int), ()))).1) (a := (code.getD i.toNat ((0 : Int), ((0 : Int), ()))).2.1) (ks := ks) (n := f.1) hop
    by_cases hz : (stepS i (code.getD i.toNat ((0 : Int), ((0 : Int), ()))).1 (code.getD i.toNat ((0 : Int), ((0 : Int), ()))).2.1 ks f.1 s o).1 = 0
    · rw [if_neg (fun e => e hz)] at hve
      obtain ⟨_, _, e3⟩ := k2 hz
      rw [w64 (x := i + 1) (by omega)]
      refine ⟨_, by omega, rfl, by omega, by omega, rfl, e3, by rw [toNat_succ h0]; exact hve, ?_⟩
      rw [htr, toNat_succ h0, show f.2.1.toNat - i.toNat = (f.2.1.toNat - (i.toNat + 1)) + 1 by omega]
      rfl
    · rw [if_pos hz] at hve; exact absurd hve hz
  · rw [show f.2.1.toNat - i.toNat = 0 by omega, trS_zero] at htr
    rw [htr]; exact ⟨rfl, rfl⟩
end Go.Ry
