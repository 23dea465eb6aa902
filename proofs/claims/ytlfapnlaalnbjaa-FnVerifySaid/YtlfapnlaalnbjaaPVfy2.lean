/- Which routines a code calls; the law on the verifier. No condition. -/
import Derived.Test.YtlfapnlaalnbjaaPVfy1
import Derived.Test.YtlfapnlaalnbjaaPSrt2
set_option linter.unusedVariables false
set_option linter.unusedSimpArgs false
namespace Go.Ry
open Go.Proofs

def callsL (l : List Ins) : List Int := (l.filter fun x => x.1 == 26).map fun x => x.2.1
theorem callsL_snoc (l : List Ins) (x : Ins) : callsL (l ++ [x]) = callsL l ++ (if x.1 == 26 then [x.2.1] else []) := by
  unfold callsL
  rw [List.filter_append, List.map_append]
  congr 1
  by_cases h : (x.1 == 26) = true
  · rw [if_pos h]; simp only [List.filter_cons, h, if_true, List.filter_nil, List.map_cons, List.map_nil]
  · rw [if_neg h]; simp only [List.filter_cons, h, if_false, List.filter_nil, List.map_nil, Bool.false_eq_true]
theorem callsL_len (l : List Ins) : (callsL l).length ≤ l.length := by
  unfold callsL
  rw [List.length_map]; exact List.length_filter_le _ _
def riseL (l : List Ins) (k : Nat) : List Int := ((List.range k).map fun i : Nat => (i : Int)).filter fun v => decide (v ∈ callsL l)
theorem riseL_succ (l : List Ins) (k : Nat) : riseL l (k + 1) = riseL l k ++ (if (k : Int) ∈ callsL l then [(k : Int)] else []) := by
  unfold riseL
  rw [List.range_succ, List.map_append, List.filter_append]
  congr 1
  by_cases h : (k : Int) ∈ callsL l <;> simp [h]
theorem riseL_lt (l : List Ins) (k : Nat) : ∀ v ∈ riseL l k, v < k := by
  intro v hv
  obtain ⟨hv, _⟩ := List.mem_filter.1 hv
  obtain ⟨i, hi, rfl⟩ := List.mem_map.1 hv
  have := List.mem_range.1 hi
  omega
theorem riseL_len (l : List Ins) (k : Nat) : (riseL l k).length ≤ k := by
  unfold riseL
  refine Nat.le_trans (List.length_filter_le _ _) ?_
  simp
theorem calls_rng {l : List Ins} (h : l.all insOK = true) : ∀ v ∈ callsL l, 0 ≤ v ∧ v < (6 : Nat) := by
  intro v hv
  obtain ⟨x, hx, rfl⟩ := List.mem_map.1 hv
  obtain ⟨hx, h26⟩ := List.mem_filter.1 hx
  have h26 : x.1 = 26 := by simpa using h26
  have := List.all_eq_true.1 h x hx
  simp only [insOK, instrOK, Bool.and_eq_true] at this
  have h2 := within_iff.1 this.2
  rw [h26] at h2
  have e : rangeOf 26 = (0, 5, true) := rfl
  rw [e] at h2
  simp only at h2
  omega
theorem calls_comp {l : List Ins} (h : l.all insOK = true) : Lib.compact (sortI (callsL l)) = riseL l 6 := compact_merge (callsL l) 6 (calls_rng h)
theorem c_impl_callsOf (l : List Ins) (hl : l.length ≤ 40) : TT n_impl_callsOf [.one (.sl tIns l)] [] (.one (.win 0 0 (Lib.compact (sortI (callsL l))).length)) [.row t_int tyInt (compI (sortI (callsL l)))] := by
  refine r_impl_callsOf l ⟨fun m i r => 0 ≤ i ∧ i ≤ l.length ∧ m = (l.length - i).toNat ∧ r = callsL (l.take i.toNat), ⟨_, rfl, by omega, by omega, rfl, rfl⟩, ?_⟩
  rintro m i r ⟨h0, h1, rfl, rfl⟩
  refine ifP (fun hlt => ?_) (fun hge => ?_)
  · have htk := take_succ_getD (l := l) (i := i.toNat) (by omega) ((0 : Int), ((0 : Int), ()))
    have hs := callsL_snoc (l.take i.toNat) (l.getD i.toNat ((0 : Int), ((0 : Int), ())))
    rw [← htk] at hs
    have hcl := callsL_len (l.take i.toNat)
    rw [List.length_take] at hcl
    rw [w64 (x := i + 1) (by omega)]
    refine ⟨⟨h0, hlt⟩, ifE (fun e => ?_) (fun e => ?_)⟩
    · refine ⟨by simp only [List.length_cons, List.length_nil]; omega, _, ?_, rfl, by omega, by omega, rfl, ?_⟩
      · omega
      · rw [toNat_succ h0, hs, if_pos (by simpa using e)]
    · refine ⟨_, ?_, rfl, by omega, by omega, rfl, ?_⟩
      · omega
      · rw [toNat_succ h0, hs, if_neg (by simpa using e), List.append_nil]
  · rw [List.take_of_length_le (by omega)]
    have hcl := callsL_len l
    have hsl := sortI_len (callsL l)
    exact ⟨_, c_Sort (callsL l) (by omega), 0, _, _, c_Compact (sortI (callsL l)) (by omega), rfl, rfl⟩
theorem c_impl_CallsOf (l : List Ins) (hc : codeOK l = true) : TT n_impl_CallsOf [.one (.sl tIns l)] [] (.tup [(false, [.win 0 0 (Lib.compact (sortI (callsL l))).length]), (false, [cI 0])]) [.row t_int tyInt (compI (sortI (callsL l)))] := by
  have hl := codeOK_len hc
  have ha := c_impl_all_impl_Instr l (by omega)
  rw [← codeOK_all hl, hc] at ha
  refine r_impl_CallsOf l ⟨_, c_many_Ins l (by omega), _, c_impl_when _ _, _, ha, _, c_impl_when _ _, _, c_impl_first _ (by simp), ?_⟩
  have h40 : decide ((l.length : Int) > 40) = false := decide_eq_false (by omega)
  rw [h40]
  exact ifN_f rfl ⟨0, _, _, c_impl_callsOf l hl, rfl, rfl⟩
theorem c_spec_CallsOf (l : List Ins) (hc : codeOK l = true) : TT n_spec_CallsOf [.one (.sl tIns l)] [] (.tup [(false, [.row 0]), (false, [cI 0])]) [.row t_int tyInt (riseL l 6)] := by
  have hl := codeOK_len hc
  have ha := c_spec_l02All l (by omega)
  rw [← codeOK_all hl, hc] at ha
  refine r_spec_CallsOf l (ifP_f (by omega) (ifP_f (by omega) ⟨_, ha, ifB_f rfl ⟨fun m n r => 0 ≤ n ∧ n ≤ 6 ∧ m = (6 - n).toNat ∧ r = riseL l n.toNat, ⟨_, rfl, by omega, by omega, rfl, rfl⟩, ?_⟩⟩))
  rintro m n r ⟨n0, n1, rfl, rfl⟩
  refine ifP (fun hlt => ?_) (fun hge => ?_)
  · refine ⟨fun m n' i r => n = n' ∧ 0 ≤ i ∧ i ≤ l.length ∧ m = (l.length - i).toNat ∧ r = riseL l n.toNat ++ (if n ∈ callsL (l.take i.toNat) then [n] else []), ⟨_, rfl, rfl, by omega, by omega, rfl, by simp [callsL]⟩, ?_⟩
    rintro m n' i r ⟨rfl, h0, h1, rfl, rfl⟩
    have hrl := riseL_len l n.toNat
    have hrr := riseL_lt l n.toNat
    refine ifP (fun hli => ?_) (fun hgi => ?_)
    · have htk := take_succ_getD (l := l) (i := i.toNat) (by omega) ((0 : Int), ((0 : Int), ()))
      have hs := callsL_snoc (l.take i.toNat) (l.getD i.toNat ((0 : Int), ((0 : Int), ())))
      rw [← htk] at hs
      rw [w64 (x := i + 1) (by omega)]
      have same : ∀ (h : n ∈ callsL (l.take (i.toNat + 1)) ↔ n ∈ callsL (l.take i.toNat)), (riseL l n.toNat ++ (if n ∈ callsL (l.take i.toNat) then [n] else [])) = (riseL l n.toNat ++ (if n ∈ callsL (l.take (i + 1).toNat) then [n] else [])) := by
        intro h
        rw [toNat_succ h0]
        by_cases hm : n ∈ callsL (l.take i.toNat)
        · rw [if_pos hm, if_pos (h.2 hm)]
        · rw [if_neg hm, if_neg (fun e => hm (h.1 e))]
      refine ⟨⟨h0, hli⟩, ifE (fun e => ⟨⟨h0, hli⟩, ifE (fun e2 => ?_) (fun e2 => ?_)⟩) (fun e => ?_)⟩
      · -- a call of n
        have hin : n ∈ callsL (l.take (i.toNat + 1)) := by rw [hs, if_pos (by simpa using e)]; exact List.mem_append_right _ (List.mem_singleton.2 e2.symm)
        by_cases hm : n ∈ callsL (l.take i.toNat)
        · have hsm := same ⟨fun _ => hm, fun _ => hin⟩
          rw [if_pos hm] at hsm ⊢
          refine ifE (fun e3 => by simp at e3; omega) (fun _ => ?_)
          have hlast : (riseL l n.toNat ++ [n]).getD (Int.toNat (wI (((riseL l n.toNat ++ [n]).length : Int) - 1))) 0 = n := by
            rw [List.length_append, List.length_singleton, w64 (by omega), show ((((riseL l n.toNat).length + 1 : Nat) : Int) - 1).toNat = (riseL l n.toNat).length by omega, List.getD_eq_getElem?_getD, List.getElem?_append_right (Nat.le_refl _), Nat.sub_self]; rfl
          rw [hlast]
          refine ⟨?_, ifN_f rfl ⟨_, ?_, rfl, rfl, by omega, by omega, rfl, hsm⟩⟩
          · rw [List.length_append, List.length_singleton, w64 (by omega)]; omega
          · omega
        · have hnew : (riseL l n.toNat ++ (if n ∈ callsL (l.take (i + 1).toNat) then [n] else [])) = riseL l n.toNat ++ [n] := by rw [toNat_succ h0, if_pos hin]
          rw [if_neg hm, List.append_nil]
          refine ifE (fun e3 => ?_) (fun e3 => ?_)
          · refine ⟨by simp only [List.length_cons, List.length_nil]; omega, _, ?_, rfl, rfl, by omega, by omega, rfl, hnew.symm⟩
            omega
          · have hpos : 0 < (riseL l n.toNat).length := by omega
            have hne : (riseL l n.toNat).getD (Int.toNat (wI (((riseL l n.toNat).length : Int) - 1))) 0 ≠ n := by
              rw [w64 (by omega), List.getD_eq_getElem?_getD, List.getElem?_eq_getElem (by omega)]
              have := hrr _ (List.getElem_mem (l := riseL l n.toNat) (n := (((riseL l n.toNat).length : Int) - 1).toNat) (by omega))
              simp only [Option.getD_some]
              omega
            refine ⟨?_, ifN_t hne ⟨by simp only [List.length_cons, List.length_nil]; omega, _, ?_, rfl, rfl, by omega, by omega, rfl, hnew.symm⟩⟩
            · rw [w64 (by omega)]; omega
            · omega
      · refine ⟨_, ?_, rfl, rfl, by omega, by omega, rfl, same ?_⟩
        · omega
        · rw [hs, if_pos (by simpa using e)]
          simp only [List.mem_append, List.mem_singleton]
          exact ⟨fun h => h.elim id (fun h => absurd h.symm e2), .inl⟩
      · refine ⟨_, ?_, rfl, rfl, by omega, by omega, rfl, same ?_⟩
        · omega
        · rw [hs, if_neg (by simpa using e), List.append_nil]
    · rw [List.take_of_length_le (by omega), w64 (x := n + 1) (by omega)]
      refine ⟨_, ?_, rfl, by omega, by omega, rfl, ?_⟩
      · omega
      · rw [toNat_succ n0, riseL_succ, Int.toNat_of_nonneg n0]
  · rw [show n.toNat = 6 by omega]; exact ⟨rfl, rfl⟩
theorem c_sameInts (l : List Int) (hl : l.length ≤ 1048576) : TT n_laws_sameInts [.one (.sl tyInt l), .one (.sl tyInt l)] [] (eB true) [] := by
  refine r_laws_sameInts l l (ifN_f rfl ⟨fun m i => 0 ≤ i ∧ i ≤ l.length ∧ m = (l.length - i).toNat, ⟨_, rfl, by omega, by omega, rfl⟩, ?_⟩)
  rintro m i ⟨h0, h1, rfl⟩
  refine ifP (fun hlt => ⟨⟨h0, hlt⟩, ⟨h0, hlt⟩, ifN_f rfl ?_⟩) (fun _ => ⟨rfl, rfl⟩)
  rw [w64 (by omega)]
  exact ⟨_, by omega, rfl, by omega, by omega, rfl⟩
theorem c_laws_FnVerify (l1 : List Int) (hw1 : Ty.wf (.slice (.int .u8)) l1) (l2 : List Int) (hw2 : Ty.wf (.slice (.int .u8)) l2) : TT n_laws_FnVerify [.one (.sl u8s l1), .one (.sl u8s l2)] [] (eB true) [] := by
  refine r_laws_FnVerify l1 l2 (ifP (fun _ => ⟨rfl, rfl⟩) (fun g1 => ifP (fun _ => ⟨rfl, rfl⟩) (fun g2 => ?_)))
  obtain ⟨ks, ⟨hk, _⟩, hK⟩ := c_KindsDrawn l2 (by omega) (u8_of hw2)
  obtain ⟨c, hi, hcl, hD⟩ := c_DoubtCode l1 ks 2 hk (by omega) (by omega) (u8_of hw1)
  obtain ⟨r, ⟨hr, hv⟩, hR⟩ := c_RightCode l2 ks 2 hk (by omega) (by omega) (u8_of hw2)
  have hrl := codeOK_len hr
  have hvr := c_impl_VerifyCode r ks 2 hrl hk (by omega)
  rw [show verC r ks 2 = (0, 0) from (if_pos hr).trans hv] at hvr
  have hvs : (verS ks 2 r 0 e0 []).2 = 0 := by show (verM ks 2 r).2 = 0; rw [hv]
  have hsl := stks_len (ks := ks) (n := 2) (l := r) (i := 0) (s := e0) (o := [])
  have hcc := calls_comp (l := r) (by rw [← codeOK_all hrl]; exact hr)
  have hI := c_impl_CallsOf r hr
  have hwin : ((compI (sortI (callsL r))).take (Lib.compact (sortI (callsL r))).length).drop 0 = riseL r 6 := by rw [List.drop_zero, compI_take, hcc]
  have hsame := c_sameInts (riseL r 6) (by have := riseL_len r 6; omega)
  refine ⟨_, hK, 0, hi, _, hD, _, _, c_impl_VerifyCode _ ks 2 hcl hk (by omega), _, _, c_spec_VerifyCode _ ks 2 hcl hk (by omega), ifN_f rfl (ifN_f rfl ⟨_, hR, _, _, hvr, ifN_f rfl
    ⟨fun l => r = l, ⟨fun m i k l => 0 ≤ i ∧ i ≤ r.length + 1 ∧ m = (r.length + 1 - i).toNat ∧ ks = k ∧ r = l, ⟨_, by omega, by omega, rfl, rfl, rfl⟩, ?_⟩, ?_⟩⟩)⟩
  · rintro m i k l ⟨h0, h1, rfl, rfl, rfl⟩
    refine ifP (fun hle => ?_) (fun _ => rfl)
    have hsm : ((stksM ks 2 r).getD i.toNat e0).size ≤ 8 := by
      rw [List.getD_eq_getElem?_getD, List.getElem?_eq_getElem (by show i.toNat < (stks ks 2 r 0 e0 []).length; omega)]
      exact stks_small Open.nil hvs _ (List.getElem_mem _)
    have next : ∃ m17, m17 < ((r.length : Int) + 1 - i).toNat ∧ (0 ≤ wI (i + 1) ∧ wI (i + 1) ≤ r.length + 1 ∧ m17 = (r.length + 1 - wI (i + 1)).toNat ∧ ks = ks ∧ r = r) := by
      rw [w64 (x := i + 1) (by omega)]
      exact ⟨_, by omega, by omega, by omega, rfl, rfl, rfl⟩
    refine ⟨_, _, c_impl_StackAt r ks 2 i hr hv hk (by omega) ⟨h0, hle⟩, _, _, c_spec_StackAt r ks 2 i hr hv hk (by omega) ⟨h0, hle⟩, ifN_f rfl (ifB_f (by rw [toList_beq]; simp) (ifP_f (by omega) (ifE (fun e => ?_) (fun e => ifE (fun e2 => ?_) (fun e2 => next)))))⟩
    · refine ifB_f ?_ next
      rw [e, show Int.toNat 0 = 0 from rfl, stksM_zero, toList_beq]; rfl
    · refine ifB_f ?_ next
      rw [e2, Int.toNat_natCast, show (stksM ks 2 r).getD r.length e0 = e0 from stks_last, toList_beq]; rfl
  · rintro l rfl
    exact ⟨0, _, _, _, hI, _, _, c_spec_CallsOf r hr, ifE_t rfl ⟨_, by rw [hwin]; exact hsame, rfl, rfl⟩⟩
end Go.Ry
