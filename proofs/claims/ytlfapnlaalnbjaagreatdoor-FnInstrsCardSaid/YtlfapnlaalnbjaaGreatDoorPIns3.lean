/- The law on instructions' texts. No condition. -/
import Derived.Test.YtlfapnlaalnbjaaGreatDoorPIns2
import Derived.Test.YtlfapnlaalnbjaaGreatDoorPDrw1
set_option linter.unusedVariables false
set_option linter.unusedSimpArgs false
namespace Go.Ry
open Go.Proofs

/-! ### read back -/
theorem instr_none {op a : Int} (h : instrOK op a = true) (hn : (rangeOf op).2.2 = false) : a = 0 := by
  simp only [instrOK, Bool.and_eq_true] at h
  have := within_iff.1 h.2
  revert hn this
  unfold rangeOf
  repeat' split
  all_goals simp
  intro h1 h2; omega
theorem instr_short {op a : Int} (h : instrOK op a = true) : -2147483648 ≤ a ∧ a ≤ 2147483647 := by
  have h2 : -2147483648 ≤ (rangeOf op).1 ∧ (rangeOf op).2.1 ≤ 2147483647 := by
    unfold rangeOf
    repeat' split
    all_goals simp
  simp only [instrOK, Bool.and_eq_true] at h
  have := within_iff.1 h.2
  omega
theorem riM_back {op a : Int} (h : instrOK op a = true) : riM (insW op a) = ((op, a), true) := by
  have hop := opOf_name (instr_op h)
  unfold insW
  cases hh : (rangeOf op).2.2
  · rw [if_neg (by simp)]
    show insP (nameOf op) 0 false = _
    obtain rfl := instr_none h hh
    rw [insP, hop, if_pos ⟨hh, h⟩]
  · rw [if_pos rfl, riM_two, itoa_data (instr_i64 h), num_itoa a (by have := instr_short h; omega)]
    show insP (nameOf op) a true = _
    rw [insP, hop, if_pos ⟨hh, h⟩]
theorem riT_back {op a : Int} (h : instrOK op a = true) : riT (((⟨#[32]⟩ : ByteArray) ++ insT op a) ++ (⟨#[32, 32]⟩ : ByteArray)) = ((op, a), 0) := by
  have hs := insT_size op a
  have hw : wordsB (((⟨#[32]⟩ : ByteArray) ++ insT op a) ++ (⟨#[32, 32]⟩ : ByteArray)) = insW op a := by
    unfold wordsB
    rw [data_app, data_app]
    have e : ([32] : List UInt8) ++ (insT op a).data.toList ++ [32, 32] = 32 :: ((insT op a).data.toList ++ [32, 32]) := by simp
    show List.map _ (wsp [] (([32] : List UInt8) ++ (insT op a).data.toList ++ [32, 32])) = _
    rw [e, wsp_ahead, wsp_behind, wsp_ins h, map_eta]
  unfold riT
  rw [if_neg, hw, riM_back h]
  · rfl
  · simp only [size_append, size_lit, List.length_cons, List.length_nil]; omega
theorem riT_more {op a : Int} (h : instrOK op a = true) : (riT (insT op a ++ (⟨#[32, 49, 32, 49]⟩ : ByteArray))).2 = 3 := by
  have hs := insT_size op a
  have hw : 2 < (wordsB (insT op a ++ (⟨#[32, 49, 32, 49]⟩ : ByteArray))).length := by
    unfold wordsB
    rw [data_app, List.length_map]
    show 2 < (wsp [] ((insT op a).data.toList ++ 32 :: ([49] ++ 32 :: [49]))).length
    have h49 : wsp [] [49] = [[49]] := wsp_word1 (by unfold isWord; decide)
    rw [wsp_cut, wsp_cut, h49, wsp_ins h]
    unfold insW
    split <;> simp
  unfold riT
  rw [if_neg, riM_many hw]
  · rfl
  · simp only [size_append, size_lit, List.length_cons, List.length_nil]; omega

/-! ### what is drawn -/
theorem c_pick (ls : List ByteArray) (h0 : 0 < ls.length) (h1 : ls.length ≤ 256) (hz : ∀ x ∈ ls, x.size ≤ 100) (l : List Int) (p q : Int) (h : SrcOK l p q) (hp : p < 1099511627000) :
    ∃ s p' q', s.size ≤ 100 ∧ (p ≤ p' ∧ p' ≤ p + 3) ∧ SrcOK l p' q' ∧ TT n_spec_l00Src_pick [.one (.ptrB 0 0), .one (.sl .str ls)] [srcO l p q] (eS s) [srcO l p' q'] := by
  obtain ⟨n, p', q', a1, a2, a3, a4⟩ := c_next ls.length l p q h hp
  have hn : n < ls.length := by rcases a1.2 with h | h <;> omega
  exact ⟨_, p', q', hz _ (getD_mem (l := ls) (i := n.toNat) (d := ⟨#[]⟩) (by omega)), a2, a3, r_spec_l00Src_pick ls l p q (ifE_f (by omega) ⟨_, _, _, _, a4, ⟨a1.1, hn⟩, rfl, rfl⟩)⟩
@[reducible] def lineL : List ByteArray := [(⟨#[]⟩ : ByteArray), (⟨#[112, 117, 115, 104]⟩ : ByteArray), (⟨#[112, 117, 115, 104, 32, 48, 49]⟩ : ByteArray), (⟨#[108, 111, 97, 100, 32, 49, 54]⟩ : ByteArray), (⟨#[105, 110, 32, 56]⟩ : ByteArray), (⟨#[114, 101, 112, 101, 97, 116, 32, 48]⟩ : ByteArray), (⟨#[97, 100, 100, 32, 49]⟩ : ByteArray), (⟨#[102, 108, 97, 103, 32, 50]⟩ : ByteArray), (⟨#[99, 97, 108, 108, 32, 54]⟩ : ByteArray), (⟨#[103, 111]⟩ : ByteArray), (⟨#[112, 117, 115, 104, 32, 50, 49, 52, 55, 52, 56, 51, 54, 52, 56]⟩ : ByteArray), (⟨#[98, 108, 111, 99, 107, 32, 45, 49]⟩ : ByteArray)]
theorem c_InstrLine (l : List Int) (hl : l.length ≤ 1048576) (hb : ∀ n ∈ l, 0 ≤ n ∧ n ≤ 255) : ∃ s, TT n_spec_InstrLine [.one (.sl u8s l)] [] (eS s) [] := by
  obtain ⟨q0, s1, s2⟩ := c_source l hl hb
  obtain ⟨op, a, p1, q1, a1, a2, a3, a4⟩ := c_instr l 0 q0 s1 (by omega)
  obtain ⟨n, p2, q2, b1, b2, b3, b4⟩ := c_next 10 l p1 q1 a3 (by omega)
  have ht := c_spec_l02Text op a (instr_i64 a1)
  have hz := insT_size op a
  have key : ∃ s p' q', TT n_spec_l00Src_instrLine [.one (.ptrB 0 0)] [srcO l 0 q0] (eS s) [srcO l p' q'] := by
    by_cases n0 : n = 0
    · refine ⟨_, _, _, r_spec_l00Src_instrLine l 0 q0 ⟨_, _, _, _, _, a4, _, ht, _, _, _, _, b4, ifE_t n0 ⟨?_, ?_, rfl, rfl⟩⟩⟩
      · simp only [size_lit, List.length_cons, List.length_nil]; omega
      · simp only [size_append, size_lit, List.length_cons, List.length_nil]; omega
    by_cases n1 : n = 1
    · refine ⟨_, _, _, r_spec_l00Src_instrLine l 0 q0 ⟨_, _, _, _, _, a4, _, ht, _, _, _, _, b4, ifE_f n0 (ifE_t n1 ⟨?_, rfl, rfl⟩)⟩⟩
      simp only [size_lit, List.length_cons, List.length_nil]; omega
    by_cases n2 : n = 2
    · obtain ⟨s, p3, q3, c1, c2, c3, c4⟩ := c_pick lineL (by decide) (by decide) (by decide) l p2 q2 b3 (by omega)
      exact ⟨_, _, _, r_spec_l00Src_instrLine l 0 q0 ⟨_, _, _, _, _, a4, _, ht, _, _, _, _, b4, ifE_f n0 (ifE_f n1 (ifE_t n2 ⟨_, _, _, _, c4, rfl, rfl⟩))⟩⟩
    · exact ⟨_, _, _, r_spec_l00Src_instrLine l 0 q0 ⟨_, _, _, _, _, a4, _, ht, _, _, _, _, b4, ifE_f n0 (ifE_f n1 (ifE_f n2 ⟨rfl, rfl⟩))⟩⟩
  obtain ⟨s, p', q', k⟩ := key
  exact ⟨s, r_spec_InstrLine l ⟨_, _, _, s2, _, _, _, _, k, rfl, rfl⟩⟩
theorem cost_pos (op : Int) : 0 < cost op := by
  unfold cost
  repeat' split
  all_goals omega
theorem c_laws_FnInstrs (l1 : List Int) (hw1 : Ty.wf (.slice (.int .u8)) l1) (l2 : List Int) (hw2 : Ty.wf (.slice (.int .u8)) l2) : TT n_laws_FnInstrs [.one (.sl u8s l1), .one (.sl u8s l2)] [] (eB true) [] := by
  refine r_laws_FnInstrs l1 l2 (ifP (fun _ => ⟨rfl, rfl⟩) (fun g1 => ifP (fun _ => ⟨rfl, rfl⟩) (fun g2 => ?_)))
  obtain ⟨t, ht⟩ := c_InstrLine l1 (by omega) (u8_of hw1)
  obtain ⟨op, a, hi, hx⟩ := c_InstrDrawn l2 (by omega) (u8_of hw2)
  have hop := instr_op hi
  have hz := insT_size op a
  have tI : TT n_impl_InstrText [.agg [cI op, cI a]] [] (.tup [(false, [.str (insT op a)]), (false, [cI 0])]) [] := r_impl_InstrText op a ⟨_, c_impl_InstrOK op a, ifB_f (by rw [hi]; rfl) ⟨_, c_impl_instrText op a (instr_i64 hi), rfl, rfl⟩⟩
  have tS : TT n_spec_InstrText [.agg [cI op, cI a]] [] (.tup [(false, [.str (insT op a)]), (false, [cI 0])]) [] := r_spec_InstrText op a ⟨_, c_spec_l02OK op a, ifB_f (by rw [hi]; rfl) ⟨_, c_spec_l02Text op a (instr_i64 hi), rfl, rfl⟩⟩
  have kI : TT n_impl_CostOf [eI op] [] (.tup [(false, [cI (cost op)]), (false, [cI 0])]) [] := r_impl_CostOf op ⟨_, c_impl_isOp op, ifB_f (by rw [hop]; rfl) ⟨_, c_impl_cost op, rfl, rfl⟩⟩
  have kS : TT n_spec_CostOf [eI op] [] (.tup [(false, [cI (cost op)]), (false, [cI 0])]) [] := r_spec_CostOf op ⟨_, c_spec_l02Op op, ifB_f (by rw [hop]; rfl) ⟨_, c_spec_l02Cost op, rfl, rfl⟩⟩
  have back := c_impl_ReadInstr (((⟨#[32]⟩ : ByteArray) ++ insT op a) ++ (⟨#[32, 32]⟩ : ByteArray))
  rw [riT_back hi] at back
  have more := c_impl_ReadInstr (insT op a ++ (⟨#[32, 49, 32, 49]⟩ : ByteArray))
  rw [riT_more hi] at more
  have hc := cost_pos op
  refine ⟨_, ht, _, _, _, c_impl_ReadInstr t, _, _, _, c_spec_ReadInstr t, ifN_f rfl (ifB_f (by simp) ⟨_, _, hx, _, _, tI, _, _, tS, ?_, ?_, _, _, _, back, ?_, _, _, _, more, _, _, kI, _, _, kS,
    ifE_t rfl (ifB_t (by rw [toList_beq]; simp) (ifE_t rfl (ifB_t (by simp) (ifE_t rfl (ifE_t rfl (ifE_t rfl (ifP_t hc ⟨_, c_impl_OpName op, _, c_impl_OpOf _, ifE_t (opOf_name hop) ⟨_, c_impl_OpName op, _, c_spec_OpName op, by rw [toList_beq]; simp, rfl⟩⟩)))))))⟩)⟩
  · simp only [size_lit, List.length_cons, List.length_nil]; omega
  · simp only [size_append, size_lit, List.length_cons, List.length_nil]; omega
  · simp only [size_lit, List.length_cons, List.length_nil]; omega
end Go.Ry
