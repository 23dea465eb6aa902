/- Instructions read from their texts: the program's and the reference's. No condition. -/
import Derived.Test.YtlfapnlaalnbjaaGreatDoorPIns1
import Derived.Test.YtlfapnlaalnbjaaGreatDoorPRtk1
import Derived.Test.YtlfapnlaalnbjaaGreatDoorPTrp1
set_option linter.unusedVariables false
set_option linter.unusedSimpArgs false
namespace Go.Ry
open Go.Proofs

/-! ### names -/
theorem placeI_is : ∀ (l : List ByteArray) (t : ByteArray) (i : Int), (placeI l t i = -1 ∧ t ∉ l) ∨ ∃ k : Nat, k < l.length ∧ placeI l t i = i + k ∧ l.getD k ⟨#[]⟩ = t
  | [], t, i => .inl ⟨rfl, by simp⟩
  | x :: l, t, i => by
    rw [placeI_cons]
    by_cases h : x = t
    · rw [if_pos h]; exact .inr ⟨0, by simp, by omega, by simpa using h⟩
    · rw [if_neg h]
      rcases placeI_is l t (i + 1) with ⟨h1, h2⟩ | ⟨k, h1, h2, h3⟩
      · exact .inl ⟨h1, by simp only [List.mem_cons, not_or]; exact ⟨fun e => h e.symm, h2⟩⟩
      · exact .inr ⟨k + 1, by simp; omega, by omega, by rw [List.getD_cons_succ]; exact h3⟩
/-- The operation of a name. -/
def opOf (s : ByteArray) : Int := placeI namesB s 0 + 1
theorem opOf_is (s : ByteArray) : (opOf s = 0 ∧ s ∉ namesB) ∨ ((1 ≤ opOf s ∧ opOf s ≤ 26) ∧ nameOf (opOf s) = s) := by
  unfold opOf
  rcases placeI_is namesB s 0 with ⟨h1, h2⟩ | ⟨k, h1, h2, h3⟩
  · exact .inl ⟨by omega, h2⟩
  · rw [namesB_len] at h1
    refine .inr ⟨by omega, ?_⟩
    rw [nameOf, if_pos (by rw [isOp, within_iff]; omega), show (placeI namesB s 0 + 1 - 1).toNat = k by omega]
    exact h3
theorem opOf_rng (s : ByteArray) : 0 ≤ opOf s ∧ opOf s ≤ 26 := by
  rcases opOf_is s with h | h <;> omega
theorem opOf_long {s : ByteArray} (h : 6 < s.size) : opOf s = 0 := by
  rcases opOf_is s with h1 | h1
  · exact h1.1
  · have := nameOf_size (opOf s)
    rw [h1.2] at this; omega
theorem opOf_name' : ∀ k : Fin 26, opOf (nameOf ((k : Nat) + 1 : Nat)) = ((k : Nat) + 1 : Nat) := by decide +kernel
theorem opOf_name {op : Int} (h : isOp op = true) : opOf (nameOf op) = op := by
  have hr := within_iff.1 (show within op 1 26 = true from h)
  have := opOf_name' ⟨(op - 1).toNat, by omega⟩
  simp only at this
  rw [show (((op - 1).toNat + 1 : Nat) : Int) = op by omega] at this
  exact this
theorem c_impl_OpOf (s : ByteArray) : TT n_impl_OpOf [eS s] [] (eI (opOf s)) [] := by
  refine r_impl_OpOf s ⟨_, c_impl_opNames, fun m n i r => n = 26 ∧ r = namesB ∧ 0 ≤ i ∧ i ≤ 26 ∧ m = (26 - i).toNat ∧ placeI (namesB.drop i.toNat) s i = placeI namesB s 0, ⟨_, rfl, by rw [namesB_len]; rfl, rfl, by omega, by omega, rfl, rfl⟩, ?_⟩
  rintro m n i r ⟨rfl, rfl, h0, h1, rfl, h2⟩
  refine ifP (fun hlt => ⟨⟨h0, by rw [namesB_len]; omega⟩, ?_⟩) (fun hge => ?_)
  · rw [drop_bd (by rw [namesB_len]; omega), placeI_cons] at h2
    rw [toList_beq]
    refine ifP (fun e => ?_) (fun e => ?_)
    · rw [if_pos e] at h2
      rw [w64 (by omega)]
      exact ⟨by rw [opOf, ← h2], rfl⟩
    · rw [if_neg e] at h2
      rw [w64 (by omega)]
      exact ⟨_, by omega, rfl, rfl, rfl, by omega, by omega, rfl, by rw [toNat_succ h0]; exact h2⟩
  · rw [List.drop_eq_nil_of_le (by rw [namesB_len]; omega)] at h2
    exact ⟨by rw [opOf, ← h2]; rfl, rfl⟩
theorem c_spec_OpOf (s : ByteArray) : TT n_spec_OpOf [eS s] [] (eI (opOf s)) [] := by
  refine r_spec_OpOf s (ifP (fun h => ?_) (fun h => ?_))
  · rw [opOf_long (by omega)]; exact ⟨rfl, rfl⟩
  · have hr := opOf_rng s
    refine ⟨namesB, r_spec_l02Names ⟨rfl, rfl⟩, _, c_spec_l02Place namesB s (by rw [namesB_len]; decide), ?_, rfl⟩
    unfold opOf at hr
    rw [w64 (by omega)]; rfl
theorem c_spec_l00SameTexts (a b : List ByteArray) (ha : a.length ≤ 1048577) (hb : b.length ≤ 1048577) : TT n_spec_l00SameTexts [.one (.sl .str a), .one (.sl .str b)] [] (eB (decide (a = b))) [] := by
  refine r_spec_l00SameTexts a b (ifN (fun h => ?_) (fun h => ?_))
  · exact ⟨by rw [decide_eq_false (fun e => h (by rw [e]))], rfl⟩
  · have hl : a.length = b.length := by omega
    refine ⟨fun m i => 0 ≤ i ∧ i ≤ a.length ∧ m = (a.length - i).toNat ∧ decide (a = b) = decide (a.drop i.toNat = b.drop i.toNat), ⟨_, rfl, by omega, by omega, rfl, rfl⟩, ?_⟩
    rintro m i ⟨h0, h1, rfl, h2⟩
    refine ifP (fun hlt => ⟨⟨h0, hlt⟩, ⟨h0, by omega⟩, ?_⟩) (fun hge => ?_)
    · rw [drop_bd (l := a) (by omega), drop_bd (l := b) (by omega)] at h2
      rw [toList_beq]
      refine ifB_cases (fun e => ?_) (fun e => ?_)
      · have e : ¬ a.getD i.toNat ⟨#[]⟩ = b.getD i.toNat ⟨#[]⟩ := by simpa using e
        rw [h2, decide_eq_false (fun x => e (List.cons.inj x).1)]; exact ⟨rfl, rfl⟩
      · have e : a.getD i.toNat ⟨#[]⟩ = b.getD i.toNat ⟨#[]⟩ := by simpa using e
        rw [w64 (by omega)]
        refine ⟨_, ?_, rfl, by omega, by omega, rfl, ?_⟩
        · omega
        · rw [h2, toNat_succ h0, e]; simp
    · rw [List.drop_eq_nil_of_le (by omega), List.drop_eq_nil_of_le (by omega)] at h2
      rw [h2]; exact ⟨rfl, rfl⟩

/-! ### the words of an instruction -/
def insP (h : ByteArray) (a : Int) (two : Bool) : (Int × Int) × Bool := if (rangeOf (opOf h)).2.2 = two ∧ instrOK (opOf h) a = true then ((opOf h, a), true) else ((0, 0), false)
def riM : List ByteArray → (Int × Int) × Bool
  | [h] => insP h 0 false
  | [h, t] => match numOf t.data.toList with
    | some a => insP h a true
    | none => ((0, 0), false)
  | _ => ((0, 0), false)
theorem riM_two {h t : ByteArray} : riM [h, t] = match numOf t.data.toList with
    | some a => insP h a true
    | none => ((0, 0), false) := rfl
theorem riM_many {w : List ByteArray} (h : 2 < w.length) : riM w = ((0, 0), false) := by
  match w, h with
  | a :: b :: c :: l, _ => rfl
@[reducible] def xyE (x y : Int) (b : Bool) : Ent := .tup [(true, [cI x, cI y]), (false, [.bool b])]
theorem c_impl_readInstr (w : List ByteArray) (hw : ∀ x ∈ w, x.size ≤ 1048576) (hl : w.length ≤ 1048577) :
    ∃ x y, TT n_impl_readInstr [.one (.sl .str w)] [] (xyE x y (riM w).2) [] ∧ ((riM w).2 = true → (x, y) = (riM w).1) := by
  by_cases h0 : w.length = 0
  · obtain rfl := List.length_eq_zero_iff.1 h0
    exact ⟨0, 0, r_impl_readInstr [] (ifE_t rfl ⟨rfl, rfl⟩), fun e => by cases e⟩
  by_cases h2 : 2 < w.length
  · refine ⟨0, 0, ?_, fun e => by rw [riM_many h2] at e; cases e⟩
    rw [riM_many h2]
    exact r_impl_readInstr w (ifE_f (by omega) (ifP_t (by omega) ⟨rfl, rfl⟩))
  match w, h0, h2 with
  | [h], _, _ =>
    have hg : ([h] : List ByteArray).getD (Int.toNat 0) ⟨#[]⟩ = h := rfl
    cases hh : (rangeOf (opOf h)).2.2
    · have e2 : (riM [h]).2 = instrOK (opOf h) 0 := by
        show (insP h 0 false).2 = _
        unfold insP
        rw [hh]
        cases instrOK (opOf h) 0 <;> simp
      refine ⟨opOf h, 0, ?_, fun e => ?_⟩
      · rw [e2]
        have ho := c_hasOp (opOf h)
        rw [hh] at ho
        exact r_impl_readInstr [h] (ifE_f (by simp) (ifP_f (by simp) ⟨by simp, _, by rw [hg]; exact c_impl_OpOf h, _, ho, ifB_f rfl (ifE_f (by simp) ⟨_, c_impl_InstrOK _ _, rfl, rfl⟩)⟩))
      · rw [e2] at e
        show _ = (insP h 0 false).1
        unfold insP
        rw [if_pos ⟨hh, e⟩]
    · have e2 : riM [h] = ((0, 0), false) := by
        show insP h 0 false = _
        unfold insP
        rw [hh, if_neg (by simp)]
      refine ⟨0, 0, ?_, fun e => by rw [e2] at e; cases e⟩
      rw [e2]
      have ho := c_hasOp (opOf h)
      rw [hh] at ho
      exact r_impl_readInstr [h] (ifE_f (by simp) (ifP_f (by simp) ⟨by simp, _, by rw [hg]; exact c_impl_OpOf h, _, ho, ifB_t rfl ⟨rfl, rfl⟩⟩))
  | [h, t], _, _ =>
    have hg : ([h, t] : List ByteArray).getD (Int.toNat 0) ⟨#[]⟩ = h := rfl
    have hg1 : ([h, t] : List ByteArray).getD (Int.toNat 1) ⟨#[]⟩ = t := rfl
    have ht := hw t (by simp)
    cases hh : (rangeOf (opOf h)).2.2
    · have e2 : riM [h, t] = ((0, 0), false) := by
        rw [riM_two]
        cases numOf t.data.toList with
        | none => rfl
        | some a =>
          simp only
          unfold insP
          rw [hh, if_neg (by simp)]
      refine ⟨0, 0, ?_, fun e => by rw [e2] at e; cases e⟩
      rw [e2]
      have ho := c_hasOp (opOf h)
      rw [hh] at ho
      exact r_impl_readInstr [h, t] (ifE_f (by simp) (ifP_f (by simp) ⟨by simp, _, by rw [hg]; exact c_impl_OpOf h, _, ho, ifB_t rfl ⟨rfl, rfl⟩⟩))
    · have ho := c_hasOp (opOf h)
      rw [hh] at ho
      have hd := c_impl_readDecimal t ht
      rcases rd_eq t.data.toList with ⟨k1, _, k3⟩ | ⟨k1, _, k3⟩
      · have e1 : riM [h, t] = insP h (atoiN t.data.toList) true := by rw [riM_two, k3]
        have e2 : (riM [h, t]).2 = instrOK (opOf h) (atoiN t.data.toList) := by
          rw [e1]
          unfold insP
          rw [hh]
          cases instrOK (opOf h) (atoiN t.data.toList) <;> simp
        rw [k1] at hd
        refine ⟨opOf h, atoiN t.data.toList, ?_, fun e => ?_⟩
        · rw [e2]
          exact r_impl_readInstr [h, t] (ifE_f (by simp) (ifP_f (by simp) ⟨by simp, _, by rw [hg]; exact c_impl_OpOf h, _, ho, ifB_f rfl (ifE_t rfl ⟨by simp, _, _, by rw [hg1]; exact hd, ifB_f rfl ⟨_, c_impl_InstrOK _ _, rfl, rfl⟩⟩)⟩))
        · rw [e2] at e
          rw [e1]
          unfold insP
          rw [if_pos ⟨hh, e⟩]
      · have e2 : riM [h, t] = ((0, 0), false) := by rw [riM_two, k3]
        rw [k1] at hd
        refine ⟨0, 0, ?_, fun e => by rw [e2] at e; cases e⟩
        rw [e2]
        exact r_impl_readInstr [h, t] (ifE_f (by simp) (ifP_f (by simp) ⟨by simp, _, by rw [hg]; exact c_impl_OpOf h, _, ho, ifB_f rfl (ifE_t rfl ⟨by simp, _, _, by rw [hg1]; exact hd, ifB_t rfl ⟨rfl, rfl⟩⟩)⟩))
  | _ :: _ :: _ :: _, _, h2 => exact absurd h2 (by simp)
/-- The instruction of a text, and the code. -/
def riT (s : ByteArray) : (Int × Int) × Int := if 65536 < (s.size : Int) then ((0, 0), 2) else if (riM (wordsB s)).2 = true then ((riM (wordsB s)).1, 0) else ((0, 0), 3)
@[reducible] def xyI (x y c : Int) : Ent := .tup [(true, [cI x, cI y]), (false, [cI c])]
theorem c_impl_ReadInstr (s : ByteArray) : TT n_impl_ReadInstr [eS s] [] (xyI (riT s).1.1 (riT s).1.2 (riT s).2) [] := by
  refine r_impl_ReadInstr s ⟨_, c_impl_long s, ifN (fun h => ?_) (fun h => ?_)⟩
  · have h' : 65536 < (s.size : Int) := by
      by_cases k : 65536 < (s.size : Int)
      · exact k
      · rw [if_neg k] at h; exact absurd rfl h
    rw [if_pos h', show riT s = _ from if_pos h']; exact ⟨rfl, rfl⟩
  · have h' : ¬ 65536 < (s.size : Int) := fun k => by rw [if_pos k] at h; exact absurd h (by decide)
    have hw := wordsB_small s
    have e : riT s = _ := if_neg h'
    obtain ⟨x, y, k1, k2⟩ := c_impl_readInstr (wordsB s) (fun x hx => by have := hw.1 x hx; omega) (by omega)
    refine ⟨_, c_impl_words s (by omega), _, _, _, k1, ifB_cases (fun hb => ?_) (fun hb => ?_)⟩
    · rw [if_neg (by simpa using hb)] at e
      rw [e]; exact ⟨rfl, rfl⟩
    · have hb : (riM (wordsB s)).2 = true := by simpa using hb
      rw [if_pos hb, ← k2 hb] at e
      rw [e]; exact ⟨rfl, rfl⟩

/-! ### the reference's -/
theorem names_word : ∀ x ∈ namesB, isWord x.data.toList := by
  have : ∀ x ∈ namesB, x.data.toList ≠ [] ∧ ∀ c ∈ x.data.toList, c ≠ 32 := by decide +kernel
  exact this
theorem nameOf_word {op : Int} (h : isOp op = true) : isWord (nameOf op).data.toList := by
  have hr := within_iff.1 (show within op 1 26 = true from h)
  rw [nameOf, if_pos h]
  exact names_word _ (getD_mem (by rw [namesB_len]; omega))
theorem instr_op {op a : Int} (h : instrOK op a = true) : isOp op = true := by
  simp only [instrOK, Bool.and_eq_true] at h; exact h.1
theorem itoa_data {n : Int} (h : i64 n) : (itoaB n).data.toList = Lib.itoa n := by rw [itoaB_eq h]
theorem eta_ba (w : ByteArray) : (⟨w.data.toList.toArray⟩ : ByteArray) = w := by
  apply ba_ext; simp
/-- An instruction's words. -/
def insW (op a : Int) : List ByteArray := if (rangeOf op).2.2 = true then [nameOf op, itoaB a] else [nameOf op]
theorem wsp_ins {op a : Int} (h : instrOK op a = true) : wsp [] (insT op a).data.toList = (insW op a).map (·.data.toList) := by
  have hn := nameOf_word (instr_op h)
  unfold insT insW
  split
  · have ha := instr_i64 h
    rw [data_app, data_app]
    have e : (nameOf op).data.toList ++ blB.data.toList ++ (itoaB a).data.toList = (nameOf op).data.toList ++ 32 :: (itoaB a).data.toList := by simp
    rw [e, wsp_cut, wsp_word1 hn, wsp_word1 (by rw [itoa_data ha]; exact itoa_word a)]; rfl
  · rw [wsp_word1 hn]; rfl
theorem map_eta (l : List ByteArray) : (l.map (·.data.toList)).map (fun x => (⟨x.toArray⟩ : ByteArray)) = l := by
  rw [List.map_map]
  have : ((fun x => (⟨x.toArray⟩ : ByteArray)) ∘ fun x : ByteArray => x.data.toList) = id := funext fun w => eta_ba w
  rw [this, List.map_id]
theorem words_ins {op a : Int} (h : instrOK op a = true) : wordsB (insT op a) = insW op a := by
  unfold wordsB
  rw [wsp_ins h, map_eta]
theorem c_spec_l02Read (s : ByteArray) (hs : s.size ≤ 65536) : TT n_spec_l02Read [eS s] [] (xyE (riM (wordsB s)).1.1 (riM (wordsB s)).1.2 (riM (wordsB s)).2) [] := by
  have hw := wordsB_small s
  refine r_spec_l02Read s ⟨_, c_spec_l00Words s (by omega), ?_⟩
  revert hw
  generalize wordsB s = w
  intro hw
  refine ifE (fun h0 => ?_) (fun h0 => ifP (fun h2 => ?_) (fun h2 => ?_))
  · obtain rfl : w = [] := List.length_eq_zero_iff.1 (by omega)
    exact ⟨rfl, rfl⟩
  · rw [riM_many (by omega)]; exact ⟨rfl, rfl⟩
  -- what comes behind the words
  have rest : ∀ (h : ByteArray) (a : Int) (two : Bool) (w : List ByteArray), w.length ≤ 1048577 → (instrOK (opOf h) a = true → decide (insW (opOf h) a = w) = decide ((rangeOf (opOf h)).2.2 = two)) → riM w = insP h a two →
      ∃ b10 : Bool, TT n_spec_l02OK [.agg [cI (opOf h), cI a]] [] (eB b10) [] ∧ ifB (!b10) ((xyE 0 0 false) = (xyE (riM w).1.1 (riM w).1.2 (riM w).2) ∧ ([] : List Ob) = []) (∃ s11 : ByteArray, TT n_spec_l02Text [.agg [cI (opOf h), cI a]] [] (eS s11) [] ∧ ∃ r12 : List ByteArray, TT n_spec_l00Words [eS s11] [] (.one (.row 0)) [.row t_string .str r12] ∧ ∃ b13 : Bool, TT n_spec_l00SameTexts [.one (.sl .str r12), .one (.sl .str w)] [] (eB b13) [] ∧ ifB (!b13) ((xyE 0 0 false) = (xyE (riM w).1.1 (riM w).1.2 (riM w).2) ∧ ([] : List Ob) = []) ((xyE (opOf h) a true) = (xyE (riM w).1.1 (riM w).1.2 (riM w).2) ∧ ([] : List Ob) = [])) := by
    intro h a two w hwl hd hr
    refine ⟨_, c_spec_l02OK _ _, ifB_cases (fun hb => ?_) (fun hb => ?_)⟩
    · have hb : ¬ instrOK (opOf h) a = true := by simpa using hb
      rw [hr, insP, if_neg (fun e => hb e.2)]; exact ⟨rfl, rfl⟩
    · have hb : instrOK (opOf h) a = true := by simpa using hb
      have hz := insT_size (opOf h) a
      have hwi : (insW (opOf h) a).length ≤ 2 := by unfold insW; split <;> simp
      refine ⟨_, c_spec_l02Text _ _ (instr_i64 hb), _, c_spec_l00Words _ (by omega), ?_⟩
      rw [words_ins hb]
      refine ⟨_, c_spec_l00SameTexts _ _ (by omega) hwl, ifB_cases (fun hc => ?_) (fun hc => ?_)⟩
      · rw [hd hb] at hc
        have hc : ¬ (rangeOf (opOf h)).2.2 = two := by simpa using hc
        rw [hr, insP, if_neg (fun e => hc e.1)]; exact ⟨rfl, rfl⟩
      · rw [hd hb] at hc
        have hc : (rangeOf (opOf h)).2.2 = two := by simpa using hc
        rw [hr, insP, if_pos ⟨hc, hb⟩]; exact ⟨rfl, rfl⟩
  have nm : ∀ (h : ByteArray) (a : Int), instrOK (opOf h) a = true → nameOf (opOf h) = h := fun h a hi => by
    have := within_iff.1 (show within (opOf h) 1 26 = true from instr_op hi)
    rcases opOf_is h with k | k
    · omega
    · exact k.2
  match w, h0, h2 with
  | [h], _, _ =>
    refine ⟨by simp, _, c_spec_OpOf h, fun r n a => r = [h] ∧ n = opOf h ∧ a = 0, ifE_f (by simp) ⟨rfl, rfl, rfl, rfl⟩, ?_⟩
    rintro r n a ⟨rfl, rfl, rfl⟩
    refine rest h 0 false [h] (by simp) (fun hi => ?_) rfl
    unfold insW
    rw [nm h 0 hi]
    cases (rangeOf (opOf h)).2.2 <;> simp
  | [h, t], _, _ =>
    have ht := hw.1 t (by simp)
    have hd := c_spec_l00Number t (by omega)
    have hg1 : ([h, t] : List ByteArray).getD (Int.toNat 1) ⟨#[]⟩ = t := rfl
    rcases rd_eq t.data.toList with ⟨k1, k2, k3⟩ | ⟨k1, k2, k3⟩
    · rw [k2] at hd
      refine ⟨by simp, _, c_spec_OpOf h, fun r n a => r = [h, t] ∧ n = opOf h ∧ a = atoiN t.data.toList, ifE_t rfl ⟨by simp, _, _, by rw [hg1]; exact hd, ifB_f rfl ⟨rfl, rfl, rfl, rfl⟩⟩, ?_⟩
      rintro r n a ⟨rfl, rfl, rfl⟩
      refine rest h _ true [h, t] (by simp) (fun hi => ?_) (by rw [riM_two, k3])
      have hta : itoaB (atoiN t.data.toList) = t := by
        apply ba_ext
        rw [itoa_data (instr_i64 hi)]
        exact (readN_some k3).2.2.1
      unfold insW
      rw [nm h _ hi, hta]
      cases (rangeOf (opOf h)).2.2 <;> simp
    · rw [k2] at hd
      refine ⟨by simp, _, c_spec_OpOf h, fun r n a => False, ifE_t rfl ⟨by simp, _, _, by rw [hg1]; exact hd, ifB_t rfl ?_⟩, fun _ _ _ hf => hf.elim⟩
      rw [riM_two, k3]; exact ⟨rfl, rfl⟩
  | [], h0, _ => exact absurd rfl h0
  | _ :: _ :: _ :: _, _, h2 => exact absurd (by simp; omega) h2
theorem c_spec_ReadInstr (s : ByteArray) : TT n_spec_ReadInstr [eS s] [] (xyI (riT s).1.1 (riT s).1.2 (riT s).2) [] := by
  refine r_spec_ReadInstr s (ifP (fun h => ?_) (fun h => ?_))
  · rw [show riT s = _ from if_pos h]; exact ⟨rfl, rfl⟩
  · have e : riT s = _ := if_neg h
    refine ⟨_, _, _, c_spec_l02Read s (by omega), ifB_cases (fun hb => ?_) (fun hb => ?_)⟩
    · rw [if_neg (by simpa using hb)] at e
      rw [e]; exact ⟨rfl, rfl⟩
    · rw [if_pos (by simpa using hb)] at e
      rw [e]; exact ⟨rfl, rfl⟩
end Go.Ry
