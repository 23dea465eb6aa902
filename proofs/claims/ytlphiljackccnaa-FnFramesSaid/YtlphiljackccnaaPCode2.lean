/- ReadCode, the parser: of the program and of the reference. No condition. -/
import Derived.Test.YtlphiljackccnaaPCode
set_option linter.unusedVariables false
set_option linter.unusedSimpArgs false
namespace Go.Ry
variable {C : Calls_}

def rangeN_ (op : Int) : Int × Int × Bool :=
  if op = 1 then (-2147483648, 2147483647, true) else if op = 2 then (0, 1, true) else if op = 3 ∨ op = 4 then (0, 15, true) else if op = 5 ∨ op = 6 ∨ op = 7 ∨ op = 8 then (0, 7, true)
  else if op = 19 ∨ op = 20 then (0, 7, true) else if op = 24 then (1, 20, true) else if op = 26 then (0, 5, true) else (0, 0, false)
@[reducible] def three (a b : Int) (c : Bool) : Ent := .tup [(false, [.int .i64 a]), (false, [.int .i64 b]), (false, [.bool c])]
def K_rangeOf (n : Nat) (C : Calls_) : Prop := ∀ op : Int, C n [.one (.int .i64 op)] [] (three (rangeN_ op).1 (rangeN_ op).2.1 (rangeN_ op).2.2) []
theorem p_spec_l02Has (op : Int) : v_spec_l02Has C (fun r os => r = three (rangeN_ op).1 (rangeN_ op).2.1 (rangeN_ op).2.2 ∧ os = []) op := by
  unfold rangeN_
  refine ifE (fun h => by rw [if_pos h]; exact ⟨rfl, rfl⟩) (fun h1 => ?_)
  rw [if_neg h1]
  refine ifE (fun h => by rw [if_pos h]; exact ⟨rfl, rfl⟩) (fun h2 => ?_)
  rw [if_neg h2]
  refine ⟨fun n b => op = n ∧ b = decide (op = 3 ∨ op = 4), ifE (fun h => ⟨rfl, by simp [h]⟩) (fun h => ⟨rfl, ?_⟩), ?_⟩
  · by_cases h4 : op = 4 <;> simp [h, h4]
  rintro _ _ ⟨rfl, rfl⟩
  refine ifP (fun h => by rw [if_pos h]; exact ⟨rfl, rfl⟩) (fun h3 => ?_)
  rw [if_neg h3]
  refine ⟨fun n b => op = n ∧ b = decide (op = 5 ∨ op = 6 ∨ op = 7 ∨ op = 8), ifE (fun h => ⟨rfl, by simp [h]⟩) (fun h => ifE (fun h' => ⟨rfl, by simp [h']⟩) (fun h' => ifE (fun h'' => ⟨rfl, by simp [h'']⟩) (fun h'' => ⟨rfl, ?_⟩))), ?_⟩
  · by_cases h8 : op = 8 <;> simp [h, h', h'', h8]
  rintro _ _ ⟨rfl, rfl⟩
  refine ifP (fun h => by rw [if_pos h]; exact ⟨rfl, rfl⟩) (fun h4 => ?_)
  rw [if_neg h4]
  refine ⟨fun n b => op = n ∧ b = decide (op = 19 ∨ op = 20), ifE (fun h => ⟨rfl, by simp [h]⟩) (fun h => ⟨rfl, ?_⟩), ?_⟩
  · by_cases h8 : op = 20 <;> simp [h, h8]
  rintro _ _ ⟨rfl, rfl⟩
  refine ifP (fun h => by rw [if_pos h]; exact ⟨rfl, rfl⟩) (fun h5 => ?_)
  rw [if_neg h5]
  refine ifE (fun h => by rw [if_pos h]; exact ⟨rfl, rfl⟩) (fun h6 => ?_)
  rw [if_neg h6]
  refine ifE (fun h => by rw [if_pos h]; exact ⟨rfl, rfl⟩) (fun h7 => ?_)
  rw [if_neg h7]
  exact ⟨rfl, rfl⟩
theorem p_impl_rangeOf (op : Int) : v_impl_rangeOf C (fun r os => r = three (rangeN_ op).1 (rangeN_ op).2.1 (rangeN_ op).2.2 ∧ os = []) op := p_spec_l02Has (C := C) op

def K_isOp (n : Nat) (C : Calls_) : Prop := ∀ op : Int, C n [.one (.int .i64 op)] [] (.one (.bool (inR op 1 26))) []
theorem p_spec_l02Op (h : K_in n_spec_l01In C) (op : Int) : v_spec_l02Op C (fun r os => r = .one (.bool (inR op 1 26)) ∧ os = []) op := ⟨_, h _ _ _, rfl, kb rfl⟩
theorem p_impl_isOp (h : K_in n_impl_within C) (op : Int) : v_impl_isOp C (fun r os => r = .one (.bool (inR op 1 26)) ∧ os = []) op := ⟨_, h _ _ _, rfl, kb rfl⟩
def instrOK (op a : Int) : Bool := inR op 1 26 && inR a (rangeN_ op).1 (rangeN_ op).2.1
def K_instrOK (n : Nat) (C : Calls_) : Prop := ∀ op a : Int, C n [.agg [.int .i64 op, .int .i64 a]] [] (.one (.bool (instrOK op a))) []
theorem p_spec_l02OK (h1 : K_in n_spec_l01In C) (h2 : K_isOp n_spec_l02Op C) (h3 : K_rangeOf n_spec_l02Has C) (op a : Int) : v_spec_l02OK C (fun r os => r = .one (.bool (instrOK op a)) ∧ os = []) op a := by
  refine ⟨_, h2 _, rfl, ifB_cases (fun h => kb (by simp [instrOK, not_t h])) (fun h => ⟨_, _, _, h3 _, rfl, _, h1 _ _ _, rfl, kb (by simp [instrOK, not_f h])⟩)⟩
theorem p_impl_InstrOK (h1 : K_in n_impl_within C) (h2 : K_isOp n_impl_isOp C) (h3 : K_rangeOf n_impl_rangeOf C) (op a : Int) : v_impl_InstrOK C (fun r os => r = .one (.bool (instrOK op a)) ∧ os = []) op a := by
  refine ⟨_, _, _, h3 _, rfl, _, h2 _, rfl, ifB_cases (fun h => ⟨_, h1 _ _ _, rfl, kb (by simp [instrOK, h])⟩) (fun h => kb (by simp [instrOK, h]))⟩
def K_hasOperand (C : Calls_) : Prop := ∀ op : Int, C n_impl_hasOperand [.one (.int .i64 op)] [] (.one (.bool (rangeN_ op).2.2)) []
theorem p_impl_hasOperand (h3 : K_rangeOf n_impl_rangeOf C) (op : Int) : v_impl_hasOperand C (fun r os => r = .one (.bool (rangeN_ op).2.2) ∧ os = []) op := ⟨_, _, _, h3 _, rfl, kb rfl⟩

/-! ### the parser -/
@[reducible] def Ins : Type := List (Int × Int × Unit)
def step1 (rec : List Int → Ins → Int × Ins) (b a : Int) (l : List Int) (out : Ins) : Int × Ins :=
  if instrOK b a = true then if 40 ≤ out.length then (6, []) else rec l (out ++ [(b, (a, ()))]) else (4, [])
/-- What is read from the bytes l on, out being read already; n bounds the rounds. -/
def parse : Nat → List Int → Ins → Int × Ins
  | 0, _, out => (0, out)
  | _ + 1, [], out => (0, out)
  | n + 1, b :: l, out =>
    if inR b 1 26 = true then
      if (rangeN_ b).2.2 = true then
        if l.length < 4 then (16, []) else step1 (parse n) b (four l) (l.drop 4) out
      else step1 (parse n) b 0 l out
    else (11, [])
theorem parse_fuel : ∀ (n m : Nat) (l : List Int) (out : Ins), l.length ≤ n → l.length ≤ m → parse n l out = parse m l out
  | 0, m, l, out, h, _ => by
    have : l = [] := List.eq_nil_of_length_eq_zero (by omega)
    subst this
    cases m <;> rfl
  | n + 1, 0, l, out, _, h => by
    have : l = [] := List.eq_nil_of_length_eq_zero (by omega)
    subst this
    rfl
  | n + 1, m + 1, [], out, _, _ => rfl
  | n + 1, m + 1, b :: l, out, h, k => by
    simp only [List.length_cons] at h k
    have e1 : ∀ o, parse n (l.drop 4) o = parse m (l.drop 4) o := fun o => parse_fuel n m _ o (by simp; omega) (by simp; omega)
    have e2 : ∀ o, parse n l o = parse m l o := fun o => parse_fuel n m _ o (by omega) (by omega)
    simp only [parse, step1, e1, e2]
theorem parse_nil (n : Nat) (out : Ins) : parse n [] out = (0, out) := by cases n <;> rfl
@[reducible] def retC (p : Int × Ins) : Ent := .tup [(false, [.row 0]), (false, [.int .i64 p.1])]
@[reducible] def retO (p : Int × Ins) : List Ob := [.row t_impl_Instr (.pair (.int .i64) (.pair (.int .i64) .unit)) p.2]
def readB (s : ByteArray) : Int × Ins := parse s.size (bytesL s) []
def K_read (n : Nat) (C : Calls_) : Prop := ∀ s : ByteArray, s.size ≤ 65536 → C n [.one (.str s)] [] (retC (readB s)) (retO (readB s))

theorem drop_cons {l : List Int} {i : Nat} (h : i < l.length) : l.drop i = l.getD i 0 :: l.drop (i + 1) := by
  rw [List.drop_eq_getElem_cons h]
  simp [List.getD, List.getElem?_eq_getElem h]

section
variable (h1 : K_isOp n_spec_l02Op C) (h2 : K_rangeOf n_spec_l02Has C) (h3 : K_instrOK n_spec_l02OK C) (h4 : K_l01Take4 C)
include h1 h2 h3 h4
theorem p_spec_l02ReadBytes (s : ByteArray) (hs : s.size ≤ 65536) : v_spec_l02ReadBytes C (fun r os => r = retC (readB s) ∧ os = retO (readB s)) s := by
  have hb := bytesL_size s
  refine ⟨fun m t i r => s = t ∧ 0 ≤ i ∧ i ≤ s.size ∧ m = (s.size - i).toNat ∧ r.length ≤ 40 ∧ readB s = parse m ((bytesL s).drop i.toNat) r, ⟨_, rfl, by omega, by omega, rfl, by simp, by simp [readB]⟩, ?_⟩
  rintro m _ i r ⟨rfl, h5, h6, rfl, h7, h8⟩
  refine ifP (fun hlt => ⟨⟨h5, hlt⟩, rfl, ?_⟩) (fun hge => ?_)
  · obtain ⟨k, hk⟩ : ∃ k, ((s.size : Int) - i).toNat = k + 1 := ⟨((s.size : Int) - i).toNat - 1, by omega⟩
    have b0 := bytes_at (s := s) (i := i.toNat)
    rw [hk, drop_cons (by omega)] at h8
    simp only [parse] at h8
    rw [w64 (x := (bytesL s).getD i.toNat 0) (by omega), w64 (x := i + 1) (by omega)]
    refine ⟨_, h1 _, rfl, ifB_cases (fun hn => ?_) (fun hn => ?_)⟩
    · rw [if_neg (by rw [not_t hn]; simp)] at h8
      rw [h8]; exact ⟨rfl, rfl⟩
    rw [if_pos (not_f hn)] at h8
    refine ⟨fun t j q op a => s = t ∧ 0 ≤ j ∧ j ≤ s.size ∧ i < j ∧ r = q ∧ readB s = step1 (parse k) op a ((bytesL s).drop j.toNat) r, ⟨_, _, _, h2 _, rfl, ifB_cases (fun hh => ?_) (fun hh => ?_)⟩, ?_⟩
    · rw [if_pos hh] at h8
      rw [w64 (x := (s.size : Int) - (i + 1)) (by omega)]
      refine ifP (fun hl => ?_) (fun hl => ?_)
      · rw [if_pos (by simp; omega)] at h8
        rw [h8]; exact ⟨rfl, rfl⟩
      · rw [if_neg (by simp; omega)] at h8
        refine ⟨_, by have := h4 s (i.toNat + 1) (by omega) (by omega); rw [show ((i.toNat + 1 : Nat) : Int) = i + 1 by omega] at this; exact this, rfl, rfl, rfl, ?_, ?_, ?_, rfl, ?_⟩
        all_goals rw [w64 (by omega)]
        · omega
        · omega
        · omega
        · rw [h8, List.drop_drop, show (i + 1 + 4).toNat = i.toNat + 1 + 4 by omega]
    · rw [if_neg (by rw [hh]; simp)] at h8
      exact ⟨rfl, by omega, by omega, by omega, rfl, by rw [h8, show (i + 1).toNat = i.toNat + 1 by omega]⟩
    · rintro _ j _ op a ⟨rfl, h9, h10, h11, rfl, h12⟩
      unfold step1 at h12
      refine ⟨_, h3 _ _, rfl, ifB_cases (fun hn => ?_) (fun hn => ⟨by simp; omega, ?_⟩)⟩
      · rw [if_neg (by rw [not_t hn]; simp)] at h12
        rw [h12]; exact ⟨rfl, rfl⟩
      · rw [if_pos (not_f hn)] at h12
        refine ifP (fun hl => ?_) (fun hl => ?_)
        · simp at hl
          rw [if_pos (by omega)] at h12
          rw [h12]; exact ⟨rfl, rfl⟩
        · simp at hl
          rw [if_neg (by omega)] at h12
          refine ⟨_, ?_, rfl, h9, h10, rfl, by simp; omega, ?_⟩
          · omega
          · rw [h12]; exact parse_fuel _ _ _ _ (by simp; omega) (by simp; omega)
  · rw [List.drop_eq_nil_of_le (by omega), parse_nil] at h8
    rw [h8]; exact ⟨rfl, rfl⟩
end
section
variable (h1 : K_isOp n_impl_isOp C) (h2 : K_hasOperand C) (h3 : K_instrOK n_impl_InstrOK C) (h4 : K_take4 C) (hw : K_when C) (hf : K_first C)
include h1 h2 h3 h4 hw hf
theorem p_impl_readCode (s : ByteArray) (hs : s.size ≤ 65536) : v_impl_readCode C (fun r os => r = retC (readB s) ∧ os = retO (readB s)) s := by
  refine ⟨fun m t r => m = t.size ∧ t.size ≤ s.size ∧ r.length ≤ 40 ∧ readB s = parse t.size (bytesL t) r, ⟨_, rfl, by omega, by simp, rfl⟩, ?_⟩
  rintro m t r ⟨rfl, h5, h7, h8⟩
  have hb := bytesL_size t
  refine ifP (fun hgt => ?_) (fun hge => ?_)
  · obtain ⟨k, hk⟩ : ∃ k, t.size = k + 1 := ⟨t.size - 1, by omega⟩
    have b0 := bytes_at (s := t) (i := 0)
    have hc : bytesL t = (bytesL t).getD 0 0 :: (bytesL t).drop 1 := by
      have := drop_cons (l := bytesL t) (i := 0) (by omega)
      simpa using this
    rw [hk, hc] at h8
    simp only [parse] at h8
    refine ⟨⟨by omega, by omega⟩, rfl, ⟨by omega, by omega, by omega⟩, ?_⟩
    rw [show Int.toNat 0 = 0 by rfl, w64 (x := (bytesL t).getD 0 0) (by omega), show Int.toNat 1 = 1 by rfl, show (t.size : Int).toNat = t.size by omega]
    have ht1 : (t.extract 1 t.size).size = t.size - 1 := by rw [ByteArray.size_extract]; omega
    have ht1' : bytesL (t.extract 1 t.size) = (bytesL t).drop 1 := by
      rw [bytes_extract t (Nat.le_refl _), List.take_of_length_le (by omega)]
    refine ⟨_, h1 _, rfl, ifB_cases (fun hn => ?_) (fun hn => ?_)⟩
    · rw [if_neg (by rw [not_t hn]; simp)] at h8
      rw [h8]; exact ⟨rfl, rfl⟩
    rw [if_pos (not_f hn)] at h8
    refine ⟨fun u q op a => u.size < t.size ∧ r = q ∧ readB s = step1 (parse k) op a (bytesL u) r, ⟨_, h2 _, rfl, ifB_cases (fun hh => ?_) (fun hh => ?_)⟩, ?_⟩
    · rw [if_pos hh] at h8
      rw [ht1]
      refine ifP (fun hl => ?_) (fun hl => ?_)
      · rw [if_pos (by simp; omega)] at h8
        rw [h8]; exact ⟨rfl, rfl⟩
      · rw [if_neg (by simp; omega)] at h8
        rw [show Int.toNat 4 = 4 by rfl, show (((t.size - 1 : Nat) : Int)).toNat = t.size - 1 by omega]
        have ht2 : ((t.extract 1 t.size).extract 0 4).size = 4 := by rw [ByteArray.size_extract, ht1]; omega
        have e4 : four (bytesL ((t.extract 1 t.size).extract 0 4)) = four ((bytesL t).drop 1) := by
          rw [bytes_extract _ (by omega), ht1']
          simp [four, List.getD_eq_getElem?_getD, List.getElem?_take]
        refine ⟨⟨by omega, by omega, by omega⟩, ⟨by omega, by omega, by omega⟩, _, h4 _ ht2, rfl, rfl, ?_, rfl, ?_⟩
        · rw [ByteArray.size_extract, ht1]; omega
        · rw [h8, e4, bytes_extract _ (by omega), ht1', List.take_of_length_le (by simp; omega)]
    · rw [if_neg (by rw [hh]; simp)] at h8
      exact ⟨by omega, rfl, by rw [h8, ht1']⟩
    · rintro u _ op a ⟨h9, rfl, h12⟩
      have hub := bytesL_size u
      unfold step1 at h12
      refine ⟨_, h3 _ _, rfl, _, hw _ _, rfl, _, hw _ _, rfl, _, hf _ (by simp), rfl, ?_⟩
      cases hi : instrOK op a
      · rw [if_neg (by rw [hi]; simp)] at h12
        refine ifN (fun _ => ?_) (fun he => by simp [firstN] at he)
        rw [h12]
        simp [firstN]
      · rw [if_pos hi] at h12
        by_cases hl : r.length = 40
        · rw [if_pos (by omega)] at h12
          refine ifN (fun _ => ?_) (fun he => by simp [firstN, hl] at he)
          rw [h12]
          simp [firstN, hl]
        · rw [if_neg (by omega)] at h12
          have hl' : ((r.length : Int) == 40) = false := by simp; omega
          refine ifN (fun he => by simp [firstN, hl'] at he) (fun _ => ⟨by simp; omega, _, ?_, rfl, by omega, by simp; omega, ?_⟩)
          · omega
          · rw [h12]; exact parse_fuel _ _ _ _ (by omega) (by omega)
  · have : bytesL t = [] := List.eq_nil_of_length_eq_zero (by omega)
    rw [this, parse_nil] at h8
    rw [h8]; exact ⟨rfl, rfl⟩
end
def readR (s : ByteArray) : Int × Ins := if 65536 < s.size then (2, []) else readB s
def K_ReadCode (n : Nat) (C : Calls_) : Prop := ∀ s : ByteArray, C n [.one (.str s)] [] (retC (readR s)) (retO (readR s))
theorem p_spec_ReadCode (h : K_read n_spec_l02ReadBytes C) (s : ByteArray) : v_spec_ReadCode C (fun r os => r = retC (readR s) ∧ os = retO (readR s)) s := by
  unfold readR
  refine ifP (fun hg => by rw [if_pos (by omega)]; exact ⟨rfl, rfl⟩) (fun hg => ?_)
  rw [if_neg (by omega)]
  exact ⟨_, _, h s (by omega), rfl, rfl, rfl⟩
def K_long (C : Calls_) : Prop := ∀ s : ByteArray, C n_impl_long [.one (.str s)] [] (.one (.int .i64 (if 65536 < s.size then 2 else 0))) []
theorem p_impl_long (hw : K_when C) (s : ByteArray) : v_impl_long C (fun r os => r = .one (.int .i64 (if 65536 < s.size then 2 else 0)) ∧ os = []) s := by
  refine ⟨_, hw _ _, rfl, ?_, rfl⟩
  simp only [decide_eq_true_eq, gt_iff_lt]
  by_cases h : 65536 < s.size
  · rw [if_pos h, if_pos (by omega)]
  · rw [if_neg h, if_neg (by omega)]
theorem p_impl_ReadCode (hl : K_long C) (h : K_read n_impl_readCode C) (s : ByteArray) : v_impl_ReadCode C (fun r os => r = retC (readR s) ∧ os = retO (readR s)) s := by
  unfold readR
  refine ⟨_, hl s, rfl, ifN (fun hn => ?_) (fun hn => ?_)⟩
  · by_cases hg : 65536 < s.size
    · rw [if_pos hg, if_pos hg]; exact ⟨rfl, rfl⟩
    · rw [if_neg hg] at hn; exact absurd rfl hn
  · by_cases hg : 65536 < s.size
    · rw [if_pos hg] at hn; simp at hn
    · rw [if_neg hg]; exact ⟨_, _, h s (by omega), rfl, rfl, rfl⟩
end Go.Ry
