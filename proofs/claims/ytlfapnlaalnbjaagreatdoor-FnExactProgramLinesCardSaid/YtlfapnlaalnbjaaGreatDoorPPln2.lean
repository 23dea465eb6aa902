/- The lines of programs: the program's and the reference's. No condition. -/
import Derived.Test.YtlfapnlaalnbjaaGreatDoorPPln1
set_option linter.unusedVariables false
set_option linter.unusedSimpArgs false
namespace Go.Ry
open Go.Proofs

def kndL (k : Int) : ByteArray := (⟨#[107, 105, 110, 100, 32]⟩ : ByteArray) ++ kindB k
def insI (x : Ins) : ByteArray := insT x.1 x.2.1
@[reducible] def rouH : ByteArray := ⟨#[114, 111, 117, 116, 105, 110, 101]⟩
def rouL (r : Rou) : List ByteArray := rouH :: r.1.map insI
def tskL (t : Tsk) : ByteArray := (⟨#[116, 97, 115, 107, 32]⟩ : ByteArray) ++ taskB t.1 t.2.1 t.2.2.1 t.2.2.2.1 t.2.2.2.2.1 t.2.2.2.2.2.1
def safL (l : List Bool) : ByteArray := (⟨#[115, 97, 102, 101, 32]⟩ : ByteArray) ++ pinsT l
/-- The lines of a program. -/
def linesM (ks : List Int) (rs : List Rou) (ts : List Tsk) (sf : List Bool) : List ByteArray := ((ks.map kndL ++ rs.flatMap rouL) ++ ts.map tskL) ++ [safL sf]
theorem flat_succ {rs : List Rou} {i : Nat} (h : i < rs.length) : (rs.take (i + 1)).flatMap rouL = (rs.take i).flatMap rouL ++ rouL (rs.getD i (([] : List Ins), ())) := by
  rw [take_succ_getD h (([] : List Ins), ()), List.flatMap_append]; simp
theorem kindsOK_len {ks : List Int} (h : kindsOK ks = true) : ks.length ≤ 8 := (kindsOK_in h).1
theorem kindsOK_at {ks : List Int} (h : kindsOK ks = true) {i : Nat} (hi : i < ks.length) : isKind (ks.getD i 0) = true := (kindsOK_in h).2 i hi
theorem rousOK_at {rs : List Rou} (h : rousOK rs = true) {i : Nat} (hi : i < rs.length) : (rs.getD i (([] : List Ins), ())).1.length ≤ 40 ∧ ∀ x ∈ (rs.getD i (([] : List Ins), ())).1, insOK x = true := by
  have hm : rs.getD i (([] : List Ins), ()) ∈ rs := getD_mem hi
  simp only [rousOK, Bool.and_eq_true, decide_eq_true_eq, List.all_eq_true, rouOK, codeOK] at h
  exact h.2 _ hm
theorem rousOK_len {rs : List Rou} (h : rousOK rs = true) : rs.length ≤ 6 := (rousOK_fit h).1
theorem flat_len : ∀ {rs : List Rou}, (∀ r ∈ rs, r.1.length ≤ 40) → (rs.flatMap rouL).length ≤ 41 * rs.length
  | [], _ => by simp
  | r :: rs, h => by
    have h1 := h r (by simp)
    have h2 := flat_len (rs := rs) fun x hx => h x (by simp [hx])
    rw [List.flatMap_cons, List.length_append, List.length_cons]
    have : (rouL r).length = 1 + r.1.length := by simp [rouL]; omega
    omega
theorem linesM_len {ks : List Int} {rs : List Rou} {ts : List Tsk} {sf : List Bool} (hf : PrgFit ks rs ts sf) : (linesM ks rs ts sf).length ≤ 300 := by
  have h1 := kindsOK_len hf.hk
  have h2 := rousOK_len hf.hr
  have h3 := hf.ts5
  have h4 := flat_len (rs := rs) fun r hr => by
    obtain ⟨i, hi, rfl⟩ := List.getElem_of_mem hr
    have := (rousOK_at hf.hr hi).1
    rw [List.getD_eq_getElem?_getD, List.getElem?_eq_getElem hi] at this
    exact this
  unfold linesM
  simp only [List.length_append, List.length_map, List.length_singleton]
  omega
theorem ins_at {c : List Ins} (h : ∀ x ∈ c, insOK x = true) {i : Nat} (hi : i < c.length) : i64 (c.getD i ((0 : Int), ((0 : Int), ()))).2.1 := instr_i64 (h _ (getD_mem hi))
theorem kindL_size (k : Int) : (⟨#[107, 105, 110, 100, 32]⟩ : ByteArray).size + (kindB k).size ≤ 9223372036854775807 := by
  have := kindB_size k
  simp only [size_lit, List.length_cons, List.length_nil]; omega
theorem tskL_size (s : ByteArray) (h : s.size ≤ 200) : (⟨#[116, 97, 115, 107, 32]⟩ : ByteArray).size + s.size ≤ 9223372036854775807 := by
  simp only [size_lit, List.length_cons, List.length_nil]; omega
theorem safL_size (s : ByteArray) (h : s.size ≤ 200) : (⟨#[115, 97, 102, 101, 32]⟩ : ByteArray).size + s.size ≤ 9223372036854775807 := by
  simp only [size_lit, List.length_cons, List.length_nil]; omega
theorem c_spec_l13Program {ks : List Int} {rs : List Rou} {ts : List Tsk} {sf : List Bool} (hf : PrgFit ks rs ts sf) : TT n_spec_l13Program [prgE ks rs ts sf] [] (.one (.row 0)) [.row t_string .str (linesM ks rs ts sf)] := by
  have hk8 := kindsOK_len hf.hk
  have hr6 := rousOK_len hf.hr
  have ht5 := hf.ts5
  have hs8 := hf.hs
  refine r_spec_l13Program ks rs ts sf ⟨fun r => r = ks.map kndL, ⟨fun m i r => 0 ≤ i ∧ i ≤ ks.length ∧ m = (ks.length - i).toNat ∧ r = (ks.take i.toNat).map kndL, ⟨_, rfl, by omega, by omega, rfl, by simp⟩, ?_⟩, ?_⟩
  · rintro m i r ⟨h0, h1, rfl, rfl⟩
    refine ifP (fun hlt => ?_) (fun hge => ?_)
    · have hk := within_iff.1 (kindsOK_at hf.hk (i := i.toNat) (by omega))
      have hz := kindL_size (ks.getD i.toNat 0)
      rw [w64 (x := ks.getD i.toNat 0 - 1) (by omega), w64 (x := i + 1) (by omega)]
      refine ⟨⟨h0, hlt⟩, kindsB, r_spec_l03Names ⟨rfl, rfl⟩, ⟨by omega, ?_⟩, hz, ?_, _, ?_, rfl, by omega, by omega, rfl, ?_⟩
      · show _ < (4 : Int); omega
      · simp only [List.length_map, List.length_take, List.length_cons, List.length_nil]; omega
      · omega
      · rw [toNat_succ h0, take_succ_getD (by omega) 0, List.map_append]; rfl
    · rw [List.take_of_length_le (by omega)]; exact ⟨rfl, rfl⟩
  rintro r rfl
  refine ⟨fun r => r.length ≤ 254 ∧ r = ks.map kndL ++ rs.flatMap rouL, ⟨fun m i r => 0 ≤ i ∧ i ≤ rs.length ∧ m = (rs.length - i).toNat ∧ (r.length : Int) ≤ 8 + 41 * i ∧ r = ks.map kndL ++ (rs.take i.toNat).flatMap rouL, ⟨_, rfl, by omega, by omega, rfl, by rw [List.length_map]; omega, by simp⟩, ?_⟩, ?_⟩
  · rintro m i r ⟨h0, h1, rfl, h2, h3⟩
    refine ifP (fun hlt => ?_) (fun hge => ?_)
    · have hc := rousOK_at hf.hr (i := i.toNat) (by omega)
      have hfs := flat_succ (rs := rs) (i := i.toNat) (by omega)
      refine ⟨by simp only [List.length_cons, List.length_nil]; omega, fun m a k r' => i = a ∧ 0 ≤ k ∧ k ≤ ((rs.getD i.toNat (([] : List Ins), ())).1.length : Int) ∧ m = (((rs.getD i.toNat (([] : List Ins), ())).1.length : Int) - k).toNat ∧ (r'.length : Int) ≤ 9 + 41 * i + k ∧ r' = (r ++ [rouH]) ++ ((rs.getD i.toNat (([] : List Ins), ())).1.take k.toNat).map insI, ⟨_, rfl, rfl, by omega, by omega, rfl, by simp only [List.length_append, List.length_singleton]; omega, by simp⟩, ?_⟩
      rintro m a k r' ⟨rfl, k0, k1, rfl, k2, k3⟩
      refine ⟨⟨h0, hlt⟩, ?_⟩
      revert hc hfs k1 k3
      generalize rs.getD i.toNat (([] : List Ins), ()) = c
      intro hc hfs k1 k3
      refine ifP (fun hlk => ?_) (fun hgk => ?_)
      · rw [w64 (x := k + 1) (by omega)]
        refine ⟨⟨h0, hlt⟩, ⟨k0, hlk⟩, _, c_spec_l02Text _ _ (ins_at hc.2 (by omega)), ?_, _, ?_, rfl, rfl, by omega, by omega, rfl, ?_, ?_⟩
        · simp only [List.length_cons, List.length_nil]; omega
        · omega
        · simp only [List.length_append, List.length_singleton]; omega
        · rw [toNat_succ k0, take_succ_getD (by omega) ((0 : Int), ((0 : Int), ())), List.map_append, ← List.append_assoc, ← k3]; rfl
      · rw [w64 (x := i + 1) (by omega)]
        refine ⟨_, ?_, rfl, by omega, by omega, rfl, by omega, ?_⟩
        · omega
        · rw [toNat_succ h0, hfs, k3, List.take_of_length_le (by omega), h3]
          simp [rouL]
    · rw [List.take_of_length_le (by omega)] at h3
      exact ⟨rfl, by omega, h3⟩
  rintro r ⟨hl, rfl⟩
  have hB : linesM ks rs ts sf = ((ks.map kndL ++ rs.flatMap rouL) ++ ts.map tskL) ++ [safL sf] := rfl
  rw [hB]
  clear hB
  revert hl
  generalize ks.map kndL ++ rs.flatMap rouL = B
  intro hl
  refine ⟨fun r => r.length ≤ 259 ∧ r = B ++ ts.map tskL, ⟨fun m i r => 0 ≤ i ∧ i ≤ ts.length ∧ m = (ts.length - i).toNat ∧ (r.length : Int) ≤ 254 + i ∧ r = B ++ (ts.take i.toNat).map tskL, ⟨_, rfl, by omega, by omega, rfl, by omega, by simp⟩, ?_⟩, ?_⟩
  · rintro m i r ⟨h0, h1, rfl, h2, h3⟩
    refine ifP (fun hlt => ?_) (fun hge => ?_)
    · have ht := (hf.hts _ (getD_mem (l := ts) (i := i.toNat) (d := dTsk) (by omega))).1
      have hts := take_succ_getD (l := ts) (i := i.toNat) (by omega) dTsk
      revert ht hts
      generalize ts.getD i.toNat dTsk = t
      intro ht hts
      have hz := taskB_size t.1 t.2.1 t.2.2.1 t.2.2.2.1 t.2.2.2.2.1 t.2.2.2.2.2.1
      rw [w64 (x := i + 1) (by omega)]
      refine ⟨⟨h0, hlt⟩, _, c_spec_l13Task _ _ _ _ _ _ ht, tskL_size _ hz, ?_, _, ?_, rfl, by omega, by omega, rfl, ?_, ?_⟩
      · simp only [List.length_cons, List.length_nil]; omega
      · omega
      · simp only [List.length_append, List.length_singleton]; omega
      · rw [toNat_succ h0, hts, List.map_append, ← List.append_assoc, ← h3]; rfl
    · rw [List.take_of_length_le (by omega)] at h3
      exact ⟨rfl, by omega, h3⟩
  rintro r ⟨hl2, rfl⟩
  have hp := pinsT_size sf
  refine ⟨_, c_spec_l13Pins sf (by omega), safL_size _ (by omega), ?_, rfl, rfl⟩
  simp only [List.length_cons, List.length_nil]; omega
theorem c_impl_taskText' (t : Tsk) (h : tskOK t = true) : TT n_impl_taskText [tsk t.1 t.2.1 t.2.2.1 t.2.2.2.1 t.2.2.2.2.1 t.2.2.2.2.2.1] [] (eS (taskB t.1 t.2.1 t.2.2.1 t.2.2.2.1 t.2.2.2.2.1 t.2.2.2.2.2.1)) [] := c_impl_taskText _ _ _ _ _ _ h
def linesT (ks : List Int) (rs : List Rou) (ts : List Tsk) (sf : List Bool) : List ByteArray × Int := if prgOK ks rs ts sf = true then (linesM ks rs ts sf, 0) else ([], 1)
theorem linesT_len {ks : List Int} {rs : List Rou} {ts : List Tsk} {sf : List Bool} : (linesT ks rs ts sf).1.length ≤ 300 := by
  unfold linesT
  split
  · rename_i h; exact linesM_len (prgOK_fit h)
  · simp
theorem c_spec_ProgramLines (ks : List Int) (rs : List Rou) (ts : List Tsk) (sf : List Bool) (h : prgSmall ks rs ts sf) : TT n_spec_ProgramLines [prgE ks rs ts sf] [] (.tup [(false, [.row 0]), (false, [cI (linesT ks rs ts sf).2])]) [.row t_string .str (linesT ks rs ts sf).1] := by
  refine r_spec_ProgramLines ks rs ts sf ⟨_, c_spec_l08OK ks rs ts sf h, ifB_cases (fun h1 => ?_) (fun h1 => ?_)⟩
  · have h1 : ¬ prgOK ks rs ts sf = true := by simpa using h1
    rw [show linesT ks rs ts sf = _ from if_neg h1]; exact ⟨rfl, rfl⟩
  · have h1 : prgOK ks rs ts sf = true := by simpa using h1
    rw [show linesT ks rs ts sf = _ from if_pos h1]
    exact ⟨_, c_spec_l13Program (prgOK_fit h1), rfl, rfl⟩
theorem c_impl_ProgramLines (ks : List Int) (rs : List Rou) (ts : List Tsk) (sf : List Bool) (h : prgSmall ks rs ts sf) : TT n_impl_ProgramLines [prgE ks rs ts sf] [] (.tup [(false, [.row 0]), (false, [cI (linesT ks rs ts sf).2])]) [.row t_string .str (linesT ks rs ts sf).1] := by
  refine r_impl_ProgramLines ks rs ts sf ⟨_, c_impl_isProgram ks rs ts sf h, ifB_cases (fun h1 => ?_) (fun h1 => ?_)⟩
  · have h1 : ¬ prgOK ks rs ts sf = true := by simpa using h1
    rw [show linesT ks rs ts sf = _ from if_neg h1]; exact ⟨rfl, rfl⟩
  have h1 : prgOK ks rs ts sf = true := by simpa using h1
  rw [show linesT ks rs ts sf = _ from if_pos h1]
  have hf := prgOK_fit h1
  have hk8 := kindsOK_len hf.hk
  have hr6 := rousOK_len hf.hr
  have ht5 := hf.ts5
  have hs8 := hf.hs
  refine ⟨fun r => r = ks.map kndL, ⟨fun m i r => 0 ≤ i ∧ i ≤ ks.length ∧ m = (ks.length - i).toNat ∧ r = (ks.take i.toNat).map kndL, ⟨_, rfl, rfl, by omega, by omega, rfl, by simp⟩, ?_⟩, ?_⟩
  · rintro m i r ⟨h0, h1, rfl, rfl⟩
    refine ifP (fun hlt => ?_) (fun hge => ?_)
    · have hz := kindL_size (ks.getD i.toNat 0)
      rw [w64 (x := i + 1) (by omega)]
      refine ⟨⟨h0, hlt⟩, _, c_impl_kindName _ (kindsOK_at hf.hk (i := i.toNat) (by omega)), hz, ?_, _, ?_, rfl, rfl, by omega, by omega, rfl, ?_⟩
      · simp only [List.length_map, List.length_take, List.length_cons, List.length_nil]; omega
      · omega
      · rw [toNat_succ h0, take_succ_getD (by omega) 0, List.map_append]; rfl
    · rw [List.take_of_length_le (by omega)]; exact ⟨rfl, rfl⟩
  rintro r rfl
  refine ⟨fun r => r.length ≤ 254 ∧ r = ks.map kndL ++ rs.flatMap rouL, ⟨fun m i r => 0 ≤ i ∧ i ≤ rs.length ∧ m = (rs.length - i).toNat ∧ (r.length : Int) ≤ 8 + 41 * i ∧ r = ks.map kndL ++ (rs.take i.toNat).flatMap rouL, ⟨_, rfl, rfl, by omega, by omega, rfl, by rw [List.length_map]; omega, by simp⟩, ?_⟩, ?_⟩
  · rintro m i r ⟨h0, h1, rfl, h2, h3⟩
    refine ifP (fun hlt => ?_) (fun hge => ?_)
    · have hc := rousOK_at hf.hr (i := i.toNat) (by omega)
      have hfs := flat_succ (rs := rs) (i := i.toNat) (by omega)
      revert hc hfs
      generalize rs.getD i.toNat (([] : List Ins), ()) = c
      intro hc hfs
      refine ⟨⟨h0, hlt⟩, by simp only [List.length_cons, List.length_nil]; omega, fun m a l n k r' => i = a ∧ c.1 = l ∧ n = c.1.length ∧ 0 ≤ k ∧ k ≤ (c.1.length : Int) ∧ m = ((c.1.length : Int) - k).toNat ∧ (r'.length : Int) ≤ 9 + 41 * i + k ∧ r' = (r ++ [rouH]) ++ (c.1.take k.toNat).map insI, ⟨_, rfl, rfl, rfl, rfl, rfl, by omega, by omega, rfl, by simp only [List.length_append, List.length_singleton]; omega, by simp⟩, ?_⟩
      rintro m a l n k r' ⟨rfl, rfl, rfl, k0, k1, rfl, k2, k3⟩
      refine ifP (fun hlk => ?_) (fun hgk => ?_)
      · rw [w64 (x := k + 1) (by omega)]
        refine ⟨⟨k0, hlk⟩, _, c_impl_instrText _ _ (ins_at hc.2 (by omega)), ?_, _, ?_, rfl, rfl, rfl, rfl, rfl, by omega, by omega, rfl, ?_, ?_⟩
        · simp only [List.length_cons, List.length_nil]; omega
        · omega
        · simp only [List.length_append, List.length_singleton]; omega
        · rw [toNat_succ k0, take_succ_getD (by omega) ((0 : Int), ((0 : Int), ())), List.map_append, ← List.append_assoc, ← k3]; rfl
      · rw [w64 (x := i + 1) (by omega)]
        refine ⟨_, ?_, rfl, rfl, by omega, by omega, rfl, by omega, ?_⟩
        · omega
        · rw [toNat_succ h0, hfs, k3, List.take_of_length_le (by omega), h3]
          simp [rouL]
    · rw [List.take_of_length_le (by omega)] at h3
      exact ⟨rfl, by omega, h3⟩
  rintro r ⟨hl, rfl⟩
  have hB : linesM ks rs ts sf = ((ks.map kndL ++ rs.flatMap rouL) ++ ts.map tskL) ++ [safL sf] := rfl
  rw [hB]
  clear hB
  revert hl
  generalize ks.map kndL ++ rs.flatMap rouL = B
  intro hl
  refine ⟨fun r => r.length ≤ 259 ∧ r = B ++ ts.map tskL, ⟨fun m i r => 0 ≤ i ∧ i ≤ ts.length ∧ m = (ts.length - i).toNat ∧ (r.length : Int) ≤ 254 + i ∧ r = B ++ (ts.take i.toNat).map tskL, ⟨_, rfl, rfl, by omega, by omega, rfl, by omega, by simp⟩, ?_⟩, ?_⟩
  · rintro m i r ⟨h0, h1, rfl, h2, h3⟩
    refine ifP (fun hlt => ?_) (fun hge => ?_)
    · have ht := (hf.hts _ (getD_mem (l := ts) (i := i.toNat) (d := dTsk) (by omega))).1
      have hts := take_succ_getD (l := ts) (i := i.toNat) (by omega) dTsk
      revert ht hts
      generalize ts.getD i.toNat dTsk = t
      intro ht hts
      have hz := taskB_size t.1 t.2.1 t.2.2.1 t.2.2.2.1 t.2.2.2.2.1 t.2.2.2.2.2.1
      rw [w64 (x := i + 1) (by omega)]
      refine ⟨⟨h0, hlt⟩, _, c_impl_taskText' t ht, tskL_size _ hz, ?_, _, ?_, rfl, rfl, by omega, by omega, rfl, ?_, ?_⟩
      · simp only [List.length_cons, List.length_nil]; omega
      · omega
      · simp only [List.length_append, List.length_singleton]; omega
      · rw [toNat_succ h0, hts, List.map_append, ← List.append_assoc, ← h3]; rfl
    · rw [List.take_of_length_le (by omega)] at h3
      exact ⟨rfl, by omega, h3⟩
  rintro r ⟨hl2, rfl⟩
  have hp := pinsT_size sf
  refine ⟨_, c_impl_bitsText sf (by omega), safL_size _ (by omega), ?_, rfl, rfl⟩
  simp only [List.length_cons, List.length_nil]; omega
end Go.Ry
