/- The lines of data. No condition. -/
import Derived.Test.YtmcgmmmbnidpnaaDoorPDat1
import Derived.Test.YtmcgmmmbnidpnaaDoorPTxt3
set_option linter.unusedVariables false
set_option linter.unusedSimpArgs false
namespace Go.Ry
open Go.Proofs

@[reducible] def nameL : List ByteArray := [(⟨#[116, 105, 109, 101, 114]⟩ : ByteArray), (⟨#[99, 111, 117, 110, 116, 101, 114]⟩ : ByteArray), (⟨#[101, 100, 103, 101]⟩ : ByteArray), (⟨#[108, 97, 116, 99, 104]⟩ : ByteArray)]
def nameK (k : Int) : ByteArray := nameL.getD (Int.toNat (k - 1)) (⟨#[]⟩ : ByteArray)
theorem nameK_size {k : Int} (h : 1 ≤ k ∧ k ≤ 4) : (nameK k).size ≤ 7 := by
  have : k = 1 ∨ k = 2 ∨ k = 3 ∨ k = 4 := by omega
  rcases this with rfl | rfl | rfl | rfl <;> decide
theorem ext_off (N : ByteArray) : (N ++ (⟨#[32, 111, 102, 102]⟩ : ByteArray)).extract 0 (N.size + 1) ++ (⟨#[111, 110]⟩ : ByteArray) = N ++ (⟨#[32, 111, 110]⟩ : ByteArray) := by
  apply bytesL_inj
  rw [bytesL_append, bytesL_extract _ (by simp only [size_append, size_lit, List.length_cons, List.length_nil]; omega), bytesL_append, bytesL_append, List.drop_zero, List.take_append, bytesL_size,
    List.take_of_length_le (by rw [bytesL_size]; omega), show N.size + 1 - N.size = 1 by omega, List.append_assoc]
  rfl
/-- A block's text, up to whether it is on. -/
def fbHead (k : Int) (on : Bool) : ByteArray := nameK k ++ (if on = true then (⟨#[32, 111, 110]⟩ : ByteArray) else (⟨#[32, 111, 102, 102]⟩ : ByteArray))
theorem fbHead_size {k : Int} (h : 1 ≤ k ∧ k ≤ 4) (on : Bool) : (fbHead k on).size ≤ 11 := by
  have := nameK_size h
  unfold fbHead
  rw [size_append]
  cases on
  · have e : (if false = true then (⟨#[32, 111, 110]⟩ : ByteArray) else (⟨#[32, 111, 102, 102]⟩ : ByteArray)).size = 4 := rfl
    omega
  · have e : (if true = true then (⟨#[32, 111, 110]⟩ : ByteArray) else (⟨#[32, 111, 102, 102]⟩ : ByteArray)).size = 3 := rfl
    omega
def fbB (f : FbT) : ByteArray :=
  if f.1 = 1 then fbHead f.1 f.2.1 ++ ((((⟨#[32, 115, 116, 97, 114, 116, 32]⟩ : ByteArray) ++ itoaB f.2.2.1) ++ (⟨#[32, 99, 111, 117, 110, 116, 32]⟩ : ByteArray)) ++ itoaB f.2.2.2.1)
  else if f.1 = 2 then fbHead f.1 f.2.1 ++ ((⟨#[32, 99, 111, 117, 110, 116, 32]⟩ : ByteArray) ++ itoaB f.2.2.2.1)
  else fbHead f.1 f.2.1
theorem fb_range {f : FbT} (h : fbOK f = true) : (1 ≤ f.1 ∧ f.1 ≤ 4) ∧ i64 f.2.2.1 ∧ i64 f.2.2.2.1 := by
  unfold fbOK at h
  split at h
  · simp only [Bool.and_eq_true, isTm, within_iff] at h
    unfold i64; omega
  · split at h
    · simp only [Bool.and_eq_true, isTm, within_iff, beq_iff_eq] at h
      unfold i64; omega
    · simp only [Bool.and_eq_true, Bool.or_eq_true, beq_iff_eq] at h
      unfold i64; omega
theorem fbB_size {f : FbT} (h : 1 ≤ f.1 ∧ f.1 ≤ 4) : (fbB f).size ≤ 100 := by
  have h1 := fbHead_size h f.2.1
  have s1 := itoaB_size f.2.2.1; have s2 := itoaB_size f.2.2.2.1
  unfold fbB
  split
  · simp only [size_append, size_lit, List.length_cons, List.length_nil]; omega
  · split
    · simp only [size_append, size_lit, List.length_cons, List.length_nil]; omega
    · omega
theorem c_impl_fbText (f : FbT) (h : fbOK f = true) : TT n_impl_fbText [fbE f] [] (eS (fbB f)) [] := by
  obtain ⟨hk, h1, h2⟩ := fb_range h
  obtain ⟨k, on, st, ct, u⟩ := f
  simp only at hk h1 h2
  have s1 := itoaB_size st; have s2 := itoaB_size ct; have sh := fbHead_size hk on
  refine r_impl_fbText k on st ct ?_
  unfold v_impl_fbText
  rw [w64 (x := k - 1) (by omega)]
  have hN := nameK_size hk
  have hH : fbHead k on = nameK k ++ (if on = true then (⟨#[32, 111, 110]⟩ : ByteArray) else (⟨#[32, 111, 102, 102]⟩ : ByteArray)) := rfl
  have hB : fbB (k, on, st, ct, u) = if k = 1 then fbHead k on ++ ((((⟨#[32, 115, 116, 97, 114, 116, 32]⟩ : ByteArray) ++ itoaB st) ++ (⟨#[32, 99, 111, 117, 110, 116, 32]⟩ : ByteArray)) ++ itoaB ct) else if k = 2 then fbHead k on ++ ((⟨#[32, 99, 111, 117, 110, 116, 32]⟩ : ByteArray) ++ itoaB ct) else fbHead k on := rfl
  rw [hB]
  clear hB
  revert hN hH sh
  generalize fbHead k on = H
  unfold nameK
  generalize ([(⟨#[116, 105, 109, 101, 114]⟩ : ByteArray), (⟨#[99, 111, 117, 110, 116, 101, 114]⟩ : ByteArray), (⟨#[101, 100, 103, 101]⟩ : ByteArray), (⟨#[108, 97, 116, 99, 104]⟩ : ByteArray)] : List ByteArray).getD (Int.toNat (k - 1)) (⟨#[]⟩ : ByteArray) = N
  intro sh hN hH
  have e : wI (((N ++ (⟨#[32, 111, 102, 102]⟩ : ByteArray)).size : Int) - 3) = ((N.size + 1 : Nat) : Int) := by
    simp only [size_append, size_lit, List.length_cons, List.length_nil]
    rw [w64 (by omega)]; omega
  rw [e]
  refine ⟨⟨by omega, by omega⟩, ?_, fun s => s = H, ifB_cases (fun ho => ?_) (fun ho => ⟨rfl, by rw [hH, if_neg (by simp [ho])]⟩), ?_⟩
  · simp only [size_lit, List.length_cons, List.length_nil]; omega
  · rw [show Int.toNat 0 = 0 from rfl, Int.toNat_natCast]
    have e2 := ext_off N
    refine ⟨⟨by omega, by omega, ?_⟩, ?_, rfl, ?_⟩
    · simp only [size_append, size_lit, List.length_cons, List.length_nil]; omega
    · rw [size_extract _ (by simp only [size_append, size_lit, List.length_cons, List.length_nil]; omega)]
      simp only [size_lit, List.length_cons, List.length_nil]; omega
    · show _ = H
      rw [e2, hH, if_pos ho]
  rintro s rfl
  refine ⟨fun t => t = if k = 1 then s ++ ((⟨#[32, 115, 116, 97, 114, 116, 32]⟩ : ByteArray) ++ itoaB st) else s, ifE (fun e1 => ?_) (fun e1 => ⟨rfl, by rw [if_neg e1]⟩), ?_⟩
  · refine ⟨_, c_impl_decimal st h1, ?_, ?_, rfl, by rw [if_pos e1]⟩
    all_goals (simp only [size_append, size_lit, List.length_cons, List.length_nil]; omega)
  rintro t rfl
  have hz : (if k = 1 then s ++ ((⟨#[32, 115, 116, 97, 114, 116, 32]⟩ : ByteArray) ++ itoaB st) else s).size ≤ 60 := by
    split
    · simp only [size_append, size_lit, List.length_cons, List.length_nil]; omega
    · omega
  refine ifP (fun e2 => ?_) (fun e2 => ⟨by rw [if_neg (by omega), if_neg (by omega), if_neg (by omega)], rfl⟩)
  refine ⟨_, c_impl_decimal ct h2, ?_, ?_, ?_, rfl⟩
  · simp only [size_append, size_lit, List.length_cons, List.length_nil]; omega
  · revert hz
    generalize (if k = 1 then s ++ ((⟨#[32, 115, 116, 97, 114, 116, 32]⟩ : ByteArray) ++ itoaB st) else s) = t
    intro hz
    simp only [size_append, size_lit, List.length_cons, List.length_nil]; omega
  · by_cases k1 : k = 1
    · rw [if_pos k1, if_pos k1]
      refine congrArg eS ?_
      apply ba_ext
      simp [data_app]
    · rw [if_neg k1, if_neg k1, if_pos (by omega)]
theorem c_spec_l03Names : TT n_spec_l03Names [] [] (.one (.row 0)) [.row t_string .str nameL] := r_spec_l03Names ⟨rfl, rfl⟩
theorem c_spec_l03Text (f : FbT) (h : fbOK f = true) : TT n_spec_l03Text [fbE f] [] (eS (fbB f)) [] := by
  obtain ⟨hk, h1, h2⟩ := fb_range h
  obtain ⟨k, on, st, ct, u⟩ := f
  simp only at hk h1 h2
  have s1 := itoaB_size st; have s2 := itoaB_size ct; have sh := fbHead_size hk on
  have hN := nameK_size hk
  have hH : fbHead k on = nameK k ++ (if on = true then (⟨#[32, 111, 110]⟩ : ByteArray) else (⟨#[32, 111, 102, 102]⟩ : ByteArray)) := rfl
  have hB : fbB (k, on, st, ct, u) = if k = 1 then fbHead k on ++ ((((⟨#[32, 115, 116, 97, 114, 116, 32]⟩ : ByteArray) ++ itoaB st) ++ (⟨#[32, 99, 111, 117, 110, 116, 32]⟩ : ByteArray)) ++ itoaB ct) else if k = 2 then fbHead k on ++ ((⟨#[32, 99, 111, 117, 110, 116, 32]⟩ : ByteArray) ++ itoaB ct) else fbHead k on := rfl
  rw [hB]
  clear hB
  refine r_spec_l03Text k on st ct ⟨_, c_spec_l03Names, ⟨?_, ?_⟩, ?_⟩
  · rw [w64 (by omega)]; omega
  · rw [w64 (by omega)]; simp only [List.length_cons, List.length_nil]; omega
  rw [w64 (x := k - 1) (by omega)]
  rw [show nameL.getD (Int.toNat (k - 1)) (⟨#[]⟩ : ByteArray) = nameK k from rfl]
  revert hN hH sh
  generalize fbHead k on = H
  generalize nameK k = N
  intro sh hN hH
  refine ⟨fun s => s = H, ifB_cases (fun ho => ⟨?_, rfl, by rw [hH, if_pos ho]⟩) (fun ho => ⟨?_, rfl, by rw [hH, if_neg (by simp [ho])]⟩), ?_⟩
  · simp only [size_lit, List.length_cons, List.length_nil]; omega
  · simp only [size_lit, List.length_cons, List.length_nil]; omega
  rintro s rfl
  refine ifE (fun e1 => ?_) (fun e1 => ifE (fun e2 => ?_) (fun e2 => ⟨by rw [if_neg e1, if_neg e2], rfl⟩))
  · refine ⟨_, c_spec_l00Digits st h1, ?_, ?_, _, c_spec_l00Digits ct h2, ?_, ?_, by rw [if_pos e1], rfl⟩
    all_goals (simp only [size_append, size_lit, List.length_cons, List.length_nil]; omega)
  · refine ⟨_, c_spec_l00Digits ct h2, ?_, ?_, by rw [if_neg e1, if_pos e2], rfl⟩
    all_goals (simp only [size_append, size_lit, List.length_cons, List.length_nil]; omega)

/-! ### the lines -/
def globB (g : List Int) (j : Nat) : ByteArray := (((⟨#[103, 108, 111, 98, 97, 108, 32]⟩ : ByteArray) ++ itoaB (j : Int)) ++ (⟨#[32]⟩ : ByteArray)) ++ itoaB (g.getD j 0)
def globL (g : List Int) (i : Nat) : List ByteArray := ((List.range i).filter fun j => g.getD j 0 != 0).map (globB g)
theorem globL_len (g : List Int) (i : Nat) : (globL g i).length ≤ i := by
  unfold globL
  rw [List.length_map]
  exact Nat.le_trans (List.length_filter_le _ _) (by simp)
theorem globL_succ (g : List Int) (i : Nat) : globL g (i + 1) = globL g i ++ (if g.getD i 0 ≠ 0 then [globB g i] else []) := by
  unfold globL
  rw [List.range_succ, List.filter_append, List.map_append]
  congr 1
  by_cases h : g.getD i 0 = 0
  · rw [if_neg (by simpa using h), List.filter_cons_of_neg (by simpa using h)]; rfl
  · rw [if_pos h, List.filter_cons_of_pos (by simpa using h)]; rfl
def blkB (f : List FbT) (j : Nat) : ByteArray := (((⟨#[98, 108, 111, 99, 107, 32]⟩ : ByteArray) ++ itoaB (j : Int)) ++ (⟨#[32]⟩ : ByteArray)) ++ fbB (f.getD j dFb)
def blkL (f : List FbT) (i : Nat) : List ByteArray := (List.range i).map (blkB f)
theorem blkL_succ (f : List FbT) (i : Nat) : blkL f (i + 1) = blkL f i ++ [blkB f i] := by simp [blkL, List.range_succ]
theorem blkL_len (f : List FbT) (i : Nat) : (blkL f i).length = i := by simp [blkL]
def dataLines (x : Dat) : List ByteArray := (globL x.g 16 ++ blkL x.f x.f.length) ++ [(⟨#[119, 114, 111, 110, 103, 32]⟩ : ByteArray) ++ itoaB x.w]
theorem dataLines_len (x : Dat) (h : x.f.length ≤ 8) : (dataLines x).length ≤ 25 := by
  have := globL_len x.g 16
  simp only [dataLines, List.length_append, blkL_len, List.length_cons, List.length_nil]; omega
theorem data_facts {x : Dat} (h : dataOK x = true) : x.g.length = 16 ∧ x.f.length ≤ 8 ∧ (0 ≤ x.w ∧ x.w ≤ 2147483647) ∧ (∀ n ∈ x.g, i64 n) ∧ ∀ f ∈ x.f, fbOK f = true := by
  simp only [dataOK, Bool.and_eq_true, decide_eq_true_eq, isTm, within_iff, List.all_eq_true, isVal] at h
  obtain ⟨h1, h2, _, _, _, _, h3, h4, h5⟩ := h
  refine ⟨by omega, by omega, h3, fun n hn => ?_, h5⟩
  have := h4 n hn
  unfold i64; omega
theorem nums2 (a b : Int) : (⟨#[103, 108, 111, 98, 97, 108, 32]⟩ : ByteArray) ++ numsB [a, b] = (((⟨#[103, 108, 111, 98, 97, 108, 32]⟩ : ByteArray) ++ itoaB a) ++ (⟨#[32]⟩ : ByteArray)) ++ itoaB b := by
  apply ba_ext
  simp [numsB, joinB, data_app, Lib.join_cons, Lib.joinTail]
theorem c_spec_l13Data (x : Dat) (h : dataOK x = true) : TT n_spec_l13Data [.agg x.cs] [] (.one (.row 0)) [.row t_string .str (dataLines x)] := by
  obtain ⟨hg, hf, hw, hgi, hfb⟩ := data_facts h
  obtain ⟨g, f, a, b, c, d, w⟩ := x
  simp only at hg hf hw hgi hfb
  refine r_spec_l13Data g f a b c d w ⟨fun r => r = globL g 16, ⟨fun m i r => 0 ≤ i ∧ i ≤ 16 ∧ m = (16 - i).toNat ∧ r = globL g i.toNat, ⟨_, rfl, by omega, by omega, rfl, rfl⟩, ?_⟩, ?_⟩
  · rintro m i r ⟨h0, h1, rfl, rfl⟩
    have hl := globL_len g i.toNat
    refine ifP (fun hlt => ?_) (fun hge => ⟨rfl, by rw [show i.toNat = 16 by omega]⟩)
    have hs := globL_succ g i.toNat
    have hv := hgi (g.getD i.toNat 0) (getD_mem (by omega))
    have s1 := itoaB_size i; have s2 := itoaB_size (g.getD i.toNat 0)
    rw [w64 (x := i + 1) (by omega)]
    have hin : 0 ≤ i ∧ i < (g.length : Int) := ⟨h0, by omega⟩
    refine ⟨hin, ifN (fun hn => ?_) (fun hn => ?_)⟩
    · rw [if_pos hn] at hs
      refine ⟨hin, _, c_spec_l00Digits i (by unfold i64; omega), ?_, ?_, _, c_spec_l00Digits _ hv, ?_, ?_, (16 - (i + 1)).toNat, by omega, rfl, by omega, by omega, rfl, ?_⟩
      · simp only [size_lit, List.length_cons, List.length_nil]; omega
      · simp only [size_append, size_lit, List.length_cons, List.length_nil]; omega
      · simp only [size_append, size_lit, List.length_cons, List.length_nil]; omega
      · simp only [List.length_cons, List.length_nil]; omega
      · rw [toNat_succ h0, hs, globB, Int.toNat_of_nonneg h0]
    · rw [if_neg (by simpa using hn), List.append_nil] at hs
      exact ⟨(16 - (i + 1)).toNat, by omega, rfl, by omega, by omega, rfl, by rw [toNat_succ h0]; exact hs.symm⟩
  rintro r rfl
  have hg16 := globL_len g 16
  refine ⟨fun r => r = globL g 16 ++ blkL f f.length, ⟨fun m i r => 0 ≤ i ∧ i ≤ f.length ∧ m = (f.length - i).toNat ∧ r = globL g 16 ++ blkL f i.toNat, ⟨_, rfl, by omega, by omega, rfl, by simp [blkL]⟩, ?_⟩, ?_⟩
  · rintro m i r ⟨h0, h1, rfl, rfl⟩
    refine ifP (fun hlt => ?_) (fun hge => ⟨rfl, by rw [show i.toNat = f.length by omega]⟩)
    have hb := hfb (f.getD i.toNat dFb) (getD_mem (by omega))
    have s1 := itoaB_size i; have s2 := fbB_size (fb_range hb).1
    have hin : 0 ≤ i ∧ i < (f.length : Int) := ⟨h0, by omega⟩
    rw [w64 (x := i + 1) (by omega)]
    refine ⟨hin, _, c_spec_l00Digits i (by unfold i64; omega), ?_, ?_, _, c_spec_l03Text (f.getD i.toNat dFb) hb, ?_, ?_, (f.length - (i + 1)).toNat, by omega, rfl, by omega, by omega, rfl, ?_⟩
    · simp only [size_lit, List.length_cons, List.length_nil]; omega
    · simp only [size_append, size_lit, List.length_cons, List.length_nil]; omega
    · simp only [size_append, size_lit, List.length_cons, List.length_nil]; omega
    · simp only [List.length_append, blkL_len, List.length_cons, List.length_nil]; omega
    · rw [toNat_succ h0, blkL_succ, ← List.append_assoc, blkB, Int.toNat_of_nonneg h0]
  rintro r rfl
  have s1 := itoaB_size w
  refine ⟨_, c_spec_l00Digits w (by unfold i64; omega), ?_, ?_, rfl, rfl⟩
  · simp only [size_lit, List.length_cons, List.length_nil]; omega
  · simp only [List.length_append, blkL_len, List.length_cons, List.length_nil]; omega
def dataM (x : Dat) : List ByteArray × Int := if dataOK x = true then (dataLines x, 0) else ([], 1)
theorem c_spec_DataLines (x : Dat) : TT n_spec_DataLines [.agg x.cs] [] (.tup [(false, [.row 0]), (false, [cI (dataM x).2])]) [.row t_string .str (dataM x).1] := by
  refine r_spec_DataLines x.g x.f x.a x.b x.c x.d x.w ⟨_, c_spec_DataOK x, ifB_cases (fun h => ?_) (fun h => ?_)⟩
  · have h : dataOK x = false := by simpa using h
    exact ⟨by simp [dataM, h], by simp [dataM, h]⟩
  · have h : dataOK x = true := by simpa using h
    exact ⟨_, c_spec_l13Data x h, by simp [dataM, h], by simp [dataM, h]⟩
theorem c_impl_DataLines (x : Dat) (hgl : x.g.length ≤ 1048576) : TT n_impl_DataLines [.agg x.cs] [] (.tup [(false, [.row 0]), (false, [cI (dataM x).2])]) [.row t_string .str (dataM x).1] := by
  obtain ⟨g, f, a, b, c, d, w⟩ := x
  refine r_impl_DataLines g f a b c d w ⟨_, c_impl_DataOK ⟨g, f, a, b, c, d, w⟩ hgl, ifB_cases (fun h => ?_) (fun h => ?_)⟩
  · have h : dataOK ⟨g, f, a, b, c, d, w⟩ = false := by simpa using h
    exact ⟨by simp [dataM, h], by simp [dataM, h]⟩
  have h : dataOK ⟨g, f, a, b, c, d, w⟩ = true := by simpa using h
  have hM : dataM ⟨g, f, a, b, c, d, w⟩ = (dataLines ⟨g, f, a, b, c, d, w⟩, 0) := by simp [dataM, h]
  rw [hM]
  obtain ⟨hg, hf, hw, hgi, hfb⟩ := data_facts h
  simp only at hg hf hw hgi hfb
  refine ⟨fun r => r = globL g 16, ⟨fun m i r => 0 ≤ i ∧ i ≤ 16 ∧ m = (16 - i).toNat ∧ r = globL g i.toNat, ⟨_, rfl, rfl, by omega, by omega, rfl, rfl⟩, ?_⟩, ?_⟩
  · rintro m i r ⟨h0, h1, rfl, rfl⟩
    have hl := globL_len g i.toNat
    refine ifP (fun hlt => ?_) (fun hge => ⟨rfl, by rw [show i.toNat = 16 by omega]⟩)
    have hs := globL_succ g i.toNat
    have hv := hgi (g.getD i.toNat 0) (getD_mem (by omega))
    have hin : 0 ≤ i ∧ i < (g.length : Int) := ⟨h0, by omega⟩
    rw [w64 (x := i + 1) (by omega)]
    refine ⟨hin, ifN (fun hn => ?_) (fun hn => ?_)⟩
    · rw [if_pos hn] at hs
      have sz := numsB_size [i, g.getD i.toNat 0]
      have hnum : ∀ y ∈ [i, g.getD i.toNat 0], i64 y := by
        intro y hy
        simp only [List.mem_cons, List.not_mem_nil, or_false] at hy
        rcases hy with rfl | rfl
        · unfold i64; omega
        · exact hv
      refine ⟨_, c_impl_numbers [i, g.getD i.toNat 0] (by simp) hnum, ?_, ?_, (16 - (i + 1)).toNat, by omega, rfl, rfl, by omega, by omega, rfl, ?_⟩
      · simp only [size_lit, List.length_cons, List.length_nil] at sz ⊢; omega
      · simp only [List.length_cons, List.length_nil]; omega
      · rw [toNat_succ h0, hs, globB, Int.toNat_of_nonneg h0, nums2]
    · rw [if_neg (by simpa using hn), List.append_nil] at hs
      exact ⟨(16 - (i + 1)).toNat, by omega, rfl, rfl, by omega, by omega, rfl, by rw [toNat_succ h0]; exact hs.symm⟩
  rintro r rfl
  have hg16 := globL_len g 16
  refine ⟨fun r => r = globL g 16 ++ blkL f f.length, ⟨fun m i r => 0 ≤ i ∧ i ≤ f.length ∧ m = (f.length - i).toNat ∧ r = globL g 16 ++ blkL f i.toNat, ⟨_, rfl, rfl, by omega, by omega, rfl, by simp [blkL]⟩, ?_⟩, ?_⟩
  · rintro m i r ⟨h0, h1, rfl, rfl⟩
    refine ifP (fun hlt => ?_) (fun hge => ⟨rfl, by rw [show i.toNat = f.length by omega]⟩)
    have hb := hfb (f.getD i.toNat dFb) (getD_mem (by omega))
    have s1 := itoaB_size i; have s2 := fbB_size (fb_range hb).1
    have hin : 0 ≤ i ∧ i < (f.length : Int) := ⟨h0, by omega⟩
    rw [w64 (x := i + 1) (by omega)]
    refine ⟨hin, _, c_impl_decimal i (by unfold i64; omega), ?_, ?_, _, c_impl_fbText (f.getD i.toNat dFb) hb, ?_, ?_, (f.length - (i + 1)).toNat, by omega, rfl, rfl, by omega, by omega, rfl, ?_⟩
    · simp only [size_lit, List.length_cons, List.length_nil]; omega
    · simp only [size_append, size_lit, List.length_cons, List.length_nil]; omega
    · simp only [size_append, size_lit, List.length_cons, List.length_nil]; omega
    · simp only [List.length_append, blkL_len, List.length_cons, List.length_nil]; omega
    · rw [toNat_succ h0, blkL_succ, ← List.append_assoc, blkB, Int.toNat_of_nonneg h0]
  rintro r rfl
  have s1 := itoaB_size w
  refine ⟨_, c_impl_decimal w (by unfold i64; omega), ?_, ?_, rfl, rfl⟩
  · simp only [size_lit, List.length_cons, List.length_nil]; omega
  · simp only [List.length_append, blkL_len, List.length_cons, List.length_nil]; omega
end Go.Ry
