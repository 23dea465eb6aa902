/- ReadTask: the words of a task. No condition. -/
import Derived.Test.YtlfapnlaalnbjaaGreatDoorPWrd3
set_option linter.unusedVariables false
set_option linter.unusedSimpArgs false
namespace Go.Ry
open Go.Proofs Go.RowKit

theorem rd_eq (l : List UInt8) : (readN l = true ∧ numR l = (atoiN l, true) ∧ numOf l = some (atoiN l)) ∨ (readN l = false ∧ numR l = (0, false) ∧ numOf l = none) := by
  unfold numR
  cases h : numOf l with
  | none => exact .inr ⟨readN_none h, rfl, rfl⟩
  | some v =>
    obtain ⟨h1, h2, _⟩ := readN_some h
    exact .inl ⟨h1, by rw [h2], by rw [h2]⟩
def numsO : List ByteArray → Option (List Int)
  | [] => some []
  | x :: l => match numOf x.data.toList with
    | some v => (numsO l).map (v :: ·)
    | none => none
theorem numsO_none {x : ByteArray} {l : List ByteArray} (h : numOf x.data.toList = none) : numsO (x :: l) = none := by rw [numsO, h]
theorem numsO_some {x : ByteArray} {l : List ByteArray} {v : Int} (h : numOf x.data.toList = some v) : numsO (x :: l) = (numsO l).map (v :: ·) := by rw [numsO, h]
theorem numsO_len : ∀ {l : List ByteArray} {n : List Int}, numsO l = some n → n.length = l.length
  | [], n, h => by rw [← Option.some.inj h]; rfl
  | x :: l, n, h => by
    cases hx : numOf x.data.toList with
    | none => rw [numsO_none hx] at h; cases h
    | some v =>
      rw [numsO_some hx] at h
      cases hl : numsO l with
      | none => rw [hl] at h; cases h
      | some k =>
        rw [hl] at h
        rw [← Option.some.inj h]
        simp [numsO_len hl]
theorem drop_bd {l : List ByteArray} {i : Nat} (h : i < l.length) : l.drop i = l.getD i ⟨#[]⟩ :: l.drop (i + 1) := by
  rw [List.drop_eq_getElem_cons h, List.getD_eq_getElem?_getD, List.getElem?_eq_getElem h]; rfl
abbrev T6 := Int × Int × Int × Int × Int × Int
@[reducible] def cycB : ByteArray := ⟨#[99, 121, 99, 108, 105, 99]⟩
@[reducible] def evB : ByteArray := ⟨#[101, 118, 101, 110, 116]⟩
/-- What is handed back for words. -/
def rtN (h : ByteArray) (n : List Int) : T6 × Bool :=
  if h = cycB ∧ n.length = 3 then ((1, n.getD 0 0, n.getD 1 0, 0, 1, n.getD 2 0), taskOK 1 (n.getD 0 0) (n.getD 1 0) 0 1 (n.getD 2 0))
  else if h = evB ∧ n.length = 5 then ((2, n.getD 0 0, n.getD 1 0, n.getD 2 0, n.getD 3 0, n.getD 4 0), taskOK 2 (n.getD 0 0) (n.getD 1 0) (n.getD 2 0) (n.getD 3 0) (n.getD 4 0))
  else ((0, 0, 0, 0, 0, 0), false)
def rtM : List ByteArray → T6 × Bool
  | [] => ((0, 0, 0, 0, 0, 0), false)
  | h :: t => match numsO t with
    | some n => rtN h n
    | none => ((0, 0, 0, 0, 0, 0), false)
@[reducible] def t6E (x : T6) (ok : Bool) : Ent := .tup [(true, [cI x.1, cI x.2.1, cI x.2.2.1, cI x.2.2.2.1, cI x.2.2.2.2.1, cI x.2.2.2.2.2]), (false, [.bool ok])]
theorem len_beq {α : Type} (n : List α) (k : Nat) : ((n.length : Int) == (k : Int)) = decide (n.length = k) := by
  rw [Bool.eq_iff_iff]; simp; omega
theorem task0 : taskOK 0 0 0 0 0 0 = false := by decide
theorem cyc_ev : ¬ evB = cycB := by intro e; exact absurd (congrArg ByteArray.size e) (by decide)
theorem c_impl_readTask (w : List ByteArray) (hw : ∀ x ∈ w, x.size ≤ 1048576) (hl : w.length ≤ 1048577) :
    TT n_impl_readTask [.one (.sl .str w)] [] (t6E (rtM w).1 (rtM w).2) [] := by
  cases w with
  | nil => exact r_impl_readTask [] (ifE (fun _ => ⟨rfl, rfl⟩) (fun e => absurd rfl e))
  | cons h t =>
    have hlen : (h :: t).length = t.length + 1 := rfl
    have hdr : ((h :: t).take (Int.toNat ((h :: t).length : Int))).drop (Int.toNat 1) = t := by
      rw [Int.toNat_natCast, List.take_length]; rfl
    have hg : (h :: t).getD (Int.toNat 0) ⟨#[]⟩ = h := rfl
    have hR : rtM (h :: t) = match numsO t with
      | some n => rtN h n
      | none => ((0, 0, 0, 0, 0, 0), false) := rfl
    revert hR
    generalize rtM (h :: t) = R
    intro hR
    refine r_impl_readTask (h :: t) (ifE (fun e => by simp at e; omega) (fun _ => ⟨fun r => numsO t = some r, ⟨by omega, ?_⟩, ?_⟩))
    · rw [hdr]
      refine ⟨fun m i r => 0 ≤ i ∧ i ≤ t.length ∧ m = (t.length - i).toNat ∧ r.length ≤ i ∧ (numsO (t.drop i.toNat)).map (r ++ ·) = numsO t, ⟨_, rfl, rfl, by omega, by omega, rfl, by simp, by simp⟩, ?_⟩
      rintro m i r ⟨h0, h1, rfl, h2, h3⟩
      refine ifP (fun hlt => ⟨⟨h0, hlt⟩, _, _, c_impl_readDecimal _ (hw _ (List.mem_cons_of_mem _ (getD_mem (l := t) (i := i.toNat) (by omega)))), ?_⟩) (fun hge => ?_)
      · rw [drop_bd (by omega)] at h3
        rcases rd_eq (t.getD i.toNat ⟨#[]⟩).data.toList with ⟨k1, _, k3⟩ | ⟨k1, _, k3⟩
        · rw [k1]
          refine ifB_f rfl ⟨by simp; omega, ?_⟩
          rw [w64 (by omega)]
          rw [numsO_some k3, Option.map_map] at h3
          refine ⟨_, by omega, rfl, rfl, by omega, by omega, rfl, by simp; omega, ?_⟩
          rw [toNat_succ h0, ← h3]; congr 1; funext x; simp
        · rw [numsO_none k3] at h3
          rw [← h3] at hR
          rw [k1, hR]; exact ifB_t rfl ⟨rfl, rfl⟩
      · rw [List.drop_eq_nil_of_le (by omega)] at h3
        exact ⟨rfl, rfl, by rw [← h3]; simp [numsO]⟩
    · intro n hn
      rw [hn] at hR
      simp only at hR
      have hnl := numsO_len hn
      refine ⟨fun b r => r = n ∧ b = decide (h = cycB ∧ n.length = 3), ⟨by omega, ?_⟩, ?_⟩
      · rw [hg, toList_beq]
        refine ifP (fun e => ⟨rfl, rfl, rfl, ?_⟩) (fun e => ⟨rfl, rfl, rfl, ?_⟩)
        · rw [show ((n.length : Int) == 3) = decide (n.length = 3) from len_beq n 3]; simp [e]
        · simp [e]
      rintro b r ⟨rfl, rfl⟩
      refine ifP (fun e => ?_) (fun e => ?_)
      · rw [rtN, if_pos e] at hR
        have := e.2
        refine ⟨by omega, by omega, by omega, _, c_impl_TaskOK _ _ _ _ _ _, ?_⟩
        rw [hR]; exact ⟨rfl, rfl⟩
      · rw [rtN, if_neg e] at hR
        refine ⟨fun b r' => r' = r ∧ b = decide (h = evB ∧ r.length = 5), ⟨by omega, ?_⟩, ?_⟩
        · rw [hg, toList_beq]
          refine ifP (fun e => ⟨rfl, rfl, ?_⟩) (fun e => ⟨rfl, rfl, ?_⟩)
          · rw [show ((r.length : Int) == 5) = decide (r.length = 5) from len_beq r 5]; simp [e]
          · simp [e]
        rintro b r' ⟨rfl, rfl⟩
        refine ifP (fun e => ?_) (fun e => ?_)
        · rw [if_pos e] at hR
          have := e.2
          refine ⟨by omega, by omega, by omega, by omega, by omega, _, c_impl_TaskOK _ _ _ _ _ _, ?_⟩
          rw [hR]; exact ⟨rfl, rfl⟩
        · rw [if_neg e] at hR
          refine ⟨_, c_impl_TaskOK _ _ _ _ _ _, ?_⟩
          rw [task0, hR]; exact ⟨rfl, rfl⟩
/-- Where a text stands in a list. -/
def placeI : List ByteArray → ByteArray → Int → Int
  | [], _, _ => -1
  | x :: l, t, i => if x = t then i else placeI l t (i + 1)
theorem placeI_cons {x : ByteArray} {l : List ByteArray} {t : ByteArray} {i : Int} : placeI (x :: l) t i = if x = t then i else placeI l t (i + 1) := rfl
theorem c_spec_l02Place (l : List ByteArray) (t : ByteArray) (hl : l.length ≤ 1048576) : TT n_spec_l02Place [.one (.sl .str l), eS t] [] (eI (placeI l t 0)) [] := by
  refine r_spec_l02Place l t ⟨fun m i => 0 ≤ i ∧ i ≤ l.length ∧ m = (l.length - i).toNat ∧ placeI (l.drop i.toNat) t i = placeI l t 0, ⟨_, rfl, by omega, by omega, rfl, rfl⟩, ?_⟩
  rintro m i ⟨h0, h1, rfl, h2⟩
  refine ifP (fun hlt => ⟨⟨h0, hlt⟩, ?_⟩) (fun hge => ?_)
  · rw [drop_bd (by omega), placeI_cons] at h2
    rw [toList_beq]
    refine ifP (fun e => ?_) (fun e => ?_)
    · rw [if_pos e] at h2; rw [h2]; exact ⟨rfl, rfl⟩
    · rw [if_neg e] at h2
      rw [w64 (by omega)]
      exact ⟨_, by omega, rfl, by omega, by omega, rfl, by rw [toNat_succ h0]; exact h2⟩
  · rw [List.drop_eq_nil_of_le (by omega)] at h2
    rw [← h2]; exact ⟨rfl, rfl⟩
theorem c_spec_l13Read (w : List ByteArray) (hw : ∀ x ∈ w, x.size ≤ 1048576) (hl : w.length ≤ 1048577) :
    TT n_spec_l13Read [.one (.sl .str w)] [] (t6E (rtM w).1 (rtM w).2) [] := by
  cases w with
  | nil => exact r_spec_l13Read [] (ifE (fun _ => ⟨rfl, rfl⟩) (fun e => absurd rfl e))
  | cons h t =>
    have hlen : (h :: t).length = t.length + 1 := rfl
    have hg : (h :: t).getD (Int.toNat 0) ⟨#[]⟩ = h := rfl
    have hR : rtM (h :: t) = match numsO t with
      | some n => rtN h n
      | none => ((0, 0, 0, 0, 0, 0), false) := rfl
    revert hR
    generalize rtM (h :: t) = R
    intro hR
    have hpl : placeI [cycB, evB] h 0 = if h = cycB then 0 else if h = evB then 1 else -1 := by
      simp only [placeI]
      by_cases e : h = cycB
      · rw [if_pos e, if_pos e.symm]
      · rw [if_neg e, if_neg (fun x => e x.symm)]
        by_cases e2 : h = evB
        · rw [if_pos e2, if_pos e2.symm]; rfl
        · rw [if_neg e2, if_neg (fun x => e2 x.symm)]
    -- too few words, or too many
    have off : (∀ n : List Int, n.length = t.length → rtN h n = ((0, 0, 0, 0, 0, 0), false)) → R = ((0, 0, 0, 0, 0, 0), false) := by
      intro k
      rw [hR]
      cases hn : numsO t with
      | none => rfl
      | some n => exact k n (numsO_len hn)
    refine r_spec_l13Read (h :: t) (ifE (fun e => by simp at e; omega) (fun _ => ⟨by omega, _, c_spec_l02Place _ _ (by decide), ?_⟩))
    rw [hg, hpl]
    obtain ⟨k, hk, hc⟩ : ∃ k : Int, wI ((if h = cycB then 0 else if h = evB then 1 else -1) + 1) = k ∧ ((k = 0 ∧ ¬ h = cycB ∧ ¬ h = evB) ∨ (k = 1 ∧ h = cycB) ∨ (k = 2 ∧ h = evB ∧ ¬ h = cycB)) := by
      by_cases e : h = cycB
      · exact ⟨1, by rw [if_pos e]; rfl, .inr (.inl ⟨rfl, e⟩)⟩
      · by_cases e2 : h = evB
        · exact ⟨2, by rw [if_neg e, if_pos e2]; rfl, .inr (.inr ⟨rfl, e2, e⟩)⟩
        · exact ⟨0, by rw [if_neg e, if_neg e2]; rfl, .inl ⟨rfl, e, e2⟩⟩
    rw [hk]
    refine ifE (fun e => ?_) (fun hk0 => ifN (fun e => ?_) (fun hlk => ?_))
    · rw [off (fun n hn => by
        rcases hc with ⟨_, h1, h2⟩ | ⟨h1, _⟩ | ⟨h1, _⟩
        · rw [rtN, if_neg (fun x => h1 x.1), if_neg (fun x => h2 x.1)]
        · omega
        · omega)]
      exact ⟨rfl, rfl⟩
    · have hk2 : k = 1 ∨ k = 2 := by rcases hc with ⟨h1, _⟩ | ⟨h1, _⟩ | ⟨h1, _⟩ <;> omega
      rw [w64 (x := 2 * k) (by omega), w64 (x := 2 + 2 * k) (by omega)] at e
      rw [off (fun n hn => by
        rcases hc with ⟨h1, _⟩ | ⟨h1, h2⟩ | ⟨h1, h2, h3⟩
        · omega
        · rw [rtN, if_neg (fun x => by have := x.2; omega), if_neg (fun (x : h = evB ∧ n.length = 5) => cyc_ev (x.1.symm.trans h2))]
        · rw [rtN, if_neg (fun x => h3 x.1), if_neg (fun x => by have := x.2; omega)])]
      exact ⟨rfl, rfl⟩
    have hk2 : k = 1 ∨ k = 2 := by rcases hc with ⟨h1, _⟩ | ⟨h1, _⟩ | ⟨h1, _⟩ <;> omega
    rw [w64 (x := 2 * k) (by omega), w64 (x := 2 + 2 * k) (by omega)] at hlk
    refine ⟨fun k' r => k' = k ∧ numsO t = some r, ⟨fun m i k' r => k' = k ∧ 1 ≤ i ∧ i ≤ t.length + 1 ∧ m = (t.length + 1 - i).toNat ∧ r.length ≤ i ∧ (numsO (t.drop (i - 1).toNat)).map (r ++ ·) = numsO t, ⟨_, rfl, rfl, rfl, by omega, by omega, rfl, by simp, by simp⟩, ?_⟩, ?_⟩
    · rintro m i k' r ⟨rfl, h0, h1, rfl, h2, h3⟩
      refine ifP (fun hlt => ?_) (fun hge => ?_)
      · have hgd : (h :: t).getD i.toNat ⟨#[]⟩ = t.getD (i - 1).toNat ⟨#[]⟩ := by
          rw [show i.toNat = (i - 1).toNat + 1 by omega, List.getD_cons_succ]
        rw [hgd]
        refine ⟨⟨by omega, hlt⟩, _, _, c_spec_l00Number _ (hw _ (List.mem_cons_of_mem _ (getD_mem (l := t) (i := (i - 1).toNat) (by omega)))), ?_⟩
        rw [drop_bd (by omega)] at h3
        rcases rd_eq (t.getD (i - 1).toNat ⟨#[]⟩).data.toList with ⟨_, k1, k3⟩ | ⟨_, k1, k3⟩
        · rw [k1]
          refine ifB_f rfl ⟨by simp; omega, ?_⟩
          rw [w64 (x := i + 1) (by omega)]
          rw [numsO_some k3, Option.map_map] at h3
          refine ⟨_, by omega, rfl, rfl, rfl, by omega, by omega, rfl, by simp; omega, ?_⟩
          rw [show (i + 1 - 1).toNat = (i - 1).toNat + 1 by omega, ← h3]; congr 1; funext x; simp
        · rw [numsO_none k3] at h3
          rw [← h3] at hR
          rw [k1, hR]; exact ifB_t rfl ⟨rfl, rfl⟩
      · rw [List.drop_eq_nil_of_le (by omega)] at h3
        exact ⟨rfl, rfl, by rw [← h3]; simp [numsO]⟩
    rintro k' r ⟨rfl, hn⟩
    have hnl := numsO_len hn
    rw [hn] at hR
    simp only at hR
    rw [w64 (x := (r.length : Int) - 1) (by omega)]
    refine ⟨by omega, by omega, by omega, ifE (fun e => ?_) (fun e => ?_)⟩
    · rcases hc with ⟨h1, _⟩ | ⟨h1, h2⟩ | ⟨h1, h2, h3⟩
      · omega
      · omega
      rw [rtN, if_neg (fun x => h3 x.1), if_pos ⟨h2, by omega⟩] at hR
      refine ⟨by omega, by omega, _, c_spec_TaskOK _ _ _ _ _ _, ?_⟩
      rw [hR, show ((r.length : Int) - 1).toNat = 4 by omega, e]
      exact ⟨rfl, rfl⟩
    · rcases hc with ⟨h1, _⟩ | ⟨h1, h2⟩ | ⟨h1, h2, h3⟩
      · omega
      · rw [rtN, if_pos ⟨h2, by omega⟩] at hR
        refine ⟨_, c_spec_TaskOK _ _ _ _ _ _, ?_⟩
        rw [hR, show ((r.length : Int) - 1).toNat = 2 by omega, h1]
        exact ⟨rfl, rfl⟩
      · omega

/-! ### the law -/
theorem len_le_sum : ∀ {L : List (List UInt8)} {l : List UInt8}, l ∈ L → l.length ≤ (L.map List.length).sum
  | x :: L, l, h => by
    rw [List.map_cons, List.sum_cons]
    rcases List.mem_cons.1 h with rfl | h
    · omega
    · have := len_le_sum h; omega
theorem wordsB_small (s : ByteArray) : (∀ x ∈ wordsB s, x.size ≤ s.size) ∧ (wordsB s).length ≤ 1 + s.size := by
  have h1 := wsp_len s.data.toList []
  have h2 := wsp_count s.data.toList []
  have hsz := size_data s
  refine ⟨fun x hx => ?_, by unfold wordsB; rw [List.length_map]; omega⟩
  unfold wordsB at hx
  obtain ⟨l, hl, rfl⟩ := List.mem_map.1 hx
  rw [size_lit]
  have : l.length ≤ ((wsp [] s.data.toList).map List.length).sum := len_le_sum hl
  simp at h1; omega
/-- The task of a text, and the code. -/
def rtT (s : ByteArray) : T6 × Int := if 65536 < (s.size : Int) then ((0, 0, 0, 0, 0, 0), 2) else if (rtM (wordsB s)).2 = true then ((rtM (wordsB s)).1, 0) else ((0, 0, 0, 0, 0, 0), 3)
@[reducible] def t6I (x : T6) (c : Int) : Ent := .tup [(true, [cI x.1, cI x.2.1, cI x.2.2.1, cI x.2.2.2.1, cI x.2.2.2.2.1, cI x.2.2.2.2.2]), (false, [cI c])]
theorem c_impl_long (s : ByteArray) : TT n_impl_long [eS s] [] (eI (if 65536 < (s.size : Int) then 2 else 0)) [] :=
  r_impl_long s ⟨_, c_impl_when _ _, by by_cases h : 65536 < (s.size : Int) <;> simp [h], rfl⟩
theorem c_spec_ReadTask (s : ByteArray) : TT n_spec_ReadTask [eS s] [] (t6I (rtT s).1 (rtT s).2) [] := by
  refine r_spec_ReadTask s (ifP (fun h => ?_) (fun h => ?_))
  · rw [show rtT s = _ from if_pos h]; exact ⟨rfl, rfl⟩
  · have hw := wordsB_small s
    have e : rtT s = _ := if_neg h
    refine ⟨_, c_spec_l00Words s (by omega), _, _, _, _, _, _, _, c_spec_l13Read _ (fun x hx => by have := hw.1 x hx; omega) (by omega), ifB_cases (fun hb => ?_) (fun hb => ?_)⟩
    · rw [if_neg (by simpa using hb)] at e
      rw [e]; exact ⟨rfl, rfl⟩
    · rw [if_pos (by simpa using hb)] at e
      rw [e]; exact ⟨rfl, rfl⟩
theorem c_impl_ReadTask (s : ByteArray) : TT n_impl_ReadTask [eS s] [] (t6I (rtT s).1 (rtT s).2) [] := by
  refine r_impl_ReadTask s ⟨_, c_impl_long s, ifN (fun h => ?_) (fun h => ?_)⟩
  · have h' : 65536 < (s.size : Int) := by
      by_cases k : 65536 < (s.size : Int)
      · exact k
      · rw [if_neg k] at h; exact absurd rfl h
    rw [if_pos h', show rtT s = _ from if_pos h']; exact ⟨rfl, rfl⟩
  · have h' : ¬ 65536 < (s.size : Int) := fun k => by rw [if_pos k] at h; exact absurd h (by decide)
    have hw := wordsB_small s
    have e : rtT s = _ := if_neg h'
    refine ⟨_, c_impl_words s (by omega), _, _, _, _, _, _, _, c_impl_readTask _ (fun x hx => by have := hw.1 x hx; omega) (by omega), ifB_cases (fun hb => ?_) (fun hb => ?_)⟩
    · rw [if_neg (by simpa using hb)] at e
      rw [e]; exact ⟨rfl, rfl⟩
    · rw [if_pos (by simpa using hb)] at e
      rw [e]; exact ⟨rfl, rfl⟩
end Go.Ry
