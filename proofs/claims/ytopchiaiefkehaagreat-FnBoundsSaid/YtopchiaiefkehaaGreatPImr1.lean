/- A program's bytes are read back: the parts, the frame, a cut text. Plain. No condition. -/
import Derived.Test.YtopchiaiefkehaaGreatPImg3
import Derived.Test.YtopchiaiefkehaaGreatPSmp1
set_option linter.unusedVariables false
set_option linter.unusedSimpArgs false
namespace Go.Ry
open Go.Proofs

theorem numM_enc {z : Nat} (hz : isZ z) {x : Int} (h : -half z ≤ x ∧ x ≤ half z - 1) (q : List Int) : numM z (leB x z ++ q, 0) = (x, (q, 0)) := by
  unfold numM
  have hl : (leB x z).length = z := leB_length
  rw [if_neg (by simp), if_neg (by simp only [List.length_append]; omega)]
  unfold numZ
  rw [List.take_left' hl, sgn_leB hz h, List.drop_left' hl]
theorem numM_1 {x : Int} (h : -128 ≤ x ∧ x ≤ 127) (q : List Int) : numM 1 (leB x 1 ++ q, 0) = (x, (q, 0)) := numM_enc (z := 1) (.inl rfl) (by simp [half]; omega) q
theorem numM_2 {x : Int} (h : -32768 ≤ x ∧ x ≤ 32767) (q : List Int) : numM 2 (leB x 2 ++ q, 0) = (x, (q, 0)) := numM_enc (z := 2) (.inr (.inl rfl)) (by simp [half]; omega) q
theorem numM_4 {x : Int} (h : -2147483648 ≤ x ∧ x ≤ 2147483647) (q : List Int) : numM 4 (leB x 4 ++ q, 0) = (x, (q, 0)) := numM_enc (z := 4) (.inr (.inr rfl)) (by simp [half]; omega) q
theorem manyM_enc {most n : Int} (hm : most ≤ 127) (h : 0 ≤ n ∧ n ≤ most) (q : List Int) : manyM most (leB n 1 ++ q, 0) = (n, (q, 0)) := by
  unfold manyM
  rw [numM_1 (by omega)]
  rw [if_neg (by simp only [not_and]; intro _; rw [within_iff.2 h]; simp)]
theorem repO_enc {α : Type} {f : RdSt → α × RdSt} {enc : α → List Int} {p : α → Prop} (hf : ∀ x q, p x → f (enc x ++ q, 0) = (x, (q, 0))) : ∀ (l : List α) (q : List Int), (∀ x ∈ l, p x) → repO f l.length (l.flatMap enc ++ q, 0) = (l, (q, 0))
  | [], q, _ => rfl
  | x :: l, q, h => by
    rw [List.flatMap_cons, List.append_assoc, List.length_cons]
    unfold repO
    rw [hf x _ (h x (by simp)), repO_enc hf l q (fun y hy => h y (by simp [hy]))]
theorem readB_enc {l : List Ins} (h : ∀ x ∈ l, instrOK x.1 x.2.1 = true) (hl : l.length ≤ 40) : readB (encL l) = (0, l) := by
  unfold readB
  have := parse_enc l (encL l).length [] [] h (by simpa using hl) (by simp)
  rw [List.append_nil] at this
  rw [this]; rfl
theorem routM_enc {r : Rou} (h : (∀ x ∈ r.1, instrOK x.1 x.2.1 = true) ∧ r.1.length ≤ 40) (q : List Int) : routM (rouB r ++ q, 0) = (r, (q, 0)) := by
  have hl := encL_len (l := r.1)
  have h2 := h.2
  unfold routM rouB
  rw [List.append_assoc, numM_2 (by omega)]
  unfold codeM
  rw [if_neg (by simp), if_neg (by simp only [List.length_append]; omega), Int.toNat_natCast, List.take_left' rfl, List.drop_left' rfl, readB_enc h.1 h.2]
theorem taskM_enc {t : Tsk} (h : (0 ≤ t.1 ∧ t.1 ≤ 127) ∧ (0 ≤ t.2.1 ∧ t.2.1 ≤ 2147483647) ∧ (0 ≤ t.2.2.1 ∧ t.2.2.1 ≤ 2147483647) ∧ (0 ≤ t.2.2.2.1 ∧ t.2.2.2.1 ≤ 127) ∧ (0 ≤ t.2.2.2.2.1 ∧ t.2.2.2.2.1 ≤ 127) ∧ (0 ≤ t.2.2.2.2.2.1 ∧ t.2.2.2.2.2.1 ≤ 127)) (q : List Int) : taskM (tskB t ++ q, 0) = (t, (q, 0)) := by
  obtain ⟨a, b, c, d, f, g, u⟩ := t
  obtain ⟨h1, h2, h3, h4, h5, h6⟩ := h
  simp only at h1 h2 h3 h4 h5 h6
  unfold taskM tskB
  simp only [List.append_assoc]
  rw [numM_1 (by omega)]
  simp only
  rw [numM_4 (by omega)]
  simp only
  rw [numM_4 (by omega)]
  simp only
  rw [numM_1 (by omega)]
  simp only
  rw [numM_1 (by omega)]
  simp only
  rw [numM_1 (by omega)]
theorem bitL_all : ∀ a b c d e f g h : Bool, bitL (sgn 1 (leN [IntKind.wrap .u8 (bitsN [a, b, c, d, e, f, g, h])])) 8 = [a, b, c, d, e, f, g, h] := by decide +kernel
theorem bitL_enc {sf : List Bool} (h : sf.length = 8) : bitL (sgn 1 (leN [IntKind.wrap .u8 (bitsN sf)])) 8 = sf := by
  match sf, h with
  | [a, b, c, d, e, f, g, i], _ => exact bitL_all a b c d e f g i

section
variable {ks : List Int} {rs : List Rou} {ts : List Tsk} {sf : List Bool}
def tlS (sf : List Bool) : List Int := [IntKind.wrap .u8 (bitsN sf)]
def tlT (ts : List Tsk) (sf : List Bool) : List Int := leB ts.length 1 ++ (ts.flatMap tskB ++ tlS sf)
def tlR (rs : List Rou) (ts : List Tsk) (sf : List Bool) : List Int := leB rs.length 1 ++ (rs.flatMap rouB ++ tlT ts sf)
theorem progB_tl : progB ks rs ts sf = leB ks.length 1 ++ (ks.flatMap (fun k => leB k 1) ++ tlR rs ts sf) := by
  unfold progB tlR tlT tlS; simp only [List.append_assoc]
theorem iK_enc (h : PrgFit ks rs ts sf) : iK (strL (progB ks rs ts sf)) = (ks, (tlR rs ts sf, 0)) := by
  have a := kinds_in h.hk
  unfold iK st0 phK
  rw [toBytes (progB_isB h), progB_tl, manyM_enc (by decide) (by omega)]
  simp only [Int.toNat_natCast]
  exact repO_enc (p := fun k => 0 ≤ k ∧ k ≤ 127) (fun x q hx => numM_1 (by omega) q) ks _ a.2
theorem iR_enc (h : PrgFit ks rs ts sf) : iR (strL (progB ks rs ts sf)) = (rs, (tlT ts sf, 0)) := by
  have a := rous_in h.hr
  unfold iR phR
  rw [iK_enc h]
  simp only
  unfold tlR
  rw [manyM_enc (by decide) (by omega)]
  simp only [Int.toNat_natCast]
  exact repO_enc (fun x q hx => routM_enc hx q) rs _ a.2
theorem iT_enc (h : PrgFit ks rs ts sf) : iT (strL (progB ks rs ts sf)) = (ts, (tlS sf, 0)) := by
  have a := h.ts5
  unfold iT phT
  rw [iR_enc h]
  simp only
  unfold tlT
  rw [manyM_enc (by decide) (by omega)]
  simp only [Int.toNat_natCast]
  exact repO_enc (fun x q hx => taskM_enc hx q) ts _ (fun t ht => tsk_in (h.hts t ht).1)
theorem iS_enc (h : PrgFit ks rs ts sf) : iSf (strL (progB ks rs ts sf)) = (sgn 1 (leN [IntKind.wrap .u8 (bitsN sf)]), ([], 0)) := by
  unfold iSf
  rw [iT_enc h]
  rfl
theorem imgC_enc (h : PrgFit ks rs ts sf) : imgC (strL (progB ks rs ts sf)) = (checkM ks rs ts sf).2 := by
  unfold imgC
  rw [iS_enc h, iT_enc h, iR_enc h, iK_enc h, if_neg (by simp), if_neg (by simp)]
  simp only
  rw [bitL_enc h.hs]
end

/-! ### frames -/
theorem sumL_rng : ∀ {l : List Int} {a : Int}, 0 ≤ a ∧ a < 32749 → 0 ≤ sumL a l ∧ sumL a l < 32749
  | [], a, h => h
  | b :: l, a, h => sumL_rng (l := l) (by omega)
theorem frmB_length (t : List Int) : (frmB t).length = t.length + 10 := by
  unfold frmB
  simp only [List.length_append, leB_length, List.length_cons, List.length_nil]; omega
theorem frmB_isB {t : List Int} (h : isB t) : isB (frmB t) := isB_app (isB_app (isB_app (by intro x hx; simp at hx; omega) leB_isB) h) leB_isB
theorem half2 {v : Int} (h : 0 ≤ v ∧ v < 32749) : -half (2 : Nat) ≤ v ∧ v ≤ half (2 : Nat) - 1 := by simp [half]; omega
theorem frameE_enc {t : List Int} (hl : t.length ≤ 60000) : frameE (frmB t) = 0 := by
  have hz := frmB_length t
  have e1 : (frmB t).take 4 = [80, 76, 67, 49] := by unfold frmB; simp only [List.append_assoc]; exact List.take_left' rfl
  have e2 : (frmB t).drop 4 = leB t.length 4 ++ (t ++ leB (sumL 1 ([80, 76, 67, 49] ++ leB t.length 4 ++ t)) 2) := by unfold frmB; simp only [List.append_assoc]; exact List.drop_left' rfl
  have hb : ([80, 76, 67, 49] ++ leB (t.length : Int) 4 ++ t).length = t.length + 8 := by simp only [List.length_append, leB_length, List.length_cons, List.length_nil]; omega
  have e3 : (frmB t).take (t.length + 8) = [80, 76, 67, 49] ++ leB t.length 4 ++ t := by unfold frmB; exact List.take_left' hb
  have e4 : (frmB t).drop (t.length + 8) = leB (sumL 1 ([80, 76, 67, 49] ++ leB t.length 4 ++ t)) 2 := by unfold frmB; exact List.drop_left' hb
  have hs := sumL_rng (l := [80, 76, 67, 49] ++ leB (t.length : Int) 4 ++ t) (a := 1) (by omega)
  unfold frameE
  rw [if_neg (by omega), if_neg (by rw [e1]; simp), e2, hz, show t.length + 10 - 2 = t.length + 8 by omega, e3, e4]
  rw [if_neg, if_neg]
  · unfold numZ
    rw [List.take_of_length_le (by rw [leB_length]; exact Nat.le_refl _), sgn_leB (z := 2) (.inr (.inl rfl)) (half2 hs)]
    simp
  · unfold numZ
    rw [List.take_left' leB_length, sgn_leB (z := 4) (.inr (.inr rfl)) (by simp [half]; omega)]
    simp only [ne_eq, Decidable.not_not]; omega
theorem frameS_enc {t : List Int} (hl : t.length ≤ 60000) (hb : isB t) : frameS (strL (frmB t)) = strL t := by
  have hB := frmB_isB hb
  have hz := frmB_length t
  unfold frameS
  rw [toBytes hB, if_pos (frameE_enc hl), strL_size, strL_extract hB (by omega), hz, show t.length + 10 - 2 = t.length + 8 by omega]
  have hb4 : ([80, 76, 67, 49] ++ leB (t.length : Int) 4 ++ t).length = t.length + 8 := by simp only [List.length_append, leB_length, List.length_cons, List.length_nil]; omega
  have e3 : (frmB t).take (t.length + 8) = [80, 76, 67, 49] ++ leB t.length 4 ++ t := by unfold frmB; exact List.take_left' hb4
  rw [e3]
  rw [List.drop_left' (by simp only [List.length_append, leB_length, List.length_cons, List.length_nil])]
theorem frameE_cut {t : List Int} (hl : t.length ≤ 60000) {n : Nat} (hn : n < (frmB t).length) : frameE ((frmB t).take n) ≠ 0 := by
  have hz := frmB_length t
  have hlen : ((frmB t).take n).length = n := by rw [List.length_take]; omega
  unfold frameE
  rw [hlen]
  split
  · decide
  · split
    · decide
    · rw [if_pos]
      · decide
      · have e2 : (frmB t).drop 4 = leB t.length 4 ++ (t ++ leB (sumL 1 ([80, 76, 67, 49] ++ leB t.length 4 ++ t)) 2) := by unfold frmB; simp only [List.append_assoc]; exact List.drop_left' rfl
        rw [List.drop_take, e2]
        unfold numZ
        rw [List.take_take, show min 4 (n - 4) = 4 by omega, List.take_left' leB_length, sgn_leB (z := 4) (.inr (.inr rfl)) (by simp [half]; omega)]
        omega

/-! ### images -/
def imgB (ks : List Int) (rs : List Rou) (ts : List Tsk) (sf : List Bool) : ByteArray := strL (frmB (progB ks rs ts sf))
section
variable {ks : List Int} {rs : List Rou} {ts : List Tsk} {sf : List Bool}
theorem imgB_size (h : PrgFit ks rs ts sf) : 10 ≤ (imgB ks rs ts sf).size ∧ (imgB ks rs ts sf).size ≤ 2010 := by
  have := progB_len h
  unfold imgB; rw [strL_size, frmB_length]; omega
theorem imgE_enc (h : prgOK ks rs ts sf = true) : imgE (imgB ks rs ts sf) = 0 := by
  have hf := prgOK_fit h
  have hl := progB_len hf
  have hz := imgB_size hf
  unfold imgE
  rw [if_neg (by omega)]
  unfold imgB
  rw [toBytes (frmB_isB (progB_isB hf)), frameE_enc (by omega), if_neg (by simp), frameS_enc (by omega) (progB_isB hf), imgC_enc hf]
  simpa [prgOK] using h
theorem img_enc (h : prgOK ks rs ts sf = true) : imgK (imgB ks rs ts sf) = ks ∧ imgR (imgB ks rs ts sf) = rs ∧ imgT (imgB ks rs ts sf) = ts ∧ imgF (imgB ks rs ts sf) = sf := by
  have hf := prgOK_fit h
  have hl := progB_len hf
  have e := imgE_enc h
  unfold imgK imgR imgT imgF
  rw [if_pos e, if_pos e, if_pos e, if_pos e]
  unfold imgB
  rw [frameS_enc (by omega) (progB_isB hf), iS_enc hf, iT_enc hf, iR_enc hf, iK_enc hf]
  exact ⟨rfl, rfl, rfl, bitL_enc hf.hs⟩
theorem imgE_cut (h : PrgFit ks rs ts sf) {n : Nat} (hn : n < (imgB ks rs ts sf).size) : imgE ((imgB ks rs ts sf).extract 0 n) ≠ 0 := by
  have hl := progB_len h
  have hz := imgB_size h
  have hB := frmB_isB (progB_isB h)
  have hn2 : n < (frmB (progB ks rs ts sf)).length := by unfold imgB at hn; rwa [strL_size] at hn
  have hbt : isB ((frmB (progB ks rs ts sf)).take n) := fun x hx => hB x (List.mem_of_mem_take hx)
  have e : (imgB ks rs ts sf).extract 0 n = strL ((frmB (progB ks rs ts sf)).take n) := by
    unfold imgB; rw [strL_extract hB (by omega)]; rfl
  have hc := frameE_cut (t := progB ks rs ts sf) (by omega) hn2
  unfold imgE
  rw [e, strL_size, toBytes hbt, if_neg (by rw [List.length_take]; omega), if_pos hc]
  exact hc
end
end Go.Ry
