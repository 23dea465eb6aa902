/- OfferEvent of the program and of the reference: the same. No condition. -/
import Derived.Test.YtnnhfeopdhnlhaaPDrop
set_option linter.unusedVariables false
set_option linter.unusedSimpArgs false
namespace Go.Ry
variable {C : Calls_}

structure SrcV where
  la : Int
  ar : Int
  dn : Int
  th : Int
  lo : Int
  dr : Int
  q : List Int
def SrcV.zero : SrcV := ⟨0, 0, 0, 0, 0, 0, []⟩
def oneN (n : Int) : Int := capN (IntKind.wrap .i64 (n + 1))
def offT (la p now : Int) : Bool := decide (0 ≤ la) && decide (now - la < p)
def offer1 (s : SrcV) (p qu now : Int) : SrcV × Int :=
  if offT s.la p now = true then (⟨s.la, oneN s.ar, s.dn, oneN s.th, s.lo, s.dr, s.q⟩, 18)
  else if (s.q.length : Int) = qu then (⟨s.la, oneN s.ar, s.dn, s.th, oneN s.lo, s.dr, s.q⟩, 7)
  else (⟨now, oneN s.ar, s.dn, s.th, s.lo, s.dr, s.q ++ [now]⟩, 0)
def SrcV.ok (s : SrcV) (k p d pin qu r : Int) : Bool := sourceOK s.la s.ar s.dn s.th s.lo s.dr s.q k p d pin qu r
def nowOK (la now : Int) : Bool := inR now (if (0 : Int) > la then 0 else la) 2147483647
def offerF (s : SrcV) (k p d pin qu r now : Int) : SrcV × Int :=
  if s.ok k p d pin qu r = true then (if nowOK s.la now = true then offer1 s p qu now else (.zero, 4)) else (.zero, 1)
@[reducible] def SrcV.cells (s : SrcV) (c : Cell) : List Cell := [.int .i64 s.la, .int .i64 s.ar, .int .i64 s.dn, .int .i64 s.th, .int .i64 s.lo, .int .i64 s.dr, c]

theorem ok_parts {s : SrcV} {k p d pin qu r : Int} (h : s.ok k p d pin qu r = true) : (-1 ≤ s.la ∧ s.la ≤ 2147483647) ∧ (1 ≤ p ∧ p ≤ 5000) ∧ (s.q.length : Int) ≤ qu ∧ qu ≤ 4 := by
  simp only [SrcV.ok, sourceOK, taskOK, Bool.and_eq_true, decide_eq_true_eq] at h
  exact ⟨inR_t h.2.2.1, inR_t h.2.1.1, h.2.2.2.1, (inR_t h.2.1.2.2.1).2⟩
def K_l10One (C : Calls_) : Prop := ∀ n : Int, C n_spec_l10One [.one (.int .i64 n)] [] (.one (.int .i64 (oneN n))) []
theorem p_spec_l10One (n : Int) : v_spec_l10One C (fun r os => r = .one (.int .i64 (oneN n)) ∧ os = []) n := ⟨rfl, rfl⟩
@[reducible] def tupO (s : SrcV) (c : Cell) (y : Int) : Ent := .tup [(true, s.cells c), (false, [.int .i64 y])]
def K_l10Offer (C : Calls_) : Prop := ∀ (s : SrcV) (k p d pin qu r now : Int), (-1 ≤ s.la ∧ s.la ≤ 2147483647) → (1 ≤ p ∧ p ≤ 5000) → (0 ≤ now ∧ now ≤ 2147483647) → s.q.length ≤ 1048576 →
  C n_spec_l10Offer [srcC s.la s.ar s.dn s.th s.lo s.dr s.q, tskC k p d pin qu r, .one (.int .i64 now)] [] (tupO (offer1 s p qu now).1 (.sl (.int .i64) (offer1 s p qu now).1.q) (offer1 s p qu now).2) []
theorem p_spec_l10Offer (h : K_l10One C) (s : SrcV) (k p d pin qu r now : Int) (h1 : -1 ≤ s.la ∧ s.la ≤ 2147483647) (h2 : 1 ≤ p ∧ p ≤ 5000) (h3 : 0 ≤ now ∧ now ≤ 2147483647) (hq : s.q.length ≤ 1048576) :
    v_spec_l10Offer C (fun x os => x = tupO (offer1 s p qu now).1 (.sl (.int .i64) (offer1 s p qu now).1.q) (offer1 s p qu now).2 ∧ os = []) s.la s.ar s.dn s.th s.lo s.dr s.q k p d pin qu r now := by
  obtain ⟨la, ar, dn, th, lo, dr, q⟩ := s
  dsimp only at h1 hq ⊢
  refine ⟨_, h _, rfl, rfl, fun n b a1 a2 a3 a4 a5 a6 a7 a8 a9 a10 a11 a12 a13 _ _ _ _ _ _ => b = offT la p now ∧ now = n ∧ la = a1 ∧ oneN ar = a2 ∧ dn = a3 ∧ th = a4 ∧ lo = a5 ∧ dr = a6 ∧ q = a7 ∧ qu = a12,
    ifP (fun hl => ⟨?_, rfl, rfl, rfl, rfl, rfl, rfl, rfl, rfl, rfl⟩) (fun hl => ⟨?_, rfl, rfl, rfl, rfl, rfl, rfl, rfl, rfl, rfl⟩), ?_⟩
  · rw [w64 (by omega), offT, decide_eq_true (show 0 ≤ la by omega)]; simp
  · rw [offT, decide_eq_false (show ¬ 0 ≤ la by omega)]; simp
  rintro n b a1 a2 a3 a4 a5 a6 a7 a8 a9 a10 a11 a12 a13 _ _ _ _ _ _ ⟨rfl, rfl, rfl, rfl, rfl, rfl, rfl, rfl, rfl, rfl⟩
  unfold offer1
  refine ifB_cases (fun hb => ?_) (fun hb => ?_)
  · rw [if_pos hb]
    refine ⟨_, h _, rfl, ?_⟩
    first | exact ⟨rfl, rfl⟩ | exact ⟨rfl, rfl, rfl⟩ | exact ⟨rfl, rfl, rfl, rfl⟩ | exact ⟨rfl, rfl, rfl, rfl, rfl⟩
  · rw [if_neg (by simp [hb])]
    refine ifE (fun hl => ?_) (fun hl => ?_)
    · rw [if_pos hl]
      refine ⟨_, h _, rfl, ?_⟩
      first | exact ⟨rfl, rfl⟩ | exact ⟨rfl, rfl, rfl⟩ | exact ⟨rfl, rfl, rfl, rfl⟩ | exact ⟨rfl, rfl, rfl, rfl, rfl⟩
    · rw [if_neg hl]
      first
        | exact ⟨by simp; omega, by simp; omega, rfl, rfl⟩
        | exact ⟨rfl, by simp; omega, by simp; omega, rfl, rfl⟩
        | exact ⟨rfl, by simp; omega, by simp; omega, rfl, rfl, rfl⟩
        | exact ⟨rfl, by simp; omega, by simp; omega, rfl, rfl, rfl, rfl⟩
        | exact ⟨by simp; omega, by simp; omega, rfl, rfl, rfl⟩
        | exact ⟨by simp; omega, by simp; omega, rfl, rfl, rfl, rfl⟩
def K_Offer (n : Nat) (C : Calls_) : Prop := ∀ (s : SrcV) (k p d pin qu r now : Int), s.q.length ≤ 1048576 → C n [srcC s.la s.ar s.dn s.th s.lo s.dr s.q, tskC k p d pin qu r, .one (.int .i64 now)] []
  (tupO (offerF s k p d pin qu r now).1 (.row 0) (offerF s k p d pin qu r now).2) [.row t_int (.int .i64) (offerF s k p d pin qu r now).1.q]
theorem nowOK_range {la now : Int} (h : nowOK la now = true) : 0 ≤ now ∧ now ≤ 2147483647 ∧ la ≤ now := by
  have := inR_t h
  split at this <;> omega
theorem p_spec_OfferEvent (hs : K_SourceOK n_spec_SourceOK C) (hin : K_in n_spec_l01In C) (ho : K_own n_spec_l10Own C) (hf : K_l10Offer C) (s : SrcV) (k p d pin qu r now : Int) (hq : s.q.length ≤ 1048576) :
    v_spec_OfferEvent C (fun x os => x = tupO (offerF s k p d pin qu r now).1 (.row 0) (offerF s k p d pin qu r now).2 ∧ os = [.row t_int (.int .i64) (offerF s k p d pin qu r now).1.q]) s.la s.ar s.dn s.th s.lo s.dr s.q k p d pin qu r now := by
  refine ⟨_, hs _ _ _ _ _ _ _ _ _ _ _ _ _, rfl, ?_⟩
  unfold offerF SrcV.ok
  refine ifB_cases (fun h1 => ?_) (fun h1 => ⟨_, hin _ _ _, rfl, ifB_cases (fun h2 => ?_) (fun h2 => ?_)⟩)
  · rw [if_neg (by rw [not_t h1]; simp)]; exact ⟨rfl, rfl, rfl⟩
  · rw [if_pos (not_f h1), if_neg (by unfold nowOK; rw [not_t h2]; simp)]; exact ⟨rfl, rfl, rfl⟩
  · have h2 : nowOK s.la now = true := not_f h2
    have hn := nowOK_range h2
    have hp := ok_parts (s := s) (not_f h1)
    rw [if_pos (not_f h1), if_pos h2]
    have hl : (offer1 s p qu now).1.q.length ≤ 1048576 := by unfold offer1; split; exact hq; split; exact hq; simp; omega
    have a := hf s k p d pin qu r now hp.1 hp.2.1 (by omega) hq
    have b := ho (offer1 s p qu now).1.la (offer1 s p qu now).1.ar (offer1 s p qu now).1.dn (offer1 s p qu now).1.th (offer1 s p qu now).1.lo (offer1 s p qu now).1.dr (offer1 s p qu now).1.q hl
    first
      | exact ⟨_, _, _, _, _, _, _, _, a, rfl, _, _, _, _, _, _, _, b, rfl, rfl, rfl⟩
      | exact ⟨_, _, _, _, _, _, _, _, a, rfl, rfl, _, _, _, _, _, _, _, b, rfl, rfl, rfl⟩
      | exact ⟨_, _, _, _, _, _, _, _, a, rfl, rfl, _, _, _, _, _, _, _, b, rfl, rfl, rfl, rfl⟩
      | exact ⟨_, _, _, _, _, _, _, _, a, rfl, _, _, _, _, _, _, _, b, rfl, rfl, rfl, rfl⟩

def K_count1 (C : Calls_) : Prop := ∀ (n la ar dn th lo dr : Int) (q : List Int), C n_impl_count [.one (.ptrB 0 1), .one (.int .i64 n)] [boxR la ar dn th lo dr (.row 1), .row t_int (.int .i64) q] (.tup []) [boxR la (capN (IntKind.wrap .i64 (ar + n))) dn th lo dr (.row 1), .row t_int (.int .i64) q]
def K_count2 (C : Calls_) : Prop := ∀ (n la ar dn th lo dr : Int) (q : List Int), C n_impl_count [.one (.ptrB 0 3), .one (.int .i64 n)] [boxR la ar dn th lo dr (.row 1), .row t_int (.int .i64) q] (.tup []) [boxR la ar dn (capN (IntKind.wrap .i64 (th + n))) lo dr (.row 1), .row t_int (.int .i64) q]
def K_count3 (C : Calls_) : Prop := ∀ (n la ar dn th lo dr : Int) (q : List Int), C n_impl_count [.one (.ptrB 0 4), .one (.int .i64 n)] [boxR la ar dn th lo dr (.row 1), .row t_int (.int .i64) q] (.tup []) [boxR la ar dn th (capN (IntKind.wrap .i64 (lo + n))) dr (.row 1), .row t_int (.int .i64) q]
theorem p_impl_count_1 (n la ar dn th lo dr : Int) (q : List Int) : v_impl_count_1 C (fun x os => x = .tup [] ∧ os = [boxR la (capN (IntKind.wrap .i64 (ar + n))) dn th lo dr (.row 1), .row t_int (.int .i64) q]) n la ar dn th lo dr q := by
  first | exact ⟨rfl, rfl⟩ | exact ⟨rfl, rfl, rfl⟩ | exact ⟨rfl, rfl, rfl, rfl⟩
theorem p_impl_count_2 (n la ar dn th lo dr : Int) (q : List Int) : v_impl_count_2 C (fun x os => x = .tup [] ∧ os = [boxR la ar dn (capN (IntKind.wrap .i64 (th + n))) lo dr (.row 1), .row t_int (.int .i64) q]) n la ar dn th lo dr q := by
  first | exact ⟨rfl, rfl⟩ | exact ⟨rfl, rfl, rfl⟩ | exact ⟨rfl, rfl, rfl, rfl⟩
theorem p_impl_count_3 (n la ar dn th lo dr : Int) (q : List Int) : v_impl_count_3 C (fun x os => x = .tup [] ∧ os = [boxR la ar dn th (capN (IntKind.wrap .i64 (lo + n))) dr (.row 1), .row t_int (.int .i64) q]) n la ar dn th lo dr q := by
  first | exact ⟨rfl, rfl⟩ | exact ⟨rfl, rfl, rfl⟩ | exact ⟨rfl, rfl, rfl, rfl⟩
@[reducible] def SrcV.box (s : SrcV) (c : Cell) : Ob := .box (s.cells c)
def K_offer (C : Calls_) : Prop := ∀ (s : SrcV) (k p d pin qu r now : Int), (-1 ≤ s.la ∧ s.la ≤ 2147483647) → (1 ≤ p ∧ p ≤ 5000) → (0 ≤ now ∧ now ≤ 2147483647) → s.q.length ≤ 1048576 →
  C n_impl_Source_offer [.one (.ptrB 0 0), tskC k p d pin qu r, .one (.int .i64 now)] [s.box (.row 1), .row t_int (.int .i64) s.q] (.one (.int .i64 (offer1 s p qu now).2)) [(offer1 s p qu now).1.box (.row 2), .dead, .row t_int (.int .i64) (offer1 s p qu now).1.q]
theorem p_impl_Source_offer (c1 : K_count1 C) (c2 : K_count2 C) (c3 : K_count3 C) (s : SrcV) (k p d pin qu r now : Int) (h1 : -1 ≤ s.la ∧ s.la ≤ 2147483647) (h2 : 1 ≤ p ∧ p ≤ 5000) (h3 : 0 ≤ now ∧ now ≤ 2147483647) (hq : s.q.length ≤ 1048576) :
    v_impl_Source_offer C (fun x os => x = .one (.int .i64 (offer1 s p qu now).2) ∧ os = [(offer1 s p qu now).1.box (.row 2), .dead, .row t_int (.int .i64) (offer1 s p qu now).1.q]) k p d pin qu r now s.la s.ar s.dn s.th s.lo s.dr s.q := by
  obtain ⟨la, ar, dn, th, lo, dr, q⟩ := s
  dsimp only at h1 hq ⊢
  refine ⟨_, _, _, _, _, _, _, c1 _ _ _ _ _ _ _ _, rfl, fun n b a1 a2 a3 a4 a5 a6 a7 t1 t2 t3 t4 t5 t6 => b = offT la p now ∧ now = n ∧ la = a1 ∧ oneN ar = a2 ∧ dn = a3 ∧ th = a4 ∧ lo = a5 ∧ dr = a6 ∧ q = a7 ∧ qu = t5,
    ifN (fun hl => ⟨?_, rfl, rfl, rfl, rfl, rfl, rfl, rfl, rfl, rfl⟩) (fun hl => ⟨?_, rfl, rfl, rfl, rfl, rfl, rfl, rfl, rfl, rfl⟩), ?_⟩
  · rw [w64 (by omega), offT, decide_eq_true (show 0 ≤ la by omega), Bool.true_and]
    by_cases hh : now < la + p
    · rw [decide_eq_true hh, decide_eq_true (by omega)]
    · rw [decide_eq_false hh, decide_eq_false (by omega)]
  · rw [offT, decide_eq_false (show ¬ 0 ≤ la by omega)]; simp
  rintro n b a1 a2 a3 a4 a5 a6 a7 t1 t2 t3 t4 t5 t6 ⟨rfl, rfl, rfl, rfl, rfl, rfl, rfl, rfl, rfl, rfl⟩
  unfold offer1
  refine ifB_cases (fun hb => ?_) (fun hb => ?_)
  · rw [if_pos hb]
    refine ⟨_, _, _, _, _, _, _, c2 _ _ _ _ _ _ _ _, rfl, rfl, ?_⟩
    rw [List.take_length]; rfl
  · rw [if_neg (by simp [hb])]
    refine ifE (fun hl => ?_) (fun hl => ?_)
    · rw [if_pos hl]
      refine ⟨_, _, _, _, _, _, _, c3 _ _ _ _ _ _ _ _, rfl, rfl, ?_⟩
      rw [List.take_length]; rfl
    · rw [if_neg hl]
      first
        | exact ⟨by simp; omega, rfl, rfl⟩
        | exact ⟨by simp; omega, rfl, rfl, rfl⟩
        | exact ⟨by simp; omega, rfl, rfl, rfl, rfl⟩
theorem p_impl_OfferEvent (hs : K_SourceOK n_impl_SourceOK C) (hw : K_when C) (hf : K_first C) (ht : K_isTime C) (ho : K_own n_impl_copySource C) (hof : K_offer C) (s : SrcV) (k p d pin qu r now : Int) (hq : s.q.length ≤ 1048576) :
    v_impl_OfferEvent C (fun x os => x = tupO (offerF s k p d pin qu r now).1 (.row 0) (offerF s k p d pin qu r now).2 ∧ os = [.row t_int (.int .i64) (offerF s k p d pin qu r now).1.q]) s.la s.ar s.dn s.th s.lo s.dr s.q k p d pin qu r now := by
  refine ⟨fun n a1 a2 a3 a4 a5 a6 a7 t1 t2 t3 t4 t5 t6 _ _ _ _ _ _ => (s.ok k p d pin qu r = true ∧ nowOK s.la now = true) ∧ now = n ∧ s.la = a1 ∧ s.ar = a2 ∧ s.dn = a3 ∧ s.th = a4 ∧ s.lo = a5 ∧ s.dr = a6 ∧ s.q = a7 ∧ k = t1 ∧ p = t2 ∧ d = t3 ∧ pin = t4 ∧ qu = t5 ∧ r = t6, ?_, ?_⟩
  · refine ⟨_, hs _ _ _ _ _ _ _ _ _ _ _ _ _, rfl, _, hw _ _, rfl, _, ht _, rfl, ?_⟩
    show ifB _ _ _
    have e : sourceOK s.la s.ar s.dn s.th s.lo s.dr s.q k p d pin qu r = s.ok k p d pin qu r := rfl
    rw [e]
    have nT : (inR now 0 2147483647 = true ∧ ¬ now < s.la) ↔ nowOK s.la now = true := by
      constructor
      · rintro ⟨h, h'⟩; have := inR_t h; simp only [nowOK, inR, Bool.and_eq_true, decide_eq_true_eq]; split <;> omega
      · intro h; have := nowOK_range h; simp only [inR, Bool.and_eq_true, decide_eq_true_eq]; omega
    have fin : ∀ c : Bool, (c = true ↔ nowOK s.la now = false) → ∀ J : Prop, (s.ok k p d pin qu r = true ∧ nowOK s.la now = true → J) →
        ifB (firstN [if (!s.ok k p d pin qu r) = true then 1 else 0, if c = true then 4 else 0] != (0 : Int))
          (true = true ∧ (fun (x : Ent) (os : List Ob) => x = tupO (offerF s k p d pin qu r now).1 (.row 0) (offerF s k p d pin qu r now).2 ∧ os = [.row t_int (.int .i64) (offerF s k p d pin qu r now).1.q])
            (.tup [(true, [.int .i64 0, .int .i64 0, .int .i64 0, .int .i64 0, .int .i64 0, .int .i64 0, .row 0]), (false, [.int .i64 (firstN [if (!s.ok k p d pin qu r) = true then 1 else 0, if c = true then 4 else 0])])]) [.row t_int (.int .i64) ([] : List Int)]) J := by
      intro c hc J hJ
      unfold offerF
      cases h1 : s.ok k p d pin qu r
      · exact ifB_t rfl ⟨rfl, rfl, rfl⟩
      · cases h2 : nowOK s.la now
        · have : c = true := hc.2 h2
          subst this
          exact ifB_t rfl ⟨rfl, rfl, rfl⟩
        · have : c = false := by
            cases c
            · rfl
            · have := hc.1 rfl; rw [h2] at this; exact this
          subst this
          exact ifB_f rfl (hJ ⟨h1, h2⟩)
    refine ifB_cases (fun h => ?_) (fun h => ?_)
    · have hno : nowOK s.la now = false := by
        cases hh : nowOK s.la now
        · rfl
        · have := nT.2 hh; rw [not_t h] at this; simp at this
      refine ⟨_, hw _ _, rfl, _, hf _ (by simp), rfl, ?_⟩
      exact fin true ⟨fun _ => hno, fun _ => rfl⟩ _ fun g => ⟨g, rfl, rfl, rfl, rfl, rfl, rfl, rfl, rfl, rfl, rfl, rfl, rfl, rfl, rfl⟩
    · have hyes : decide (now < s.la) = true ↔ nowOK s.la now = false := by
        rw [decide_eq_true_eq]
        constructor
        · intro hlt
          cases hh : nowOK s.la now
          · rfl
          · exact absurd hlt (nT.2 hh).2
        · intro hh
          cases Classical.em (now < s.la) with
          | inl h' => exact h'
          | inr h' => rw [nT.1 ⟨not_f h, h'⟩] at hh; simp at hh
      refine ⟨_, hw _ _, rfl, _, hf _ (by simp), rfl, ?_⟩
      exact fin _ hyes _ fun g => ⟨g, rfl, rfl, rfl, rfl, rfl, rfl, rfl, rfl, rfl, rfl, rfl, rfl, rfl, rfl⟩
  · rintro n a1 a2 a3 a4 a5 a6 a7 t1 t2 t3 t4 t5 t6 _ _ _ _ _ _ ⟨⟨h1, h2⟩, rfl, rfl, rfl, rfl, rfl, rfl, rfl, rfl, rfl, rfl, rfl, rfl, rfl, rfl⟩
    have hn := nowOK_range h2
    have hp := ok_parts h1
    have a := ho s.la s.ar s.dn s.th s.lo s.dr s.q hq
    have b := hof s k p d pin qu r now hp.1 hp.2.1 (by omega) hq
    unfold offerF
    rw [if_pos h1, if_pos h2]
    first
      | exact ⟨_, _, _, _, _, _, _, a, rfl, _, _, _, _, _, _, _, _, b, rfl, rfl, rfl⟩
      | exact ⟨_, _, _, _, _, _, _, a, rfl, rfl, _, _, _, _, _, _, _, _, b, rfl, rfl, rfl⟩
      | exact ⟨_, _, _, _, _, _, _, a, rfl, rfl, _, _, _, _, _, _, _, _, b, rfl, rfl, rfl, rfl⟩
      | exact ⟨_, _, _, _, _, _, _, a, rfl, _, _, _, _, _, _, _, _, b, rfl, rfl, rfl, rfl⟩

section
variable (hz : K_szSource C) (hto : K_toSource C) (htt : K_toTask C) (he : K_eqSource C) (hs : K_Offer n_spec_OfferEvent C) (hi : K_Offer n_impl_OfferEvent C) (hm : K_markSource C) (hh : K_heldSource C)
include hz hto htt he hs hi hm hh
theorem p_laws_FnExactOfferEvent (la ar dn th lo dr : Int) (q : List Int) (k p d pin qu r now : Int) (hq : q.length ≤ maxLen) :
    v_laws_FnExactOfferEvent C (fun r os => r = .one (.bool true) ∧ os = []) la ar dn th lo dr q k p d pin qu r now := by
  refine ⟨_, hz la ar dn th lo dr q 1048576 hq (by omega), rfl, ifP (fun _ => ⟨rfl, rfl⟩) (fun h0 => ?_)⟩
  have hl : q.length ≤ 1048576 := by have := szI_le h0; omega
  have t := hto la ar dn th lo dr q hl
  have tt := htt k p d pin qu r
  have s := hs ⟨la, ar, dn, th, lo, dr, q⟩ k p d pin qu r now hl
  have i := hi ⟨la, ar, dn, th, lo, dr, q⟩ k p d pin qu r now hl
  have hx : (offerF ⟨la, ar, dn, th, lo, dr, q⟩ k p d pin qu r now).1.q.length ≤ 1048576 + 1 := by
    unfold offerF offer1
    split
    · split
      · split
        · simp; omega
        · split <;> simp <;> omega
      · simp [SrcV.zero]
    · simp [SrcV.zero]
  have hx : (offerF ⟨la, ar, dn, th, lo, dr, q⟩ k p d pin qu r now).1.q.length ≤ 1048576 := by
    unfold offerF
    split
    · rename_i hok
      have := ok_parts hok
      simp only at this
      split
      · unfold offer1
        split
        · simp; omega
        · split <;> simp <;> omega
      · simp [SrcV.zero]
    · simp [SrcV.zero]
  revert s i
  generalize offerF ⟨la, ar, dn, th, lo, dr, q⟩ k p d pin qu r now = o at hx
  obtain ⟨⟨xa, xb, xc, xd, xe, xf, xq⟩, xn⟩ := o
  intro s i
  simp only at hx s i
  refine ⟨_, ⟨⟨_, _, _, _, _, _, _, t, rfl, ⟨_, _, _, _, _, _, tt, rfl, ⟨_, _, _, _, _, _, _, _, s, rfl, rfl, ?k⟩, ⟨_, _, _, _, _, _, _, _, s, rfl, rfl, ?k⟩⟩, ⟨_, _, _, _, _, _, tt, rfl, _, _, _, _, _, _, _, _, s, rfl, rfl, ?k⟩⟩,
    ⟨_, _, _, _, _, _, _, t, rfl, _, _, _, _, _, _, tt, rfl, _, _, _, _, _, _, _, _, s, rfl, rfl, ?k⟩⟩, fun _ _ _ _ _ _ _ _ _ _ _ _ _ _ _ _ _ _ _ _ _ _ h => h⟩
  refine ⟨_, _, _, _, _, _, _, t, rfl, rfl, _, ⟨⟨_, _, _, _, _, _, tt, rfl, ⟨_, _, _, _, _, _, _, _, i, rfl, rfl, ?k2⟩, ⟨_, _, _, _, _, _, _, _, i, rfl, rfl, ?k2⟩⟩, ⟨_, _, _, _, _, _, tt, rfl, _, _, _, _, _, _, _, _, i, rfl, rfl, ?k2⟩⟩,
    fun _ _ _ _ _ _ _ _ _ _ _ _ _ _ _ _ _ _ _ _ _ _ _ _ _ _ _ _ _ _ _ _ _ _ _ _ _ h => h⟩
  have hE := he xa xb xc xd xe xf xq hx
  have hM := hm xa xb xc xd xe xf 1 xq (by omega) hx
  have hH := hh xa xb xc xd xe xf 1 xq (by omega) hx
  have e0 := he la ar dn th lo dr q hl
  refine ⟨_, hE, rfl, ifB_f rfl (ifN_f rfl ⟨_, _, _, _, _, _, _, t, rfl, _, e0, rfl, ifB_f rfl ⟨_, _, hm la ar dn th lo dr 1 q (by omega) hl, rfl, ifP_f (by omega) ⟨_, hE, rfl, ifB_f rfl (ifN_f rfl ⟨_, _, hM, rfl, _, hH, rfl, ifP_f (by omega) (ifN_f rfl ?_)⟩)⟩⟩⟩)⟩
  refine ⟨_, ⟨⟨_, _, _, _, _, _, _, t, rfl, ⟨_, _, _, _, _, _, tt, rfl, ⟨_, _, _, _, _, _, _, _, i, rfl, rfl, ?k3⟩, ⟨_, _, _, _, _, _, _, _, i, rfl, rfl, ?k3⟩⟩, ⟨_, _, _, _, _, _, tt, rfl, _, _, _, _, _, _, _, _, i, rfl, rfl, ?k3⟩⟩,
    ⟨_, _, _, _, _, _, _, t, rfl, _, _, _, _, _, _, tt, rfl, _, _, _, _, _, _, _, _, i, rfl, rfl, ?k3⟩⟩, fun _ _ _ _ _ _ _ _ _ _ _ _ _ _ _ _ _ _ _ _ _ _ _ _ h => h⟩
  exact ⟨_, hE, rfl, ifB_f rfl (ifN_f rfl ⟨_, hH, rfl, ifP_f (by omega) (ifN_f rfl ⟨rfl, rfl⟩)⟩)⟩
end
def K_FnExactOfferEvent (C : Calls_) : Prop := ∀ (la ar dn th lo dr : Int) (q : List Int) (k p d pin qu r now : Int), q.length ≤ maxLen → C n_laws_FnExactOfferEvent [srcC la ar dn th lo dr q, tskC k p d pin qu r, .one (.int .i64 now)] [] (.one (.bool true)) []
end Go.Ry
