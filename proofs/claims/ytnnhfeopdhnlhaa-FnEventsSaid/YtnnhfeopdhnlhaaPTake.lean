/- TakeEvent of the program and of the reference: the same. No condition. -/
import Derived.Test.YtnnhfeopdhnlhaaPSrc2
set_option linter.unusedVariables false
set_option linter.unusedSimpArgs false
namespace Go.Ry
variable {C : Calls_}

/-! ### what is a part of a row -/
theorem mid {α : Type} (a b c : List α) : ((a ++ b ++ c).take (a.length + b.length)).drop a.length = b := by
  rw [← List.length_append, List.take_left' rfl, List.drop_left' rfl]
theorem markTo_at {n : Int} (a b c : List Int) {i : Nat} (h : i < b.length) :
    (a ++ markTo (fun j : Nat => n + (j : Int)) b i ++ c).set (a.length + i) (n + (i : Int)) = a ++ markTo (fun j : Nat => n + (j : Int)) b (i + 1) ++ c := by
  have hl := markTo_length (g := fun j : Nat => n + (j : Int)) (r := b) (i := i) (by omega)
  rw [List.append_assoc, List.set_append_right _ _ (by omega), show a.length + i - a.length = i by omega, List.set_append_left _ _ (by omega), ← markTo_set h, List.append_assoc]
theorem p_laws_markIntS_1 (n : Int) (a b c : List Int) (hn : 0 ≤ n ∧ n ≤ 1099511627776) (h : b.length ≤ 1048576) :
    v_laws_markIntS_1 C (fun x os => x = .one (.int .i64 (n + b.length)) ∧ os = [.row t_int (.int .i64) (a ++ markI n b ++ c)]) a.length (a.length + b.length) n (a ++ b ++ c) := by
  refine ⟨fun m lo hi k i s => lo = a.length ∧ hi = a.length + b.length ∧ 0 ≤ i ∧ i ≤ b.length ∧ m = (b.length - i).toNat ∧ k = n + i ∧ s = a ++ markTo (fun j : Nat => n + (j : Int)) b i.toNat ++ c, ⟨_, rfl, rfl, by omega, by omega, rfl, by omega, by rw [show (0 : Int).toNat = 0 from rfl, markTo_zero]⟩, ?_⟩
  rintro m lo hi k i s ⟨rfl, rfl, h0, h1, rfl, rfl, rfl⟩
  have hl := markTo_length (g := fun j : Nat => n + (j : Int)) (r := b) (i := i.toNat) (by omega)
  have hm := mid a (markTo (fun j : Nat => n + (j : Int)) b i.toNat) c
  rw [hl] at hm
  rw [hm, hl]
  refine ifP (fun hlt => ?_) (fun hge => ?_)
  · rw [w64 (by omega), w64 (by omega)]
    refine ⟨⟨h0, hlt⟩, _, ?_, rfl, rfl, by omega, by omega, rfl, by omega, ?_⟩
    · omega
    · rw [toNat_succ h0, ← markTo_at _ _ _ (by omega), show ((i.toNat : Nat) : Int) = i by omega]
  · have : i.toNat = b.length := by omega
    rw [this, markTo_all]
    exact ⟨by rw [show i = (b.length : Int) by omega], rfl⟩
def K_markIntS_1 (C : Calls_) : Prop := ∀ (n : Int) (a b c : List Int), 0 ≤ n ∧ n ≤ 1099511627776 → b.length ≤ 1048576 →
  C n_laws_markIntS [.one (.win 0 a.length (a.length + b.length)), .one (.int .i64 n)] [.row t_int (.int .i64) (a ++ b ++ c)] (.one (.int .i64 (n + b.length))) [.row t_int (.int .i64) (a ++ markI n b ++ c)]
@[reducible] def srcW (la ar dn th lo dr : Int) (i j : Nat) : Ent := .agg [.int .i64 la, .int .i64 ar, .int .i64 dn, .int .i64 th, .int .i64 lo, .int .i64 dr, .win 0 i j]
def K_markSource (C : Calls_) : Prop := ∀ (la ar dn th lo dr n : Int) (q : List Int), 0 ≤ n ∧ n ≤ 1099511627776 → q.length ≤ 1048576 →
  C n_laws_markSource [srcR la ar dn th lo dr, .one (.int .i64 n)] [.row t_int (.int .i64) q] (.one (.int .i64 (n + q.length))) [.row t_int (.int .i64) (markI n q)]
theorem p_laws_markSource (h : K_markIntS C) (la ar dn th lo dr n : Int) (q : List Int) (hn : 0 ≤ n ∧ n ≤ 1099511627776) (hq : q.length ≤ 1048576) :
    v_laws_markSource C (fun x os => x = .one (.int .i64 (n + q.length)) ∧ os = [.row t_int (.int .i64) (markI n q)]) la ar dn th lo dr n q := ⟨_, _, h n q hn hq, rfl, rfl, rfl⟩
def K_markSource_1 (C : Calls_) : Prop := ∀ (la ar dn th lo dr n : Int) (a b c : List Int), 0 ≤ n ∧ n ≤ 1099511627776 → b.length ≤ 1048576 →
  C n_laws_markSource [srcW la ar dn th lo dr a.length (a.length + b.length), .one (.int .i64 n)] [.row t_int (.int .i64) (a ++ b ++ c)] (.one (.int .i64 (n + b.length))) [.row t_int (.int .i64) (a ++ markI n b ++ c)]
theorem p_laws_markSource_1 (h : K_markIntS_1 C) (la ar dn th lo dr n : Int) (a b c : List Int) (hn : 0 ≤ n ∧ n ≤ 1099511627776) (hq : b.length ≤ 1048576) :
    v_laws_markSource_1 C (fun x os => x = .one (.int .i64 (n + b.length)) ∧ os = [.row t_int (.int .i64) (a ++ markI n b ++ c)]) la ar dn th lo dr a.length (a.length + b.length) n (a ++ b ++ c) := ⟨_, _, h n a b c hn hq, rfl, rfl, rfl⟩
def K_heldSource (C : Calls_) : Prop := ∀ (la ar dn th lo dr n : Int) (q : List Int), 0 ≤ n ∧ n ≤ 1099511627776 → q.length ≤ 1048576 →
  C n_laws_heldSource [srcC la ar dn th lo dr (markI n q), .one (.int .i64 n)] [] (.one (.int .i64 (n + q.length))) []
theorem p_laws_heldSource (h : K_heldIntS C) (la ar dn th lo dr n : Int) (q : List Int) (hn : 0 ≤ n ∧ n ≤ 1099511627776) (hq : q.length ≤ 1048576) :
    v_laws_heldSource C (fun x os => x = .one (.int .i64 (n + q.length)) ∧ os = []) la ar dn th lo dr (markI n q) n :=
  ⟨_, h n q hn hq, rfl, ifP_f (by omega) ⟨rfl, rfl⟩⟩

/-! ### copies -/
def K_Clone (C : Calls_) : Prop := ∀ q : List Int, q.length ≤ 1048576 → C n_slices_Clone_int_int [.one (.sl (.int .i64) q)] [] (.one (.row 0)) [.row t_int (.int .i64) q]
theorem p_Clone (q : List Int) (hq : q.length ≤ 1048576) : v_slices_Clone_int_int C (fun x os => x = .one (.row 0) ∧ os = [.row t_int (.int .i64) q]) q := by
  refine fun b hb => ifB_cases (fun h => ⟨rfl, ?_⟩) (fun _ => ⟨by simp; omega, rfl, rfl⟩)
  rw [List.eq_nil_of_length_eq_zero (hb h)]
def K_own (n : Nat) (C : Calls_) : Prop := ∀ (la ar dn th lo dr : Int) (q : List Int), q.length ≤ 1048576 → C n [srcC la ar dn th lo dr q] [] (srcR la ar dn th lo dr) [.row t_int (.int .i64) q]
theorem p_impl_copySource (h : K_Clone C) (la ar dn th lo dr : Int) (q : List Int) (hq : q.length ≤ 1048576) :
    v_impl_copySource C (fun x os => x = srcR la ar dn th lo dr ∧ os = [.row t_int (.int .i64) q]) la ar dn th lo dr q := ⟨_, h q hq, rfl, rfl, rfl, rfl, rfl⟩
theorem p_spec_l10Own (la ar dn th lo dr : Int) (q : List Int) (hq : q.length ≤ 1048576) :
    v_spec_l10Own C (fun x os => x = srcR la ar dn th lo dr ∧ os = [.row t_int (.int .i64) q]) la ar dn th lo dr q := ⟨by simp; omega, rfl, rfl, rfl, rfl⟩

/-! ### TakeEvent -/
@[reducible] def boxR (la ar dn th lo dr : Int) (c : Cell) : Ob := .box [.int .i64 la, .int .i64 ar, .int .i64 dn, .int .i64 th, .int .i64 lo, .int .i64 dr, c]
def K_l10Take (C : Calls_) : Prop := ∀ (la ar dn th lo dr x : Int) (q : List Int), q.length ≤ 1048576 → C n_spec_l10Take [srcC la ar dn th lo dr (x :: q)] []
  (.tup [(true, [.int .i64 la, .int .i64 ar, .int .i64 dn, .int .i64 th, .int .i64 lo, .int .i64 dr, .row 0]), (false, [.int .i64 x])]) [.row t_int (.int .i64) q]
theorem drop_one (x : Int) (q : List Int) : ((x :: q).take (Int.toNat ((x :: q).length : Int))).drop (Int.toNat 1) = q := by
  rw [Int.toNat_natCast, List.take_length]; rfl
theorem p_spec_l10Take (la ar dn th lo dr x : Int) (q : List Int) (hq : q.length ≤ 1048576) :
    v_spec_l10Take C (fun r os => r = .tup [(true, [.int .i64 la, .int .i64 ar, .int .i64 dn, .int .i64 th, .int .i64 lo, .int .i64 dr, .row 0]), (false, [.int .i64 x])] ∧ os = [.row t_int (.int .i64) q]) la ar dn th lo dr (x :: q) := by
  unfold v_spec_l10Take
  rw [drop_one]
  exact ⟨⟨by omega, by simp⟩, rfl, ⟨by omega, by simp; omega, by omega⟩, by simp; omega, rfl, rfl, rfl, rfl⟩
def K_take (C : Calls_) : Prop := ∀ (la ar dn th lo dr x : Int) (q : List Int), q.length ≤ 1048576 → C n_impl_Source_take [.one (.ptrB 0 0)] [boxR la ar dn th lo dr (.row 1), .row t_int (.int .i64) (x :: q)]
  (.one (.int .i64 x)) [boxR la ar dn th lo dr (.win 1 1 (1 + q.length)), .row t_int (.int .i64) (x :: q)]
theorem p_impl_Source_take (la ar dn th lo dr x : Int) (q : List Int) (hq : q.length ≤ 1048576) :
    v_impl_Source_take C (fun r os => r = .one (.int .i64 x) ∧ os = [boxR la ar dn th lo dr (.win 1 1 (1 + q.length)), .row t_int (.int .i64) (x :: q)]) la ar dn th lo dr (x :: q) := by
  refine ⟨⟨by omega, by simp⟩, rfl, ⟨by omega, by simp; omega, by omega⟩, rfl, rfl, ?_⟩
  rw [Int.toNat_natCast, List.length_cons, Nat.add_comm]; rfl

@[reducible] def tupR (la ar dn th lo dr : Int) (c : Cell) (x y : Int) : Ent := .tup [(true, [.int .i64 la, .int .i64 ar, .int .i64 dn, .int .i64 th, .int .i64 lo, .int .i64 dr, c]), (false, [.int .i64 x]), (false, [.int .i64 y])]
def takeZ (b : Bool) (n : Int) : Int := if b = true then n else 0
def takeQ (b : Bool) (q : List Int) : List Int := if b = true then q.drop 1 else []
def takeP (b : Bool) (q : List Int) : List Int := if b = true then q.take 1 else []
def takeE (b : Bool) (q : List Int) : Int := if b = true then (if q.length = 0 then 5 else 0) else 1
def K_specTake (C : Calls_) : Prop := ∀ (la ar dn th lo dr : Int) (q : List Int) (k p d pin qu r : Int), q.length ≤ 1048576 → C n_spec_TakeEvent [srcC la ar dn th lo dr q, tskC k p d pin qu r] []
  (let b := sourceOK la ar dn th lo dr q k p d pin qu r; tupR (takeZ b la) (takeZ b ar) (takeZ b dn) (takeZ b th) (takeZ b lo) (takeZ b dr) (.row 0) (takeZ b (q.getD 0 0)) (takeE b q)) [.row t_int (.int .i64) (takeQ (sourceOK la ar dn th lo dr q k p d pin qu r) q)]
theorem p_spec_TakeEvent (hs : K_SourceOK n_spec_SourceOK C) (ho : K_own n_spec_l10Own C) (ht : K_l10Take C) (la ar dn th lo dr : Int) (q : List Int) (k p d pin qu r : Int) (hq : q.length ≤ 1048576) :
    v_spec_TakeEvent C (fun x os => x = (let b := sourceOK la ar dn th lo dr q k p d pin qu r; tupR (takeZ b la) (takeZ b ar) (takeZ b dn) (takeZ b th) (takeZ b lo) (takeZ b dr) (.row 0) (takeZ b (q.getD 0 0)) (takeE b q)) ∧ os = [.row t_int (.int .i64) (takeQ (sourceOK la ar dn th lo dr q k p d pin qu r) q)])
      la ar dn th lo dr q k p d pin qu r := by
  refine ⟨_, hs _ _ _ _ _ _ _ _ _ _ _ _ _, rfl, ?_⟩
  cases sourceOK la ar dn th lo dr q k p d pin qu r
  · exact ifB_t rfl ⟨rfl, rfl, rfl⟩
  · refine ifB_f rfl (ifE (fun h => ?_) (fun h => ?_))
    · have : q = [] := List.eq_nil_of_length_eq_zero (by omega)
      subst this
      exact ⟨_, _, _, _, _, _, _, ho _ _ _ _ _ _ _ hq, rfl, rfl, rfl, rfl⟩
    · cases q with
      | nil => exact absurd rfl h
      | cons x q =>
        have hq' : q.length ≤ 1048576 := by simp at hq; omega
        exact ⟨_, _, _, _, _, _, _, _, ht _ _ _ _ _ _ _ _ hq', rfl, rfl, _, _, _, _, _, _, _, ho _ _ _ _ _ _ _ hq', rfl, rfl, rfl, rfl⟩
def K_implTake (C : Calls_) : Prop := ∀ (la ar dn th lo dr : Int) (q : List Int) (k p d pin qu r : Int), q.length ≤ 1048576 → C n_impl_TakeEvent [srcC la ar dn th lo dr q, tskC k p d pin qu r] []
  (let b := sourceOK la ar dn th lo dr q k p d pin qu r; tupR (takeZ b la) (takeZ b ar) (takeZ b dn) (takeZ b th) (takeZ b lo) (takeZ b dr) (.win 0 (takeP b q).length ((takeP b q).length + (takeQ b q).length)) (takeZ b (q.getD 0 0)) (takeE b q))
  [.row t_int (.int .i64) (takeP (sourceOK la ar dn th lo dr q k p d pin qu r) q ++ takeQ (sourceOK la ar dn th lo dr q k p d pin qu r) q ++ [])]
theorem p_impl_TakeEvent (hs : K_SourceOK n_impl_SourceOK C) (ho : K_own n_impl_copySource C) (ht : K_take C) (la ar dn th lo dr : Int) (q : List Int) (k p d pin qu r : Int) (hq : q.length ≤ 1048576) :
    v_impl_TakeEvent C (fun x os => x = (let b := sourceOK la ar dn th lo dr q k p d pin qu r; tupR (takeZ b la) (takeZ b ar) (takeZ b dn) (takeZ b th) (takeZ b lo) (takeZ b dr) (.win 0 (takeP b q).length ((takeP b q).length + (takeQ b q).length)) (takeZ b (q.getD 0 0)) (takeE b q)) ∧
      os = [.row t_int (.int .i64) (takeP (sourceOK la ar dn th lo dr q k p d pin qu r) q ++ takeQ (sourceOK la ar dn th lo dr q k p d pin qu r) q ++ [])])
      la ar dn th lo dr q k p d pin qu r := by
  refine ⟨_, hs _ _ _ _ _ _ _ _ _ _ _ _ _, rfl, ?_⟩
  cases sourceOK la ar dn th lo dr q k p d pin qu r
  · exact ifB_t rfl ⟨rfl, rfl, rfl⟩
  · refine ifB_f rfl ⟨_, _, _, _, _, _, _, ho _ _ _ _ _ _ _ hq, rfl, rfl, ifE (fun h => ?_) (fun h => ?_)⟩
    · have : q = [] := List.eq_nil_of_length_eq_zero (by omega)
      subst this
      exact ⟨rfl, rfl, rfl⟩
    · cases q with
      | nil => exact absurd rfl h
      | cons x q =>
        have hq' : q.length ≤ 1048576 := by simp at hq; omega
        exact ⟨_, _, _, _, _, _, _, _, _, _, ht _ _ _ _ _ _ _ _ hq', rfl, rfl, rfl, by simp [takeP, takeQ]⟩

section
variable (hz : K_szSource C) (hto : K_toSource C) (htt : K_toTask C) (he : K_eqSource C) (hs : K_specTake C) (hi : K_implTake C) (hm : K_markSource C) (hm1 : K_markSource_1 C) (hh : K_heldSource C)
include hz hto htt he hs hi hm hm1 hh
theorem p_laws_FnExactTakeEvent (la ar dn th lo dr : Int) (q : List Int) (k p d pin qu r : Int) (hq : q.length ≤ maxLen) :
    v_laws_FnExactTakeEvent C (fun r os => r = .one (.bool true) ∧ os = []) la ar dn th lo dr q k p d pin qu r := by
  refine ⟨_, hz la ar dn th lo dr q 1048576 hq (by omega), rfl, ifP (fun _ => ⟨rfl, rfl⟩) (fun h0 => ?_)⟩
  have hl : q.length ≤ 1048576 := by have := szI_le h0; omega
  have t := hto la ar dn th lo dr q hl
  have tt := htt k p d pin qu r
  have s := hs la ar dn th lo dr q k p d pin qu r hl
  have i := hi la ar dn th lo dr q k p d pin qu r hl
  revert s i
  generalize sourceOK la ar dn th lo dr q k p d pin qu r = b
  intro s i
  have hQ : (takeQ b q).length ≤ 1048576 := by cases b <;> simp [takeQ] <;> omega
  refine ⟨_, ⟨⟨_, _, _, _, _, _, _, t, rfl, ⟨_, _, _, _, _, _, tt, rfl, ⟨_, _, _, _, _, _, _, _, _, s, rfl, rfl, ?k⟩, ⟨_, _, _, _, _, _, _, _, _, s, rfl, rfl, ?k⟩⟩, ⟨_, _, _, _, _, _, tt, rfl, _, _, _, _, _, _, _, _, _, s, rfl, rfl, ?k⟩⟩,
    ⟨_, _, _, _, _, _, _, t, rfl, _, _, _, _, _, _, tt, rfl, _, _, _, _, _, _, _, _, _, s, rfl, rfl, ?k⟩⟩, fun _ _ _ _ _ _ _ _ _ _ _ _ _ _ _ _ _ _ _ _ _ _ h => h⟩
  refine ⟨_, _, _, _, _, _, _, t, rfl, rfl, _, ⟨⟨_, _, _, _, _, _, tt, rfl, ⟨_, _, _, _, _, _, _, _, _, _, _, i, rfl, rfl, ?k2⟩, ⟨_, _, _, _, _, _, _, _, _, _, _, i, rfl, rfl, ?k2⟩⟩, ⟨_, _, _, _, _, _, tt, rfl, _, _, _, _, _, _, _, _, _, _, _, i, rfl, rfl, ?k2⟩⟩,
    fun _ _ _ _ _ _ _ _ _ _ _ _ _ _ _ _ _ _ _ _ _ _ _ _ _ _ _ _ _ _ _ _ _ _ _ _ _ _ _ _ h => h⟩
  have e1 := mid (takeP b q) (takeQ b q) []
  have e2 := mid (takeP b q) (markI 1 (takeQ b q)) []
  rw [show (markI 1 (takeQ b q)).length = (takeQ b q).length by simp [markI]] at e2
  have hE := he (takeZ b la) (takeZ b ar) (takeZ b dn) (takeZ b th) (takeZ b lo) (takeZ b dr) _ hQ
  have hH := hh (takeZ b la) (takeZ b ar) (takeZ b dn) (takeZ b th) (takeZ b lo) (takeZ b dr) 1 _ (by omega) hQ
  have e0 := he la ar dn th lo dr q hl
  have m1 := hm1 (takeZ b la) (takeZ b ar) (takeZ b dn) (takeZ b th) (takeZ b lo) (takeZ b dr) 1 (takeP b q) _ [] (by omega) hQ
  rw [e1]
  refine ⟨_, hE, rfl, ifB_f rfl (ifN_f rfl (ifN_f rfl ⟨_, _, _, _, _, _, _, t, rfl, _, e0, rfl, ifB_f rfl ⟨_, _, hm la ar dn th lo dr 1 q (by omega) hl, rfl, ifP_f (by omega) ⟨_, hE, rfl, ifB_f rfl (ifN_f rfl (ifN_f rfl ⟨_, _, m1, rfl, ?_⟩))⟩⟩⟩))⟩
  rw [e2]
  refine ⟨_, hH, rfl, ifP_f (by omega) (ifN_f rfl ?_)⟩
  refine ⟨_, ⟨⟨_, _, _, _, _, _, _, t, rfl, ⟨_, _, _, _, _, _, tt, rfl, ⟨_, _, _, _, _, _, _, _, _, _, _, i, rfl, rfl, ?k3⟩, ⟨_, _, _, _, _, _, _, _, _, _, _, i, rfl, rfl, ?k3⟩⟩, ⟨_, _, _, _, _, _, tt, rfl, _, _, _, _, _, _, _, _, _, _, _, i, rfl, rfl, ?k3⟩⟩,
    ⟨_, _, _, _, _, _, _, t, rfl, _, _, _, _, _, _, tt, rfl, _, _, _, _, _, _, _, _, _, _, _, i, rfl, rfl, ?k3⟩⟩, fun _ _ _ _ _ _ _ _ _ _ _ _ _ _ _ _ _ _ _ _ _ _ _ _ _ _ _ _ _ _ h => h⟩
  rw [e1, e2]
  exact ⟨_, hE, rfl, ifB_f rfl (ifN_f rfl (ifN_f rfl ⟨_, hH, rfl, ifP_f (by omega) (ifN_f rfl ⟨rfl, rfl⟩)⟩))⟩
end
def K_FnExactTakeEvent (C : Calls_) : Prop := ∀ (la ar dn th lo dr : Int) (q : List Int) (k p d pin qu r : Int), q.length ≤ maxLen → C n_laws_FnExactTakeEvent [srcC la ar dn th lo dr q, tskC k p d pin qu r] [] (.one (.bool true)) []
end Go.Ry
