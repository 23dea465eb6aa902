/- The laws of SourceOK and BalanceOf: they return true. No condition. -/
import Derived.Test.YtnnhfeopdhnlhaaPSrc
set_option linter.unusedVariables false
set_option linter.unusedSimpArgs false
namespace Go.Ry
variable {C : Calls_}

def szI (l : List Int) (n : Int) : Int := if n - l.length < 0 then -1 else n - l.length
def K_szIntS (C : Calls_) : Prop := ∀ (l : List Int) (n : Int), l.length ≤ maxLen → 0 ≤ n ∧ n ≤ 1048576 → C n_laws_szIntS [.one (.sl (.int .i64) l), .one (.int .i64 n)] [] (.one (.int .i64 (szI l n))) []
theorem p_laws_szIntS (l : List Int) (n : Int) (hl : l.length ≤ maxLen) (hn : 0 ≤ n ∧ n ≤ 1048576) : v_laws_szIntS C (fun r os => r = .one (.int .i64 (szI l n)) ∧ os = []) l n := by
  simp only [maxLen] at hl
  unfold v_laws_szIntS szI
  rw [w64 (by omega)]
  exact ifP (fun h => by rw [if_pos h]; exact ⟨rfl, rfl⟩) (fun h => by rw [if_neg h]; exact ⟨rfl, rfl⟩)
@[reducible] def srcC (la ar dn th lo dr : Int) (q : List Int) : Ent := .agg [.int .i64 la, .int .i64 ar, .int .i64 dn, .int .i64 th, .int .i64 lo, .int .i64 dr, .sl (.int .i64) q]
@[reducible] def srcR (la ar dn th lo dr : Int) : Ent := .agg [.int .i64 la, .int .i64 ar, .int .i64 dn, .int .i64 th, .int .i64 lo, .int .i64 dr, .row 0]
@[reducible] def tskC (k p d pin qu r : Int) : Ent := .agg [.int .i64 k, .int .i64 p, .int .i64 d, .int .i64 pin, .int .i64 qu, .int .i64 r]
def K_szSource (C : Calls_) : Prop := ∀ (la ar dn th lo dr : Int) (q : List Int) (n : Int), q.length ≤ maxLen → 0 ≤ n ∧ n ≤ 1048576 → C n_laws_szSource [srcC la ar dn th lo dr q, .one (.int .i64 n)] [] (.one (.int .i64 (szI q n))) []
theorem p_laws_szSource (h : K_szIntS C) (la ar dn th lo dr : Int) (q : List Int) (n : Int) (hl : q.length ≤ maxLen) (hn : 0 ≤ n ∧ n ≤ 1048576) :
    v_laws_szSource C (fun r os => r = .one (.int .i64 (szI q n)) ∧ os = []) la ar dn th lo dr q n := by
  refine ⟨_, h q n hl hn, rfl, ifP (fun h => ?_) (fun h => ⟨rfl, rfl⟩)⟩
  unfold szI at h ⊢
  split at h
  · rename_i h1; rw [if_pos h1]; exact ⟨rfl, rfl⟩
  · omega
theorem szI_le {l : List Int} {n : Int} (h : ¬ szI l n < 0) : (l.length : Int) ≤ n := by
  unfold szI at h
  split at h <;> omega
def K_toIntS (C : Calls_) : Prop := ∀ l : List Int, l.length ≤ 1048576 → C n_laws_toIntS [.one (.sl (.int .i64) l)] [] (.one (.row 0)) [.row t_int (.int .i64) l]
theorem p_laws_toIntS (l : List Int) (h : l.length ≤ 1048576) : v_laws_toIntS C (fun r os => r = .one (.row 0) ∧ os = [.row t_int (.int .i64) l]) l := by
  refine ⟨rfl, ⟨by omega, by omega⟩, fun m l5 i r => l = l5 ∧ 0 ≤ i ∧ i ≤ l.length ∧ m = (l.length - i).toNat ∧ r = fillTo id (0 : Int) l i.toNat, ⟨_, rfl, by omega, by omega, rfl, ?_⟩, ?_⟩
  · exact (fillTo_zero id 0 l).symm
  · rintro m _ i r ⟨rfl, h0, h1, rfl, rfl⟩
    refine ifP (fun hlt => ?_) (fun hge => ?_)
    · have hl := fillTo_length (f := id) (d := (0 : Int)) (l := l) (i := i.toNat) (by omega)
      refine ⟨⟨h0, by omega⟩, ⟨h0, by omega⟩, _, ?_, rfl, ?_, ?_, rfl, ?_⟩
      all_goals rw [w64 (by omega)]
      · omega
      · omega
      · omega
      · rw [toNat_succ h0, ← fillTo_set (by omega) (0 : Int)]; rfl
    · have : i.toNat = l.length := by omega
      rw [this, fillTo_all]
      exact ⟨rfl, by simp⟩
def K_toSource (C : Calls_) : Prop := ∀ (la ar dn th lo dr : Int) (q : List Int), q.length ≤ 1048576 → C n_laws_toSource [srcC la ar dn th lo dr q] [] (srcR la ar dn th lo dr) [.row t_int (.int .i64) q]
theorem p_laws_toSource (h : K_toIntS C) (la ar dn th lo dr : Int) (q : List Int) (hq : q.length ≤ 1048576) :
    v_laws_toSource C (fun r os => r = srcR la ar dn th lo dr ∧ os = [.row t_int (.int .i64) q]) la ar dn th lo dr q :=
  ⟨rfl, rfl, rfl, rfl, rfl, rfl, _, h q hq, rfl, rfl, rfl, rfl, rfl⟩
def K_toTask (C : Calls_) : Prop := ∀ k p d pin qu r : Int, C n_laws_toTask [tskC k p d pin qu r] [] (tskC k p d pin qu r) []
theorem p_laws_toTask (k p d pin qu r : Int) : v_laws_toTask C (fun x os => x = tskC k p d pin qu r ∧ os = []) k p d pin qu r := ⟨rfl, rfl, rfl, rfl, rfl, rfl, rfl, rfl, rfl⟩
def K_SourceOK (n : Nat) (C : Calls_) : Prop := ∀ (la ar dn th lo dr : Int) (q : List Int) (k p d pin qu r : Int), C n [srcC la ar dn th lo dr q, tskC k p d pin qu r] [] (.one (.bool (sourceOK la ar dn th lo dr q k p d pin qu r))) []
def K_eqSource (C : Calls_) : Prop := ∀ (la ar dn th lo dr : Int) (q : List Int), q.length ≤ 1048576 → C n_laws_eqSource [srcC la ar dn th lo dr q, srcC la ar dn th lo dr q] [] (.one (.bool true)) []
theorem p_laws_eqSource (h : K_eqIntS C) (la ar dn th lo dr : Int) (q : List Int) (hq : q.length ≤ 1048576) :
    v_laws_eqSource C (fun r os => r = .one (.bool true) ∧ os = []) la ar dn th lo dr q la ar dn th lo dr q :=
  ifN_f rfl (ifN_f rfl (ifN_f rfl (ifN_f rfl (ifN_f rfl (ifN_f rfl ⟨_, h q hq, rfl, ifB_f rfl ⟨rfl, rfl⟩⟩)))))
def balance (ar dn th lo dr : Int) (q : List Int) : Int := IntKind.wrap .i64 ((IntKind.wrap .i64 ((IntKind.wrap .i64 ((IntKind.wrap .i64 ((IntKind.wrap .i64 (ar - dn)) - th)) - lo)) - dr)) - (List.length q : Int))
@[reducible] def two (a b : Int) : Ent := .tup [(false, [.int .i64 a]), (false, [.int .i64 b])]
def K_BalanceOf (n : Nat) (C : Calls_) : Prop := ∀ (la ar dn th lo dr : Int) (q : List Int) (k p d pin qu r : Int), C n [srcC la ar dn th lo dr q, tskC k p d pin qu r] []
  (two (if sourceOK la ar dn th lo dr q k p d pin qu r = true then balance ar dn th lo dr q else 0) (if sourceOK la ar dn th lo dr q k p d pin qu r = true then 0 else 1)) []
theorem p_impl_BalanceOf (h : K_SourceOK n_impl_SourceOK C) (la ar dn th lo dr : Int) (q : List Int) (k p d pin qu r : Int) :
    v_impl_BalanceOf C (fun x os => x = two (if sourceOK la ar dn th lo dr q k p d pin qu r = true then balance ar dn th lo dr q else 0) (if sourceOK la ar dn th lo dr q k p d pin qu r = true then 0 else 1) ∧ os = []) la ar dn th lo dr q k p d pin qu r := by
  refine ⟨_, h _ _ _ _ _ _ _ _ _ _ _ _ _, rfl, ifB_cases (fun h1 => ?_) (fun h1 => ?_)⟩
  · rw [not_t h1]; exact ⟨rfl, rfl⟩
  · rw [not_f h1]; exact ⟨rfl, rfl⟩

section
variable (hz : K_szSource C) (hto : K_toSource C) (htt : K_toTask C) (he : K_eqSource C)
include hz hto htt he
end
end Go.Ry
