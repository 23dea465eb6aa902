/- The law of ReadCode: it returns true. No condition. -/
import Derived.Test.YtlphiljackccnaaPCode2
set_option linter.unusedVariables false
set_option linter.unusedSimpArgs false
namespace Go.Ry
variable {C : Calls_}

@[reducible] def insT : Ty := .pair (.int .i64) (.pair (.int .i64) .unit)
def K_eqInstr (C : Calls_) : Prop := ∀ a b : Int, C n_laws_eqInstr [.agg [.int .i64 a, .int .i64 b], .agg [.int .i64 a, .int .i64 b]] [] (.one (.bool true)) []
theorem p_laws_eqInstr (a b : Int) : v_laws_eqInstr C (fun r os => r = .one (.bool true) ∧ os = []) a b a b := ifN_f rfl (ifN_f rfl ⟨rfl, rfl⟩)
def K_eqInstrS (C : Calls_) : Prop := ∀ l : Ins, l.length ≤ 1048576 → C n_laws_eqInstrS [.one (.sl insT l), .one (.sl insT l)] [] (.one (.bool true)) []
theorem p_laws_eqInstrS (he : K_eqInstr C) (l : Ins) (h : l.length ≤ 1048576) : v_laws_eqInstrS C (fun r os => r = .one (.bool true) ∧ os = []) l l := by
  refine ifN_f rfl ⟨fun m a b i => l = a ∧ l = b ∧ 0 ≤ i ∧ i ≤ l.length ∧ m = (l.length - i).toNat, ⟨_, rfl, rfl, by omega, by omega, rfl⟩, ?_⟩
  rintro m _ _ i ⟨rfl, rfl, h0, h1, rfl⟩
  refine ifP (fun hlt => ⟨⟨h0, hlt⟩, ⟨h0, hlt⟩, _, he _ _, rfl, ifB_f rfl ⟨_, ?_, rfl, rfl, ?_, ?_, rfl⟩⟩) (fun hge => ⟨rfl, rfl⟩)
  all_goals rw [w64 (by omega)]
  all_goals omega
def markIns (n : Int) (r : Ins) : Ins := (List.range r.length).map fun j : Nat => (n + 2 * (j : Int), (n + 2 * (j : Int) + 1, ()))
def K_markInstrS (C : Calls_) : Prop := ∀ (n : Int) (r : Ins), 0 ≤ n ∧ n ≤ 1099511627776 → r.length ≤ 1048576 → C n_laws_markInstrS [.one (.row 0), .one (.int .i64 n)] [.row t_impl_Instr insT r] (.one (.int .i64 (n + 2 * r.length))) [.row t_impl_Instr insT (markIns n r)]
theorem p_laws_markInstrS (n : Int) (r : Ins) (hn : 0 ≤ n ∧ n ≤ 1099511627776) (h : r.length ≤ 1048576) :
    v_laws_markInstrS C (fun x os => x = .one (.int .i64 (n + 2 * r.length)) ∧ os = [.row t_impl_Instr insT (markIns n r)]) n r := by
  refine ⟨fun m k i s => 0 ≤ i ∧ i ≤ r.length ∧ m = (r.length - i).toNat ∧ k = n + 2 * i ∧ s = markTo (fun j : Nat => (n + 2 * (j : Int), (n + 2 * (j : Int) + 1, ()))) r i.toNat, ⟨_, by omega, by omega, rfl, by omega, (markTo_zero _ _).symm⟩, ?_⟩
  rintro m k i s ⟨h0, h1, rfl, rfl, rfl⟩
  have hl := markTo_length (g := fun j : Nat => (n + 2 * (j : Int), (n + 2 * (j : Int) + 1, ()))) (r := r) (i := i.toNat) (by omega)
  refine ifP (fun hlt => ?_) (fun hge => ?_)
  · rw [w64 (x := n + 2 * i + 1) (by omega), w64 (x := n + 2 * i + 1 + 1) (by omega), w64 (x := i + 1) (by omega)]
    refine ⟨⟨h0, hlt⟩, ⟨h0, by rw [List.length_set]; exact hlt⟩, _, ?_, by omega, by omega, rfl, by omega, ?_⟩
    · omega
    · rw [List.set_set, List.getD_eq_getElem?_getD, List.getElem?_set_self (by omega), toNat_succ h0, ← markTo_set (by omega), show ((i.toNat : Nat) : Int) = i by omega]
      rfl
  · have : i.toNat = r.length := by omega
    rw [this, markTo_all]
    exact ⟨by rw [show i = (r.length : Int) by omega], rfl⟩
def K_heldInstrS (C : Calls_) : Prop := ∀ (n : Int) (r : Ins), 0 ≤ n ∧ n ≤ 1099511627776 → r.length ≤ 1048576 → C n_laws_heldInstrS [.one (.sl insT (markIns n r)), .one (.int .i64 n)] [] (.one (.int .i64 (n + 2 * r.length))) []
theorem p_laws_heldInstrS (n : Int) (r : Ins) (hn : 0 ≤ n ∧ n ≤ 1099511627776) (h : r.length ≤ 1048576) :
    v_laws_heldInstrS C (fun x os => x = .one (.int .i64 (n + 2 * r.length)) ∧ os = []) (markIns n r) n := by
  have hlen : (markIns n r).length = r.length := by simp [markIns]
  have at_ : ∀ i : Int, 0 ≤ i → i < r.length → (markIns n r).getD i.toNat ((0 : Int), ((0 : Int), ())) = (n + 2 * i, (n + 2 * i + 1, ())) := by
    intro i h0 h1
    rw [List.getD_eq_getElem?_getD, markIns, List.getElem?_map, List.getElem?_range (by omega)]
    simp; omega
  refine ⟨fun m a q i => markIns n r = a ∧ 0 ≤ i ∧ i ≤ r.length ∧ m = (r.length - i).toNat ∧ q = n + 2 * i, ⟨_, rfl, by omega, by omega, rfl, by omega⟩, ?_⟩
  rintro m _ q i ⟨rfl, h0, h1, rfl, rfl⟩
  refine ifP (fun hlt => ⟨⟨h0, hlt⟩, ?_⟩) (fun hge => ⟨by rw [show i = (r.length : Int) by omega], rfl⟩)
  rw [at_ i h0 (by omega), w64 (x := n + 2 * i + 1) (by omega), w64 (x := n + 2 * i + 1 + 1) (by omega), w64 (x := i + 1) (by omega)]
  exact ifN_f rfl ⟨⟨h0, hlt⟩, ifN_f rfl ⟨_, by omega, rfl, by omega, by omega, rfl, by omega⟩⟩

theorem step1_len {rec : List Int → Ins → Int × Ins} {b a : Int} {l : List Int} {out : Ins} (h : ∀ l o, o.length ≤ 40 → (rec l o).2.length ≤ 40) : (step1 rec b a l out).2.length ≤ 40 := by
  unfold step1
  split
  · split
    · simp
    · exact h _ _ (by simp; omega)
  · simp
theorem parse_len : ∀ (n : Nat) (l : List Int) (out : Ins), out.length ≤ 40 → (parse n l out).2.length ≤ 40
  | 0, l, out, h => h
  | n + 1, [], out, h => h
  | n + 1, b :: l, out, h => by
    simp only [parse]
    split
    · split
      · split
        · simp
        · exact step1_len fun l o ho => parse_len n l o ho
      · exact step1_len fun l o ho => parse_len n l o ho
    · simp
theorem readR_len (s : ByteArray) : (readR s).2.length ≤ 40 := by
  unfold readR
  split
  · simp
  · exact parse_len _ _ _ (by simp)
section
variable (he : K_eqInstrS C) (hm : K_markInstrS C) (hh : K_heldInstrS C) (hs : K_ReadCode n_spec_ReadCode C) (hi : K_ReadCode n_impl_ReadCode C)
include he hm hh hs hi
theorem p_laws_FnExactReadCode (s : ByteArray) : v_laws_FnExactReadCode C (fun r os => r = .one (.bool true) ∧ os = []) s := by
  have hl := readR_len s
  refine ifP (fun _ => ⟨rfl, rfl⟩) (fun h1 => ?_)
  have e := he (readR s).2 (by omega)
  have h := hh 1 (readR s).2 (by omega) (by omega)
  refine ⟨_, _, hs s, rfl, _, _, hi s, rfl, _, e, rfl, ifB_f rfl (ifN_f rfl ⟨_, _, hm 1 _ (by omega) (by omega), rfl, _, h, rfl, ifP_f (by omega) (ifN_f rfl ?_)⟩)⟩
  exact ⟨_, _, hi s, rfl, _, e, rfl, ifB_f rfl (ifN_f rfl ⟨_, h, rfl, ifP_f (by omega) (ifN_f rfl ⟨rfl, rfl⟩)⟩)⟩
end
def K_FnExactReadCode (C : Calls_) : Prop := ∀ s : ByteArray, C n_laws_FnExactReadCode [.one (.str s)] [] (.one (.bool true)) []
end Go.Ry
