/- DropEvents of the program and of the reference: the same. No condition. -/
import Derived.Test.YtnnhfeopdhnlhaaPTake
set_option linter.unusedVariables false
set_option linter.unusedSimpArgs false
namespace Go.Ry
variable {C : Calls_}

def bitN (b : Bool) : Int := if b = true then 1 else 0
def K_bit (n : Nat) (C : Calls_) : Prop := ∀ b : Bool, C n [.one (.bool b)] [] (.one (.int .i64 (bitN b))) []
theorem p_spec_l06Bit (b : Bool) : v_spec_l06Bit C (fun r os => r = .one (.int .i64 (bitN b)) ∧ os = []) b := by
  cases b
  · exact ifB_f rfl ⟨rfl, rfl⟩
  · exact ifB_t rfl ⟨rfl, rfl⟩
theorem p_impl_bit (b : Bool) : v_impl_bit C (fun r os => r = .one (.int .i64 (bitN b)) ∧ os = []) b := p_spec_l06Bit (C := C) b
def capN (x : Int) : Int := if (2147483647 : Int) < x then 2147483647 else x
def dropN (dr : Int) (q : List Int) (b : Bool) : Int := capN (IntKind.wrap .i64 (IntKind.wrap .i64 (dr + (q.length : Int)) + bitN b))
theorem dropN_eq (dr : Int) (q : List Int) (b : Bool) : dropN dr q b = capN (IntKind.wrap .i64 (dr + IntKind.wrap .i64 ((q.length : Int) + bitN b))) := by
  unfold dropN
  congr 1
  simp only [IntKind.wrap_i64]
  omega
def K_l10Drop (C : Calls_) : Prop := ∀ (la ar dn th lo dr : Int) (q : List Int) (b : Bool), C n_spec_l10Drop [srcC la ar dn th lo dr q, .one (.bool b)] [] (srcR la ar dn th lo (dropN dr q b)) [.row t_int (.int .i64) []]
theorem p_spec_l10Drop (h : K_bit n_spec_l06Bit C) (la ar dn th lo dr : Int) (q : List Int) (b : Bool) :
    v_spec_l10Drop C (fun x os => x = srcR la ar dn th lo (dropN dr q b) ∧ os = [.row t_int (.int .i64) []]) la ar dn th lo dr q b := by
  refine ⟨_, h b, rfl, ?_⟩
  first | exact ⟨rfl, rfl, rfl, rfl, rfl⟩ | exact ⟨rfl, rfl, rfl, rfl⟩ | exact ⟨rfl, rfl, rfl⟩ | exact ⟨rfl, rfl, rfl, rfl, rfl, rfl⟩ | exact ⟨rfl, rfl, rfl, rfl, rfl, rfl, rfl⟩
def K_count (C : Calls_) : Prop := ∀ (n la ar dn th lo dr : Int) (q : List Int), C n_impl_count [.one (.ptrB 0 5), .one (.int .i64 n)] [boxR la ar dn th lo dr (.row 1), .row t_int (.int .i64) q] (.tup []) [boxR la ar dn th lo (capN (IntKind.wrap .i64 (dr + n))) (.row 1), .row t_int (.int .i64) q]
theorem p_impl_count (n la ar dn th lo dr : Int) (q : List Int) : v_impl_count C (fun x os => x = .tup [] ∧ os = [boxR la ar dn th lo (capN (IntKind.wrap .i64 (dr + n))) (.row 1), .row t_int (.int .i64) q]) n la ar dn th lo dr q := by
  first | exact ⟨rfl, rfl⟩ | exact ⟨rfl, rfl, rfl⟩ | exact ⟨rfl, rfl, rfl, rfl⟩
def K_drop (C : Calls_) : Prop := ∀ (b : Bool) (la ar dn th lo dr : Int) (q : List Int), C n_impl_Source_drop [.one (.ptrB 0 0), .one (.bool b)] [boxR la ar dn th lo dr (.row 1), .row t_int (.int .i64) q] (.tup []) [boxR la ar dn th lo (dropN dr q b) .nils, .row t_int (.int .i64) q]
theorem p_impl_Source_drop (hb : K_bit n_impl_bit C) (hc : K_count C) (b : Bool) (la ar dn th lo dr : Int) (q : List Int) :
    v_impl_Source_drop C (fun x os => x = .tup [] ∧ os = [boxR la ar dn th lo (dropN dr q b) .nils, .row t_int (.int .i64) q]) b la ar dn th lo dr q := by
  rw [dropN_eq]
  refine ⟨_, hb b, rfl, _, _, _, _, _, _, _, hc _ _ _ _ _ _ _ _, rfl, ?_⟩
  first | exact ⟨rfl, rfl⟩ | exact ⟨rfl, rfl, rfl⟩ | exact ⟨rfl, rfl, rfl, rfl⟩
@[reducible] def tupD (la ar dn th lo dr : Int) (c : Cell) (y : Int) : Ent := .tup [(true, [.int .i64 la, .int .i64 ar, .int .i64 dn, .int .i64 th, .int .i64 lo, .int .i64 dr, c]), (false, [.int .i64 y])]
def dropE (b : Bool) : Int := if b = true then 0 else 1
def K_specDrop (C : Calls_) : Prop := ∀ (la ar dn th lo dr : Int) (q : List Int) (k p d pin qu r : Int) (w : Bool), q.length ≤ 1048576 → C n_spec_DropEvents [srcC la ar dn th lo dr q, tskC k p d pin qu r, .one (.bool w)] []
  (let b := sourceOK la ar dn th lo dr q k p d pin qu r; tupD (takeZ b la) (takeZ b ar) (takeZ b dn) (takeZ b th) (takeZ b lo) (takeZ b (dropN dr q w)) (.row 0) (dropE b)) [.row t_int (.int .i64) []]
theorem p_spec_DropEvents (hs : K_SourceOK n_spec_SourceOK C) (ho : K_own n_spec_l10Own C) (hd : K_l10Drop C) (la ar dn th lo dr : Int) (q : List Int) (k p d pin qu r : Int) (w : Bool) (hq : q.length ≤ 1048576) :
    v_spec_DropEvents C (fun x os => x = (let b := sourceOK la ar dn th lo dr q k p d pin qu r; tupD (takeZ b la) (takeZ b ar) (takeZ b dn) (takeZ b th) (takeZ b lo) (takeZ b (dropN dr q w)) (.row 0) (dropE b)) ∧ os = [.row t_int (.int .i64) []]) la ar dn th lo dr q k p d pin qu r w := by
  refine ⟨_, hs _ _ _ _ _ _ _ _ _ _ _ _ _, rfl, ?_⟩
  cases sourceOK la ar dn th lo dr q k p d pin qu r
  · exact ifB_t rfl ⟨rfl, rfl, rfl⟩
  · exact ifB_f rfl ⟨_, _, _, _, _, _, _, hd _ _ _ _ _ _ _ _, rfl, _, _, _, _, _, _, _, ho _ _ _ _ _ _ _ (by simp), rfl, rfl, rfl, rfl⟩
def K_implDrop (C : Calls_) : Prop := ∀ (la ar dn th lo dr : Int) (q : List Int) (k p d pin qu r : Int) (w : Bool), q.length ≤ 1048576 → C n_impl_DropEvents [srcC la ar dn th lo dr q, tskC k p d pin qu r, .one (.bool w)] []
  (let b := sourceOK la ar dn th lo dr q k p d pin qu r; tupD (takeZ b la) (takeZ b ar) (takeZ b dn) (takeZ b th) (takeZ b lo) (takeZ b (dropN dr q w)) .nils (dropE b)) []
theorem p_impl_DropEvents (hs : K_SourceOK n_impl_SourceOK C) (ho : K_own n_impl_copySource C) (hd : K_drop C) (la ar dn th lo dr : Int) (q : List Int) (k p d pin qu r : Int) (w : Bool) (hq : q.length ≤ 1048576) :
    v_impl_DropEvents C (fun x os => x = (let b := sourceOK la ar dn th lo dr q k p d pin qu r; tupD (takeZ b la) (takeZ b ar) (takeZ b dn) (takeZ b th) (takeZ b lo) (takeZ b (dropN dr q w)) .nils (dropE b)) ∧ os = []) la ar dn th lo dr q k p d pin qu r w := by
  refine ⟨_, hs _ _ _ _ _ _ _ _ _ _ _ _ _, rfl, ?_⟩
  cases sourceOK la ar dn th lo dr q k p d pin qu r
  · exact ifB_t rfl ⟨rfl, rfl, rfl⟩
  · refine ifB_f rfl ⟨_, _, _, _, _, _, _, ho _ _ _ _ _ _ _ hq, rfl, ?_⟩
    first
      | exact ⟨_, _, _, _, _, _, _, hd _ _ _ _ _ _ _ _, rfl, rfl, rfl⟩
      | exact ⟨rfl, _, _, _, _, _, _, _, hd _ _ _ _ _ _ _ _, rfl, rfl, rfl⟩
      | exact ⟨rfl, _, _, _, _, _, _, _, hd _ _ _ _ _ _ _ _, rfl, rfl, rfl, rfl⟩
      | exact ⟨rfl, rfl, _, _, _, _, _, _, _, hd _ _ _ _ _ _ _ _, rfl, rfl, rfl⟩

/-! ### what is nil -/
theorem p_laws_eqIntS_1 : v_laws_eqIntS_1 C (fun r os => r = .one (.bool true) ∧ os = []) [] := by
  refine ifN_f rfl ⟨fun m a i => [] = a ∧ 0 ≤ i, ⟨0, rfl, by omega⟩, ?_⟩
  rintro m _ i ⟨rfl, h0⟩
  exact ifP_f (by omega) ⟨rfl, rfl⟩
def K_eqIntS_1 (C : Calls_) : Prop := C n_laws_eqIntS [.one .nils, .one (.sl (.int .i64) [])] [] (.one (.bool true)) []
@[reducible] def srcN (la ar dn th lo dr : Int) : Ent := .agg [.int .i64 la, .int .i64 ar, .int .i64 dn, .int .i64 th, .int .i64 lo, .int .i64 dr, .nils]
def K_eqSource_1 (C : Calls_) : Prop := ∀ la ar dn th lo dr : Int, C n_laws_eqSource [srcN la ar dn th lo dr, srcC la ar dn th lo dr []] [] (.one (.bool true)) []
theorem p_laws_eqSource_1 (h : K_eqIntS_1 C) (la ar dn th lo dr : Int) : v_laws_eqSource_1 C (fun r os => r = .one (.bool true) ∧ os = []) la ar dn th lo dr la ar dn th lo dr [] :=
  ifN_f rfl (ifN_f rfl (ifN_f rfl (ifN_f rfl (ifN_f rfl (ifN_f rfl ⟨_, h, rfl, ifB_f rfl ⟨rfl, rfl⟩⟩)))))
theorem p_laws_markIntS_2 (n : Int) : v_laws_markIntS_2 C (fun r os => r = .one (.int .i64 n) ∧ os = []) n := by
  refine ⟨fun m k i => n = k ∧ 0 ≤ i, ⟨0, rfl, by omega⟩, ?_⟩
  rintro m _ i ⟨rfl, h0⟩
  exact ifP_f (by omega) ⟨rfl, rfl⟩
def K_nilIntS (f : Nat) (C : Calls_) : Prop := ∀ n : Int, C f [.one .nils, .one (.int .i64 n)] [] (.one (.int .i64 n)) []
theorem p_laws_heldIntS_1 (n : Int) : v_laws_heldIntS_1 C (fun r os => r = .one (.int .i64 n) ∧ os = []) n := p_laws_markIntS_2 (C := C) n
def K_nilSource (f : Nat) (C : Calls_) : Prop := ∀ la ar dn th lo dr n : Int, 0 ≤ n → C f [srcN la ar dn th lo dr, .one (.int .i64 n)] [] (.one (.int .i64 n)) []
theorem p_laws_markSource_2 (h : K_nilIntS n_laws_markIntS C) (la ar dn th lo dr n : Int) (hn : 0 ≤ n) : v_laws_markSource_2 C (fun r os => r = .one (.int .i64 n) ∧ os = []) la ar dn th lo dr n := ⟨_, h n, rfl, rfl, rfl⟩
theorem p_laws_heldSource_1 (h : K_nilIntS n_laws_heldIntS C) (la ar dn th lo dr n : Int) (hn : 0 ≤ n) : v_laws_heldSource_1 C (fun r os => r = .one (.int .i64 n) ∧ os = []) la ar dn th lo dr n := ⟨_, h n, rfl, ifP_f (by omega) ⟨rfl, rfl⟩⟩

section
variable (hz : K_szSource C) (hto : K_toSource C) (htt : K_toTask C) (he : K_eqSource C) (he1 : K_eqSource_1 C) (hs : K_specDrop C) (hi : K_implDrop C) (hm : K_markSource C) (hm1 : K_nilSource n_laws_markSource C) (hh : K_nilSource n_laws_heldSource C)
include hz hto htt he he1 hs hi hm hm1 hh
theorem p_laws_FnExactDropEvents (la ar dn th lo dr : Int) (q : List Int) (k p d pin qu r : Int) (w : Bool) (hq : q.length ≤ maxLen) :
    v_laws_FnExactDropEvents C (fun r os => r = .one (.bool true) ∧ os = []) la ar dn th lo dr q k p d pin qu r w := by
  refine ⟨_, hz la ar dn th lo dr q 1048576 hq (by omega), rfl, ifP (fun _ => ⟨rfl, rfl⟩) (fun h0 => ?_)⟩
  have hl : q.length ≤ 1048576 := by have := szI_le h0; omega
  have t := hto la ar dn th lo dr q hl
  have tt := htt k p d pin qu r
  have s := hs la ar dn th lo dr q k p d pin qu r w hl
  have i := hi la ar dn th lo dr q k p d pin qu r w hl
  revert s i
  generalize sourceOK la ar dn th lo dr q k p d pin qu r = b
  intro s i
  refine ⟨_, ⟨⟨_, _, _, _, _, _, _, t, rfl, ⟨_, _, _, _, _, _, tt, rfl, ⟨_, _, _, _, _, _, _, _, s, rfl, rfl, ?k⟩, ⟨_, _, _, _, _, _, _, _, s, rfl, rfl, ?k⟩⟩, ⟨_, _, _, _, _, _, tt, rfl, _, _, _, _, _, _, _, _, s, rfl, rfl, ?k⟩⟩,
    ⟨_, _, _, _, _, _, _, t, rfl, _, _, _, _, _, _, tt, rfl, _, _, _, _, _, _, _, _, s, rfl, rfl, ?k⟩⟩, fun _ _ _ _ _ _ _ _ _ _ _ _ _ _ _ _ _ _ _ _ _ _ h => h⟩
  refine ⟨_, _, _, _, _, _, _, t, rfl, rfl, _, ⟨⟨_, _, _, _, _, _, tt, rfl, ⟨_, _, _, _, _, _, _, i, rfl, rfl, ?k2⟩, ⟨_, _, _, _, _, _, _, i, rfl, rfl, ?k2⟩⟩, ⟨_, _, _, _, _, _, tt, rfl, _, _, _, _, _, _, _, i, rfl, rfl, ?k2⟩⟩,
    fun _ _ _ _ _ _ _ _ _ _ _ _ _ _ _ _ _ _ _ _ _ _ _ _ _ _ _ _ _ _ _ _ _ _ _ _ h => h⟩
  have hE := he1 (takeZ b la) (takeZ b ar) (takeZ b dn) (takeZ b th) (takeZ b lo) (takeZ b (dropN dr q w))
  have hM := hm1 (takeZ b la) (takeZ b ar) (takeZ b dn) (takeZ b th) (takeZ b lo) (takeZ b (dropN dr q w)) 1 (by omega)
  have hH := hh (takeZ b la) (takeZ b ar) (takeZ b dn) (takeZ b th) (takeZ b lo) (takeZ b (dropN dr q w)) 1 (by omega)
  have e0 := he la ar dn th lo dr q hl
  refine ⟨_, hE, rfl, ifB_f rfl (ifN_f rfl ⟨_, _, _, _, _, _, _, t, rfl, _, e0, rfl, ifB_f rfl ⟨_, _, hm la ar dn th lo dr 1 q (by omega) hl, rfl, ifP_f (by omega) ⟨_, hE, rfl, ifB_f rfl (ifN_f rfl ⟨_, hM, rfl, _, hH, rfl, ifP_f (by omega) (ifN_f rfl ?_)⟩)⟩⟩⟩)⟩
  refine ⟨_, ⟨⟨_, _, _, _, _, _, _, t, rfl, ⟨_, _, _, _, _, _, tt, rfl, ⟨_, _, _, _, _, _, _, i, rfl, rfl, ?k3⟩, ⟨_, _, _, _, _, _, _, i, rfl, rfl, ?k3⟩⟩, ⟨_, _, _, _, _, _, tt, rfl, _, _, _, _, _, _, _, i, rfl, rfl, ?k3⟩⟩,
    ⟨_, _, _, _, _, _, _, t, rfl, _, _, _, _, _, _, tt, rfl, _, _, _, _, _, _, _, i, rfl, rfl, ?k3⟩⟩, fun _ _ _ _ _ _ _ _ _ _ _ _ _ _ _ _ _ _ _ _ _ _ h => h⟩
  exact ⟨_, hE, rfl, ifB_f rfl (ifN_f rfl ⟨_, hH, rfl, ifP_f (by omega) (ifN_f rfl ⟨rfl, rfl⟩)⟩)⟩
end
def K_FnExactDropEvents (C : Calls_) : Prop := ∀ (la ar dn th lo dr : Int) (q : List Int) (k p d pin qu r : Int) (w : Bool), q.length ≤ maxLen → C n_laws_FnExactDropEvents [srcC la ar dn th lo dr q, tskC k p d pin qu r, .one (.bool w)] [] (.one (.bool true)) []
end Go.Ry
