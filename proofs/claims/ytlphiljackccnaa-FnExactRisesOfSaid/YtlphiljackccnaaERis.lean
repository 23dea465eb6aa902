/- The functions come to it, by the kernel's own reckoning. No condition. -/
import Derived.Test.YtlphiljackccnaaVRis
import Derived.Test.YtlphiljackccnaaProg
import Derived.KernelRfl
set_option linter.unusedVariables false
namespace Go.Ry
open Go.Proofs
def bodyOf (f : Func) : Code := f.body.getD .skip
def tab : Tab := [(3, ⟨(.int .i64), (.int .i64), true, false, 1, 8, [], 0, [.int .i64 0]⟩),
  (4, ⟨.bool, .bool, true, false, 1, 1, [], 0, [.bool false]⟩),
  (25, ⟨.slice, (.slice (.int .i64)), true, false, 1, 24, [], 3, [.nils]⟩),
  (43, ⟨.slice, (.slice .bool), true, false, 1, 24, [], 4, [.nils]⟩)]
theorem tabOk_ : tabOk Try.prog tab = true := by kernel_rfl
theorem mixed : Try.prog.follows .mixedOrders = true := by kernel_rfl
def h_laws_toBoolS : Hints := ⟨[(3, ⟨[(0, (.one (.sl .bool))), (2, (.one (.fix (.nils)))), (3, (.one (.fix (.row 0)))), (4, (.one (.int .i64)))], [.row t_bool .bool]⟩)], [], ⟨[(0, (.agg [.fix (.row 0)]))], [.row t_bool .bool]⟩, []⟩
def g_laws_toBoolS : List (Nat × Sig) := []
theorem e_laws_toBoolS (C : Calls_) (K : Ent → List Ob → Prop) (l1 : List Bool) : funW tab C g_laws_toBoolS h_laws_toBoolS Try.f30 (bodyOf Try.f30) [(.one (.sl .bool l1))] [] K = v_laws_toBoolS C K l1 := by kernel_rfl
theorem r_laws_toBoolS {r : Ent} {os : List Ob} (l1 : List Bool) (h : v_laws_toBoolS (Triple Try.prog) (fun r' os' => r' = r ∧ os' = os) l1) : Triple Try.prog n_laws_toBoolS [(.one (.sl .bool l1))] [] r os :=
  fun_sound mixed tabOk_ (fun _ _ _ _ _ h => h) Try.func30 (by kernel_rfl) (by kernel_rfl) (by rw [e_laws_toBoolS]; exact h)
def h_spec_RisesOf : Hints := ⟨[(7, ⟨[(0, (.one (.sl .bool))), (1, (.one (.sl .bool))), (4, (.one (.fix (.nils)))), (5, (.one (.int .i64))), (6, (.one (.fix (.row 0)))), (7, (.one (.int .i64)))], [.row t_int (.int .i64)]⟩)], [], ⟨[(0, (.agg [.fix (.row 0), .int .i64]))], [.row t_int (.int .i64)]⟩, []⟩
def g_spec_RisesOf : List (Nat × Sig) := []
theorem e_spec_RisesOf (C : Calls_) (K : Ent → List Ob → Prop) (l1 : List Bool) (l2 : List Bool) : funW tab C g_spec_RisesOf h_spec_RisesOf Try.f29 (bodyOf Try.f29) [(.one (.sl .bool l1)), (.one (.sl .bool l2))] [] K = v_spec_RisesOf C K l1 l2 := by kernel_rfl
theorem r_spec_RisesOf {r : Ent} {os : List Ob} (l1 : List Bool) (l2 : List Bool) (h : v_spec_RisesOf (Triple Try.prog) (fun r' os' => r' = r ∧ os' = os) l1 l2) : Triple Try.prog n_spec_RisesOf [(.one (.sl .bool l1)), (.one (.sl .bool l2))] [] r os :=
  fun_sound mixed tabOk_ (fun _ _ _ _ _ h => h) Try.func29 (by kernel_rfl) (by kernel_rfl) (by rw [e_spec_RisesOf]; exact h)
def h_impl_when : Hints := ⟨[], [], ⟨[(0, (.agg [.int .i64]))], []⟩, []⟩
def g_impl_when : List (Nat × Sig) := []
theorem e_impl_when (C : Calls_) (K : Ent → List Ob → Prop) (b1 : Bool) (n2 : Int) : funW tab C g_impl_when h_impl_when Try.f69 (bodyOf Try.f69) [(.one (.bool b1)), (.one (.int .i64 n2))] [] K = v_impl_when C K b1 n2 := by kernel_rfl
theorem r_impl_when {r : Ent} {os : List Ob} (b1 : Bool) (n2 : Int) (h : v_impl_when (Triple Try.prog) (fun r' os' => r' = r ∧ os' = os) b1 n2) : Triple Try.prog n_impl_when [(.one (.bool b1)), (.one (.int .i64 n2))] [] r os :=
  fun_sound mixed tabOk_ (fun _ _ _ _ _ h => h) Try.func69 (by kernel_rfl) (by kernel_rfl) (by rw [e_impl_when]; exact h)
def h_impl_many_bool : Hints := ⟨[], [], ⟨[(0, (.agg [.int .i64]))], []⟩, []⟩
def g_impl_many_bool : List (Nat × Sig) := [(n_impl_when, ⟨(.one (.int .i64)), false, true, none, []⟩)]
theorem e_impl_many_bool (C : Calls_) (K : Ent → List Ob → Prop) (l1 : List Bool) : funW tab C g_impl_many_bool h_impl_many_bool Try.f77 (bodyOf Try.f77) [(.one (.sl .bool l1))] [] K = v_impl_many_bool C K l1 := by kernel_rfl
theorem r_impl_many_bool {r : Ent} {os : List Ob} (l1 : List Bool) (h : v_impl_many_bool (Triple Try.prog) (fun r' os' => r' = r ∧ os' = os) l1) : Triple Try.prog n_impl_many_bool [(.one (.sl .bool l1))] [] r os :=
  fun_sound mixed tabOk_ (fun _ _ _ _ _ h => h) Try.func77 (by kernel_rfl) (by kernel_rfl) (by rw [e_impl_many_bool]; exact h)
def h_impl_first : Hints := ⟨[(2, ⟨[(2, (.one (.int .i64))), (5, (.one (.sl (.int .i64)))), (6, (.one (.int .i64))), (7, (.one (.int .i64)))], []⟩)], [], ⟨[(0, (.agg [.int .i64]))], []⟩, []⟩
def g_impl_first : List (Nat × Sig) := []
theorem e_impl_first (C : Calls_) (K : Ent → List Ob → Prop) (l1 : List Int) : funW tab C g_impl_first h_impl_first Try.f67 (bodyOf Try.f67) [(.one (.sl (.int .i64) l1))] [] K = v_impl_first C K l1 := by kernel_rfl
theorem r_impl_first {r : Ent} {os : List Ob} (l1 : List Int) (h : v_impl_first (Triple Try.prog) (fun r' os' => r' = r ∧ os' = os) l1) : Triple Try.prog n_impl_first [(.one (.sl (.int .i64) l1))] [] r os :=
  fun_sound mixed tabOk_ (fun _ _ _ _ _ h => h) Try.func67 (by kernel_rfl) (by kernel_rfl) (by rw [e_impl_first]; exact h)
def h_impl_risesOf : Hints := ⟨[(3, ⟨[(0, (.one (.sl .bool))), (4, (.one (.fix (.nils)))), (5, (.one (.fix (.row 0)))), (9, (.one (.sl .bool))), (10, (.one (.int .i64))), (11, (.one (.int .i64)))], [.row t_int (.int .i64)]⟩)], [], ⟨[(0, (.agg [.fix (.row 0)]))], [.row t_int (.int .i64)]⟩, []⟩
def g_impl_risesOf : List (Nat × Sig) := []
theorem e_impl_risesOf (C : Calls_) (K : Ent → List Ob → Prop) (l1 : List Bool) (l2 : List Bool) : funW tab C g_impl_risesOf h_impl_risesOf Try.f78 (bodyOf Try.f78) [(.one (.sl .bool l1)), (.one (.sl .bool l2))] [] K = v_impl_risesOf C K l1 l2 := by kernel_rfl
theorem r_impl_risesOf {r : Ent} {os : List Ob} (l1 : List Bool) (l2 : List Bool) (h : v_impl_risesOf (Triple Try.prog) (fun r' os' => r' = r ∧ os' = os) l1 l2) : Triple Try.prog n_impl_risesOf [(.one (.sl .bool l1)), (.one (.sl .bool l2))] [] r os :=
  fun_sound mixed tabOk_ (fun _ _ _ _ _ h => h) Try.func78 (by kernel_rfl) (by kernel_rfl) (by rw [e_impl_risesOf]; exact h)
def h_impl_RisesOf : Hints := ⟨[], [], ⟨[(0, (.agg [.fix (.row 0), .int .i64]))], [.row t_int (.int .i64)]⟩, []⟩
def g_impl_RisesOf : List (Nat × Sig) := [(n_impl_first, ⟨(.one (.int .i64)), false, true, none, []⟩), (n_impl_when, ⟨(.one (.int .i64)), false, true, none, []⟩), (n_impl_many_bool, ⟨(.one (.int .i64)), false, true, none, []⟩), (n_impl_risesOf, ⟨(.one (.fix (.row 0))), false, true, none, [.row t_int (.int .i64)]⟩)]
theorem e_impl_RisesOf (C : Calls_) (K : Ent → List Ob → Prop) (l1 : List Bool) (l2 : List Bool) : funW tab C g_impl_RisesOf h_impl_RisesOf Try.f31 (bodyOf Try.f31) [(.one (.sl .bool l1)), (.one (.sl .bool l2))] [] K = v_impl_RisesOf C K l1 l2 := by kernel_rfl
theorem r_impl_RisesOf {r : Ent} {os : List Ob} (l1 : List Bool) (l2 : List Bool) (h : v_impl_RisesOf (Triple Try.prog) (fun r' os' => r' = r ∧ os' = os) l1 l2) : Triple Try.prog n_impl_RisesOf [(.one (.sl .bool l1)), (.one (.sl .bool l2))] [] r os :=
  fun_sound mixed tabOk_ (fun _ _ _ _ _ h => h) Try.func31 (by kernel_rfl) (by kernel_rfl) (by rw [e_impl_RisesOf]; exact h)
def h_laws_eqIntS : Hints := ⟨[(4, ⟨[(0, (.one (.sl (.int .i64)))), (1, (.one (.sl (.int .i64)))), (4, (.one (.bool))), (5, (.one (.int .i64)))], []⟩)], [], ⟨[(0, (.agg [.bool]))], []⟩, []⟩
def g_laws_eqIntS : List (Nat × Sig) := []
theorem e_laws_eqIntS (C : Calls_) (K : Ent → List Ob → Prop) (l1 : List Int) (l2 : List Int) : funW tab C g_laws_eqIntS h_laws_eqIntS Try.f32 (bodyOf Try.f32) [(.one (.sl (.int .i64) l1)), (.one (.sl (.int .i64) l2))] [] K = v_laws_eqIntS C K l1 l2 := by kernel_rfl
theorem r_laws_eqIntS {r : Ent} {os : List Ob} (l1 : List Int) (l2 : List Int) (h : v_laws_eqIntS (Triple Try.prog) (fun r' os' => r' = r ∧ os' = os) l1 l2) : Triple Try.prog n_laws_eqIntS [(.one (.sl (.int .i64) l1)), (.one (.sl (.int .i64) l2))] [] r os :=
  fun_sound mixed tabOk_ (fun _ _ _ _ _ h => h) Try.func32 (by kernel_rfl) (by kernel_rfl) (by rw [e_laws_eqIntS]; exact h)
def h_laws_eqBoolS : Hints := ⟨[(4, ⟨[(0, (.one (.sl .bool))), (1, (.one (.sl .bool))), (4, (.one (.bool))), (5, (.one (.int .i64)))], []⟩)], [], ⟨[(0, (.agg [.bool]))], []⟩, []⟩
def g_laws_eqBoolS : List (Nat × Sig) := []
theorem e_laws_eqBoolS (C : Calls_) (K : Ent → List Ob → Prop) (l1 : List Bool) (l2 : List Bool) : funW tab C g_laws_eqBoolS h_laws_eqBoolS Try.f33 (bodyOf Try.f33) [(.one (.sl .bool l1)), (.one (.sl .bool l2))] [] K = v_laws_eqBoolS C K l1 l2 := by kernel_rfl
theorem r_laws_eqBoolS {r : Ent} {os : List Ob} (l1 : List Bool) (l2 : List Bool) (h : v_laws_eqBoolS (Triple Try.prog) (fun r' os' => r' = r ∧ os' = os) l1 l2) : Triple Try.prog n_laws_eqBoolS [(.one (.sl .bool l1)), (.one (.sl .bool l2))] [] r os :=
  fun_sound mixed tabOk_ (fun _ _ _ _ _ h => h) Try.func33 (by kernel_rfl) (by kernel_rfl) (by rw [e_laws_eqBoolS]; exact h)
def h_laws_markBoolS : Hints := ⟨[(2, ⟨[(0, (.one (.fix (.row 0)))), (1, (.one (.int .i64))), (4, (.one (.int .i64))), (5, (.one (.int .i64)))], [.row t_bool .bool]⟩)], [], ⟨[(0, (.agg [.int .i64]))], [.row t_bool .bool]⟩, []⟩
def g_laws_markBoolS : List (Nat × Sig) := []
theorem e_laws_markBoolS (C : Calls_) (K : Ent → List Ob → Prop) (n1 : Int) (r2 : List Bool) : funW tab C g_laws_markBoolS h_laws_markBoolS Try.f34 (bodyOf Try.f34) [(.one (.row 0)), (.one (.int .i64 n1))] [.row t_bool .bool r2] K = v_laws_markBoolS C K n1 r2 := by kernel_rfl
theorem r_laws_markBoolS {r : Ent} {os : List Ob} (n1 : Int) (r2 : List Bool) (h : v_laws_markBoolS (Triple Try.prog) (fun r' os' => r' = r ∧ os' = os) n1 r2) : Triple Try.prog n_laws_markBoolS [(.one (.row 0)), (.one (.int .i64 n1))] [.row t_bool .bool r2] r os :=
  fun_sound mixed tabOk_ (fun _ _ _ _ _ h => h) Try.func34 (by kernel_rfl) (by kernel_rfl) (by rw [e_laws_markBoolS]; exact h)
def h_laws_markIntS : Hints := ⟨[(2, ⟨[(0, (.one (.fix (.row 0)))), (1, (.one (.int .i64))), (4, (.one (.int .i64))), (5, (.one (.int .i64)))], [.row t_int (.int .i64)]⟩)], [], ⟨[(0, (.agg [.int .i64]))], [.row t_int (.int .i64)]⟩, []⟩
def g_laws_markIntS : List (Nat × Sig) := []
theorem e_laws_markIntS (C : Calls_) (K : Ent → List Ob → Prop) (n1 : Int) (r2 : List Int) : funW tab C g_laws_markIntS h_laws_markIntS Try.f35 (bodyOf Try.f35) [(.one (.row 0)), (.one (.int .i64 n1))] [.row t_int (.int .i64) r2] K = v_laws_markIntS C K n1 r2 := by kernel_rfl
theorem r_laws_markIntS {r : Ent} {os : List Ob} (n1 : Int) (r2 : List Int) (h : v_laws_markIntS (Triple Try.prog) (fun r' os' => r' = r ∧ os' = os) n1 r2) : Triple Try.prog n_laws_markIntS [(.one (.row 0)), (.one (.int .i64 n1))] [.row t_int (.int .i64) r2] r os :=
  fun_sound mixed tabOk_ (fun _ _ _ _ _ h => h) Try.func35 (by kernel_rfl) (by kernel_rfl) (by rw [e_laws_markIntS]; exact h)
def h_laws_heldIntS : Hints := ⟨[(2, ⟨[(0, (.one (.sl (.int .i64)))), (1, (.one (.int .i64))), (4, (.one (.int .i64))), (5, (.one (.int .i64)))], []⟩)], [], ⟨[(0, (.agg [.int .i64]))], []⟩, []⟩
def g_laws_heldIntS : List (Nat × Sig) := []
theorem e_laws_heldIntS (C : Calls_) (K : Ent → List Ob → Prop) (l1 : List Int) (n2 : Int) : funW tab C g_laws_heldIntS h_laws_heldIntS Try.f36 (bodyOf Try.f36) [(.one (.sl (.int .i64) l1)), (.one (.int .i64 n2))] [] K = v_laws_heldIntS C K l1 n2 := by kernel_rfl
theorem r_laws_heldIntS {r : Ent} {os : List Ob} (l1 : List Int) (n2 : Int) (h : v_laws_heldIntS (Triple Try.prog) (fun r' os' => r' = r ∧ os' = os) l1 n2) : Triple Try.prog n_laws_heldIntS [(.one (.sl (.int .i64) l1)), (.one (.int .i64 n2))] [] r os :=
  fun_sound mixed tabOk_ (fun _ _ _ _ _ h => h) Try.func36 (by kernel_rfl) (by kernel_rfl) (by rw [e_laws_heldIntS]; exact h)
def h_laws_FnExactRisesOf : Hints := ⟨[], [], ⟨[(0, (.agg [.bool]))], []⟩, []⟩
def g_laws_FnExactRisesOf : List (Nat × Sig) := [(n_spec_RisesOf, ⟨(.tup [(false, [.fix (.row 0)]), (false, [.int .i64])]), false, true, none, [.row t_int (.int .i64)]⟩), (n_laws_toBoolS, ⟨(.one (.fix (.row 0))), false, true, none, [.row t_bool .bool]⟩), (n_impl_RisesOf, ⟨(.tup [(false, [.fix (.row 0)]), (false, [.int .i64])]), false, true, none, [.row t_int (.int .i64)]⟩), (n_laws_eqIntS, ⟨(.one (.bool)), false, true, none, []⟩), (n_laws_eqBoolS, ⟨(.one (.bool)), false, true, none, []⟩), (n_laws_markBoolS, ⟨(.one (.int .i64)), true, false, (some [.row t_bool .bool]), []⟩), (n_laws_markIntS, ⟨(.one (.int .i64)), true, false, (some [.row t_int (.int .i64)]), []⟩), (n_laws_heldIntS, ⟨(.one (.int .i64)), false, true, none, []⟩)]
theorem e_laws_FnExactRisesOf (C : Calls_) (K : Ent → List Ob → Prop) (l1 : List Bool) (l2 : List Bool) : funW tab C g_laws_FnExactRisesOf h_laws_FnExactRisesOf Try.f7 (bodyOf Try.f7) [(.one (.sl .bool l1)), (.one (.sl .bool l2))] [] K = v_laws_FnExactRisesOf C K l1 l2 := by kernel_rfl
theorem r_laws_FnExactRisesOf {r : Ent} {os : List Ob} (l1 : List Bool) (l2 : List Bool) (h : v_laws_FnExactRisesOf (Triple Try.prog) (fun r' os' => r' = r ∧ os' = os) l1 l2) : Triple Try.prog n_laws_FnExactRisesOf [(.one (.sl .bool l1)), (.one (.sl .bool l2))] [] r os :=
  fun_sound mixed tabOk_ (fun _ _ _ _ _ h => h) Try.func7 (by kernel_rfl) (by kernel_rfl) (by rw [e_laws_FnExactRisesOf]; exact h)
end Go.Ry
