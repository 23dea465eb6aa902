/- The functions come to it, by the kernel's own reckoning. No condition. -/
import Derived.Test.YtonmkhdbgofbpaaVIo
import Derived.Test.YtonmkhdbgofbpaaProg
import Derived.KernelRfl
set_option linter.unusedVariables false
namespace Go.Ry
open Go.Proofs
def bodyOf (f : Func) : Code := f.body.getD .skip
def tab : Tab := [(3, ⟨(.int .i64), (.int .i64), true, false, 1, 8, [], 0, [cI 0], false, none⟩),
  (4, ⟨.bool, .bool, true, false, 1, 1, [], 0, [.bool false], false, none⟩),
  (22, ⟨.slice, (.slice (.pair (.int .i64) (.pair (.int .i64) (.pair (.int .i64) (.pair (.int .i64) .unit))))), true, false, 1, 24, [], 74, [.nils], false, (some ⟨0, 74, (.pair (.int .i64) (.pair (.int .i64) (.pair (.int .i64) (.pair (.int .i64) .unit))))⟩)⟩),
  (26, ⟨.slice, (.slice (.pair (.int .i64) (.pair (.int .i64) (.pair (.int .i64) (.pair (.int .i64) .unit))))), true, false, 1, 24, [], 72, [.nils], false, (some ⟨0, 72, (.pair (.int .i64) (.pair (.int .i64) (.pair (.int .i64) (.pair (.int .i64) .unit))))⟩)⟩),
  (72, ⟨.struct, (.pair (.int .i64) (.pair (.int .i64) (.pair (.int .i64) (.pair (.int .i64) .unit)))), true, true, 4, 32, [(0, 3), (1, 3), (2, 3), (3, 3)], 0, [cI 0, cI 0, cI 0, cI 0], false, none⟩),
  (74, ⟨.struct, (.pair (.int .i64) (.pair (.int .i64) (.pair (.int .i64) (.pair (.int .i64) .unit)))), true, true, 4, 32, [(0, 3), (1, 3), (2, 3), (3, 3)], 0, [cI 0, cI 0, cI 0, cI 0], false, none⟩),
  (76, ⟨(.map 3 3), .unit, false, false, 1, 8, [], 0, [.undef], false, none⟩)]
theorem tabOk_ : tabOk Try.prog tab = true := by kernel_rfl
theorem mixed : Try.prog.follows .mixedOrders = true := by kernel_rfl
def h_laws_szDoneS : Hints := ⟨[], [], ⟨[(0, (.agg [.int .i64]))], []⟩, []⟩
def g_laws_szDoneS : List (Nat × Sig) := []
theorem e_laws_szDoneS (C : Calls_) (K : Ent → List Ob → Prop) (l1 : List (Int × Int × Int × Int × Unit)) (n2 : Int) : funW tab C g_laws_szDoneS h_laws_szDoneS Try.f8 (bodyOf Try.f8) [(.one (.sl (.pair (.int .i64) (.pair (.int .i64) (.pair (.int .i64) (.pair (.int .i64) .unit)))) l1)), (eI n2)] [] K = v_laws_szDoneS C K l1 n2 := by kernel_rfl
theorem r_laws_szDoneS {r : Ent} {os : List Ob} (l1 : List (Int × Int × Int × Int × Unit)) (n2 : Int) (h : v_laws_szDoneS (Triple Try.prog) (fun r' os' => r' = r ∧ os' = os) l1 n2) : Triple Try.prog n_laws_szDoneS [(.one (.sl (.pair (.int .i64) (.pair (.int .i64) (.pair (.int .i64) (.pair (.int .i64) .unit)))) l1)), (eI n2)] [] r os :=
  fun_sound mixed tabOk_ (fun _ _ _ _ _ h => h) Try.func8 (by kernel_rfl) (by kernel_rfl) (by rw [e_laws_szDoneS]; exact h)
def h_laws_toDone : Hints := ⟨[], [], ⟨[(0, (.agg [.int .i64, .int .i64, .int .i64, .int .i64]))], []⟩, []⟩
def g_laws_toDone : List (Nat × Sig) := []
theorem e_laws_toDone (C : Calls_) (K : Ent → List Ob → Prop) (n1 : Int) (n2 : Int) (n3 : Int) (n4 : Int) : funW tab C g_laws_toDone h_laws_toDone Try.f41 (bodyOf Try.f41) [(.agg [cI n1, cI n2, cI n3, cI n4])] [] K = v_laws_toDone C K n1 n2 n3 n4 := by kernel_rfl
theorem r_laws_toDone {r : Ent} {os : List Ob} (n1 : Int) (n2 : Int) (n3 : Int) (n4 : Int) (h : v_laws_toDone (Triple Try.prog) (fun r' os' => r' = r ∧ os' = os) n1 n2 n3 n4) : Triple Try.prog n_laws_toDone [(.agg [cI n1, cI n2, cI n3, cI n4])] [] r os :=
  fun_sound mixed tabOk_ (fun _ _ _ _ _ h => h) Try.func41 (by kernel_rfl) (by kernel_rfl) (by rw [e_laws_toDone]; exact h)
def h_laws_toDoneS (l1 : List (Int × Int × Int × Int × Unit)) : Hints := ⟨[(3, ⟨[(0, (.one (.val (.sl (.pair (.int .i64) (.pair (.int .i64) (.pair (.int .i64) (.pair (.int .i64) .unit)))) l1)))), (3, (.one (.fix (.row 0)))), (4, (.one (.int .i64)))], [.row t_impl_Done (.pair (.int .i64) (.pair (.int .i64) (.pair (.int .i64) (.pair (.int .i64) .unit))))]⟩)], [], ⟨[(0, (.agg [.fix (.row 0)]))], [.row t_impl_Done (.pair (.int .i64) (.pair (.int .i64) (.pair (.int .i64) (.pair (.int .i64) .unit))))]⟩, []⟩
def g_laws_toDoneS : List (Nat × Sig) := [(n_laws_toDone, ⟨(.agg [.int .i64, .int .i64, .int .i64, .int .i64]), false, true, none, [], []⟩)]
theorem e_laws_toDoneS (C : Calls_) (K : Ent → List Ob → Prop) (l1 : List (Int × Int × Int × Int × Unit)) : funW tab C g_laws_toDoneS (h_laws_toDoneS l1) Try.f10 (bodyOf Try.f10) [(.one (.sl (.pair (.int .i64) (.pair (.int .i64) (.pair (.int .i64) (.pair (.int .i64) .unit)))) l1))] [] K = v_laws_toDoneS C K l1 := by kernel_rfl
theorem r_laws_toDoneS {r : Ent} {os : List Ob} (l1 : List (Int × Int × Int × Int × Unit)) (h : v_laws_toDoneS (Triple Try.prog) (fun r' os' => r' = r ∧ os' = os) l1) : Triple Try.prog n_laws_toDoneS [(.one (.sl (.pair (.int .i64) (.pair (.int .i64) (.pair (.int .i64) (.pair (.int .i64) .unit)))) l1))] [] r os :=
  fun_sound mixed tabOk_ (fun _ _ _ _ _ h => h) Try.func10 (by kernel_rfl) (by kernel_rfl) (by rw [e_laws_toDoneS]; exact h)
def h_spec_InOrder (l1 : List (Int × Int × Int × Int × Unit)) : Hints := ⟨[(4, ⟨[(0, (.one (.val (.sl (.pair (.int .i64) (.pair (.int .i64) (.pair (.int .i64) (.pair (.int .i64) .unit)))) l1)))), (4, (.one (.int .i64)))], []⟩), (7, ⟨[(0, (.one (.val (.sl (.pair (.int .i64) (.pair (.int .i64) (.pair (.int .i64) (.pair (.int .i64) .unit)))) l1)))), (4, (.one (.int .i64))), (5, (.one (.int .i64)))], []⟩)], [], ⟨[(0, (.agg [.bool, .int .i64]))], []⟩, []⟩
def g_spec_InOrder : List (Nat × Sig) := []
theorem e_spec_InOrder (C : Calls_) (K : Ent → List Ob → Prop) (l1 : List (Int × Int × Int × Int × Unit)) : funW tab C g_spec_InOrder (h_spec_InOrder l1) Try.f9 (bodyOf Try.f9) [(.one (.sl (.pair (.int .i64) (.pair (.int .i64) (.pair (.int .i64) (.pair (.int .i64) .unit)))) l1))] [] K = v_spec_InOrder C K l1 := by kernel_rfl
theorem r_spec_InOrder {r : Ent} {os : List Ob} (l1 : List (Int × Int × Int × Int × Unit)) (h : v_spec_InOrder (Triple Try.prog) (fun r' os' => r' = r ∧ os' = os) l1) : Triple Try.prog n_spec_InOrder [(.one (.sl (.pair (.int .i64) (.pair (.int .i64) (.pair (.int .i64) (.pair (.int .i64) .unit)))) l1))] [] r os :=
  fun_sound mixed tabOk_ (fun _ _ _ _ _ h => h) Try.func9 (by kernel_rfl) (by kernel_rfl) (by rw [e_spec_InOrder]; exact h)
def h_impl_when : Hints := ⟨[], [], ⟨[(0, (.agg [.int .i64]))], []⟩, []⟩
def g_impl_when : List (Nat × Sig) := []
theorem e_impl_when (C : Calls_) (K : Ent → List Ob → Prop) (b1 : Bool) (n2 : Int) : funW tab C g_impl_when h_impl_when Try.f48 (bodyOf Try.f48) [(eB b1), (eI n2)] [] K = v_impl_when C K b1 n2 := by kernel_rfl
theorem r_impl_when {r : Ent} {os : List Ob} (b1 : Bool) (n2 : Int) (h : v_impl_when (Triple Try.prog) (fun r' os' => r' = r ∧ os' = os) b1 n2) : Triple Try.prog n_impl_when [(eB b1), (eI n2)] [] r os :=
  fun_sound mixed tabOk_ (fun _ _ _ _ _ h => h) Try.func48 (by kernel_rfl) (by kernel_rfl) (by rw [e_impl_when]; exact h)
def h_impl_many_impl_Done : Hints := ⟨[], [], ⟨[(0, (.agg [.int .i64]))], []⟩, []⟩
def g_impl_many_impl_Done : List (Nat × Sig) := [(n_impl_when, ⟨(.one (.int .i64)), false, true, none, [], []⟩)]
theorem e_impl_many_impl_Done (C : Calls_) (K : Ent → List Ob → Prop) (l1 : List (Int × Int × Int × Int × Unit)) : funW tab C g_impl_many_impl_Done h_impl_many_impl_Done Try.f42 (bodyOf Try.f42) [(.one (.sl (.pair (.int .i64) (.pair (.int .i64) (.pair (.int .i64) (.pair (.int .i64) .unit)))) l1))] [] K = v_impl_many_impl_Done C K l1 := by kernel_rfl
theorem r_impl_many_impl_Done {r : Ent} {os : List Ob} (l1 : List (Int × Int × Int × Int × Unit)) (h : v_impl_many_impl_Done (Triple Try.prog) (fun r' os' => r' = r ∧ os' = os) l1) : Triple Try.prog n_impl_many_impl_Done [(.one (.sl (.pair (.int .i64) (.pair (.int .i64) (.pair (.int .i64) (.pair (.int .i64) .unit)))) l1))] [] r os :=
  fun_sound mixed tabOk_ (fun _ _ _ _ _ h => h) Try.func42 (by kernel_rfl) (by kernel_rfl) (by rw [e_impl_many_impl_Done]; exact h)
def h_impl_InOrder (l1 : List (Int × Int × Int × Int × Unit)) : Hints := ⟨[(6, ⟨[(5, (.one (.fix (.mapP 0)))), (16, (.one (.val (.sl (.pair (.int .i64) (.pair (.int .i64) (.pair (.int .i64) (.pair (.int .i64) .unit)))) l1)))), (17, (.one (.val (cI (List.length l1 : Int))))), (18, (.one (.int .i64)))], [.imap .i64 .i64]⟩)], [], ⟨[(0, (.agg [.bool, .int .i64]))], []⟩, []⟩
def g_impl_InOrder : List (Nat × Sig) := [(n_impl_many_impl_Done, ⟨(.one (.int .i64)), false, true, none, [], []⟩)]
theorem e_impl_InOrder (C : Calls_) (K : Ent → List Ob → Prop) (l1 : List (Int × Int × Int × Int × Unit)) : funW tab C g_impl_InOrder (h_impl_InOrder l1) Try.f11 (bodyOf Try.f11) [(.one (.sl (.pair (.int .i64) (.pair (.int .i64) (.pair (.int .i64) (.pair (.int .i64) .unit)))) l1))] [] K = v_impl_InOrder C K l1 := by kernel_rfl
theorem r_impl_InOrder {r : Ent} {os : List Ob} (l1 : List (Int × Int × Int × Int × Unit)) (h : v_impl_InOrder (Triple Try.prog) (fun r' os' => r' = r ∧ os' = os) l1) : Triple Try.prog n_impl_InOrder [(.one (.sl (.pair (.int .i64) (.pair (.int .i64) (.pair (.int .i64) (.pair (.int .i64) .unit)))) l1))] [] r os :=
  fun_sound mixed tabOk_ (fun _ _ _ _ _ h => h) Try.func11 (by kernel_rfl) (by kernel_rfl) (by rw [e_impl_InOrder]; exact h)
def h_laws_eqDone : Hints := ⟨[], [], ⟨[(0, (.agg [.bool]))], []⟩, []⟩
def g_laws_eqDone : List (Nat × Sig) := []
theorem e_laws_eqDone (C : Calls_) (K : Ent → List Ob → Prop) (n1 : Int) (n2 : Int) (n3 : Int) (n4 : Int) (n5 : Int) (n6 : Int) (n7 : Int) (n8 : Int) : funW tab C g_laws_eqDone h_laws_eqDone Try.f43 (bodyOf Try.f43) [(.agg [cI n1, cI n2, cI n3, cI n4]), (.agg [cI n5, cI n6, cI n7, cI n8])] [] K = v_laws_eqDone C K n1 n2 n3 n4 n5 n6 n7 n8 := by kernel_rfl
theorem r_laws_eqDone {r : Ent} {os : List Ob} (n1 : Int) (n2 : Int) (n3 : Int) (n4 : Int) (n5 : Int) (n6 : Int) (n7 : Int) (n8 : Int) (h : v_laws_eqDone (Triple Try.prog) (fun r' os' => r' = r ∧ os' = os) n1 n2 n3 n4 n5 n6 n7 n8) : Triple Try.prog n_laws_eqDone [(.agg [cI n1, cI n2, cI n3, cI n4]), (.agg [cI n5, cI n6, cI n7, cI n8])] [] r os :=
  fun_sound mixed tabOk_ (fun _ _ _ _ _ h => h) Try.func43 (by kernel_rfl) (by kernel_rfl) (by rw [e_laws_eqDone]; exact h)
def h_laws_eqDoneS (l1 : List (Int × Int × Int × Int × Unit)) (l2 : List (Int × Int × Int × Int × Unit)) : Hints := ⟨[(4, ⟨[(0, (.one (.val (.sl (.pair (.int .i64) (.pair (.int .i64) (.pair (.int .i64) (.pair (.int .i64) .unit)))) l1)))), (1, (.one (.val (.sl (.pair (.int .i64) (.pair (.int .i64) (.pair (.int .i64) (.pair (.int .i64) .unit)))) l2)))), (5, (.one (.int .i64)))], []⟩)], [], ⟨[(0, (.agg [.bool]))], []⟩, []⟩
def g_laws_eqDoneS : List (Nat × Sig) := [(n_laws_eqDone, ⟨(.one (.bool)), false, true, none, [], []⟩)]
theorem e_laws_eqDoneS (C : Calls_) (K : Ent → List Ob → Prop) (l1 : List (Int × Int × Int × Int × Unit)) (l2 : List (Int × Int × Int × Int × Unit)) : funW tab C g_laws_eqDoneS (h_laws_eqDoneS l1 l2) Try.f12 (bodyOf Try.f12) [(.one (.sl (.pair (.int .i64) (.pair (.int .i64) (.pair (.int .i64) (.pair (.int .i64) .unit)))) l1)), (.one (.sl (.pair (.int .i64) (.pair (.int .i64) (.pair (.int .i64) (.pair (.int .i64) .unit)))) l2))] [] K = v_laws_eqDoneS C K l1 l2 := by kernel_rfl
theorem r_laws_eqDoneS {r : Ent} {os : List Ob} (l1 : List (Int × Int × Int × Int × Unit)) (l2 : List (Int × Int × Int × Int × Unit)) (h : v_laws_eqDoneS (Triple Try.prog) (fun r' os' => r' = r ∧ os' = os) l1 l2) : Triple Try.prog n_laws_eqDoneS [(.one (.sl (.pair (.int .i64) (.pair (.int .i64) (.pair (.int .i64) (.pair (.int .i64) .unit)))) l1)), (.one (.sl (.pair (.int .i64) (.pair (.int .i64) (.pair (.int .i64) (.pair (.int .i64) .unit)))) l2))] [] r os :=
  fun_sound mixed tabOk_ (fun _ _ _ _ _ h => h) Try.func12 (by kernel_rfl) (by kernel_rfl) (by rw [e_laws_eqDoneS]; exact h)
def h_laws_FnExactInOrder : Hints := ⟨[], [], ⟨[(0, (.agg [.bool]))], []⟩, []⟩
def g_laws_FnExactInOrder : List (Nat × Sig) := [(n_laws_szDoneS, ⟨(.one (.int .i64)), false, true, none, [], []⟩), (n_spec_InOrder, ⟨(.tup [(false, [.bool]), (false, [.int .i64])]), false, true, none, [], []⟩), (n_laws_toDoneS, ⟨(.one (.fix (.row 0))), false, true, none, [.row t_impl_Done (.pair (.int .i64) (.pair (.int .i64) (.pair (.int .i64) (.pair (.int .i64) .unit))))], []⟩), (n_impl_InOrder, ⟨(.tup [(false, [.bool]), (false, [.int .i64])]), false, true, none, [], []⟩), (n_laws_eqDoneS, ⟨(.one (.bool)), false, true, none, [], []⟩)]
theorem e_laws_FnExactInOrder (C : Calls_) (K : Ent → List Ob → Prop) (l1 : List (Int × Int × Int × Int × Unit)) : funW tab C g_laws_FnExactInOrder h_laws_FnExactInOrder Try.f3 (bodyOf Try.f3) [(.one (.sl (.pair (.int .i64) (.pair (.int .i64) (.pair (.int .i64) (.pair (.int .i64) .unit)))) l1))] [] K = v_laws_FnExactInOrder C K l1 := by kernel_rfl
theorem r_laws_FnExactInOrder {r : Ent} {os : List Ob} (l1 : List (Int × Int × Int × Int × Unit)) (h : v_laws_FnExactInOrder (Triple Try.prog) (fun r' os' => r' = r ∧ os' = os) l1) : Triple Try.prog n_laws_FnExactInOrder [(.one (.sl (.pair (.int .i64) (.pair (.int .i64) (.pair (.int .i64) (.pair (.int .i64) .unit)))) l1))] [] r os :=
  fun_sound mixed tabOk_ (fun _ _ _ _ _ h => h) Try.func3 (by kernel_rfl) (by kernel_rfl) (by rw [e_laws_FnExactInOrder]; exact h)
end Go.Ry
