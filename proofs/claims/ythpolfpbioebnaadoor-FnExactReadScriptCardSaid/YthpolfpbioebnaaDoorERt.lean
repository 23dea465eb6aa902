/- The functions come to it, by the kernel's own reckoning. No condition. -/
import Derived.Test.YthpolfpbioebnaaDoorVRt
import Derived.Test.YthpolfpbioebnaaDoorProg
import Derived.KernelRfl
set_option linter.unusedVariables false
namespace Go.Ry
open Go.Proofs
def bodyOf (f : Func) : Code := f.body.getD .skip
def tab : Tab := [(3, ⟨(.int .i64), (.int .i64), true, false, 1, 8, [], 0, [cI 0], false, none⟩),
  (4, ⟨.bool, .bool, true, false, 1, 1, [], 0, [.bool false], false, none⟩),
  (5, ⟨(.int .u8), (.int .u8), true, false, 1, 1, [], 0, [cY 0], false, none⟩),
  (9, ⟨.str, .str, true, false, 1, 16, [], 0, [.str (⟨#[]⟩ : ByteArray)], false, none⟩),
  (23, ⟨.struct, (.pair (.int .i64) (.pair (.int .i64) (.pair (.int .i64) (.pair (.int .i64) (.pair (.int .i64) (.pair (.int .i64) .unit)))))), true, true, 6, 48, [(0, 3), (1, 3), (2, 3), (3, 3), (4, 3), (5, 3)], 0, [cI 0, cI 0, cI 0, cI 0, cI 0, cI 0], false, none⟩),
  (28, ⟨.slice, (.slice (.slice .bool)), true, false, 1, 24, [], 40, [.nils], false, none⟩),
  (35, ⟨.slice, (.slice .str), true, false, 1, 24, [], 9, [.nils], false, (some ⟨0, 9, .str⟩)⟩),
  (40, ⟨.slice, (.slice .bool), true, false, 1, 24, [], 4, [.nils], false, (some ⟨0, 4, .bool⟩)⟩),
  (43, ⟨.slice, (.slice (.int .i64)), true, false, 1, 24, [], 3, [.nils], false, (some ⟨0, 3, (.int .i64)⟩)⟩),
  (60, ⟨(.iface false), .unit, false, false, 1, 16, [], 0, [.ifc true], false, none⟩),
  (69, ⟨(.int .u64), (.int .u64), true, false, 1, 8, [], 0, [.int .u64 0], false, none⟩),
  (70, ⟨.slice, (.slice (.int .u8)), true, false, 1, 24, [], 5, [.nils], false, (some ⟨0, 5, (.int .u8)⟩)⟩)]
theorem tabOk_ : tabOk Tryd.prog tab = true := by kernel_rfl
theorem mixed : Tryd.prog.follows .mixedOrders = true := by kernel_rfl
abbrev TP := Triple Tryd.prog
def zI : ESh := .one (.int .i64)
def iS : Sh := .int .i64
def sB : Sig := ⟨.one .bool, false, true, none, [], []⟩
def sI : Sig := ⟨.one iS, false, true, none, [], []⟩
def g1 : Nat × Sig := (n_spec_l00Number, ⟨(.tup [(false, [iS]), (false, [.bool])]), false, true, none, [], []⟩)
def g2 : Nat × Sig := (n_spec_l00Words, ⟨(.one (.fix (.row 0))), false, true, none, [.row t_string .str], []⟩)
def g3 : Nat × Sig := (n_impl_when, sI)
def g4 : Nat × Sig := (n_impl_readDecimal, ⟨(.tup [(false, [iS]), (false, [.bool])]), false, true, none, [], []⟩)
def g5 : Nat × Sig := (n_impl_long, sI)
def g6 : Nat × Sig := (n_impl_words, ⟨(.one (.fix (.row 0))), false, true, none, [.row t_string .str], []⟩)
def g7 : Nat × Sig := (n_impl_first, sI)
variable {r : Ent} {os : List Ob}
theorem fs_ {g : Nat} {fn : Func} {al : List Ent} {os : List Ob} {r : Ent} {os' : List Ob} {G : List (Nat × Sig)} {H : Hints} {v : Prop} (hf : Tryd.prog.funcs[g]? = some fn) (h : v) (hb : fn.body = some (bodyOf fn) := by kernel_rfl) (hn : (fn.name == "runtime.NumGoroutine") = false := by kernel_rfl) (e : funW tab TP G H fn (bodyOf fn) al os (fun r' ps => r' = r ∧ ps = os') = v := by kernel_rfl) : TP g al os r os' :=
  fun_sound mixed tabOk_ (fun _ _ _ _ _ h => h) hf hb hn (e.mpr h)
theorem r_spec_l00Words (s1 : ByteArray) (h : v_spec_l00Words TP (fun a b => a = r ∧ b = os) s1) : TP n_spec_l00Words [(eS s1)] [] r os :=
  fs_ Tryd.func14 h (G := []) (H := ⟨[(4, ⟨[(0, (.one (.val (.str s1)))), (3, (.one (.fix (.row 0)))), (4, zI), (5, zI)], [.row t_string .str]⟩)], [(7, ⟨[(0, (.one (.val (.str s1)))), (3, (.one (.fix (.row 0)))), (4, zI), (5, zI), (22, (.one (.bool)))], [.row t_string .str]⟩)], ⟨[(0, (.agg [.fix (.row 0)]))], [.row t_string .str]⟩, []⟩)
theorem r_spec_l02Place (l1 : List ByteArray) (s2 : ByteArray) (h : v_spec_l02Place TP (fun a b => a = r ∧ b = os) l1 s2) : TP n_spec_l02Place [(.one (.sl .str l1)), (eS s2)] [] r os :=
  fs_ Tryd.func23 h (G := []) (H := ⟨[(2, ⟨[(0, (.one (.val (.sl .str l1)))), (1, (.one (.val (.str s2)))), (5, zI)], []⟩)], [], ⟨[(0, (.agg [iS]))], []⟩, []⟩)
theorem r_spec_l00Number (s1 : ByteArray) (h : v_spec_l00Number TP (fun a b => a = r ∧ b = os) s1) : TP n_spec_l00Number [(eS s1)] [] r os :=
  fs_ Tryd.func24 h (G := []) (H := ⟨[(9, ⟨[(0, (.one (.str))), (4, zI), (5, zI), (6, zI)], []⟩)], [(5, ⟨[(0, (.one (.str))), (4, zI)], []⟩), (7, ⟨[(0, (.one (.str))), (4, zI)], []⟩)], ⟨[(0, (.agg [iS, .bool]))], []⟩, []⟩)
theorem r_spec_l01In (n1 n2 n3 : Int) (h : v_spec_l01In TP (fun a b => a = r ∧ b = os) n1 n2 n3) : TP n_spec_l01In [(eI n1), (eI n2), (eI n3)] [] r os :=
  fs_ Tryd.func37 h (G := []) (H := ⟨[], [], ⟨[(0, (.agg [.bool]))], []⟩, []⟩)
theorem r_spec_TaskOK (n1 n2 n3 n4 n5 n6 : Int) (h : v_spec_TaskOK TP (fun a b => a = r ∧ b = os) n1 n2 n3 n4 n5 n6) : TP n_spec_TaskOK [(.agg [cI n1, cI n2, cI n3, cI n4, cI n5, cI n6])] [] r os :=
  fs_ Tryd.func25 h (G := [(n_spec_l01In, sB)]) (H := ⟨[], [], ⟨[(0, (.agg [.bool]))], []⟩, []⟩)
theorem r_spec_l13Read (l1 : List ByteArray) (h : v_spec_l13Read TP (fun a b => a = r ∧ b = os) l1) : TP n_spec_l13Read [(.one (.sl .str l1))] [] r os :=
  fs_ Tryd.func13 h (G := [(n_spec_l02Place, sI), g1, (n_spec_TaskOK, sB)]) (H := ⟨[(8, ⟨[(0, (.one (.val (.sl .str l1)))), (2, (.one (.fix (.ptrB 0 0)))), (4, (.one (.fix (.ptrB 1 0)))), (5, (.one (.fix (.row 2)))), (6, zI)], [.box [.val (cI 0), .val (cI 0), .val (cI 0), .val (cI 0), .val (cI 0), .val (cI 0)], .box [iS, .val (cI 0), .val (cI 0), .val (cI 0), .val (cI 1), .val (cI 0)], .row t_int (.int .i64)]⟩)], [(14, ⟨[(2, (.one (.fix (.ptrB 0 0)))), (4, (.one (.fix (.ptrB 1 0)))), (5, (.one (.fix (.row 2))))], [.box [.val (cI 0), .val (cI 0), .val (cI 0), .val (cI 0), .val (cI 0), .val (cI 0)], .box [iS, .val (cI 0), .val (cI 0), .val (cI 0), .val (cI 1), .val (cI 0)], .row t_int (.int .i64)]⟩)], ⟨[(0, (.agg [iS, iS, iS, iS, iS, iS, .bool]))], []⟩, [(20, [(1, [3])])]⟩)
theorem r_spec_ReadTask (s1 : ByteArray) (h : v_spec_ReadTask TP (fun a b => a = r ∧ b = os) s1) : TP n_spec_ReadTask [(eS s1)] [] r os :=
  fs_ Tryd.func5 h (G := [(n_spec_l13Read, ⟨(.tup [(true, [iS, iS, iS, iS, iS, iS]), (false, [.bool])]), false, true, none, [], []⟩), g2]) (H := ⟨[], [], ⟨[(0, (.agg [iS, iS, iS, iS, iS, iS, iS]))], []⟩, []⟩)
theorem r_impl_when (b1 : Bool) (n2 : Int) (h : v_impl_when TP (fun a b => a = r ∧ b = os) b1 n2) : TP n_impl_when [(eB b1), (eI n2)] [] r os :=
  fs_ Tryd.func26 h (G := []) (H := ⟨[], [], ⟨[(0, (.agg [iS]))], []⟩, []⟩)
theorem r_impl_long (s1 : ByteArray) (h : v_impl_long TP (fun a b => a = r ∧ b = os) s1) : TP n_impl_long [(eS s1)] [] r os :=
  fs_ Tryd.func15 h (G := [g3]) (H := ⟨[], [], ⟨[(0, (.agg [iS]))], []⟩, []⟩)
theorem r_impl_decimal (n1 : Int) (h : v_impl_decimal TP (fun a b => a = r ∧ b = os) n1) : TP n_impl_decimal [(eI n1)] [] r os :=
  fs_ Tryd.func39 h (G := [(n_strconv_Itoa, ⟨(.one (.str)), false, true, none, [], []⟩)]) (H := ⟨[], [], ⟨[(0, (.agg [.str]))], []⟩, []⟩)
theorem r_impl_readDecimal (s1 : ByteArray) (h : v_impl_readDecimal TP (fun a b => a = r ∧ b = os) s1) : TP n_impl_readDecimal [(eS s1)] [] r os :=
  fs_ Tryd.func27 h (G := [(n_strconv_Atoi, ⟨(.tup [(false, [iS]), (false, [.ifc])]), false, true, none, [], []⟩), (n_impl_decimal, ⟨(.one (.str)), false, true, none, [], []⟩), (n_strings_TrimPrefix, ⟨(.one (.str)), false, true, none, [], []⟩)]) (H := ⟨[], [], ⟨[(0, (.agg [iS, .bool]))], []⟩, []⟩)
theorem r_impl_within (n1 n2 n3 : Int) (h : v_impl_within TP (fun a b => a = r ∧ b = os) n1 n2 n3) : TP n_impl_within [(eI n1), (eI n2), (eI n3)] [] r os :=
  fs_ Tryd.func41 h (G := []) (H := ⟨[], [], ⟨[(0, (.agg [.bool]))], []⟩, []⟩)
theorem r_impl_TaskOK (n1 n2 n3 n4 n5 n6 : Int) (h : v_impl_TaskOK TP (fun a b => a = r ∧ b = os) n1 n2 n3 n4 n5 n6) : TP n_impl_TaskOK [(.agg [cI n1, cI n2, cI n3, cI n4, cI n5, cI n6])] [] r os :=
  fs_ Tryd.func28 h (G := [(n_impl_within, sB)]) (H := ⟨[], [], ⟨[(0, (.agg [.bool]))], []⟩, []⟩)
theorem r_impl_readTask (l1 : List ByteArray) (h : v_impl_readTask TP (fun a b => a = r ∧ b = os) l1) : TP n_impl_readTask [(.one (.sl .str l1))] [] r os :=
  fs_ Tryd.func16 h (G := [g4, (n_impl_TaskOK, sB)]) (H := ⟨[(5, ⟨[(0, (.one (.val (.sl .str l1)))), (2, (.one (.fix (.ptrB 0 0)))), (4, (.one (.fix (.row 1)))), (16, (.one (.val (.sl .str ((l1.take (Int.toNat (List.length l1 : Int))).drop (Int.toNat 1)))))), (17, (.one (.val (cI (List.length ((l1.take (Int.toNat (List.length l1 : Int))).drop (Int.toNat 1)) : Int))))), (18, zI)], [.box [.val (cI 0), .val (cI 0), .val (cI 0), .val (cI 0), .val (cI 0), .val (cI 0)], .row t_int (.int .i64)]⟩)], [(12, ⟨[(0, (.one (.val (.sl .str l1)))), (2, (.one (.fix (.ptrB 0 0)))), (4, (.one (.fix (.row 1))))], [.box [.val (cI 0), .val (cI 0), .val (cI 0), .val (cI 0), .val (cI 0), .val (cI 0)], .row t_int (.int .i64)]⟩), (14, ⟨[(0, (.one (.val (.sl .str l1)))), (2, (.one (.fix (.ptrB 0 0)))), (4, (.one (.fix (.row 1)))), (9, (.one (.fix (.ptrB 2 0)))), (36, (.one (.bool)))], [.box [.val (cI 0), .val (cI 0), .val (cI 0), .val (cI 0), .val (cI 0), .val (cI 0)], .row t_int (.int .i64), .box [.val (cI 0), .val (cI 0), .val (cI 0), .val (cI 0), .val (cI 0), .val (cI 0)]]⟩), (16, ⟨[(2, (.one (.fix (.ptrB 0 0)))), (4, (.one (.fix (.row 1)))), (9, (.one (.fix (.ptrB 2 0)))), (56, (.one (.bool)))], [.box [.val (cI 0), .val (cI 0), .val (cI 0), .val (cI 0), .val (cI 0), .val (cI 0)], .row t_int (.int .i64), .box [.val (cI 0), .val (cI 0), .val (cI 0), .val (cI 0), .val (cI 0), .val (cI 0)]]⟩)], ⟨[(0, (.agg [iS, iS, iS, iS, iS, iS, .bool]))], []⟩, [(14, [(1, [10])]), (17, [(2, [3])]), (16, [(1, [16])])]⟩)
theorem r_impl_ReadTask (s1 : ByteArray) (h : v_impl_ReadTask TP (fun a b => a = r ∧ b = os) s1) : TP n_impl_ReadTask [(eS s1)] [] r os :=
  fs_ Tryd.func6 h (G := [g5, (n_impl_readTask, ⟨(.tup [(true, [iS, iS, iS, iS, iS, iS]), (false, [.bool])]), false, true, none, [], []⟩), g6]) (H := ⟨[], [], ⟨[(0, (.agg [iS, iS, iS, iS, iS, iS, iS]))], []⟩, []⟩)
theorem r_laws_eqTask (n1 n2 n3 n4 n5 n6 n7 n8 n9 n10 n11 n12 : Int) (h : v_laws_eqTask TP (fun a b => a = r ∧ b = os) n1 n2 n3 n4 n5 n6 n7 n8 n9 n10 n11 n12) : TP n_laws_eqTask [(.agg [cI n1, cI n2, cI n3, cI n4, cI n5, cI n6]), (.agg [cI n7, cI n8, cI n9, cI n10, cI n11, cI n12])] [] r os :=
  fs_ Tryd.func7 h (G := []) (H := ⟨[], [], ⟨[(0, (.agg [.bool]))], []⟩, []⟩)
theorem r_laws_FnExactReadTask (s1 : ByteArray) (h : v_laws_FnExactReadTask TP (fun a b => a = r ∧ b = os) s1) : TP n_laws_FnExactReadTask [(eS s1)] [] r os :=
  fs_ Tryd.func3 h (G := [(n_spec_ReadTask, ⟨(.tup [(true, [iS, iS, iS, iS, iS, iS]), (false, [iS])]), false, true, none, [], []⟩), (n_impl_ReadTask, ⟨(.tup [(true, [iS, iS, iS, iS, iS, iS]), (false, [iS])]), false, true, none, [], []⟩), (n_laws_eqTask, sB)]) (H := ⟨[], [], ⟨[(0, (.agg [.bool]))], []⟩, []⟩)
theorem r_spec_l00Digit (n1 : Int) (h : v_spec_l00Digit TP (fun a b => a = r ∧ b = os) n1) : TP n_spec_l00Digit [(.one (cY n1))] [] r os :=
  fs_ Tryd.func66 h (G := []) (H := ⟨[], [], ⟨[(0, (.agg [.bool]))], []⟩, []⟩)
theorem r_spec_l01Digit (n1 : Int) (h : v_spec_l01Digit TP (fun a b => a = r ∧ b = os) n1) : TP n_spec_l01Digit [(.one (cY n1))] [] r os :=
  fs_ Tryd.func54 h (G := [(n_spec_l00Digit, sB)]) (H := ⟨[], [], ⟨[(0, (.agg [iS]))], []⟩, []⟩)
theorem r_spec_l01Bytes (s1 : ByteArray) (h : v_spec_l01Bytes TP (fun a b => a = r ∧ b = os) s1) : TP n_spec_l01Bytes [(eS s1)] [] r os :=
  fs_ Tryd.func44 h (G := [(n_spec_l01Digit, sI)]) (H := ⟨[(5, ⟨[(0, (.one (.val (.str s1)))), (4, (.one (.fix (.row 0)))), (5, zI)], [.row t_uint8 (.int .u8)]⟩)], [], ⟨[(0, (.agg [.str, .bool]))], []⟩, []⟩)
theorem r_spec_l12Item (s1 : ByteArray) (h : v_spec_l12Item TP (fun a b => a = r ∧ b = os) s1) : TP n_spec_l12Item [(eS s1)] [] r os :=
  fs_ Tryd.func32 h (G := [g1, (n_spec_l01Bytes, ⟨(.tup [(false, [.str]), (false, [.bool])]), false, true, none, [], []⟩)]) (H := ⟨[(2, ⟨[(0, (.one (.val (.str s1)))), (5, zI)], []⟩)], [], ⟨[(0, (.agg [iS, .str, .bool]))], []⟩, []⟩)
theorem r_spec_l12Pins (n1 : Int) (h : v_spec_l12Pins TP (fun a b => a = r ∧ b = os) n1) : TP n_spec_l12Pins [(eI n1)] [] r os :=
  fs_ Tryd.func33 h (G := []) (H := ⟨[(3, ⟨[(0, (.one (.val (cI n1)))), (3, (.one (.fix (.row 0)))), (4, zI)], [.row t_bool .bool]⟩)], [], ⟨[(0, (.agg [.fix (.row 0)]))], [.row t_bool .bool]⟩, []⟩)
theorem r_spec_l12Script (s1 : ByteArray) (h : v_spec_l12Script TP (fun a b => a = r ∧ b = os) s1) : TP n_spec_l12Script [(eS s1)] [] r os :=
  fs_ Tryd.func18 h (G := [g2, (n_spec_l12Item, ⟨(.tup [(false, [iS]), (false, [.str]), (false, [.bool])]), false, true, none, [], []⟩), (n_spec_l12Pins, ⟨(.one (.fix (.row 0))), false, true, none, [.row t_bool .bool], []⟩)]) (H := ⟨[(4, ⟨[(4, (.one (.fix (.row 0)))), (5, (.one (.fix (.row 1)))), (6, zI)], [.row t_string .str, .nest t_Sbool (.slice .bool) ⟨0, t_bool, .bool⟩]⟩), (12, ⟨[(4, (.one (.fix (.row 0)))), (5, (.one (.fix (.row 1)))), (6, zI), (7, zI), (8, (.one (.str))), (10, zI)], [.row t_string .str, .nest t_Sbool (.slice .bool) ⟨0, t_bool, .bool⟩]⟩)], [], ⟨[(0, (.agg [.fix (.row 0), iS]))], [.nest t_Sbool (.slice .bool) ⟨0, t_bool, .bool⟩]⟩, []⟩)
theorem r_spec_ReadScript (s1 : ByteArray) (h : v_spec_ReadScript TP (fun a b => a = r ∧ b = os) s1) : TP n_spec_ReadScript [(eS s1)] [] r os :=
  fs_ Tryd.func8 h (G := [(n_spec_l12Script, ⟨(.tup [(false, [.fix (.row 0)]), (false, [iS])]), false, true, none, [.nest t_Sbool (.slice .bool) ⟨0, t_bool, .bool⟩], []⟩)]) (H := ⟨[], [], ⟨[(0, (.agg [.fix (.row 0), iS]))], [.nest t_Sbool (.slice .bool) ⟨0, t_bool, .bool⟩]⟩, []⟩)
theorem r_impl_first (l1 : List Int) (h : v_impl_first TP (fun a b => a = r ∧ b = os) l1) : TP n_impl_first [(.one (.sl (.int .i64) l1))] [] r os :=
  fs_ Tryd.func36 h (G := []) (H := ⟨[(2, ⟨[(5, (.one (.val (.sl (.int .i64) l1)))), (6, (.one (.val (cI (List.length l1 : Int))))), (7, zI)], []⟩)], [], ⟨[(0, (.agg [iS]))], []⟩, []⟩)
theorem r_impl_hexDigit (n1 : Int) (h : v_impl_hexDigit TP (fun a b => a = r ∧ b = os) n1) : TP n_impl_hexDigit [(.one (cY n1))] [] r os :=
  fs_ Tryd.func46 h (G := []) (H := ⟨[], [(2, ⟨[(0, (.one (.val (cY n1)))), (3, (.one (.bool)))], []⟩)], ⟨[(0, (.agg [.int .u8]))], []⟩, []⟩)
theorem r_impl_BytesOf (s1 : ByteArray) (h : v_impl_BytesOf TP (fun a b => a = r ∧ b = os) s1) : TP n_impl_BytesOf [(eS s1)] [] r os :=
  fs_ Tryd.func35 h (G := [g5, g3, g7, (n_impl_hexDigit, ⟨(.one (.int .u8)), false, true, none, [], []⟩)]) (H := ⟨[(6, ⟨[(0, (.one (.val (.str s1)))), (5, (.one (.fix (.row 0)))), (6, zI)], [.row t_uint8 (.int .u8)]⟩)], [], ⟨[(0, (.agg [.str, iS]))], []⟩, []⟩)
theorem r_impl_readScript (l1 : List ByteArray) (h : v_impl_readScript TP (fun a b => a = r ∧ b = os) l1) : TP n_impl_readScript [(.one (.sl .str l1))] [] r os :=
  fs_ Tryd.func19 h (G := [g3, g4, (n_strings_Cut, ⟨(.tup [(false, [.str]), (false, [.str]), (false, [.bool])]), false, true, none, [], []⟩), (n_impl_BytesOf, ⟨(.tup [(false, [.str]), (false, [iS])]), false, true, none, [], []⟩), g7]) (H := ⟨[(3, ⟨[(4, (.one (.fix (.row 0)))), (18, (.one (.val (.sl .str l1)))), (19, (.one (.val (cI (List.length l1 : Int))))), (20, zI)], [.nest t_Sbool (.slice .bool) ⟨0, t_bool, .bool⟩]⟩), (14, ⟨[(4, (.one (.fix (.row 0)))), (12, (.one (.str))), (18, (.one (.val (.sl .str l1)))), (19, (.one (.val (cI (List.length l1 : Int))))), (20, zI), (38, zI), (39, (.one (.bool))), (42, (.one (.str))), (43, zI), (44, (.one (.bool))), (63, zI), (64, zI)], [.nest t_Sbool (.slice .bool) ⟨0, t_bool, .bool⟩]⟩), (17, ⟨[(4, (.one (.fix (.row 0)))), (12, (.one (.str))), (15, (.one (.fix (.row 1)))), (18, (.one (.val (.sl .str l1)))), (19, (.one (.val (cI (List.length l1 : Int))))), (20, zI), (38, zI), (39, (.one (.bool))), (42, (.one (.str))), (43, zI), (44, (.one (.bool))), (63, zI), (64, zI), (67, zI)], [.nest t_Sbool (.slice .bool) ⟨0, t_bool, .bool⟩, .row t_bool .bool]⟩)], [], ⟨[(0, (.agg [.fix (.row 0), iS]))], [.nest t_Sbool (.slice .bool) ⟨0, t_bool, .bool⟩]⟩, []⟩)
theorem r_impl_ReadScript (s1 : ByteArray) (h : v_impl_ReadScript TP (fun a b => a = r ∧ b = os) s1) : TP n_impl_ReadScript [(eS s1)] [] r os :=
  fs_ Tryd.func9 h (G := [g5, g6, (n_impl_readScript, ⟨(.tup [(false, [.fix (.row 0)]), (false, [iS])]), false, true, none, [.nest t_Sbool (.slice .bool) ⟨0, t_bool, .bool⟩], []⟩)]) (H := ⟨[], [], ⟨[(0, (.agg [.fix (.row 0), iS]))], [.nest t_Sbool (.slice .bool) ⟨0, t_bool, .bool⟩]⟩, []⟩)
theorem r_laws_eqBoolS (l1 l2 : List Bool) (h : v_laws_eqBoolS TP (fun a b => a = r ∧ b = os) l1 l2) : TP n_laws_eqBoolS [(.one (.sl .bool l1)), (.one (.sl .bool l2))] [] r os :=
  fs_ Tryd.func20 h (G := []) (H := ⟨[(4, ⟨[(0, (.one (.val (.sl .bool l1)))), (1, (.one (.val (.sl .bool l2)))), (5, zI)], []⟩)], [], ⟨[(0, (.agg [.bool]))], []⟩, []⟩)
theorem r_laws_eqBoolSS (l1 : List (List Bool)) (l2 : List (List Bool)) (h : v_laws_eqBoolSS TP (fun a b => a = r ∧ b = os) l1 l2) : TP n_laws_eqBoolSS [(.one (.sl (.slice .bool) l1)), (.one (.sl (.slice .bool) l2))] [] r os :=
  fs_ Tryd.func10 h (G := [(n_laws_eqBoolS, sB)]) (H := ⟨[(4, ⟨[(0, (.one (.val (.sl (.slice .bool) l1)))), (1, (.one (.val (.sl (.slice .bool) l2)))), (5, zI)], []⟩)], [], ⟨[(0, (.agg [.bool]))], []⟩, []⟩)
theorem r_laws_markBoolS (n1 : Int) (r2 : List Bool) (h : v_laws_markBoolS TP (fun a b => a = r ∧ b = os) n1 r2) : TP n_laws_markBoolS [(.one (.row 0)), (eI n1)] [.row t_bool .bool r2] r os :=
  fs_ Tryd.func21 h (G := []) (H := ⟨[(2, ⟨[(0, (.one (.fix (.row 0)))), (1, zI), (5, zI)], [.row t_bool .bool]⟩)], [], ⟨[(0, (.agg [iS]))], [.row t_bool .bool]⟩, []⟩)
theorem r_laws_markBoolSS (n1 : Int) (r2 : List (List Bool)) (h : v_laws_markBoolSS TP (fun a b => a = r ∧ b = os) n1 r2) : TP n_laws_markBoolSS [(.one (.row 0)), (eI n1)] [.nest t_Sbool (.slice .bool) ⟨0, t_bool, .bool⟩ r2 none] r os :=
  fs_ Tryd.func11 h (G := [(n_laws_markBoolS, ⟨(.one (.int .i64)), true, false, (some [.row t_bool .bool]), [], []⟩)]) (H := ⟨[(2, ⟨[(0, (.one (.fix (.row 0)))), (1, zI), (5, zI)], [.nest t_Sbool (.slice .bool) ⟨0, t_bool, .bool⟩]⟩)], [], ⟨[(0, (.agg [iS]))], [.nest t_Sbool (.slice .bool) ⟨0, t_bool, .bool⟩]⟩, []⟩)
theorem r_laws_heldBoolS (l1 : List Bool) (n2 : Int) (h : v_laws_heldBoolS TP (fun a b => a = r ∧ b = os) l1 n2) : TP n_laws_heldBoolS [(.one (.sl .bool l1)), (eI n2)] [] r os :=
  fs_ Tryd.func22 h (G := []) (H := ⟨[(2, ⟨[(0, (.one (.val (.sl .bool l1)))), (1, zI), (5, zI)], []⟩)], [], ⟨[(0, (.agg [iS]))], []⟩, []⟩)
theorem r_laws_heldBoolSS (l1 : List (List Bool)) (n2 : Int) (h : v_laws_heldBoolSS TP (fun a b => a = r ∧ b = os) l1 n2) : TP n_laws_heldBoolSS [(.one (.sl (.slice .bool) l1)), (eI n2)] [] r os :=
  fs_ Tryd.func12 h (G := [(n_laws_heldBoolS, sI)]) (H := ⟨[(2, ⟨[(0, (.one (.val (.sl (.slice .bool) l1)))), (1, zI), (5, zI)], []⟩)], [], ⟨[(0, (.agg [iS]))], []⟩, []⟩)
theorem r_laws_FnExactReadScript (s1 : ByteArray) (h : v_laws_FnExactReadScript TP (fun a b => a = r ∧ b = os) s1) : TP n_laws_FnExactReadScript [(eS s1)] [] r os :=
  fs_ Tryd.func4 h (G := [(n_spec_ReadScript, ⟨(.tup [(false, [.fix (.row 0)]), (false, [iS])]), false, true, none, [.nest t_Sbool (.slice .bool) ⟨0, t_bool, .bool⟩], []⟩), (n_impl_ReadScript, ⟨(.tup [(false, [.fix (.row 0)]), (false, [iS])]), false, true, none, [.nest t_Sbool (.slice .bool) ⟨0, t_bool, .bool⟩], []⟩), (n_laws_eqBoolSS, sB), (n_laws_markBoolSS, ⟨(.one (.int .i64)), true, false, (some [.nest t_Sbool (.slice .bool) ⟨0, t_bool, .bool⟩]), [], []⟩), (n_laws_heldBoolSS, sI)]) (H := ⟨[], [], ⟨[(0, (.agg [.bool]))], []⟩, []⟩)
end Go.Ry
