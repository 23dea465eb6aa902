/- The functions come to it, by the kernel's own reckoning. No condition. -/
import Derived.Test.YtlfapnlaalnbjaaGreatDoorVTi
import Derived.Test.YtlfapnlaalnbjaaGreatDoorProg
import Derived.KernelRfl
set_option linter.unusedVariables false
namespace Go.Ry
open Go.Proofs
def bodyOf (f : Func) : Code := f.body.getD .skip
def tab : Tab := [(3, ⟨(.int .i64), (.int .i64), true, false, 1, 8, [], 0, [cI 0], false, none⟩),
  (4, ⟨.bool, .bool, true, false, 1, 1, [], 0, [.bool false], false, none⟩),
  (5, ⟨(.int .u8), (.int .u8), true, false, 1, 1, [], 0, [cY 0], false, none⟩),
  (9, ⟨.str, .str, true, false, 1, 16, [], 0, [.str (⟨#[]⟩ : ByteArray)], false, none⟩),
  (22, ⟨.slice, (.slice (.int .i64)), true, false, 1, 24, [], 3, [.nils], false, none⟩),
  (25, ⟨.slice, (.slice .bool), true, false, 1, 24, [], 4, [.nils], false, none⟩),
  (29, ⟨.slice, (.slice .str), true, false, 1, 24, [], 9, [.nils], false, none⟩),
  (42, ⟨.slice, (.slice (.int .u8)), true, false, 1, 24, [], 5, [.nils], false, none⟩),
  (45, ⟨.struct, (.pair (.int .i64) (.pair (.int .i64) (.pair (.int .i64) (.pair (.int .i64) (.pair (.int .i64) (.pair (.int .i64) .unit)))))), true, true, 6, 48, [(0, 3), (1, 3), (2, 3), (3, 3), (4, 3), (5, 3)], 0, [cI 0, cI 0, cI 0, cI 0, cI 0, cI 0], true, none⟩),
  (51, ⟨.slice, (.slice (.slice .bool)), true, false, 1, 24, [], 25, [.nils], false, none⟩),
  (56, ⟨.struct, (.pair (.int .i64) (.pair (.int .i64) .unit)), true, true, 2, 16, [(0, 3), (1, 3)], 0, [cI 0, cI 0], true, none⟩),
  (119, ⟨.struct, (.pair (.slice (.int .u8)) (.pair (.int .i64) (.pair (.int .i64) .unit))), true, true, 3, 40, [(0, 42), (1, 3), (2, 3)], 0, [.nils, cI 0, cI 0], false, none⟩),
  (150, ⟨(.iface false), .unit, false, false, 1, 16, [], 0, [.ifc true], false, none⟩),
  (157, ⟨(.int .u64), (.int .u64), true, false, 1, 8, [], 0, [.int .u64 0], false, none⟩)]
theorem tabOk_ : tabOk Tryz.prog tab = true := by kernel_rfl
theorem mixed : Tryz.prog.follows .mixedOrders = true := by kernel_rfl
abbrev TP := Triple Tryz.prog
def zI : ESh := .one (.int .i64)
def iS : Sh := .int .i64
def sB : Sig := ⟨.one .bool, false, true, none, [], []⟩
def sI : Sig := ⟨.one iS, false, true, none, [], []⟩
def g1 : Nat × Sig := (n_spec_l00Src_byte, ⟨(.one (.int .i64)), false, false, (some [.box [.sl (.int .u8), iS, iS]]), [], []⟩)
def g2 : Nat × Sig := (n_spec_l00Src_next, ⟨(.one (.int .i64)), false, false, (some [.box [.sl (.int .u8), iS, iS]]), [], []⟩)
def g3 : Nat × Sig := (n_spec_l00Digits, ⟨(.one (.str)), false, true, none, [], []⟩)
def g4 : Nat × Sig := (n_spec_l00Src_task, ⟨(.agg [iS, iS, iS, iS, iS, iS]), false, false, (some [.box [.sl (.int .u8), iS, iS]]), [], []⟩)
def g5 : Nat × Sig := (n_spec_l13Task, ⟨(.one (.str)), false, true, none, [], []⟩)
def g6 : Nat × Sig := (n_spec_l00Src_pick, ⟨(.one (.str)), false, false, (some [.box [.sl (.int .u8), iS, iS]]), [], []⟩)
def g7 : Nat × Sig := (n_spec_l00Source, ⟨(.one (.fix (.ptrB 0 0))), false, false, none, [.box [.sl (.int .u8), iS, iS]], []⟩)
def g8 : Nat × Sig := (n_impl_when, sI)
def g9 : Nat × Sig := (n_impl_decimal, ⟨(.one (.str)), false, true, none, [], []⟩)
def g10 : Nat × Sig := (n_impl_within, sB)
def g11 : Nat × Sig := (n_impl_TaskOK, sB)
def g12 : Nat × Sig := (n_impl_readDecimal, ⟨(.tup [(false, [iS]), (false, [.bool])]), false, true, none, [], []⟩)
def g13 : Nat × Sig := (n_impl_long, sI)
def g14 : Nat × Sig := (n_impl_words, ⟨(.one (.fix (.row 0))), false, true, none, [.row t_string .str], []⟩)
def g15 : Nat × Sig := (n_spec_l01In, sB)
def g16 : Nat × Sig := (n_spec_TaskOK, sB)
def g17 : Nat × Sig := (n_spec_l02Place, sI)
def g18 : Nat × Sig := (n_spec_l00Number, ⟨(.tup [(false, [iS]), (false, [.bool])]), false, true, none, [], []⟩)
def g19 : Nat × Sig := (n_spec_l00Words, ⟨(.one (.fix (.row 0))), false, true, none, [.row t_string .str], []⟩)
def g20 : Nat × Sig := (n_impl_first, sI)
def g21 : Nat × Sig := (n_spec_l02Has, ⟨(.tup [(false, [iS]), (false, [iS]), (false, [.bool])]), false, true, none, [], []⟩)
def g22 : Nat × Sig := (n_spec_l02Op, sB)
def g23 : Nat × Sig := (n_spec_l02Names, ⟨(.one (.fix (.row 0))), false, true, none, [.row t_string .str], []⟩)
def g24 : Nat × Sig := (n_spec_OpName, ⟨(.one (.str)), false, true, none, [], []⟩)
def g25 : Nat × Sig := (n_spec_l00Src_instr, ⟨(.agg [iS, iS]), false, false, (some [.box [.sl (.int .u8), iS, iS]]), [], []⟩)
def g26 : Nat × Sig := (n_spec_l02Text, ⟨(.one (.str)), false, true, none, [], []⟩)
def g27 : Nat × Sig := (n_impl_opNames, ⟨(.one (.fix (.row 0))), false, true, none, [.row t_string .str], []⟩)
def g28 : Nat × Sig := (n_impl_rangeOf, ⟨(.tup [(false, [iS]), (false, [iS]), (false, [.bool])]), false, true, none, [], []⟩)
def g29 : Nat × Sig := (n_impl_isOp, sB)
def g30 : Nat × Sig := (n_impl_OpOf, sI)
def g31 : Nat × Sig := (n_impl_InstrOK, sB)
def g32 : Nat × Sig := (n_impl_hasOperand, sB)
def g33 : Nat × Sig := (n_spec_l02OK, sB)
def g34 : Nat × Sig := (n_impl_OpName, ⟨(.one (.str)), false, true, none, [], []⟩)
variable {r : Ent} {os : List Ob}
theorem fs_ {g : Nat} {fn : Func} {al : List Ent} {os : List Ob} {r : Ent} {os' : List Ob} {G : List (Nat × Sig)} {H : Hints} {v : Prop} (hf : Tryz.prog.funcs[g]? = some fn) (h : v) (hb : fn.body = some (bodyOf fn) := by kernel_rfl) (hn : (fn.name == "runtime.NumGoroutine") = false := by kernel_rfl) (e : funW tab TP G H fn (bodyOf fn) al os (fun r' ps => r' = r ∧ ps = os') = v := by kernel_rfl) : TP g al os r os' :=
  fun_sound mixed tabOk_ (fun _ _ _ _ _ h => h) hf hb hn (e.mpr h)
theorem r_spec_l00Source (l1 : List Int) (h : v_spec_l00Source TP (fun a b => a = r ∧ b = os) l1) : TP n_spec_l00Source [(.one (.sl (.int .u8) l1))] [] r os :=
  fs_ Tryz.func59 h (G := []) (H := ⟨[], [], ⟨[(0, (.agg [.fix (.ptrB 0 0)]))], [.box [.sl (.int .u8), iS, iS]]⟩, []⟩)
theorem r_spec_l00Src_byte (l1 : List Int) (n2 n3 : Int) (h : v_spec_l00Src_byte TP (fun a b => a = r ∧ b = os) l1 n2 n3) : TP n_spec_l00Src_byte [(.one (.ptrB 0 0))] [.box [.sl (.int .u8) l1, cI n2, cI n3]] r os :=
  fs_ Tryz.func135 h (G := []) (H := ⟨[], [], ⟨[(0, (.agg [iS]))], [.box [.sl (.int .u8), iS, iS]]⟩, [(2, [(0, [])]), (3, [(0, [23])]), (4, [(0, [])])]⟩)
theorem r_spec_l00Src_next (n1 : Int) (l2 : List Int) (n3 n4 : Int) (h : v_spec_l00Src_next TP (fun a b => a = r ∧ b = os) n1 l2 n3 n4) : TP n_spec_l00Src_next [(.one (.ptrB 0 0)), (eI n1)] [.box [.sl (.int .u8) l2, cI n3, cI n4]] r os :=
  fs_ Tryz.func100 h (G := [g1]) (H := ⟨[], [], ⟨[(0, (.agg [iS]))], [.box [.sl (.int .u8), iS, iS]]⟩, []⟩)
theorem r_spec_l00Src_task (n1 : Int) (l2 : List Int) (n3 n4 : Int) (h : v_spec_l00Src_task TP (fun a b => a = r ∧ b = os) n1 l2 n3 n4) : TP n_spec_l00Src_task [(.one (.ptrB 0 0)), (eI n1)] [.box [.sl (.int .u8) l2, cI n3, cI n4]] r os :=
  fs_ Tryz.func66 h (G := [g2]) (H := ⟨[], [], ⟨[(0, (.agg [iS, iS, iS, iS, iS, iS]))], [.box [.sl (.int .u8), iS, iS]]⟩, [(2, [(2, [6])])]⟩)
theorem r_spec_l00Digits (n1 : Int) (h : v_spec_l00Digits TP (fun a b => a = r ∧ b = os) n1) : TP n_spec_l00Digits [(eI n1)] [] r os :=
  fs_ Tryz.func111 h (G := [g3]) (H := ⟨[], [], ⟨[(0, (.agg [.str]))], []⟩, []⟩)
theorem r_spec_l13Task (n1 n2 n3 n4 n5 n6 : Int) (h : v_spec_l13Task TP (fun a b => a = r ∧ b = os) n1 n2 n3 n4 n5 n6) : TP n_spec_l13Task [(.agg (cl1 n1 n2 n3 n4 n5 n6))] [] r os :=
  fs_ Tryz.func69 h (G := [g3]) (H := ⟨[], [(2, ⟨[(1, (.one (.fix (.ptrB 0 0)))), (3, (.one (.str)))], [.box [.val (cI n1), .val (cI n2), .val (cI n3), .val (cI n4), .val (cI n5), .val (cI n6)]]⟩)], ⟨[(0, (.agg [.str]))], []⟩, [(1, [(0, []), (999999, [5])]), (3, [(0, [8])])]⟩)
theorem r_spec_l00Src_pick (l1 : List ByteArray) (l2 : List Int) (n3 n4 : Int) (h : v_spec_l00Src_pick TP (fun a b => a = r ∧ b = os) l1 l2 n3 n4) : TP n_spec_l00Src_pick [(.one (.ptrB 0 0)), (.one (.sl .str l1))] [.box [.sl (.int .u8) l2, cI n3, cI n4]] r os :=
  fs_ Tryz.func101 h (G := [g2]) (H := ⟨[], [], ⟨[(0, (.agg [.str]))], [.box [.sl (.int .u8), iS, iS]]⟩, []⟩)
theorem r_spec_l00Src_taskLine (l1 : List Int) (n2 n3 : Int) (h : v_spec_l00Src_taskLine TP (fun a b => a = r ∧ b = os) l1 n2 n3) : TP n_spec_l00Src_taskLine [(.one (.ptrB 0 0))] [.box [.sl (.int .u8) l1, cI n2, cI n3]] r os :=
  fs_ Tryz.func60 h (G := [g4, g5, g2, g6]) (H := ⟨[], [], ⟨[(0, (.agg [.str]))], [.box [.sl (.int .u8), iS, iS]]⟩, []⟩)
theorem r_spec_TaskLine (l1 : List Int) (h : v_spec_TaskLine TP (fun a b => a = r ∧ b = os) l1) : TP n_spec_TaskLine [(.one (.sl (.int .u8) l1))] [] r os :=
  fs_ Tryz.func15 h (G := [g7, (n_spec_l00Src_taskLine, ⟨(.one (.str)), false, false, (some [.box [.sl (.int .u8), iS, iS]]), [], []⟩)]) (H := ⟨[], [], ⟨[(0, (.agg [.str]))], []⟩, []⟩)
theorem r_impl_when (b1 : Bool) (n2 : Int) (h : v_impl_when TP (fun a b => a = r ∧ b = os) b1 n2) : TP n_impl_when [(eB b1), (eI n2)] [] r os :=
  fs_ Tryz.func102 h (G := []) (H := ⟨[], [], ⟨[(0, (.agg [iS]))], []⟩, []⟩)
theorem r_impl_long (s1 : ByteArray) (h : v_impl_long TP (fun a b => a = r ∧ b = os) s1) : TP n_impl_long [(eS s1)] [] r os :=
  fs_ Tryz.func61 h (G := [g8]) (H := ⟨[], [], ⟨[(0, (.agg [iS]))], []⟩, []⟩)
theorem r_impl_decimal (n1 : Int) (h : v_impl_decimal TP (fun a b => a = r ∧ b = os) n1) : TP n_impl_decimal [(eI n1)] [] r os :=
  fs_ Tryz.func94 h (G := [(n_strconv_Itoa, ⟨(.one (.str)), false, true, none, [], []⟩)]) (H := ⟨[], [], ⟨[(0, (.agg [.str]))], []⟩, []⟩)
theorem r_impl_readDecimal (s1 : ByteArray) (h : v_impl_readDecimal TP (fun a b => a = r ∧ b = os) s1) : TP n_impl_readDecimal [(eS s1)] [] r os :=
  fs_ Tryz.func103 h (G := [g9, (n_strconv_Atoi, ⟨(.tup [(false, [iS]), (false, [.ifc])]), false, true, none, [], []⟩), (n_strings_TrimPrefix, ⟨(.one (.str)), false, true, none, [], []⟩)]) (H := ⟨[], [], ⟨[(0, (.agg [iS, .bool]))], []⟩, []⟩)
theorem r_impl_within (n1 n2 n3 : Int) (h : v_impl_within TP (fun a b => a = r ∧ b = os) n1 n2 n3) : TP n_impl_within [(eI n1), (eI n2), (eI n3)] [] r os :=
  fs_ Tryz.func109 h (G := []) (H := ⟨[], [], ⟨[(0, (.agg [.bool]))], []⟩, []⟩)
theorem r_impl_TaskOK (n1 n2 n3 n4 n5 n6 : Int) (h : v_impl_TaskOK TP (fun a b => a = r ∧ b = os) n1 n2 n3 n4 n5 n6) : TP n_impl_TaskOK [(.agg (cl1 n1 n2 n3 n4 n5 n6))] [] r os :=
  fs_ Tryz.func67 h (G := [g10]) (H := ⟨[], [], ⟨[(0, (.agg [.bool]))], []⟩, []⟩)
theorem r_impl_readTask (l1 : List ByteArray) (h : v_impl_readTask TP (fun a b => a = r ∧ b = os) l1) : TP n_impl_readTask [(.one (.sl .str l1))] [] r os :=
  fs_ Tryz.func62 h (G := [g11, g12]) (H := ⟨[(5, ⟨[(0, (.one (.val (.sl .str l1)))), (2, (.one (.fix (.ptrB 0 0)))), (4, (.one (.fix (.row 1)))), (16, (.one (.val (.sl .str ((l1.take (Int.toNat (List.length l1 : Int))).drop (Int.toNat 1)))))), (17, (.one (.val (cI (List.length ((l1.take (Int.toNat (List.length l1 : Int))).drop (Int.toNat 1)) : Int))))), (18, zI)], [.box [.val (cI 0), .val (cI 0), .val (cI 0), .val (cI 0), .val (cI 0), .val (cI 0)], .row t_int tI]⟩)], [(12, ⟨[(0, (.one (.val (.sl .str l1)))), (2, (.one (.fix (.ptrB 0 0)))), (4, (.one (.fix (.row 1))))], [.box [.val (cI 0), .val (cI 0), .val (cI 0), .val (cI 0), .val (cI 0), .val (cI 0)], .row t_int tI]⟩), (14, ⟨[(0, (.one (.val (.sl .str l1)))), (2, (.one (.fix (.ptrB 0 0)))), (4, (.one (.fix (.row 1)))), (9, (.one (.fix (.ptrB 2 0)))), (36, (.one (.bool)))], [.box [.val (cI 0), .val (cI 0), .val (cI 0), .val (cI 0), .val (cI 0), .val (cI 0)], .row t_int tI, .box [.val (cI 0), .val (cI 0), .val (cI 0), .val (cI 0), .val (cI 0), .val (cI 0)]]⟩), (16, ⟨[(2, (.one (.fix (.ptrB 0 0)))), (4, (.one (.fix (.row 1)))), (9, (.one (.fix (.ptrB 2 0)))), (56, (.one (.bool)))], [.box [.val (cI 0), .val (cI 0), .val (cI 0), .val (cI 0), .val (cI 0), .val (cI 0)], .row t_int tI, .box [.val (cI 0), .val (cI 0), .val (cI 0), .val (cI 0), .val (cI 0), .val (cI 0)]]⟩)], ⟨[(0, (.agg [iS, iS, iS, iS, iS, iS, .bool]))], []⟩, [(14, [(1, [10])]), (17, [(2, [3])]), (16, [(1, [16])])]⟩)
theorem r_impl_ReadTask (s1 : ByteArray) (h : v_impl_ReadTask TP (fun a b => a = r ∧ b = os) s1) : TP n_impl_ReadTask [(eS s1)] [] r os :=
  fs_ Tryz.func16 h (G := [g13, (n_impl_readTask, ⟨(.tup [(true, [iS, iS, iS, iS, iS, iS]), (false, [.bool])]), false, true, none, [], []⟩), g14]) (H := ⟨[], [], ⟨[(0, (.agg [iS, iS, iS, iS, iS, iS, iS]))], []⟩, []⟩)
theorem r_spec_l00Words (s1 : ByteArray) (h : v_spec_l00Words TP (fun a b => a = r ∧ b = os) s1) : TP n_spec_l00Words [(eS s1)] [] r os :=
  fs_ Tryz.func65 h (G := []) (H := ⟨[(4, ⟨[(0, (.one (.val (.str s1)))), (3, (.one (.fix (.row 0)))), (4, zI), (5, zI)], [.row t_string .str]⟩)], [(7, ⟨[(0, (.one (.val (.str s1)))), (3, (.one (.fix (.row 0)))), (4, zI), (5, zI), (22, (.one (.bool)))], [.row t_string .str]⟩)], ⟨[(0, (.agg [.fix (.row 0)]))], [.row t_string .str]⟩, []⟩)
theorem r_spec_l02Place (l1 : List ByteArray) (s2 : ByteArray) (h : v_spec_l02Place TP (fun a b => a = r ∧ b = os) l1 s2) : TP n_spec_l02Place [(.one (.sl .str l1)), (eS s2)] [] r os :=
  fs_ Tryz.func107 h (G := []) (H := ⟨[(2, ⟨[(0, (.one (.val (.sl .str l1)))), (1, (.one (.val (.str s2)))), (5, zI)], []⟩)], [], ⟨[(0, (.agg [iS]))], []⟩, []⟩)
theorem r_spec_l00Number (s1 : ByteArray) (h : v_spec_l00Number TP (fun a b => a = r ∧ b = os) s1) : TP n_spec_l00Number [(eS s1)] [] r os :=
  fs_ Tryz.func108 h (G := []) (H := ⟨[(9, ⟨[(0, (.one (.str))), (4, zI), (5, zI), (6, zI)], []⟩)], [(5, ⟨[(0, (.one (.str))), (4, zI)], []⟩), (7, ⟨[(0, (.one (.str))), (4, zI)], []⟩)], ⟨[(0, (.agg [iS, .bool]))], []⟩, []⟩)
theorem r_spec_l01In (n1 n2 n3 : Int) (h : v_spec_l01In TP (fun a b => a = r ∧ b = os) n1 n2 n3) : TP n_spec_l01In [(eI n1), (eI n2), (eI n3)] [] r os :=
  fs_ Tryz.func110 h (G := []) (H := ⟨[], [], ⟨[(0, (.agg [.bool]))], []⟩, []⟩)
theorem r_spec_TaskOK (n1 n2 n3 n4 n5 n6 : Int) (h : v_spec_TaskOK TP (fun a b => a = r ∧ b = os) n1 n2 n3 n4 n5 n6) : TP n_spec_TaskOK [(.agg (cl1 n1 n2 n3 n4 n5 n6))] [] r os :=
  fs_ Tryz.func68 h (G := [g15]) (H := ⟨[], [], ⟨[(0, (.agg [.bool]))], []⟩, []⟩)
theorem r_spec_l13Read (l1 : List ByteArray) (h : v_spec_l13Read TP (fun a b => a = r ∧ b = os) l1) : TP n_spec_l13Read [(.one (.sl .str l1))] [] r os :=
  fs_ Tryz.func64 h (G := [g16, g17, g18]) (H := ⟨[(8, ⟨[(0, (.one (.val (.sl .str l1)))), (2, (.one (.fix (.ptrB 0 0)))), (4, (.one (.fix (.ptrB 1 0)))), (5, (.one (.fix (.row 2)))), (6, zI)], [.box [.val (cI 0), .val (cI 0), .val (cI 0), .val (cI 0), .val (cI 0), .val (cI 0)], .box [iS, .val (cI 0), .val (cI 0), .val (cI 0), .val (cI 1), .val (cI 0)], .row t_int tI]⟩)], [(14, ⟨[(2, (.one (.fix (.ptrB 0 0)))), (4, (.one (.fix (.ptrB 1 0)))), (5, (.one (.fix (.row 2))))], [.box [.val (cI 0), .val (cI 0), .val (cI 0), .val (cI 0), .val (cI 0), .val (cI 0)], .box [iS, .val (cI 0), .val (cI 0), .val (cI 0), .val (cI 1), .val (cI 0)], .row t_int tI]⟩)], ⟨[(0, (.agg [iS, iS, iS, iS, iS, iS, .bool]))], []⟩, [(20, [(1, [3])])]⟩)
theorem r_spec_ReadTask (s1 : ByteArray) (h : v_spec_ReadTask TP (fun a b => a = r ∧ b = os) s1) : TP n_spec_ReadTask [(eS s1)] [] r os :=
  fs_ Tryz.func17 h (G := [(n_spec_l13Read, ⟨(.tup [(true, [iS, iS, iS, iS, iS, iS]), (false, [.bool])]), false, true, none, [], []⟩), g19]) (H := ⟨[], [], ⟨[(0, (.agg [iS, iS, iS, iS, iS, iS, iS]))], []⟩, []⟩)
theorem r_spec_TaskDrawn (l1 : List Int) (h : v_spec_TaskDrawn TP (fun a b => a = r ∧ b = os) l1) : TP n_spec_TaskDrawn [(.one (.sl (.int .u8) l1))] [] r os :=
  fs_ Tryz.func18 h (G := [g7, g4]) (H := ⟨[], [], ⟨[(0, (.agg [iS, iS, iS, iS, iS, iS]))], []⟩, []⟩)
theorem r_impl_numbers (l1 : List Int) (h : v_impl_numbers TP (fun a b => a = r ∧ b = os) l1) : TP n_impl_numbers [(.one (.sl tI l1))] [] r os :=
  fs_ Tryz.func95 h (G := [g9, (n_strings_Join, ⟨(.one (.str)), false, true, none, [], []⟩)]) (H := ⟨[(3, ⟨[(3, (.one (.fix (.row 0)))), (7, (.one (.val (.sl tI l1)))), (8, (.one (.val (cI (List.length l1 : Int))))), (9, zI)], [.row t_string .str]⟩)], [], ⟨[(0, (.agg [.str]))], []⟩, []⟩)
theorem r_impl_taskText (n1 n2 n3 n4 n5 n6 : Int) (h : v_impl_taskText TP (fun a b => a = r ∧ b = os) n1 n2 n3 n4 n5 n6) : TP n_impl_taskText [(.agg (cl1 n1 n2 n3 n4 n5 n6))] [] r os :=
  fs_ Tryz.func48 h (G := [(n_impl_numbers, ⟨(.one (.str)), false, true, none, [], []⟩)]) (H := ⟨[], [], ⟨[(0, (.agg [.str]))], []⟩, []⟩)
theorem r_impl_TaskText (n1 n2 n3 n4 n5 n6 : Int) (h : v_impl_TaskText TP (fun a b => a = r ∧ b = os) n1 n2 n3 n4 n5 n6) : TP n_impl_TaskText [(.agg (cl1 n1 n2 n3 n4 n5 n6))] [] r os :=
  fs_ Tryz.func19 h (G := [(n_impl_taskText, ⟨(.one (.str)), false, true, none, [], []⟩), g11]) (H := ⟨[], [], ⟨[(0, (.agg [.str, iS]))], []⟩, []⟩)
theorem r_spec_TaskText (n1 n2 n3 n4 n5 n6 : Int) (h : v_spec_TaskText TP (fun a b => a = r ∧ b = os) n1 n2 n3 n4 n5 n6) : TP n_spec_TaskText [(.agg (cl1 n1 n2 n3 n4 n5 n6))] [] r os :=
  fs_ Tryz.func20 h (G := [g16, g5]) (H := ⟨[], [], ⟨[(0, (.agg [.str, iS]))], []⟩, []⟩)
theorem r_spec_l01Hex (s1 : ByteArray) (h : v_spec_l01Hex TP (fun a b => a = r ∧ b = os) s1) : TP n_spec_l01Hex [(eS s1)] [] r os :=
  fs_ Tryz.func112 h (G := []) (H := ⟨[(3, ⟨[(0, (.one (.val (.str s1)))), (3, (.one (.fix (.row 0)))), (4, zI)], [.row t_uint8 (.int .u8)]⟩)], [], ⟨[(0, (.agg [.str]))], []⟩, []⟩)
theorem r_spec_l00Src_script (l1 : List Int) (n2 n3 : Int) (h : v_spec_l00Src_script TP (fun a b => a = r ∧ b = os) l1 n2 n3) : TP n_spec_l00Src_script [(.one (.ptrB 0 0))] [.box [.sl (.int .u8) l1, cI n2, cI n3]] r os :=
  fs_ Tryz.func70 h (G := [g2, g3, (n_spec_l01Hex, ⟨(.one (.str)), false, true, none, [], []⟩)]) (H := ⟨[(3, ⟨[(0, (.one (.fix (.ptrB 0 0)))), (3, (.one (.str))), (4, zI)], [.box [.sl (.int .u8), iS, iS]]⟩)], [], ⟨[(0, (.agg [.str]))], [.box [.sl (.int .u8), iS, iS]]⟩, []⟩)
theorem r_spec_ScriptDrawn (l1 : List Int) (h : v_spec_ScriptDrawn TP (fun a b => a = r ∧ b = os) l1) : TP n_spec_ScriptDrawn [(.one (.sl (.int .u8) l1))] [] r os :=
  fs_ Tryz.func21 h (G := [g7, (n_spec_l00Src_script, ⟨(.one (.str)), false, false, (some [.box [.sl (.int .u8), iS, iS]]), [], []⟩)]) (H := ⟨[], [], ⟨[(0, (.agg [.str]))], []⟩, []⟩)
theorem r_impl_first (l1 : List Int) (h : v_impl_first TP (fun a b => a = r ∧ b = os) l1) : TP n_impl_first [(.one (.sl tI l1))] [] r os :=
  fs_ Tryz.func115 h (G := []) (H := ⟨[(2, ⟨[(5, (.one (.val (.sl tI l1)))), (6, (.one (.val (cI (List.length l1 : Int))))), (7, zI)], []⟩)], [], ⟨[(0, (.agg [iS]))], []⟩, []⟩)
theorem r_impl_hexDigit (n1 : Int) (h : v_impl_hexDigit TP (fun a b => a = r ∧ b = os) n1) : TP n_impl_hexDigit [(.one (cY n1))] [] r os :=
  fs_ Tryz.func141 h (G := []) (H := ⟨[], [(2, ⟨[(0, (.one (.val (cY n1)))), (3, (.one (.bool)))], []⟩)], ⟨[(0, (.agg [.int .u8]))], []⟩, []⟩)
theorem r_impl_BytesOf (s1 : ByteArray) (h : v_impl_BytesOf TP (fun a b => a = r ∧ b = os) s1) : TP n_impl_BytesOf [(eS s1)] [] r os :=
  fs_ Tryz.func114 h (G := [g13, g8, g20, (n_impl_hexDigit, ⟨(.one (.int .u8)), false, true, none, [], []⟩)]) (H := ⟨[(6, ⟨[(0, (.one (.val (.str s1)))), (5, (.one (.fix (.row 0)))), (6, zI)], [.row t_uint8 (.int .u8)]⟩)], [], ⟨[(0, (.agg [.str, iS]))], []⟩, []⟩)
theorem r_impl_readScript (l1 : List ByteArray) (h : v_impl_readScript TP (fun a b => a = r ∧ b = os) l1) : TP n_impl_readScript [(.one (.sl .str l1))] [] r os :=
  fs_ Tryz.func71 h (G := [g8, g12, (n_strings_Cut, ⟨(.tup [(false, [.str]), (false, [.str]), (false, [.bool])]), false, true, none, [], []⟩), (n_impl_BytesOf, ⟨(.tup [(false, [.str]), (false, [iS])]), false, true, none, [], []⟩), g20]) (H := ⟨[(3, ⟨[(4, (.one (.fix (.row 0)))), (18, (.one (.val (.sl .str l1)))), (19, (.one (.val (cI (List.length l1 : Int))))), (20, zI)], [.row t_Sbool (.slice .bool)]⟩), (14, ⟨[(4, (.one (.fix (.row 0)))), (12, (.one (.str))), (18, (.one (.val (.sl .str l1)))), (19, (.one (.val (cI (List.length l1 : Int))))), (20, zI), (38, zI), (39, (.one (.bool))), (42, (.one (.str))), (43, zI), (44, (.one (.bool))), (63, zI), (64, zI)], [.row t_Sbool (.slice .bool)]⟩), (17, ⟨[(4, (.one (.fix (.row 0)))), (12, (.one (.str))), (15, (.one (.fix (.row 1)))), (18, (.one (.val (.sl .str l1)))), (19, (.one (.val (cI (List.length l1 : Int))))), (20, zI), (38, zI), (39, (.one (.bool))), (42, (.one (.str))), (43, zI), (44, (.one (.bool))), (63, zI), (64, zI), (67, zI)], [.row t_Sbool (.slice .bool), .row t_bool .bool]⟩)], [], ⟨[(0, (.agg [.fix (.row 0), iS]))], [.row t_Sbool (.slice .bool)]⟩, []⟩)
theorem r_impl_ReadScript (s1 : ByteArray) (h : v_impl_ReadScript TP (fun a b => a = r ∧ b = os) s1) : TP n_impl_ReadScript [(eS s1)] [] r os :=
  fs_ Tryz.func22 h (G := [g13, g14, (n_impl_readScript, ⟨(.tup [(false, [.fix (.row 0)]), (false, [iS])]), false, false, none, [.row t_Sbool (.slice .bool)], []⟩)]) (H := ⟨[], [], ⟨[(0, (.agg [.fix (.row 0), iS]))], [.row t_Sbool (.slice .bool)]⟩, []⟩)
theorem r_spec_l00Digit (n1 : Int) (h : v_spec_l00Digit TP (fun a b => a = r ∧ b = os) n1) : TP n_spec_l00Digit [(.one (cY n1))] [] r os :=
  fs_ Tryz.func191 h (G := []) (H := ⟨[], [], ⟨[(0, (.agg [.bool]))], []⟩, []⟩)
theorem r_spec_l01Digit (n1 : Int) (h : v_spec_l01Digit TP (fun a b => a = r ∧ b = os) n1) : TP n_spec_l01Digit [(.one (cY n1))] [] r os :=
  fs_ Tryz.func166 h (G := [(n_spec_l00Digit, sB)]) (H := ⟨[], [], ⟨[(0, (.agg [iS]))], []⟩, []⟩)
theorem r_spec_l01Bytes (s1 : ByteArray) (h : v_spec_l01Bytes TP (fun a b => a = r ∧ b = os) s1) : TP n_spec_l01Bytes [(eS s1)] [] r os :=
  fs_ Tryz.func142 h (G := [(n_spec_l01Digit, sI)]) (H := ⟨[(5, ⟨[(0, (.one (.val (.str s1)))), (4, (.one (.fix (.row 0)))), (5, zI)], [.row t_uint8 (.int .u8)]⟩)], [], ⟨[(0, (.agg [.str, .bool]))], []⟩, []⟩)
theorem r_spec_l12Item (s1 : ByteArray) (h : v_spec_l12Item TP (fun a b => a = r ∧ b = os) s1) : TP n_spec_l12Item [(eS s1)] [] r os :=
  fs_ Tryz.func116 h (G := [g18, (n_spec_l01Bytes, ⟨(.tup [(false, [.str]), (false, [.bool])]), false, true, none, [], []⟩)]) (H := ⟨[(2, ⟨[(0, (.one (.val (.str s1)))), (5, zI)], []⟩)], [], ⟨[(0, (.agg [iS, .str, .bool]))], []⟩, []⟩)
theorem r_spec_l12Pins (n1 : Int) (h : v_spec_l12Pins TP (fun a b => a = r ∧ b = os) n1) : TP n_spec_l12Pins [(eI n1)] [] r os :=
  fs_ Tryz.func117 h (G := []) (H := ⟨[(3, ⟨[(0, (.one (.val (cI n1)))), (3, (.one (.fix (.row 0)))), (4, zI)], [.row t_bool .bool]⟩)], [], ⟨[(0, (.agg [.fix (.row 0)]))], [.row t_bool .bool]⟩, []⟩)
theorem r_spec_l12Script (s1 : ByteArray) (h : v_spec_l12Script TP (fun a b => a = r ∧ b = os) s1) : TP n_spec_l12Script [(eS s1)] [] r os :=
  fs_ Tryz.func72 h (G := [g19, (n_spec_l12Item, ⟨(.tup [(false, [iS]), (false, [.str]), (false, [.bool])]), false, true, none, [], []⟩), (n_spec_l12Pins, ⟨(.one (.fix (.row 0))), false, true, none, [.row t_bool .bool], []⟩)]) (H := ⟨[(4, ⟨[(4, (.one (.fix (.row 0)))), (5, (.one (.fix (.row 1)))), (6, zI)], [.row t_string .str, .row t_Sbool (.slice .bool)]⟩), (12, ⟨[(4, (.one (.fix (.row 0)))), (5, (.one (.fix (.row 1)))), (6, zI), (7, zI), (8, (.one (.str))), (10, zI)], [.row t_string .str, .row t_Sbool (.slice .bool)]⟩)], [], ⟨[(0, (.agg [.fix (.row 0), iS]))], [.row t_Sbool (.slice .bool)]⟩, []⟩)
theorem r_spec_ReadScript (s1 : ByteArray) (h : v_spec_ReadScript TP (fun a b => a = r ∧ b = os) s1) : TP n_spec_ReadScript [(eS s1)] [] r os :=
  fs_ Tryz.func23 h (G := [(n_spec_l12Script, ⟨(.tup [(false, [.fix (.row 0)]), (false, [iS])]), false, false, none, [.row t_Sbool (.slice .bool)], []⟩)]) (H := ⟨[], [], ⟨[(0, (.agg [.fix (.row 0), iS]))], [.row t_Sbool (.slice .bool)]⟩, []⟩)
theorem r_laws_FnTasks (l1 l2 : List Int) (h : v_laws_FnTasks TP (fun a b => a = r ∧ b = os) l1 l2) : TP n_laws_FnTasks [(.one (.sl (.int .u8) l1)), (.one (.sl (.int .u8) l2))] [] r os :=
  fs_ Tryz.func4 h (G := [(n_spec_TaskLine, ⟨(.one (.str)), false, true, none, [], []⟩), (n_impl_ReadTask, ⟨(.tup [(true, [iS, iS, iS, iS, iS, iS]), (false, [iS])]), false, true, none, [], []⟩), (n_spec_ReadTask, ⟨(.tup [(true, [iS, iS, iS, iS, iS, iS]), (false, [iS])]), false, true, none, [], []⟩), (n_spec_TaskDrawn, ⟨(.agg [iS, iS, iS, iS, iS, iS]), false, true, none, [], []⟩), (n_impl_TaskText, ⟨(.tup [(false, [.str]), (false, [iS])]), false, true, none, [], []⟩), (n_spec_TaskText, ⟨(.tup [(false, [.str]), (false, [iS])]), false, true, none, [], []⟩), (n_spec_ScriptDrawn, ⟨(.one (.str)), false, true, none, [], []⟩), (n_impl_ReadScript, ⟨(.tup [(false, [.fix (.row 0)]), (false, [iS])]), false, false, none, [.row t_Sbool (.slice .bool)], []⟩), (n_spec_ReadScript, ⟨(.tup [(false, [.fix (.row 0)]), (false, [iS])]), false, false, none, [.row t_Sbool (.slice .bool)], []⟩)]) (H := ⟨[(17, ⟨[(10, (.one (.fix (.ptrB 0 0)))), (11, (.one (.str))), (12, zI), (13, (.one (.str))), (15, (.one (.fix (.ptrB 1 0)))), (16, zI), (18, zI), (20, (.one (.fix (.row 2)))), (22, (.one (.fix (.row 3)))), (24, zI)], [.box [iS, iS, iS, iS, iS, iS], .box [iS, iS, iS, iS, iS, iS], .row t_Sbool (.slice .bool), .row t_Sbool (.slice .bool)]⟩), (22, ⟨[(10, (.one (.fix (.ptrB 0 0)))), (11, (.one (.str))), (12, zI), (13, (.one (.str))), (15, (.one (.fix (.ptrB 1 0)))), (16, zI), (18, zI), (20, (.one (.fix (.row 2)))), (22, (.one (.fix (.row 3)))), (24, zI), (25, zI)], [.box [iS, iS, iS, iS, iS, iS], .box [iS, iS, iS, iS, iS, iS], .row t_Sbool (.slice .bool), .row t_Sbool (.slice .bool)]⟩)], [(26, ⟨[(10, (.one (.fix (.ptrB 0 0)))), (11, (.one (.str))), (12, zI), (13, (.one (.str))), (15, (.one (.fix (.ptrB 1 0)))), (16, zI), (18, zI)], [.box [iS, iS, iS, iS, iS, iS], .box [iS, iS, iS, iS, iS, iS]]⟩)], ⟨[(0, (.agg [.bool]))], []⟩, [(24, [(2, []), (3, [])])]⟩)
theorem r_spec_l02Has (n1 : Int) (h : v_spec_l02Has TP (fun a b => a = r ∧ b = os) n1) : TP n_spec_l02Has [(eI n1)] [] r os :=
  fs_ Tryz.func120 h (G := []) (H := ⟨[], [(8, ⟨[(5, (.one (.val (cI n1)))), (10, (.one (.bool)))], []⟩), (13, ⟨[(5, (.one (.val (cI n1)))), (13, (.one (.bool)))], []⟩), (16, ⟨[(5, (.one (.val (cI n1)))), (18, (.one (.bool)))], []⟩)], ⟨[(0, (.agg [iS, iS, .bool]))], []⟩, []⟩)
theorem r_spec_l00Src_value (l1 : List Int) (n2 n3 : Int) (h : v_spec_l00Src_value TP (fun a b => a = r ∧ b = os) l1 n2 n3) : TP n_spec_l00Src_value [(.one (.ptrB 0 0))] [.box [.sl (.int .u8) l1, cI n2, cI n3]] r os :=
  fs_ Tryz.func121 h (G := [g2, g1]) (H := ⟨[], [], ⟨[(0, (.agg [iS]))], [.box [.sl (.int .u8), iS, iS]]⟩, []⟩)
theorem r_spec_l00Src_instr (l1 : List Int) (n2 n3 : Int) (h : v_spec_l00Src_instr TP (fun a b => a = r ∧ b = os) l1 n2 n3) : TP n_spec_l00Src_instr [(.one (.ptrB 0 0))] [.box [.sl (.int .u8) l1, cI n2, cI n3]] r os :=
  fs_ Tryz.func76 h (G := [g2, g21, (n_spec_l00Src_value, ⟨(.one (.int .i64)), false, false, (some [.box [.sl (.int .u8), iS, iS]]), [], []⟩)]) (H := ⟨[], [], ⟨[(0, (.agg [iS, iS]))], [.box [.sl (.int .u8), iS, iS]]⟩, []⟩)
theorem r_spec_l02Op (n1 : Int) (h : v_spec_l02Op TP (fun a b => a = r ∧ b = os) n1) : TP n_spec_l02Op [(eI n1)] [] r os :=
  fs_ Tryz.func82 h (G := [g15]) (H := ⟨[], [], ⟨[(0, (.agg [.bool]))], []⟩, []⟩)
theorem r_spec_l02Names (h : v_spec_l02Names TP (fun a b => a = r ∧ b = os)) : TP n_spec_l02Names [] [] r os :=
  fs_ Tryz.func85 h (G := []) (H := ⟨[], [], ⟨[(0, (.agg [.fix (.row 0)]))], [.row t_string .str]⟩, []⟩)
theorem r_spec_OpName (n1 : Int) (h : v_spec_OpName TP (fun a b => a = r ∧ b = os) n1) : TP n_spec_OpName [(eI n1)] [] r os :=
  fs_ Tryz.func34 h (G := [g22, g23]) (H := ⟨[], [], ⟨[(0, (.agg [.str]))], []⟩, []⟩)
theorem r_spec_l02Text (n1 n2 : Int) (h : v_spec_l02Text TP (fun a b => a = r ∧ b = os) n1 n2) : TP n_spec_l02Text [(.agg [cI n1, cI n2])] [] r os :=
  fs_ Tryz.func79 h (G := [g24, g3, g21]) (H := ⟨[], [], ⟨[(0, (.agg [.str]))], []⟩, [(3, [(0, [6])])]⟩)
theorem r_spec_l00Src_instrLine (l1 : List Int) (n2 n3 : Int) (h : v_spec_l00Src_instrLine TP (fun a b => a = r ∧ b = os) l1 n2 n3) : TP n_spec_l00Src_instrLine [(.one (.ptrB 0 0))] [.box [.sl (.int .u8) l1, cI n2, cI n3]] r os :=
  fs_ Tryz.func73 h (G := [g25, g26, g2, g6]) (H := ⟨[], [], ⟨[(0, (.agg [.str]))], [.box [.sl (.int .u8), iS, iS]]⟩, []⟩)
theorem r_spec_InstrLine (l1 : List Int) (h : v_spec_InstrLine TP (fun a b => a = r ∧ b = os) l1) : TP n_spec_InstrLine [(.one (.sl (.int .u8) l1))] [] r os :=
  fs_ Tryz.func24 h (G := [g7, (n_spec_l00Src_instrLine, ⟨(.one (.str)), false, false, (some [.box [.sl (.int .u8), iS, iS]]), [], []⟩)]) (H := ⟨[], [], ⟨[(0, (.agg [.str]))], []⟩, []⟩)
theorem r_impl_opNames (h : v_impl_opNames TP (fun a b => a = r ∧ b = os)) : TP n_impl_opNames [] [] r os :=
  fs_ Tryz.func84 h (G := [(n_strings_Fields, ⟨(.one (.fix (.row 0))), false, true, none, [.row t_string .str], []⟩)]) (H := ⟨[], [], ⟨[(0, (.agg [.fix (.row 0)]))], [.row t_string .str]⟩, []⟩)
theorem r_impl_OpOf (s1 : ByteArray) (h : v_impl_OpOf TP (fun a b => a = r ∧ b = os) s1) : TP n_impl_OpOf [(eS s1)] [] r os :=
  fs_ Tryz.func32 h (G := [g27]) (H := ⟨[(2, ⟨[(0, (.one (.val (.str s1)))), (5, (.one (.fix (.row 0)))), (6, zI), (7, zI)], [.row t_string .str]⟩)], [], ⟨[(0, (.agg [iS]))], []⟩, []⟩)
theorem r_impl_rangeOf (n1 : Int) (h : v_impl_rangeOf TP (fun a b => a = r ∧ b = os) n1) : TP n_impl_rangeOf [(eI n1)] [] r os :=
  fs_ Tryz.func122 h (G := []) (H := ⟨[], [(8, ⟨[(5, (.one (.val (cI n1)))), (10, (.one (.bool)))], []⟩), (13, ⟨[(5, (.one (.val (cI n1)))), (13, (.one (.bool)))], []⟩), (16, ⟨[(5, (.one (.val (cI n1)))), (18, (.one (.bool)))], []⟩)], ⟨[(0, (.agg [iS, iS, .bool]))], []⟩, []⟩)
theorem r_impl_hasOperand (n1 : Int) (h : v_impl_hasOperand TP (fun a b => a = r ∧ b = os) n1) : TP n_impl_hasOperand [(eI n1)] [] r os :=
  fs_ Tryz.func93 h (G := [g28]) (H := ⟨[], [], ⟨[(0, (.agg [.bool]))], []⟩, []⟩)
theorem r_impl_isOp (n1 : Int) (h : v_impl_isOp TP (fun a b => a = r ∧ b = os) n1) : TP n_impl_isOp [(eI n1)] [] r os :=
  fs_ Tryz.func80 h (G := [g10]) (H := ⟨[], [], ⟨[(0, (.agg [.bool]))], []⟩, []⟩)
theorem r_impl_InstrOK (n1 n2 : Int) (h : v_impl_InstrOK TP (fun a b => a = r ∧ b = os) n1 n2) : TP n_impl_InstrOK [(.agg [cI n1, cI n2])] [] r os :=
  fs_ Tryz.func77 h (G := [g29, g10, g28]) (H := ⟨[], [], ⟨[(0, (.agg [.bool]))], []⟩, []⟩)
theorem r_impl_readInstr (l1 : List ByteArray) (h : v_impl_readInstr TP (fun a b => a = r ∧ b = os) l1) : TP n_impl_readInstr [(.one (.sl .str l1))] [] r os :=
  fs_ Tryz.func74 h (G := [g30, g31, g32, g12]) (H := ⟨[], [], ⟨[(0, (.agg [iS, iS, .bool]))], []⟩, [(11, [(1, [3])])]⟩)
theorem r_impl_ReadInstr (s1 : ByteArray) (h : v_impl_ReadInstr TP (fun a b => a = r ∧ b = os) s1) : TP n_impl_ReadInstr [(eS s1)] [] r os :=
  fs_ Tryz.func25 h (G := [g13, g14, (n_impl_readInstr, ⟨(.tup [(true, [iS, iS]), (false, [.bool])]), false, true, none, [], []⟩)]) (H := ⟨[], [], ⟨[(0, (.agg [iS, iS, iS]))], []⟩, []⟩)
theorem r_spec_OpOf (s1 : ByteArray) (h : v_spec_OpOf TP (fun a b => a = r ∧ b = os) s1) : TP n_spec_OpOf [(eS s1)] [] r os :=
  fs_ Tryz.func118 h (G := [g23, g17]) (H := ⟨[], [], ⟨[(0, (.agg [iS]))], []⟩, []⟩)
theorem r_spec_l02OK (n1 n2 : Int) (h : v_spec_l02OK TP (fun a b => a = r ∧ b = os) n1 n2) : TP n_spec_l02OK [(.agg [cI n1, cI n2])] [] r os :=
  fs_ Tryz.func78 h (G := [g22, g15, g21]) (H := ⟨[], [], ⟨[(0, (.agg [.bool]))], []⟩, []⟩)
theorem r_spec_l00SameTexts (l1 l2 : List ByteArray) (h : v_spec_l00SameTexts TP (fun a b => a = r ∧ b = os) l1 l2) : TP n_spec_l00SameTexts [(.one (.sl .str l1)), (.one (.sl .str l2))] [] r os :=
  fs_ Tryz.func119 h (G := []) (H := ⟨[(4, ⟨[(0, (.one (.val (.sl .str l1)))), (1, (.one (.val (.sl .str l2)))), (5, zI)], []⟩)], [], ⟨[(0, (.agg [.bool]))], []⟩, []⟩)
theorem r_spec_l02Read (s1 : ByteArray) (h : v_spec_l02Read TP (fun a b => a = r ∧ b = os) s1) : TP n_spec_l02Read [(eS s1)] [] r os :=
  fs_ Tryz.func75 h (G := [g19, g33, g26, g18, (n_spec_OpOf, sI), (n_spec_l00SameTexts, sB)]) (H := ⟨[], [(10, ⟨[(2, (.one (.fix (.ptrB 0 0)))), (4, (.one (.fix (.row 1)))), (5, (.one (.fix (.ptrB 2 0))))], [.box [.val (cI 0), .val (cI 0)], .row t_string .str, .box [iS, iS]]⟩)], ⟨[(0, (.agg [iS, iS, .bool]))], []⟩, []⟩)
theorem r_spec_ReadInstr (s1 : ByteArray) (h : v_spec_ReadInstr TP (fun a b => a = r ∧ b = os) s1) : TP n_spec_ReadInstr [(eS s1)] [] r os :=
  fs_ Tryz.func26 h (G := [(n_spec_l02Read, ⟨(.tup [(true, [iS, iS]), (false, [.bool])]), false, true, none, [], []⟩)]) (H := ⟨[], [], ⟨[(0, (.agg [iS, iS, iS]))], []⟩, []⟩)
theorem r_spec_InstrDrawn (l1 : List Int) (h : v_spec_InstrDrawn TP (fun a b => a = r ∧ b = os) l1) : TP n_spec_InstrDrawn [(.one (.sl (.int .u8) l1))] [] r os :=
  fs_ Tryz.func27 h (G := [g7, g25]) (H := ⟨[], [], ⟨[(0, (.agg [iS, iS]))], []⟩, []⟩)
theorem r_impl_OpName (n1 : Int) (h : v_impl_OpName TP (fun a b => a = r ∧ b = os) n1) : TP n_impl_OpName [(eI n1)] [] r os :=
  fs_ Tryz.func33 h (G := [g29, g27]) (H := ⟨[], [], ⟨[(0, (.agg [.str]))], []⟩, []⟩)
theorem r_impl_instrText (n1 n2 : Int) (h : v_impl_instrText TP (fun a b => a = r ∧ b = os) n1 n2) : TP n_impl_instrText [(.agg [cI n1, cI n2])] [] r os :=
  fs_ Tryz.func47 h (G := [g34, g32, g9]) (H := ⟨[], [], ⟨[(0, (.agg [.str]))], []⟩, []⟩)
theorem r_impl_InstrText (n1 n2 : Int) (h : v_impl_InstrText TP (fun a b => a = r ∧ b = os) n1 n2) : TP n_impl_InstrText [(.agg [cI n1, cI n2])] [] r os :=
  fs_ Tryz.func28 h (G := [(n_impl_instrText, ⟨(.one (.str)), false, true, none, [], []⟩), g31]) (H := ⟨[], [], ⟨[(0, (.agg [.str, iS]))], []⟩, []⟩)
theorem r_spec_InstrText (n1 n2 : Int) (h : v_spec_InstrText TP (fun a b => a = r ∧ b = os) n1 n2) : TP n_spec_InstrText [(.agg [cI n1, cI n2])] [] r os :=
  fs_ Tryz.func29 h (G := [g33, g26]) (H := ⟨[], [], ⟨[(0, (.agg [.str, iS]))], []⟩, []⟩)
theorem r_impl_cost (n1 : Int) (h : v_impl_cost TP (fun a b => a = r ∧ b = os) n1) : TP n_impl_cost [(eI n1)] [] r os :=
  fs_ Tryz.func81 h (G := []) (H := ⟨[], [], ⟨[(0, (.agg [iS]))], []⟩, []⟩)
theorem r_impl_CostOf (n1 : Int) (h : v_impl_CostOf TP (fun a b => a = r ∧ b = os) n1) : TP n_impl_CostOf [(eI n1)] [] r os :=
  fs_ Tryz.func30 h (G := [g29, (n_impl_cost, sI)]) (H := ⟨[], [], ⟨[(0, (.agg [iS, iS]))], []⟩, []⟩)
theorem r_spec_l02Cost (n1 : Int) (h : v_spec_l02Cost TP (fun a b => a = r ∧ b = os) n1) : TP n_spec_l02Cost [(eI n1)] [] r os :=
  fs_ Tryz.func83 h (G := []) (H := ⟨[], [], ⟨[(0, (.agg [iS]))], []⟩, []⟩)
theorem r_spec_CostOf (n1 : Int) (h : v_spec_CostOf TP (fun a b => a = r ∧ b = os) n1) : TP n_spec_CostOf [(eI n1)] [] r os :=
  fs_ Tryz.func31 h (G := [g22, (n_spec_l02Cost, sI)]) (H := ⟨[], [], ⟨[(0, (.agg [iS, iS]))], []⟩, []⟩)
theorem r_laws_FnInstrs (l1 l2 : List Int) (h : v_laws_FnInstrs TP (fun a b => a = r ∧ b = os) l1 l2) : TP n_laws_FnInstrs [(.one (.sl (.int .u8) l1)), (.one (.sl (.int .u8) l2))] [] r os :=
  fs_ Tryz.func5 h (G := [(n_spec_InstrLine, ⟨(.one (.str)), false, true, none, [], []⟩), (n_impl_ReadInstr, ⟨(.tup [(true, [iS, iS]), (false, [iS])]), false, true, none, [], []⟩), (n_spec_ReadInstr, ⟨(.tup [(true, [iS, iS]), (false, [iS])]), false, true, none, [], []⟩), (n_spec_InstrDrawn, ⟨(.agg [iS, iS]), false, true, none, [], []⟩), (n_impl_InstrText, ⟨(.tup [(false, [.str]), (false, [iS])]), false, true, none, [], []⟩), (n_spec_InstrText, ⟨(.tup [(false, [.str]), (false, [iS])]), false, true, none, [], []⟩), (n_impl_CostOf, ⟨(.tup [(false, [iS]), (false, [iS])]), false, true, none, [], []⟩), (n_spec_CostOf, ⟨(.tup [(false, [iS]), (false, [iS])]), false, true, none, [], []⟩), g30, g34, g24]) (H := ⟨[], [], ⟨[(0, (.agg [.bool]))], []⟩, [(15, [(2, [48]), (3, [36, 37, 45, 48])])]⟩)
end Go.Ry
