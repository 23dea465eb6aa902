/- The functions come to it, by the kernel's own reckoning. No condition. -/
import Derived.Test.YtlfapnlaalnbjaaVVf
import Derived.Test.YtlfapnlaalnbjaaProg
import Derived.KernelRfl
set_option linter.unusedVariables false
namespace Go.Ry
open Go.Proofs
def bodyOf (f : Func) : Code := f.body.getD .skip
def tab : Tab := [(3, ⟨(.int .i64), (.int .i64), true, false, 1, 8, [], 0, [cI 0], false, none⟩),
  (4, ⟨.bool, .bool, true, false, 1, 1, [], 0, [.bool false], false, none⟩),
  (5, ⟨(.int .u8), (.int .u8), true, false, 1, 1, [], 0, [cY 0], false, none⟩),
  (9, ⟨.str, .str, true, false, 1, 16, [], 0, [.str (⟨#[]⟩ : ByteArray)], false, none⟩),
  (22, ⟨.slice, (.slice (.int .u8)), true, false, 1, 24, [], 5, [.nils], false, (some ⟨0, 5, (.int .u8)⟩)⟩),
  (23, ⟨.slice, (.slice (.int .i64)), true, false, 1, 24, [], 3, [.nils], false, (some ⟨0, 3, (.int .i64)⟩)⟩),
  (25, ⟨.slice, (.slice ty1), true, false, 1, 24, [], 53, [.nils], false, (some ⟨0, 53, ty1⟩)⟩),
  (40, ⟨.slice, (.slice .str), true, false, 1, 24, [], 9, [.nils], false, (some ⟨0, 9, .str⟩)⟩),
  (48, ⟨.slice, (.slice ty3), true, false, 1, 24, [], 74, [.nils], false, (some ⟨0, 74, ty3⟩)⟩),
  (50, ⟨.struct, (.pair .str (.pair (.slice ty3) .unit)), true, true, 2, 40, [(0, 9), (1, 48)], 0, [.str (⟨#[]⟩ : ByteArray), .nils], false, (some ⟨1, 74, ty3⟩)⟩),
  (53, ⟨.struct, ty1, true, true, 2, 16, [(0, 3), (1, 3)], 0, [cI 0, cI 0], false, none⟩),
  (56, ⟨.func, .unit, false, false, 1, 8, [], 0, [.nilf], false, none⟩),
  (60, ⟨.struct, (.pair (.slice (.int .u8)) ty1), true, true, 3, 40, [(0, 22), (1, 3), (2, 3)], 0, [.nils, cI 0, cI 0], false, (some ⟨0, 5, (.int .u8)⟩)⟩),
  (62, ⟨.func, .unit, false, false, 1, 8, [], 0, [.nilf], false, none⟩),
  (67, ⟨.slice, (.slice ty2), true, false, 1, 24, [], 72, [.nils], false, (some ⟨0, 72, ty2⟩)⟩),
  (69, ⟨.struct, (.pair (.slice (.int .i64)) (.pair (.int .i64) (.pair .str (.pair (.slice ty2) .unit)))), true, true, 4, 72, [(0, 23), (1, 3), (2, 9), (3, 67)], 0, [.nils, cI 0, .str (⟨#[]⟩ : ByteArray), .nils], false, none⟩),
  (72, ⟨.struct, ty2, true, true, 4, 24, [(0, 3), (1, 3), (2, 4), (3, 4)], 0, [cI 0, cI 0, .bool false, .bool false], false, none⟩),
  (74, ⟨.struct, ty3, true, true, 3, 32, [(0, 3), (1, 3), (2, 9)], 0, [cI 0, cI 0, .str (⟨#[]⟩ : ByteArray)], false, none⟩),
  (96, ⟨(.int .u64), (.int .u64), true, false, 1, 8, [], 0, [.int .u64 0], false, none⟩),
  (97, ⟨.slice, (.slice (.slice ty1)), true, false, 1, 24, [], 25, [.nils], false, none⟩),
  (110, ⟨(.int .u64), (.int .u64), true, false, 1, 8, [], 0, [.int .u64 0], false, none⟩),
  (112, ⟨(.array 4), .unit, false, true, 4, 64, [], 9, [.str (⟨#[]⟩ : ByteArray), .str (⟨#[]⟩ : ByteArray), .str (⟨#[]⟩ : ByteArray), .str (⟨#[]⟩ : ByteArray)], false, none⟩)]
theorem tabOk_ : tabOk Try.prog tab = true := by kernel_rfl
theorem mixed : Try.prog.follows .mixedOrders = true := by kernel_rfl
abbrev TP := Triple Try.prog
def zI : ESh := .one (.int .i64)
def iS : Sh := .int .i64
def sB : Sig := ⟨.one .bool, false, true, none, [], []⟩
def sI : Sig := ⟨.one iS, false, true, none, [], []⟩
def g1 : Nat × Sig := (n_spec_l00Src_byte, ⟨(.one (.int .i64)), false, false, (some [.box [.sl (.int .u8), iS, iS]]), [], []⟩)
def g2 : Nat × Sig := (n_spec_l00Src_next, ⟨(.one (.int .i64)), false, false, (some [.box [.sl (.int .u8), iS, iS]]), [], []⟩)
def g3 : Nat × Sig := (n_spec_l00Source, ⟨(.one (.fix (.ptrB 0 0))), false, false, none, [.box [.sl (.int .u8), iS, iS]], []⟩)
def g4 : Nat × Sig := (n_spec_l00Src_chance, ⟨(.one (.bool)), false, false, (some [.box [.sl (.int .u8), iS, iS]]), [], []⟩)
def g5 : Nat × Sig := (n_spec_l04Cat, ⟨(.one (.fix (.row 0))), false, true, none, [.row t_impl_Instr ty1], []⟩)
def g6 : Nat × Sig := (n_spec_l00Src_wantInt, ⟨(.one (.fix (.row 1))), false, false, (some [.box [.sl (.int .u8), iS, iS]]), [.row t_impl_Instr ty1], []⟩)
def g7 : Nat × Sig := (n_spec_l04OpA, ⟨(.one (.fix (.row 0))), false, true, none, [.row t_impl_Instr ty1], []⟩)
def g8 : Nat × Sig := (n_spec_l00Src_wantBool, ⟨(.one (.fix (.row 1))), false, false, (some [.box [.sl (.int .u8), iS, iS]]), [.row t_impl_Instr ty1], []⟩)
def g9 : Nat × Sig := (n_spec_l04Op, ⟨(.one (.fix (.row 0))), false, true, none, [.row t_impl_Instr ty1], []⟩)
def g10 : Nat × Sig := (n_spec_l03Takes, ⟨(.one (.str)), false, true, none, [], []⟩)
def g11 : Nat × Sig := (n_spec_l00Src_value, ⟨(.one (.int .i64)), false, false, (some [.box [.sl (.int .u8), iS, iS]]), [], []⟩)
def g12 : Nat × Sig := (n_spec_l00Src_statement, ⟨(.one (.fix (.row 1))), false, false, (some [.box [.sl (.int .u8), iS, iS]]), [.row t_impl_Instr ty1], []⟩)
def g13 : Nat × Sig := (n_spec_l02Has, ⟨(.tup [(false, [iS]), (false, [iS]), (false, [.bool])]), false, true, none, [], []⟩)
def g14 : Nat × Sig := (n_spec_l00Src_right, ⟨(.one (.fix (.row 1))), false, false, (some [.box [.sl (.int .u8), iS, iS]]), [.row t_impl_Instr ty1], []⟩)
def g15 : Nat × Sig := (n_impl_when, sI)
def g16 : Nat × Sig := (n_impl_within, sB)
def g17 : Nat × Sig := (n_impl_all_impl_Instr, sB)
def g18 : Nat × Sig := (n_impl_first, sI)
def g19 : Nat × Sig := (n_impl_many_impl_Instr, sI)
def g20 : Nat × Sig := (n_impl_verifyCode, sI)
def g21 : Nat × Sig := (n_impl_verify, ⟨(.tup [(false, [.fix (.row 0)]), (false, [iS]), (false, [iS])]), false, true, none, [.row t_string .str], []⟩)
def g22 : Nat × Sig := (n_spec_l01In, sB)
def g23 : Nat × Sig := (n_spec_l02All, sB)
def g24 : Nat × Sig := (n_spec_l04Walk_step, ⟨(.one (.int .i64)), false, true, (some [.box [.str, .fix (.row 2)], .dead]), [.row t_spec_l04Open ty3], []⟩)
def g25 : Nat × Sig := (n_spec_l04Ask, sI)
def g26 : Nat × Sig := (n_spec_l04Verify, ⟨(.tup [(false, [iS]), (false, [iS])]), false, true, none, [], []⟩)
variable {r : Ent} {os : List Ob}
theorem fs_ {g : Nat} {fn : Func} {al : List Ent} {os : List Ob} {r : Ent} {os' : List Ob} {G : List (Nat × Sig)} {H : Hints} {v : Prop} (hf : Try.prog.funcs[g]? = some fn) (h : v) (hb : fn.body = some (bodyOf fn) := by kernel_rfl) (hn : (fn.name == "runtime.NumGoroutine") = false := by kernel_rfl) (e : funW tab TP G H fn (bodyOf fn) al os (fun r' ps => r' = r ∧ ps = os') = v := by kernel_rfl) : TP g al os r os' :=
  fun_sound mixed tabOk_ (fun _ _ _ _ _ h => h) hf hb hn (e.mpr h)
theorem r_spec_l00Source (l1 : List Int) (h : v_spec_l00Source TP (fun a b => a = r ∧ b = os) l1) : TP n_spec_l00Source [(.one (.sl (.int .u8) l1))] [] r os :=
  fs_ Try.func14 h (G := []) (H := ⟨[], [], ⟨[(0, (.agg [.fix (.ptrB 0 0)]))], [.box [.sl (.int .u8), iS, iS]]⟩, []⟩)
theorem r_spec_l00Src_byte (l1 : List Int) (n2 n3 : Int) (h : v_spec_l00Src_byte TP (fun a b => a = r ∧ b = os) l1 n2 n3) : TP n_spec_l00Src_byte [(.one (.ptrB 0 0))] [.box [.sl (.int .u8) l1, cI n2, cI n3]] r os :=
  fs_ Try.func54 h (G := []) (H := ⟨[], [], ⟨[(0, (.agg [iS]))], [.box [.sl (.int .u8), iS, iS]]⟩, [(2, [(0, [])]), (3, [(0, [23])]), (4, [(0, [])])]⟩)
theorem r_spec_l00Src_next (n1 : Int) (l2 : List Int) (n3 n4 : Int) (h : v_spec_l00Src_next TP (fun a b => a = r ∧ b = os) n1 l2 n3 n4) : TP n_spec_l00Src_next [(.one (.ptrB 0 0)), (eI n1)] [.box [.sl (.int .u8) l2, cI n3, cI n4]] r os :=
  fs_ Try.func33 h (G := [g1]) (H := ⟨[], [], ⟨[(0, (.agg [iS]))], [.box [.sl (.int .u8), iS, iS]]⟩, []⟩)
theorem r_spec_l00Src_kinds (l1 : List Int) (n2 n3 : Int) (h : v_spec_l00Src_kinds TP (fun a b => a = r ∧ b = os) l1 n2 n3) : TP n_spec_l00Src_kinds [(.one (.ptrB 0 0))] [.box [.sl (.int .u8) l1, cI n2, cI n3]] r os :=
  fs_ Try.func15 h (G := [g2]) (H := ⟨[(3, ⟨[(0, (.one (.fix (.ptrB 0 0)))), (3, (.one (.fix (.row 1)))), (4, zI)], [.box [.sl (.int .u8), iS, iS], .row t_int tI]⟩)], [], ⟨[(0, (.agg [.fix (.row 1)]))], [.box [.sl (.int .u8), iS, iS], .row t_int tI]⟩, []⟩)
theorem r_spec_KindsDrawn (l1 : List Int) (h : v_spec_KindsDrawn TP (fun a b => a = r ∧ b = os) l1) : TP n_spec_KindsDrawn [(.one (.sl (.int .u8) l1))] [] r os :=
  fs_ Try.func4 h (G := [g3, (n_spec_l00Src_kinds, ⟨(.one (.fix (.row 1))), false, false, (some [.box [.sl (.int .u8), iS, iS]]), [.row t_int tI], []⟩)]) (H := ⟨[], [], ⟨[(0, (.agg [.fix (.row 0)]))], [.row t_int tI]⟩, []⟩)
theorem r_spec_l00Src_chance (n1 : Int) (l2 : List Int) (n3 n4 : Int) (h : v_spec_l00Src_chance TP (fun a b => a = r ∧ b = os) n1 l2 n3 n4) : TP n_spec_l00Src_chance [(.one (.ptrB 0 0)), (eI n1)] [.box [.sl (.int .u8) l2, cI n3, cI n4]] r os :=
  fs_ Try.func34 h (G := [g2]) (H := ⟨[], [], ⟨[(0, (.agg [.bool]))], [.box [.sl (.int .u8), iS, iS]]⟩, []⟩)
theorem r_spec_l00Src_value (l1 : List Int) (n2 n3 : Int) (h : v_spec_l00Src_value TP (fun a b => a = r ∧ b = os) l1 n2 n3) : TP n_spec_l00Src_value [(.one (.ptrB 0 0))] [.box [.sl (.int .u8) l1, cI n2, cI n3]] r os :=
  fs_ Try.func56 h (G := [g2, g1]) (H := ⟨[], [], ⟨[(0, (.agg [iS]))], [.box [.sl (.int .u8), iS, iS]]⟩, []⟩)
theorem r_spec_l04OpA (n1 n2 : Int) (h : v_spec_l04OpA TP (fun a b => a = r ∧ b = os) n1 n2) : TP n_spec_l04OpA [(eI n1), (eI n2)] [] r os :=
  fs_ Try.func65 h (G := []) (H := ⟨[], [], ⟨[(0, (.agg [.fix (.row 0)]))], [.row t_impl_Instr ty1]⟩, []⟩)
theorem r_spec_l04Op (n1 : Int) (h : v_spec_l04Op TP (fun a b => a = r ∧ b = os) n1) : TP n_spec_l04Op [(eI n1)] [] r os :=
  fs_ Try.func67 h (G := []) (H := ⟨[], [], ⟨[(0, (.agg [.fix (.row 0)]))], [.row t_impl_Instr ty1]⟩, []⟩)
theorem r_spec_l04Cat (l1 : List (List dn4)) (h : v_spec_l04Cat TP (fun a b => a = r ∧ b = os) l1) : TP n_spec_l04Cat [(.one (.sl (.slice ty1) l1))] [] r os :=
  fs_ Try.func63 h (G := []) (H := ⟨[(3, ⟨[(0, (.one (.val (.sl (.slice ty1) l1)))), (3, (.one (.fix (.row 0)))), (4, zI)], [.row t_impl_Instr ty1]⟩)], [], ⟨[(0, (.agg [.fix (.row 0)]))], [.row t_impl_Instr ty1]⟩, []⟩)
theorem r_spec_l03Takes (n1 : Int) (h : v_spec_l03Takes TP (fun a b => a = r ∧ b = os) n1) : TP n_spec_l03Takes [(eI n1)] [] r os :=
  fs_ Try.func68 h (G := []) (H := ⟨[], [], ⟨[(0, (.agg [.str]))], []⟩, []⟩)
theorem r_spec_l00Src_wantBool (l1 : List Int) (n2 : Int) (l3 : List Int) (n4 n5 : Int) (h : v_spec_l00Src_wantBool TP (fun a b => a = r ∧ b = os) l1 n2 l3 n4 n5) : TP n_spec_l00Src_wantBool [(.one (.ptrB 0 0)), (.one (.sl tI l1)), (eI n2)] [.box [.sl (.int .u8) l3, cI n4, cI n5]] r os :=
  fs_ Try.func66 h (G := [g2, g4, g5, g6, g7, g8, g9, g10]) (H := ⟨[(19, ⟨[(0, (.one (.fix (.ptrB 0 0)))), (7, zI), (8, (.one (.str))), (9, (.one (.fix (.row 1)))), (10, zI)], [.box [.sl (.int .u8), iS, iS], .row t_impl_Instr ty1]⟩)], [(2, ⟨[(0, (.one (.fix (.ptrB 0 0)))), (1, (.one (.val (.sl tI l1)))), (2, (.one (.val (cI n2)))), (16, (.one (.bool)))], [.box [.sl (.int .u8), iS, iS]]⟩), (25, ⟨[(0, (.one (.fix (.ptrB 0 0)))), (1, (.one (.val (.sl tI l1)))), (2, (.one (.val (cI n2))))], [.box [.sl (.int .u8), iS, iS]]⟩)], ⟨[(0, (.agg [.fix (.row 1)]))], [.box [.sl (.int .u8), iS, iS], .row t_impl_Instr ty1]⟩, []⟩)
theorem r_spec_l00Src_wantInt (l1 : List Int) (n2 : Int) (l3 : List Int) (n4 n5 : Int) (h : v_spec_l00Src_wantInt TP (fun a b => a = r ∧ b = os) l1 n2 l3 n4 n5) : TP n_spec_l00Src_wantInt [(.one (.ptrB 0 0)), (.one (.sl tI l1)), (eI n2)] [.box [.sl (.int .u8) l3, cI n4, cI n5]] r os :=
  fs_ Try.func64 h (G := [g2, g4, g11, g5, g6, g7, g8, g9]) (H := ⟨[], [(2, ⟨[(0, (.one (.fix (.ptrB 0 0)))), (1, (.one (.val (.sl tI l1)))), (2, (.one (.val (cI n2)))), (12, (.one (.bool)))], [.box [.sl (.int .u8), iS, iS]]⟩)], ⟨[(0, (.agg [.fix (.row 1)]))], [.box [.sl (.int .u8), iS, iS], .row t_impl_Instr ty1]⟩, []⟩)
theorem r_spec_l00Src_statement (l1 : List Int) (n2 n3 : Int) (l4 : List Int) (n5 n6 : Int) (h : v_spec_l00Src_statement TP (fun a b => a = r ∧ b = os) l1 n2 n3 l4 n5 n6) : TP n_spec_l00Src_statement [(.one (.ptrB 0 0)), (.one (.sl tI l1)), (eI n2), (eI n3)] [.box [.sl (.int .u8) l4, cI n5, cI n6]] r os :=
  fs_ Try.func41 h (G := [g2, g4, g12, g5, g6, g7, g8, g9]) (H := ⟨[], [(4, ⟨[(0, (.one (.fix (.ptrB 0 0)))), (1, (.one (.val (.sl tI l1)))), (2, (.one (.val (cI n2)))), (3, (.one (.val (cI n3)))), (11, zI), (12, (.one (.bool)))], [.box [.sl (.int .u8), iS, iS]]⟩), (7, ⟨[(0, (.one (.fix (.ptrB 0 0)))), (1, (.one (.val (.sl tI l1)))), (2, (.one (.val (cI n2)))), (3, (.one (.val (cI n3)))), (11, zI), (23, (.one (.bool)))], [.box [.sl (.int .u8), iS, iS]]⟩)], ⟨[(0, (.agg [.fix (.row 1)]))], [.box [.sl (.int .u8), iS, iS], .row t_impl_Instr ty1]⟩, [(7, [(999999, [7])])]⟩)
theorem r_spec_l00Src_right (l1 : List Int) (n2 : Int) (l3 : List Int) (n4 n5 : Int) (h : v_spec_l00Src_right TP (fun a b => a = r ∧ b = os) l1 n2 l3 n4 n5) : TP n_spec_l00Src_right [(.one (.ptrB 0 0)), (.one (.sl tI l1)), (eI n2)] [.box [.sl (.int .u8) l3, cI n4, cI n5]] r os :=
  fs_ Try.func21 h (G := [g2, g12]) (H := ⟨[(3, ⟨[(0, (.one (.fix (.ptrB 0 0)))), (1, (.one (.val (.sl tI l1)))), (2, (.one (.val (cI n2)))), (7, (.one (.fix (.row 1)))), (8, zI)], [.box [.sl (.int .u8), iS, iS], .row t_impl_Instr ty1]⟩)], [], ⟨[(0, (.agg [.fix (.row 1)]))], [.box [.sl (.int .u8), iS, iS], .row t_impl_Instr ty1]⟩, []⟩)
theorem r_spec_l02Has (n1 : Int) (h : v_spec_l02Has TP (fun a b => a = r ∧ b = os) n1) : TP n_spec_l02Has [(eI n1)] [] r os :=
  fs_ Try.func55 h (G := []) (H := ⟨[], [(8, ⟨[(5, (.one (.val (cI n1)))), (10, (.one (.bool)))], []⟩), (13, ⟨[(5, (.one (.val (cI n1)))), (13, (.one (.bool)))], []⟩), (16, ⟨[(5, (.one (.val (cI n1)))), (18, (.one (.bool)))], []⟩)], ⟨[(0, (.agg [iS, iS, .bool]))], []⟩, []⟩)
theorem r_spec_l00Src_instr (l1 : List Int) (n2 n3 : Int) (h : v_spec_l00Src_instr TP (fun a b => a = r ∧ b = os) l1 n2 n3) : TP n_spec_l00Src_instr [(.one (.ptrB 0 0))] [.box [.sl (.int .u8) l1, cI n2, cI n3]] r os :=
  fs_ Try.func35 h (G := [g2, g13, g11]) (H := ⟨[], [], ⟨[(0, (.agg [iS, iS]))], [.box [.sl (.int .u8), iS, iS]]⟩, []⟩)
theorem r_spec_l00Src_doubtful (l1 : List Int) (n2 : Int) (l3 : List Int) (n4 n5 : Int) (h : v_spec_l00Src_doubtful TP (fun a b => a = r ∧ b = os) l1 n2 l3 n4 n5) : TP n_spec_l00Src_doubtful [(.one (.ptrB 0 0)), (.one (.sl tI l1)), (eI n2)] [.box [.sl (.int .u8) l3, cI n4, cI n5]] r os :=
  fs_ Try.func16 h (G := [g14, g2, g4, (n_spec_l00Src_instr, ⟨(.agg [iS, iS]), false, false, (some [.box [.sl (.int .u8), iS, iS]]), [], []⟩)]) (H := ⟨[], [(16, ⟨[(0, (.one (.fix (.ptrB 0 0)))), (7, (.one (.fix (.row 1))))], [.box [.sl (.int .u8), iS, iS], .row t_impl_Instr ty1]⟩)], ⟨[(0, (.agg [.fix (.row 1)]))], [.box [.sl (.int .u8), iS, iS], .row t_impl_Instr ty1]⟩, []⟩)
theorem r_spec_DoubtCode (l1 l2 : List Int) (n3 : Int) (h : v_spec_DoubtCode TP (fun a b => a = r ∧ b = os) l1 l2 n3) : TP n_spec_DoubtCode [(.one (.sl (.int .u8) l1)), (.one (.sl tI l2)), (eI n3)] [] r os :=
  fs_ Try.func5 h (G := [g3, (n_spec_l00Src_doubtful, ⟨(.one (.fix (.row 1))), false, false, (some [.box [.sl (.int .u8), iS, iS]]), [.row t_impl_Instr ty1], []⟩)]) (H := ⟨[], [], ⟨[(0, (.agg [.win 0]))], [.row t_impl_Instr ty1]⟩, []⟩)
theorem r_impl_when (b1 : Bool) (n2 : Int) (h : v_impl_when TP (fun a b => a = r ∧ b = os) b1 n2) : TP n_impl_when [(eB b1), (eI n2)] [] r os :=
  fs_ Try.func23 h (G := []) (H := ⟨[], [], ⟨[(0, (.agg [iS]))], []⟩, []⟩)
theorem r_impl_many_impl_Instr (l1 : List dn4) (h : v_impl_many_impl_Instr TP (fun a b => a = r ∧ b = os) l1) : TP n_impl_many_impl_Instr [(.one (.sl ty1 l1))] [] r os :=
  fs_ Try.func28 h (G := [g15]) (H := ⟨[], [], ⟨[(0, (.agg [iS]))], []⟩, []⟩)
theorem r_impl_many_int (l1 : List Int) (h : v_impl_many_int TP (fun a b => a = r ∧ b = os) l1) : TP n_impl_many_int [(.one (.sl tI l1))] [] r os :=
  fs_ Try.func36 h (G := [g15]) (H := ⟨[], [], ⟨[(0, (.agg [iS]))], []⟩, []⟩)
theorem r_impl_within (n1 n2 n3 : Int) (h : v_impl_within TP (fun a b => a = r ∧ b = os) n1 n2 n3) : TP n_impl_within [(eI n1), (eI n2), (eI n3)] [] r os :=
  fs_ Try.func24 h (G := []) (H := ⟨[], [], ⟨[(0, (.agg [.bool]))], []⟩, []⟩)
theorem r_impl_isFbKind (n1 : Int) (h : v_impl_isFbKind TP (fun a b => a = r ∧ b = os) n1) : TP n_impl_isFbKind [(eI n1)] [] r os :=
  fs_ Try.func58 h (G := [g16]) (H := ⟨[], [], ⟨[(0, (.agg [.bool]))], []⟩, []⟩)
theorem r_impl_all_int_1 (n1 : Int) (h : v_impl_all_int_1 TP (fun a b => a = r ∧ b = os) n1) : TP n_impl_all_int_1 [(eI n1), (.one (.ptrB 0 0))] [.box [.fn n_impl_isFbKind []]] r os :=
  fs_ Try.func74 h (G := [(n_impl_isFbKind, sB)]) (H := ⟨[], [], ⟨[(0, (.agg [.bool]))], [.box [.fix (.fn n_impl_isFbKind [])]]⟩, []⟩)
theorem r_slices_IndexFunc_int_int (l1 : List Int) (h : v_slices_IndexFunc_int_int TP (fun a b => a = r ∧ b = os) l1) : TP n_slices_IndexFunc_int_int [(.one (.sl tI l1)), (.one (.fn n_impl_all_int_1 [0]))] [.box [.fn n_impl_isFbKind []]] r os :=
  fs_ Try.func87 h (G := [(n_impl_all_int_1, sB)]) (H := ⟨[(2, ⟨[(0, (.one (.val (.sl tI l1)))), (1, (.one (.fix (.fn n_impl_all_int_1 [0])))), (7, (.one (.val (cI (List.length l1 : Int))))), (8, zI)], [.box [.fix (.fn n_impl_isFbKind [])]]⟩)], [], ⟨[(0, (.agg [iS]))], [.box [.fix (.fn n_impl_isFbKind [])]]⟩, []⟩)
theorem r_slices_ContainsFunc_int_int (l1 : List Int) (h : v_slices_ContainsFunc_int_int TP (fun a b => a = r ∧ b = os) l1) : TP n_slices_ContainsFunc_int_int [(.one (.sl tI l1)), (.one (.fn n_impl_all_int_1 [0]))] [.box [.fn n_impl_isFbKind []]] r os :=
  fs_ Try.func73 h (G := [(n_slices_IndexFunc_int_int, sI)]) (H := ⟨[], [], ⟨[(0, (.agg [.bool]))], [.box [.fix (.fn n_impl_isFbKind [])]]⟩, []⟩)
theorem r_impl_all_int (l1 : List Int) (h : v_impl_all_int TP (fun a b => a = r ∧ b = os) l1) : TP n_impl_all_int [(.one (.sl tI l1)), (.one (.fn n_impl_isFbKind []))] [] r os :=
  fs_ Try.func57 h (G := [(n_slices_ContainsFunc_int_int, sB)]) (H := ⟨[], [], ⟨[(0, (.agg [.bool]))], []⟩, []⟩)
theorem r_impl_areKinds (l1 : List Int) (h : v_impl_areKinds TP (fun a b => a = r ∧ b = os) l1) : TP n_impl_areKinds [(.one (.sl tI l1))] [] r os :=
  fs_ Try.func37 h (G := [(n_impl_all_int, sB)]) (H := ⟨[], [], ⟨[(0, (.agg [.bool]))], []⟩, []⟩)
theorem r_impl_first (l1 : List Int) (h : v_impl_first TP (fun a b => a = r ∧ b = os) l1) : TP n_impl_first [(.one (.sl tI l1))] [] r os :=
  fs_ Try.func22 h (G := []) (H := ⟨[(2, ⟨[(5, (.one (.val (.sl tI l1)))), (6, (.one (.val (cI (List.length l1 : Int))))), (7, zI)], []⟩)], [], ⟨[(0, (.agg [iS]))], []⟩, []⟩)
theorem r_impl_rangeOf (n1 : Int) (h : v_impl_rangeOf TP (fun a b => a = r ∧ b = os) n1) : TP n_impl_rangeOf [(eI n1)] [] r os :=
  fs_ Try.func49 h (G := []) (H := ⟨[], [(8, ⟨[(5, (.one (.val (cI n1)))), (10, (.one (.bool)))], []⟩), (13, ⟨[(5, (.one (.val (cI n1)))), (13, (.one (.bool)))], []⟩), (16, ⟨[(5, (.one (.val (cI n1)))), (18, (.one (.bool)))], []⟩)], ⟨[(0, (.agg [iS, iS, .bool]))], []⟩, []⟩)
theorem r_impl_isOp (n1 : Int) (h : v_impl_isOp TP (fun a b => a = r ∧ b = os) n1) : TP n_impl_isOp [(eI n1)] [] r os :=
  fs_ Try.func50 h (G := [g16]) (H := ⟨[], [], ⟨[(0, (.agg [.bool]))], []⟩, []⟩)
theorem r_impl_InstrOK (n1 n2 : Int) (h : v_impl_InstrOK TP (fun a b => a = r ∧ b = os) n1 n2) : TP n_impl_InstrOK [(.agg [cI n1, cI n2])] [] r os :=
  fs_ Try.func30 h (G := [g16, (n_impl_rangeOf, ⟨(.tup [(false, [iS]), (false, [iS]), (false, [.bool])]), false, true, none, [], []⟩), (n_impl_isOp, sB)]) (H := ⟨[], [], ⟨[(0, (.agg [.bool]))], []⟩, []⟩)
theorem r_impl_all_impl_Instr_1 (n1 n2 : Int) (h : v_impl_all_impl_Instr_1 TP (fun a b => a = r ∧ b = os) n1 n2) : TP n_impl_all_impl_Instr_1 [(.agg [cI n1, cI n2]), (.one (.ptrB 0 0))] [.box [.fn n_impl_InstrOK []]] r os :=
  fs_ Try.func48 h (G := [(n_impl_InstrOK, sB)]) (H := ⟨[], [], ⟨[(0, (.agg [.bool]))], [.box [.fix (.fn n_impl_InstrOK [])]]⟩, []⟩)
theorem r_slices_IndexFunc_impl_Instr_impl_Instr (l1 : List dn4) (h : v_slices_IndexFunc_impl_Instr_impl_Instr TP (fun a b => a = r ∧ b = os) l1) : TP n_slices_IndexFunc_impl_Instr_impl_Instr [(.one (.sl ty1 l1)), (.one (.fn n_impl_all_impl_Instr_1 [0]))] [.box [.fn n_impl_InstrOK []]] r os :=
  fs_ Try.func69 h (G := [(n_impl_all_impl_Instr_1, sB)]) (H := ⟨[(2, ⟨[(0, (.one (.val (.sl ty1 l1)))), (1, (.one (.fix (.fn n_impl_all_impl_Instr_1 [0])))), (7, (.one (.val (cI (List.length l1 : Int))))), (8, zI)], [.box [.fix (.fn n_impl_InstrOK [])]]⟩)], [], ⟨[(0, (.agg [iS]))], [.box [.fix (.fn n_impl_InstrOK [])]]⟩, []⟩)
theorem r_slices_ContainsFunc_impl_Instr_impl_Instr (l1 : List dn4) (h : v_slices_ContainsFunc_impl_Instr_impl_Instr TP (fun a b => a = r ∧ b = os) l1) : TP n_slices_ContainsFunc_impl_Instr_impl_Instr [(.one (.sl ty1 l1)), (.one (.fn n_impl_all_impl_Instr_1 [0]))] [.box [.fn n_impl_InstrOK []]] r os :=
  fs_ Try.func47 h (G := [(n_slices_IndexFunc_impl_Instr_impl_Instr, sI)]) (H := ⟨[], [], ⟨[(0, (.agg [.bool]))], [.box [.fix (.fn n_impl_InstrOK [])]]⟩, []⟩)
theorem r_impl_all_impl_Instr (l1 : List dn4) (h : v_impl_all_impl_Instr TP (fun a b => a = r ∧ b = os) l1) : TP n_impl_all_impl_Instr [(.one (.sl ty1 l1)), (.one (.fn n_impl_InstrOK []))] [] r os :=
  fs_ Try.func29 h (G := [(n_slices_ContainsFunc_impl_Instr_impl_Instr, sB)]) (H := ⟨[], [], ⟨[(0, (.agg [.bool]))], []⟩, []⟩)
theorem r_impl_isCode (l1 : List dn4) (h : v_impl_isCode TP (fun a b => a = r ∧ b = os) l1) : TP n_impl_isCode [(.one (.sl ty1 l1))] [] r os :=
  fs_ Try.func38 h (G := [g17]) (H := ⟨[], [], ⟨[(0, (.agg [.bool]))], []⟩, []⟩)
theorem r_impl_verifyCode (l1 : List dn4) (l2 : List Int) (n3 : Int) (h : v_impl_verifyCode TP (fun a b => a = r ∧ b = os) l1 l2 n3) : TP n_impl_verifyCode [(.one (.sl ty1 l1)), (.one (.sl tI l2)), (eI n3)] [] r os :=
  fs_ Try.func17 h (G := [g18, g15, g16, g19, (n_impl_many_int, sI), (n_impl_areKinds, sB), (n_impl_isCode, sB)]) (H := ⟨[], [], ⟨[(0, (.agg [iS]))], []⟩, []⟩)
theorem r_impl_takes (n1 : Int) (h : v_impl_takes TP (fun a b => a = r ∧ b = os) n1) : TP n_impl_takes [(eI n1)] [] r os :=
  fs_ Try.func75 h (G := []) (H := ⟨[], [], ⟨[(0, (.agg [.str]))], []⟩, []⟩)
theorem r_impl_verifier_effect (n1 n2 : Int) (l3 : List Int) (n4 : Int) (s5 : ByteArray) (r6 : List dn5) (h : v_impl_verifier_effect TP (fun a b => a = r ∧ b = os) n1 n2 l3 n4 s5 r6) : TP n_impl_verifier_effect [(.one (.ptrB 0 0)), (.agg [cI n1, cI n2])] [.box [.sl tI l3, cI n4, .str s5, .row 1], .row t_impl_structure ty2 r6] r os :=
  fs_ Try.func59 h (G := [(n_impl_takes, ⟨(.one (.str)), false, true, none, [], []⟩)]) (H := ⟨[], [(5, ⟨[(0, (.one (.fix (.ptrB 0 0)))), (3, (.one (.fix (.ptrB 2 0)))), (7, (.one (.val (cI n1)))), (8, (.one (.bool)))], [.box [.val (.sl tI l3), .val (cI n4), .val (.str s5), .fix (.row 1)], .row t_impl_structure ty2, .box [.val (cI n1), .val (cI n2)]]⟩), (9, ⟨[(0, (.one (.fix (.ptrB 0 0)))), (3, (.one (.fix (.ptrB 2 0)))), (7, (.one (.val (cI n1)))), (12, (.one (.bool)))], [.box [.val (.sl tI l3), .val (cI n4), .val (.str s5), .fix (.row 1)], .row t_impl_structure ty2, .box [.val (cI n1), .val (cI n2)]]⟩), (15, ⟨[(0, (.one (.fix (.ptrB 0 0)))), (3, (.one (.fix (.ptrB 2 0)))), (7, (.one (.val (cI n1)))), (18, (.one (.bool)))], [.box [.val (.sl tI l3), .val (cI n4), .val (.str s5), .fix (.row 1)], .row t_impl_structure ty2, .box [.val (cI n1), .val (cI n2)]]⟩), (20, ⟨[(0, (.one (.fix (.ptrB 0 0)))), (3, (.one (.fix (.ptrB 2 0)))), (7, (.one (.val (cI n1)))), (22, (.one (.bool)))], [.box [.val (.sl tI l3), .val (cI n4), .val (.str s5), .fix (.row 1)], .row t_impl_structure ty2, .box [.val (cI n1), .val (cI n2)]]⟩), (23, ⟨[(0, (.one (.fix (.ptrB 0 0)))), (3, (.one (.fix (.ptrB 2 0)))), (7, (.one (.val (cI n1)))), (27, (.one (.bool)))], [.box [.val (.sl tI l3), .val (cI n4), .val (.str s5), .fix (.row 1)], .row t_impl_structure ty2, .box [.val (cI n1), .val (cI n2)]]⟩), (26, ⟨[(0, (.one (.fix (.ptrB 0 0)))), (3, (.one (.fix (.ptrB 2 0)))), (7, (.one (.val (cI n1)))), (30, (.one (.bool)))], [.box [.val (.sl tI l3), .val (cI n4), .val (.str s5), .fix (.row 1)], .row t_impl_structure ty2, .box [.val (cI n1), .val (cI n2)]]⟩)], ⟨[(0, (.agg [.str, .str]))], [.box [.sl tI, iS, .str, .fix (.row 1)], .row t_impl_structure ty2]⟩, [(32, [(0, [8]), (2, [8])])]⟩)
theorem r_impl_verifier_base (l1 : List Int) (n2 : Int) (s3 : ByteArray) (r4 : List dn5) (h : v_impl_verifier_base TP (fun a b => a = r ∧ b = os) l1 n2 s3 r4) : TP n_impl_verifier_base [(.one (.ptrB 0 0))] [.box [.sl tI l1, cI n2, .str s3, .row 1], .row t_impl_structure ty2 r4] r os :=
  fs_ Try.func60 h (G := []) (H := ⟨[], [], ⟨[(0, (.agg [iS]))], [.box [.sl tI, iS, .str, .fix (.row 1)], .row t_impl_structure ty2]⟩, [(3, [(0, []), (1, [])])]⟩)
theorem r_impl_verifier_nest (n1 n2 : Int) (l3 : List Int) (n4 : Int) (s5 : ByteArray) (r6 : List dn5) (h : v_impl_verifier_nest TP (fun a b => a = r ∧ b = os) n1 n2 l3 n4 s5 r6) : TP n_impl_verifier_nest [(.one (.ptrB 0 0)), (eI n1), (eI n2)] [.box [.sl tI l3, cI n4, .str s5, .row 1], .row t_impl_structure ty2 r6] r os :=
  fs_ Try.func61 h (G := []) (H := ⟨[], [(4, ⟨[(0, (.one (.fix (.ptrB 0 0)))), (1, (.one (.val (cI n1)))), (2, (.one (.val (cI n2)))), (8, (.one (.val (cI n2)))), (9, (.one (.bool)))], [.box [.val (.sl tI l3), .val (cI n4), .val (.str s5), .fix (.row 1)], .row t_impl_structure ty2]⟩), (9, ⟨[(0, (.one (.fix (.ptrB 0 0)))), (2, (.one (.val (cI n2)))), (36, (.one (.bool)))], [.box [.val (.sl tI l3), .val (cI n4), .val (.str s5), .fix (.row 1)], .row t_impl_structure ty2]⟩), (12, ⟨[(0, (.one (.fix (.ptrB 0 0)))), (2, (.one (.val (cI n2)))), (7, zI), (54, (.one (.bool)))], [.box [.val (.sl tI l3), .val (cI n4), .val (.str s5), .fix (.row 1)], .row t_impl_structure ty2]⟩)], ⟨[(0, (.agg [iS]))], [.box [.sl tI, iS, .str, .fix (.row 2)], .dead, .row t_impl_structure ty2]⟩, [(6, [(0, [15, 18])]), (13, [(0, []), (1, [])])]⟩)
theorem r_impl_verifier_step (n1 n2 n3 : Int) (l4 : List Int) (n5 : Int) (s6 : ByteArray) (r7 : List dn5) (h : v_impl_verifier_step TP (fun a b => a = r ∧ b = os) n1 n2 n3 l4 n5 s6 r7) : TP n_impl_verifier_step [(.one (.ptrB 0 0)), (eI n1), (.agg [cI n2, cI n3])] [.box [.sl tI l4, cI n5, .str s6, .row 1], .row t_impl_structure ty2 r7] r os :=
  fs_ Try.func39 h (G := [(n_impl_verifier_effect, ⟨(.tup [(false, [.str]), (false, [.str])]), false, false, (some [.box [.sl tI, iS, .str, .fix (.row 1)], .row t_impl_structure ty2]), [], []⟩), (n_impl_verifier_base, ⟨(.one (.int .i64)), false, false, none, [], []⟩), (n_impl_verifier_nest, ⟨(.one (.int .i64)), false, false, (some [.box [.sl tI, iS, .str, .fix (.row 2)], .dead]), [.row t_impl_structure ty2], []⟩)]) (H := ⟨[], [(5, ⟨[(0, (.one (.fix (.ptrB 0 0)))), (1, (.one (.val (cI n1)))), (5, (.one (.fix (.ptrB 2 0))))], [.box [.val (.sl tI l4), .val (cI n5), .val (.str s6), .fix (.row 1)], .row t_impl_structure ty2, .box [.val (cI n2), .val (cI n3)]]⟩), (2, ⟨[(0, (.one (.fix (.ptrB 0 0)))), (1, (.one (.val (cI n1)))), (5, (.one (.fix (.ptrB 2 0)))), (10, (.one (.bool)))], [.box [.val (.sl tI l4), .val (cI n5), .val (.str s6), .fix (.row 1)], .row t_impl_structure ty2, .box [.val (cI n2), .val (cI n3)]]⟩)], ⟨[(0, (.agg [iS]))], [.box [.sl tI, iS, .str, .fix (.row 2)], .dead, .row t_impl_structure ty2]⟩, [(1, [(0, []), (2, [])]), (3, [(0, []), (2, [])])]⟩)
theorem r_impl_verify (l1 : List dn4) (l2 : List Int) (n3 : Int) (h : v_impl_verify TP (fun a b => a = r ∧ b = os) l1 l2 n3) : TP n_impl_verify [(.one (.sl ty1 l1)), (.one (.sl tI l2)), (eI n3)] [] r os :=
  fs_ Try.func18 h (G := [(n_impl_verifier_step, ⟨(.one (.int .i64)), false, false, (some [.box [.sl tI, iS, .str, .fix (.row 2)], .dead]), [.row t_impl_structure ty2], []⟩)]) (H := ⟨[(3, ⟨[(0, (.one (.val (.sl ty1 l1)))), (9, (.one (.fix (.ptrB 0 0)))), (10, (.one (.fix (.row 1)))), (19, (.one (.val (.sl ty1 l1)))), (20, (.one (.val (cI (List.length l1 : Int))))), (21, zI)], [.box [.sl tI, iS, .str, .fix (.row 2)], .row t_string .str, .row t_impl_structure ty2]⟩)], [(10, ⟨[(0, (.one (.val (.sl ty1 l1)))), (9, (.one (.fix (.ptrB 0 0)))), (10, (.one (.fix (.row 1))))], [.box [.sl tI, iS, .str, .fix (.row 2)], .row t_string .str, .row t_impl_structure ty2]⟩)], ⟨[(0, (.agg [.fix (.row 0), iS, iS]))], [.row t_string .str]⟩, [(11, [(0, []), (2, [])])]⟩)
theorem r_impl_VerifyCode (l1 : List dn4) (l2 : List Int) (n3 : Int) (h : v_impl_VerifyCode TP (fun a b => a = r ∧ b = os) l1 l2 n3) : TP n_impl_VerifyCode [(.one (.sl ty1 l1)), (.one (.sl tI l2)), (eI n3)] [] r os :=
  fs_ Try.func6 h (G := [g20, g21]) (H := ⟨[], [], ⟨[(0, (.agg [iS, iS]))], []⟩, []⟩)
theorem r_spec_l01In (n1 n2 n3 : Int) (h : v_spec_l01In TP (fun a b => a = r ∧ b = os) n1 n2 n3) : TP n_spec_l01In [(eI n1), (eI n2), (eI n3)] [] r os :=
  fs_ Try.func26 h (G := []) (H := ⟨[], [], ⟨[(0, (.agg [.bool]))], []⟩, []⟩)
theorem r_spec_l03Kind (n1 : Int) (h : v_spec_l03Kind TP (fun a b => a = r ∧ b = os) n1) : TP n_spec_l03Kind [(eI n1)] [] r os :=
  fs_ Try.func62 h (G := [g22]) (H := ⟨[], [], ⟨[(0, (.agg [.bool]))], []⟩, []⟩)
theorem r_spec_l04Kinds (l1 : List Int) (h : v_spec_l04Kinds TP (fun a b => a = r ∧ b = os) l1) : TP n_spec_l04Kinds [(.one (.sl tI l1))] [] r os :=
  fs_ Try.func40 h (G := [(n_spec_l03Kind, sB)]) (H := ⟨[(4, ⟨[(0, (.one (.val (.sl tI l1)))), (3, zI)], []⟩)], [], ⟨[(0, (.agg [.bool]))], []⟩, []⟩)
theorem r_spec_l02Op (n1 : Int) (h : v_spec_l02Op TP (fun a b => a = r ∧ b = os) n1) : TP n_spec_l02Op [(eI n1)] [] r os :=
  fs_ Try.func72 h (G := [g22]) (H := ⟨[], [], ⟨[(0, (.agg [.bool]))], []⟩, []⟩)
theorem r_spec_l02OK (n1 n2 : Int) (h : v_spec_l02OK TP (fun a b => a = r ∧ b = os) n1 n2) : TP n_spec_l02OK [(.agg [cI n1, cI n2])] [] r os :=
  fs_ Try.func53 h (G := [g22, g13, (n_spec_l02Op, sB)]) (H := ⟨[], [], ⟨[(0, (.agg [.bool]))], []⟩, []⟩)
theorem r_spec_l02All (l1 : List dn4) (h : v_spec_l02All TP (fun a b => a = r ∧ b = os) l1) : TP n_spec_l02All [(.one (.sl ty1 l1))] [] r os :=
  fs_ Try.func32 h (G := [(n_spec_l02OK, sB)]) (H := ⟨[(2, ⟨[(0, (.one (.val (.sl ty1 l1)))), (3, zI)], []⟩)], [], ⟨[(0, (.agg [.bool]))], []⟩, []⟩)
theorem r_spec_l04Ask (l1 : List dn4) (l2 : List Int) (n3 : Int) (h : v_spec_l04Ask TP (fun a b => a = r ∧ b = os) l1 l2 n3) : TP n_spec_l04Ask [(.one (.sl ty1 l1)), (.one (.sl tI l2)), (eI n3)] [] r os :=
  fs_ Try.func19 h (G := [g22, g23, (n_spec_l04Kinds, sB)]) (H := ⟨[], [], ⟨[(0, (.agg [iS]))], []⟩, []⟩)
theorem r_spec_l04Sign (n1 n2 : Int) (l3 : List Int) (h : v_spec_l04Sign TP (fun a b => a = r ∧ b = os) n1 n2 l3) : TP n_spec_l04Sign [(.agg [cI n1, cI n2]), (.one (.sl tI l3))] [] r os :=
  fs_ Try.func43 h (G := [g10]) (H := ⟨[], [(5, ⟨[(1, (.one (.val (.sl tI l3)))), (2, (.one (.fix (.ptrB 0 0)))), (7, (.one (.val (cI n1)))), (8, (.one (.bool)))], [.box [.val (cI n1), .val (cI n2)]]⟩), (9, ⟨[(1, (.one (.val (.sl tI l3)))), (2, (.one (.fix (.ptrB 0 0)))), (7, (.one (.val (cI n1)))), (12, (.one (.bool)))], [.box [.val (cI n1), .val (cI n2)]]⟩), (15, ⟨[(1, (.one (.val (.sl tI l3)))), (2, (.one (.fix (.ptrB 0 0)))), (7, (.one (.val (cI n1)))), (18, (.one (.bool)))], [.box [.val (cI n1), .val (cI n2)]]⟩), (20, ⟨[(1, (.one (.val (.sl tI l3)))), (2, (.one (.fix (.ptrB 0 0)))), (7, (.one (.val (cI n1)))), (22, (.one (.bool)))], [.box [.val (cI n1), .val (cI n2)]]⟩), (23, ⟨[(1, (.one (.val (.sl tI l3)))), (2, (.one (.fix (.ptrB 0 0)))), (7, (.one (.val (cI n1)))), (27, (.one (.bool)))], [.box [.val (cI n1), .val (cI n2)]]⟩), (26, ⟨[(1, (.one (.val (.sl tI l3)))), (2, (.one (.fix (.ptrB 0 0)))), (7, (.one (.val (cI n1)))), (30, (.one (.bool)))], [.box [.val (cI n1), .val (cI n2)]]⟩)], ⟨[(0, (.agg [.str, .str]))], []⟩, []⟩)
theorem r_spec_l04Take (s1 s2 : ByteArray) (n3 : Int) (h : v_spec_l04Take TP (fun a b => a = r ∧ b = os) s1 s2 n3) : TP n_spec_l04Take [(eS s1), (eS s2), (eI n3)] [] r os :=
  fs_ Try.func44 h (G := []) (H := ⟨[], [], ⟨[(0, (.agg [.str, iS]))], []⟩, []⟩)
theorem r_spec_l04Walk_floor (s1 : ByteArray) (r2 : List dn6) (h : v_spec_l04Walk_floor TP (fun a b => a = r ∧ b = os) s1 r2) : TP n_spec_l04Walk_floor [(.one (.ptrB 0 0))] [.box [.str s1, .row 1], .row t_spec_l04Open ty3 r2] r os :=
  fs_ Try.func45 h (G := []) (H := ⟨[], [], ⟨[(0, (.agg [iS]))], [.box [.str, .fix (.row 1)], .row t_spec_l04Open ty3]⟩, [(3, [(0, []), (1, [])])]⟩)
theorem r_spec_l04Walk_nest (n1 n2 n3 : Int) (s4 : ByteArray) (r5 : List dn6) (h : v_spec_l04Walk_nest TP (fun a b => a = r ∧ b = os) n1 n2 n3 s4 r5) : TP n_spec_l04Walk_nest [(.one (.ptrB 0 0)), (.agg [cI n1, cI n2]), (eI n3)] [.box [.str s4, .row 1], .row t_spec_l04Open ty3 r5] r os :=
  fs_ Try.func46 h (G := []) (H := ⟨[], [(3, ⟨[(0, (.one (.fix (.ptrB 0 0)))), (2, (.one (.val (cI n3)))), (4, (.one (.fix (.ptrB 2 0)))), (7, (.one (.val (cI (List.length r5 : Int))))), (20, (.one (.bool)))], [.box [.val (.str s4), .fix (.row 1)], .row t_spec_l04Open ty3, .box [.val (cI n1), .val (cI n2)]]⟩), (9, ⟨[(0, (.one (.fix (.ptrB 0 0)))), (4, (.one (.fix (.ptrB 2 0)))), (7, (.one (.val (cI (List.length r5 : Int)))))], [.box [.val (.str s4), .fix (.row 1)], .row t_spec_l04Open ty3, .box [.val (cI n1), .val (cI n2)]]⟩)], ⟨[(0, (.agg [iS]))], [.box [.str, .fix (.row 2)], .dead, .row t_spec_l04Open ty3]⟩, [(5, [(0, [14, 17]), (2, [13, 14, 17])]), (9, [(0, []), (1, [])])]⟩)
theorem r_spec_l04Walk_step (n1 n2 n3 : Int) (l4 : List Int) (n5 : Int) (s6 : ByteArray) (r7 : List dn6) (h : v_spec_l04Walk_step TP (fun a b => a = r ∧ b = os) n1 n2 n3 l4 n5 s6 r7) : TP n_spec_l04Walk_step [(.one (.ptrB 0 0)), (.agg [cI n1, cI n2]), (eI n3), (.one (.sl tI l4)), (eI n5)] [.box [.str s6, .row 1], .row t_spec_l04Open ty3 r7] r os :=
  fs_ Try.func27 h (G := [g22, (n_spec_l04Sign, ⟨(.tup [(false, [.str]), (false, [.str])]), false, true, none, [], []⟩), (n_spec_l04Take, ⟨(.tup [(false, [.str]), (false, [iS])]), false, true, none, [], []⟩), (n_spec_l04Walk_floor, sI), (n_spec_l04Walk_nest, ⟨(.one (.int .i64)), false, true, (some [.box [.str, .fix (.row 2)], .dead]), [.row t_spec_l04Open ty3], []⟩)]) (H := ⟨[], [(3, ⟨[(0, (.one (.fix (.ptrB 0 0)))), (2, (.one (.val (cI n3)))), (3, (.one (.val (.sl tI l4)))), (4, (.one (.val (cI n5)))), (6, (.one (.fix (.ptrB 2 0))))], [.box [.val (.str s6), .fix (.row 1)], .row t_spec_l04Open ty3, .box [.val (cI n1), .val (cI n2)]]⟩), (5, ⟨[(0, (.one (.fix (.ptrB 0 0)))), (2, (.one (.val (cI n3)))), (3, (.one (.val (.sl tI l4)))), (6, (.one (.fix (.ptrB 2 0))))], [.box [.val (.str s6), .fix (.row 1)], .row t_spec_l04Open ty3, .box [.val (cI n1), .val (cI n2)]]⟩), (7, ⟨[(0, (.one (.fix (.ptrB 0 0)))), (2, (.one (.val (cI n3)))), (6, (.one (.fix (.ptrB 2 0)))), (12, (.one (.str))), (13, (.one (.str))), (14, zI)], [.box [.val (.str s6), .fix (.row 1)], .row t_spec_l04Open ty3, .box [.val (cI n1), .val (cI n2)]]⟩)], ⟨[(0, (.agg [iS]))], [.box [.str, .fix (.row 2)], .dead, .row t_spec_l04Open ty3]⟩, [(6, [(999999, [3])])]⟩)
theorem r_spec_l04Verify (l1 : List dn4) (l2 : List Int) (n3 : Int) (h : v_spec_l04Verify TP (fun a b => a = r ∧ b = os) l1 l2 n3) : TP n_spec_l04Verify [(.one (.sl ty1 l1)), (.one (.sl tI l2)), (eI n3)] [] r os :=
  fs_ Try.func20 h (G := [g24]) (H := ⟨[(3, ⟨[(0, (.one (.val (.sl ty1 l1)))), (1, (.one (.val (.sl tI l2)))), (2, (.one (.val (cI n3)))), (8, (.one (.fix (.ptrB 0 0)))), (9, zI)], [.box [.str, .fix (.row 1)], .row t_spec_l04Open ty3]⟩)], [(8, ⟨[(0, (.one (.val (.sl ty1 l1)))), (8, (.one (.fix (.ptrB 0 0))))], [.box [.str, .fix (.row 1)], .row t_spec_l04Open ty3]⟩)], ⟨[(0, (.agg [iS, iS]))], []⟩, [(9, [(0, []), (1, [])])]⟩)
theorem r_spec_VerifyCode (l1 : List dn4) (l2 : List Int) (n3 : Int) (h : v_spec_VerifyCode TP (fun a b => a = r ∧ b = os) l1 l2 n3) : TP n_spec_VerifyCode [(.one (.sl ty1 l1)), (.one (.sl tI l2)), (eI n3)] [] r os :=
  fs_ Try.func7 h (G := [g25, g26]) (H := ⟨[], [], ⟨[(0, (.agg [iS, iS]))], []⟩, []⟩)
theorem r_spec_RightCode (l1 l2 : List Int) (n3 : Int) (h : v_spec_RightCode TP (fun a b => a = r ∧ b = os) l1 l2 n3) : TP n_spec_RightCode [(.one (.sl (.int .u8) l1)), (.one (.sl tI l2)), (eI n3)] [] r os :=
  fs_ Try.func8 h (G := [g3, g14]) (H := ⟨[], [], ⟨[(0, (.agg [.fix (.row 0)]))], [.row t_impl_Instr ty1]⟩, []⟩)
theorem r_strings_Clone (s1 : ByteArray) (h : v_strings_Clone TP (fun a b => a = r ∧ b = os) s1) : TP n_strings_Clone [(eS s1)] [] r os :=
  fs_ Try.func25 h (G := [(n_internal_stringslite_Clone, ⟨(.one (.str)), false, true, none, [], []⟩)]) (H := ⟨[], [], ⟨[(0, (.agg [.str]))], []⟩, []⟩)
theorem r_impl_StackAt (l1 : List dn4) (l2 : List Int) (n3 n4 : Int) (h : v_impl_StackAt TP (fun a b => a = r ∧ b = os) l1 l2 n3 n4) : TP n_impl_StackAt [(.one (.sl ty1 l1)), (.one (.sl tI l2)), (eI n3), (eI n4)] [] r os :=
  fs_ Try.func9 h (G := [g20, g21, g18, g15, g16, (n_strings_Clone, ⟨(.one (.str)), false, true, none, [], []⟩)]) (H := ⟨[], [], ⟨[(0, (.agg [.str, iS]))], []⟩, []⟩)
theorem r_spec_StackAt (l1 : List dn4) (l2 : List Int) (n3 n4 : Int) (h : v_spec_StackAt TP (fun a b => a = r ∧ b = os) l1 l2 n3 n4) : TP n_spec_StackAt [(.one (.sl ty1 l1)), (.one (.sl tI l2)), (eI n3), (eI n4)] [] r os :=
  fs_ Try.func10 h (G := [g25, g26, g22, g24]) (H := ⟨[(13, ⟨[(0, (.one (.val (.sl ty1 l1)))), (1, (.one (.val (.sl tI l2)))), (2, (.one (.val (cI n3)))), (3, (.one (.val (cI n4)))), (13, (.one (.fix (.ptrB 0 0)))), (14, zI)], [.box [.str, .fix (.row 1)], .row t_spec_l04Open ty3]⟩)], [], ⟨[(0, (.agg [.str, iS]))], []⟩, []⟩)
theorem r_impl_callsOf (l1 : List dn4) (h : v_impl_callsOf TP (fun a b => a = r ∧ b = os) l1) : TP n_impl_callsOf [(.one (.sl ty1 l1))] [] r os :=
  fs_ Try.func31 h (G := [(n_slices_Sort_int_int, ⟨(.tup []), true, false, (some [.row t_int tI]), [], []⟩), (n_slices_Compact_int_int, ⟨(.one (.win 0)), true, false, (some [.row t_int tI]), [], []⟩)]) (H := ⟨[(3, ⟨[(3, (.one (.fix (.row 0)))), (7, (.one (.val (.sl ty1 l1)))), (8, (.one (.val (cI (List.length l1 : Int))))), (9, zI)], [.row t_int tI]⟩)], [], ⟨[(0, (.agg [.win 0]))], [.row t_int tI]⟩, []⟩)
theorem r_impl_CallsOf (l1 : List dn4) (h : v_impl_CallsOf TP (fun a b => a = r ∧ b = os) l1) : TP n_impl_CallsOf [(.one (.sl ty1 l1))] [] r os :=
  fs_ Try.func11 h (G := [g18, g15, g19, g17, (n_impl_callsOf, ⟨(.one (.win 0)), false, true, none, [.row t_int tI], []⟩)]) (H := ⟨[], [], ⟨[(0, (.agg [.win 0, iS]))], [.row t_int tI]⟩, []⟩)
theorem r_spec_CallsOf (l1 : List dn4) (h : v_spec_CallsOf TP (fun a b => a = r ∧ b = os) l1) : TP n_spec_CallsOf [(.one (.sl ty1 l1))] [] r os :=
  fs_ Try.func12 h (G := [g23]) (H := ⟨[(9, ⟨[(0, (.one (.val (.sl ty1 l1)))), (4, (.one (.fix (.row 0)))), (5, zI)], [.row t_int tI]⟩), (12, ⟨[(0, (.one (.val (.sl ty1 l1)))), (4, (.one (.fix (.row 0)))), (5, zI), (6, zI)], [.row t_int tI]⟩)], [], ⟨[(0, (.agg [.fix (.row 0), iS]))], [.row t_int tI]⟩, []⟩)
theorem r_laws_sameInts (l1 l2 : List Int) (h : v_laws_sameInts TP (fun a b => a = r ∧ b = os) l1 l2) : TP n_laws_sameInts [(.one (.sl tI l1)), (.one (.sl tI l2))] [] r os :=
  fs_ Try.func13 h (G := []) (H := ⟨[(4, ⟨[(0, (.one (.val (.sl tI l1)))), (1, (.one (.val (.sl tI l2)))), (5, zI)], []⟩)], [], ⟨[(0, (.agg [.bool]))], []⟩, []⟩)
theorem r_laws_FnVerify (l1 l2 : List Int) (h : v_laws_FnVerify TP (fun a b => a = r ∧ b = os) l1 l2) : TP n_laws_FnVerify [(.one (.sl (.int .u8) l1)), (.one (.sl (.int .u8) l2))] [] r os :=
  fs_ Try.func3 h (G := [(n_spec_KindsDrawn, ⟨(.one (.fix (.row 0))), false, true, none, [.row t_int tI], []⟩), (n_spec_DoubtCode, ⟨(.one (.win 0)), false, true, none, [.row t_impl_Instr ty1], []⟩), (n_impl_VerifyCode, ⟨(.tup [(false, [iS]), (false, [iS])]), false, true, none, [], [5, 5, 1]⟩), (n_impl_VerifyCode, ⟨(.tup [(false, [iS]), (false, [iS])]), false, true, none, [], [6, 5, 1]⟩), (n_spec_VerifyCode, ⟨(.tup [(false, [iS]), (false, [iS])]), false, true, none, [], []⟩), (n_spec_RightCode, ⟨(.one (.fix (.row 0))), false, true, none, [.row t_impl_Instr ty1], []⟩), (n_impl_StackAt, ⟨(.tup [(false, [.str]), (false, [iS])]), false, true, none, [], []⟩), (n_spec_StackAt, ⟨(.tup [(false, [.str]), (false, [iS])]), false, true, none, [], []⟩), (n_impl_CallsOf, ⟨(.tup [(false, [.win 0]), (false, [iS])]), false, true, none, [.row t_int tI], []⟩), (n_spec_CallsOf, ⟨(.tup [(false, [.fix (.row 0)]), (false, [iS])]), false, true, none, [.row t_int tI], []⟩), (n_laws_sameInts, sB)]) (H := ⟨[(14, ⟨[(5, (.one (.fix (.row 0)))), (11, (.one (.fix (.row 1)))), (14, zI)], [.row t_int tI, .row t_impl_Instr ty1]⟩)], [(20, ⟨[(11, (.one (.fix (.row 0))))], [.row t_impl_Instr ty1]⟩)], ⟨[(0, (.agg [.bool]))], []⟩, []⟩)
end Go.Ry
