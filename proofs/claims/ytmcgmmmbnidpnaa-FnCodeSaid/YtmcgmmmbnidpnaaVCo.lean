/- What the functions come to, as the evaluator has it: definitions. No condition. -/
import Derived.Test.YtmcgmmmbnidpnaaRy36
set_option linter.unusedVariables false
namespace Go.Ry
@[reducible] def n_laws_FnCode : Nat := 3
@[reducible] def n_spec_SomeCode : Nat := 4
@[reducible] def n_laws_at : Nat := 5
@[reducible] def n_impl_CodeText : Nat := 6
@[reducible] def n_spec_CodeText : Nat := 7
@[reducible] def n_impl_ReadCode : Nat := 8
@[reducible] def n_laws_sameCode : Nat := 9
@[reducible] def n_spec_l00Source : Nat := 10
@[reducible] def n_spec_l00Src_someCode : Nat := 11
@[reducible] def n_impl_first : Nat := 12
@[reducible] def n_impl_many_impl_Instr : Nat := 13
@[reducible] def n_impl_when : Nat := 14
@[reducible] def n_impl_all_impl_Instr : Nat := 15
@[reducible] def n_impl_InstrOK : Nat := 16
@[reducible] def n_impl_codeText : Nat := 17
@[reducible] def n_spec_l02All : Nat := 18
@[reducible] def n_spec_l02Bytes : Nat := 19
@[reducible] def n_impl_long : Nat := 20
@[reducible] def n_impl_readCode : Nat := 21
@[reducible] def n_spec_l00Src_instr : Nat := 22
@[reducible] def n_slices_ContainsFunc_impl_Instr_impl_Instr : Nat := 23
@[reducible] def n_impl_all_impl_Instr_1 : Nat := 24
@[reducible] def n_impl_rangeOf : Nat := 25
@[reducible] def n_impl_isOp : Nat := 26
@[reducible] def n_impl_within : Nat := 27
@[reducible] def n_strings_Builder_WriteByte : Nat := 28
@[reducible] def n_impl_hasOperand : Nat := 29
@[reducible] def n_strings_Builder_WriteString : Nat := 30
@[reducible] def n_impl_put : Nat := 31
@[reducible] def n_strings_Builder_String : Nat := 32
@[reducible] def n_spec_l02OK : Nat := 33
@[reducible] def n_spec_l01Put : Nat := 34
@[reducible] def n_spec_l02Has : Nat := 35
@[reducible] def n_impl_take : Nat := 36
@[reducible] def n_spec_l00Src_next : Nat := 37
@[reducible] def n_spec_l00Src_value : Nat := 38
@[reducible] def n_slices_IndexFunc_impl_Instr_impl_Instr : Nat := 39
@[reducible] def n_strings_Builder_copyCheck : Nat := 40
@[reducible] def n_spec_l02Op : Nat := 41
@[reducible] def n_spec_l01In : Nat := 42
@[reducible] def n_spec_l00Src_byte : Nat := 43
@[reducible] def t_uint8 : Nat := 5
@[reducible] def t_impl_Instr : Nat := 38
@[reducible] def t_strings_Builder : Nat := 55
@[reducible] def ty1 : Ty := .pair (.int .i64) (.pair (.int .i64) .unit)
@[reducible] def eqC (l : List Cell) : Prop := l = l
abbrev dn2 := Int × Int × Unit
@[reducible] def df3 := ((0 : Int), ((0 : Int), ()))
/- loop.example/g00684/laws.at -/
def v_laws_at (C : Calls_) (K : Ent → List Ob → Prop) (l1 : List Int) (n2 : Int) (n3 : Int) : Prop :=
  (ifB (decide (n3 ≤ (1 : Int))) (K (eI 0) []) (ifB ((List.length l1 : Int) == (0 : Int)) (n3 ≠ 0 ∧ K (eI (Int.tmod (wI (n2 * (7 : Int))) n3)) []) ((List.length l1 : Int) ≠ 0 ∧ ((0 ≤ (Int.tmod n2 (List.length l1 : Int)) ∧ (Int.tmod n2 (List.length l1 : Int)) < List.length l1) ∧ ((List.length l1 : Int) ≠ 0 ∧ ((0 ≤ (Int.tmod (wI (n2 + (1 : Int))) (List.length l1 : Int)) ∧ (Int.tmod (wI (n2 + (1 : Int))) (List.length l1 : Int)) < List.length l1) ∧ ((List.length l1 : Int) ≠ 0 ∧ (n3 ≠ 0 ∧ K (eI (Int.tmod (wI ((wI ((wI ((wI (l1.getD (Int.toNat (Int.tmod n2 (List.length l1 : Int))) (0 : Int))) * (31 : Int))) + (wI (l1.getD (Int.toNat (Int.tmod (wI (n2 + (1 : Int))) (List.length l1 : Int))) (0 : Int))))) + (wI (Int.tdiv n2 (List.length l1 : Int))))) n3)) []))))))))
/- loop.example/g00684/spec.l00Source -/
def v_spec_l00Source (C : Calls_) (K : Ent → List Ob → Prop) (l1 : List Int) : Prop :=
  ((1000 : Int) ≠ 0 ∧ K (.one (.ptrB 0 0)) [.box [.sl (.int .u8) l1, cI 0, cI (Int.tmod (List.length l1 : Int) (1000 : Int))]])
/- (*loop.example/g00684/spec.l00Src).byte -/
def v_spec_l00Src_byte (C : Calls_) (K : Ent → List Ob → Prop) (l1 : List Int) (n2 : Int) (n3 : Int) : Prop :=
  (ifB (decide ((wI (n2 + (1 : Int))) ≤ (List.length l1 : Int))) ((0 ≤ (wI ((wI (n2 + (1 : Int))) - (1 : Int))) ∧ (wI ((wI (n2 + (1 : Int))) - (1 : Int))) < List.length l1) ∧ ((2147483648 : Int) ≠ 0 ∧ ((0 ≤ (wI ((wI (n2 + (1 : Int))) - (1 : Int))) ∧ (wI ((wI (n2 + (1 : Int))) - (1 : Int))) < List.length l1) ∧ K (eI (wI (l1.getD (Int.toNat (wI ((wI (n2 + (1 : Int))) - (1 : Int)))) (0 : Int)))) [.box [.sl (.int .u8) l1, cI (wI (n2 + (1 : Int))), cI (Int.tmod (wI ((wI ((wI (n3 * (31 : Int))) + (wI (l1.getD (Int.toNat (wI ((wI (n2 + (1 : Int))) - (1 : Int)))) (0 : Int))))) + (7 : Int))) (2147483648 : Int))]]))) (ifB (decide ((wI (n2 + (1 : Int))) > (3000 : Int))) (K (eI 0) [.box [.sl (.int .u8) l1, cI (wI (n2 + (1 : Int))), cI n3]]) ((2147483648 : Int) ≠ 0 ∧ ((65536 : Int) ≠ 0 ∧ ((256 : Int) ≠ 0 ∧ K (eI (Int.tmod (wI (Int.tdiv (Int.tmod (wI ((wI (n3 * (1103515245 : Int))) + (12345 : Int))) (2147483648 : Int)) (65536 : Int))) (256 : Int))) [.box [.sl (.int .u8) l1, cI (wI (n2 + (1 : Int))), cI (Int.tmod (wI ((wI (n3 * (1103515245 : Int))) + (12345 : Int))) (2147483648 : Int))]])))))
/- (*loop.example/g00684/spec.l00Src).next -/
def v_spec_l00Src_next (C : Calls_) (K : Ent → List Ob → Prop) (n1 : Int) (l2 : List Int) (n3 : Int) (n4 : Int) : Prop :=
  (ifB (decide (n1 ≤ (1 : Int))) (K (eI 0) [.box [.sl (.int .u8) l2, cI n3, cI n4]]) (ifB (decide (n1 ≤ (256 : Int))) (∃ (n5 : Int) (l6 : List Int) (n7 n8 : Int), C n_spec_l00Src_byte [(.one (.ptrB 0 0))] [.box [.sl (.int .u8) l2, cI n3, cI n4]] (eI n5) [.box [.sl (.int .u8) l6, cI n7, cI n8]] ∧ (n1 ≠ 0 ∧ K (eI (Int.tmod n5 n1)) [.box [.sl (.int .u8) l6, cI n7, cI n8]])) (∃ (n9 : Int) (l10 : List Int) (n11 n12 : Int), C n_spec_l00Src_byte [(.one (.ptrB 0 0))] [.box [.sl (.int .u8) l2, cI n3, cI n4]] (eI n9) [.box [.sl (.int .u8) l10, cI n11, cI n12]] ∧ (∃ (n13 : Int) (l14 : List Int) (n15 n16 : Int), C n_spec_l00Src_byte [(.one (.ptrB 0 0))] [.box [.sl (.int .u8) l10, cI n11, cI n12]] (eI n13) [.box [.sl (.int .u8) l14, cI n15, cI n16]] ∧ (∃ (n17 : Int) (l18 : List Int) (n19 n20 : Int), C n_spec_l00Src_byte [(.one (.ptrB 0 0))] [.box [.sl (.int .u8) l14, cI n15, cI n16]] (eI n17) [.box [.sl (.int .u8) l18, cI n19, cI n20]] ∧ (n1 ≠ 0 ∧ K (eI (Int.tmod (wI ((wI ((wI (n9 * (65536 : Int))) + (wI (n13 * (256 : Int))))) + n17)) n1)) [.box [.sl (.int .u8) l18, cI n19, cI n20]]))))))
/- loop.example/g00684/spec.l02Has -/
def v_spec_l02Has (C : Calls_) (K : Ent → List Ob → Prop) (n1 : Int) : Prop :=
  (ifB (n1 == (1 : Int)) (K (.tup [(false, [cI (-2147483648)]), (false, [cI 2147483647]), (false, [.bool true])]) []) (ifB (n1 == (2 : Int)) (K (.tup [(false, [cI 0]), (false, [cI 1]), (false, [.bool true])]) []) (∃ J2 : Bool → Prop, (ifB (n1 == (3 : Int)) (eqC [cI n1] ∧ J2 (n1 == (3 : Int))) (eqC [cI n1] ∧ J2 (n1 == (4 : Int)))) ∧ ∀ b3 : Bool, J2 b3 → (ifB b3 (K (.tup [(false, [cI 0]), (false, [cI 15]), (false, [.bool true])]) []) (∃ J4 : Bool → Prop, (ifB (n1 == (5 : Int)) (eqC [cI n1] ∧ J4 (n1 == (5 : Int))) (ifB (n1 == (6 : Int)) (eqC [cI n1] ∧ J4 (n1 == (6 : Int))) (ifB (n1 == (7 : Int)) (eqC [cI n1] ∧ J4 (n1 == (7 : Int))) (eqC [cI n1] ∧ J4 (n1 == (8 : Int)))))) ∧ ∀ b5 : Bool, J4 b5 → (ifB b5 (K (.tup [(false, [cI 0]), (false, [cI 7]), (false, [.bool true])]) []) (∃ J6 : Bool → Prop, (ifB (n1 == (19 : Int)) (eqC [cI n1] ∧ J6 (n1 == (19 : Int))) (eqC [cI n1] ∧ J6 (n1 == (20 : Int)))) ∧ ∀ b7 : Bool, J6 b7 → (ifB b7 (K (.tup [(false, [cI 0]), (false, [cI 7]), (false, [.bool true])]) []) (ifB (n1 == (24 : Int)) (K (.tup [(false, [cI 1]), (false, [cI 20]), (false, [.bool true])]) []) (ifB (n1 == (26 : Int)) (K (.tup [(false, [cI 0]), (false, [cI 5]), (false, [.bool true])]) []) (K (.tup [(false, [cI 0]), (false, [cI 0]), (false, [.bool false])]) [])))))))))))
/- (*loop.example/g00684/spec.l00Src).value -/
def v_spec_l00Src_value (C : Calls_) (K : Ent → List Ob → Prop) (l1 : List Int) (n2 : Int) (n3 : Int) : Prop :=
  (∃ (n4 : Int) (l5 : List Int) (n6 n7 : Int), C n_spec_l00Src_next [(.one (.ptrB 0 0)), (eI 8)] [.box [.sl (.int .u8) l1, cI n2, cI n3]] (eI n4) [.box [.sl (.int .u8) l5, cI n6, cI n7]] ∧ (ifB (n4 == (0 : Int)) (∃ (n8 : Int) (l9 : List Int) (n10 n11 : Int), C n_spec_l00Src_next [(.one (.ptrB 0 0)), (eI 3)] [.box [.sl (.int .u8) l5, cI n6, cI n7]] (eI n8) [.box [.sl (.int .u8) l9, cI n10, cI n11]] ∧ K (eI (wI ((2147483647 : Int) - n8))) [.box [.sl (.int .u8) l9, cI n10, cI n11]]) (ifB (n4 == (1 : Int)) (∃ (n12 : Int) (l13 : List Int) (n14 n15 : Int), C n_spec_l00Src_next [(.one (.ptrB 0 0)), (eI 3)] [.box [.sl (.int .u8) l5, cI n6, cI n7]] (eI n12) [.box [.sl (.int .u8) l13, cI n14, cI n15]] ∧ K (eI (wI (((-2147483648) : Int) + n12))) [.box [.sl (.int .u8) l13, cI n14, cI n15]]) (ifB (n4 == (2 : Int)) (∃ (n16 : Int) (l17 : List Int) (n18 n19 : Int), C n_spec_l00Src_byte [(.one (.ptrB 0 0))] [.box [.sl (.int .u8) l5, cI n6, cI n7]] (eI n16) [.box [.sl (.int .u8) l17, cI n18, cI n19]] ∧ (∃ (n20 : Int) (l21 : List Int) (n22 n23 : Int), C n_spec_l00Src_byte [(.one (.ptrB 0 0))] [.box [.sl (.int .u8) l17, cI n18, cI n19]] (eI n20) [.box [.sl (.int .u8) l21, cI n22, cI n23]] ∧ (∃ (n24 : Int) (l25 : List Int) (n26 n27 : Int), C n_spec_l00Src_byte [(.one (.ptrB 0 0))] [.box [.sl (.int .u8) l21, cI n22, cI n23]] (eI n24) [.box [.sl (.int .u8) l25, cI n26, cI n27]] ∧ (∃ (n28 : Int) (l29 : List Int) (n30 n31 : Int), C n_spec_l00Src_byte [(.one (.ptrB 0 0))] [.box [.sl (.int .u8) l25, cI n26, cI n27]] (eI n28) [.box [.sl (.int .u8) l29, cI n30, cI n31]] ∧ K (eI (wI ((wI ((wI ((wI ((wI ((wI (n16 * (16777216 : Int))) + (wI (n20 * (65536 : Int))))) + (wI (n24 * (256 : Int))))) + n28)) - (2147483647 : Int))) - (1 : Int)))) [.box [.sl (.int .u8) l29, cI n30, cI n31]])))) (ifB (n4 == (3 : Int)) (∃ (n32 : Int) (l33 : List Int) (n34 n35 : Int), C n_spec_l00Src_next [(.one (.ptrB 0 0)), (eI 300)] [.box [.sl (.int .u8) l5, cI n6, cI n7]] (eI n32) [.box [.sl (.int .u8) l33, cI n34, cI n35]] ∧ K (eI (wI (0 - n32))) [.box [.sl (.int .u8) l33, cI n34, cI n35]]) (∃ (n36 : Int) (l37 : List Int) (n38 n39 : Int), C n_spec_l00Src_next [(.one (.ptrB 0 0)), (eI 200)] [.box [.sl (.int .u8) l5, cI n6, cI n7]] (eI n36) [.box [.sl (.int .u8) l37, cI n38, cI n39]] ∧ K (eI n36) [.box [.sl (.int .u8) l37, cI n38, cI n39]]))))))
/- (*loop.example/g00684/spec.l00Src).instr -/
def v_spec_l00Src_instr (C : Calls_) (K : Ent → List Ob → Prop) (l1 : List Int) (n2 : Int) (n3 : Int) : Prop :=
  (∃ (n4 : Int) (l5 : List Int) (n6 n7 : Int), C n_spec_l00Src_next [(.one (.ptrB 0 0)), (eI 26)] [.box [.sl (.int .u8) l1, cI n2, cI n3]] (eI n4) [.box [.sl (.int .u8) l5, cI n6, cI n7]] ∧ (∃ (n8 n9 : Int) (b10 : Bool), C n_spec_l02Has [(eI (wI ((1 : Int) + n4)))] [] (.tup [(false, [cI n8]), (false, [cI n9]), (false, [.bool b10])]) [] ∧ (ifB (!b10) (K (.agg [cI (wI ((1 : Int) + n4)), cI 0]) [.box [.sl (.int .u8) l5, cI n6, cI n7]]) (ifB ((wI ((1 : Int) + n4)) == (1 : Int)) (∃ (n11 : Int) (l12 : List Int) (n13 n14 : Int), C n_spec_l00Src_value [(.one (.ptrB 0 0))] [.box [.sl (.int .u8) l5, cI n6, cI n7]] (eI n11) [.box [.sl (.int .u8) l12, cI n13, cI n14]] ∧ K (.agg [cI (wI ((1 : Int) + n4)), cI n11]) [.box [.sl (.int .u8) l12, cI n13, cI n14]]) (∃ (n15 : Int) (l16 : List Int) (n17 n18 : Int), C n_spec_l00Src_next [(.one (.ptrB 0 0)), (eI (wI ((wI (n9 - n8)) + (1 : Int))))] [.box [.sl (.int .u8) l5, cI n6, cI n7]] (eI n15) [.box [.sl (.int .u8) l16, cI n17, cI n18]] ∧ K (.agg [cI (wI ((1 : Int) + n4)), cI (wI (n8 + n15))]) [.box [.sl (.int .u8) l16, cI n17, cI n18]])))))
/- (*loop.example/g00684/spec.l00Src).someCode -/
def v_spec_l00Src_someCode (C : Calls_) (K : Ent → List Ob → Prop) (n1 : Int) (l2 : List Int) (n3 : Int) (n4 : Int) : Prop :=
  (∃ I5 : Nat → Int → List Int → Int → Int → List dn2 → Prop, (∃ m, (eqC [cI n1] ∧ I5 m 0 l2 n3 n4 ([] : List dn2))) ∧ ∀ m6 : Nat, ∀ (n8 : Int) (l9 : List Int) (n10 n11 : Int) (r12 : List dn2), I5 m6 n8 l9 n10 n11 r12 → (ifB (decide (n8 < n1)) (∃ (n13 n14 : Int) (l15 : List Int) (n16 n17 : Int), C n_spec_l00Src_instr [(.one (.ptrB 0 0))] [.box [.sl (.int .u8) l9, cI n10, cI n11]] (.agg [cI n13, cI n14]) [.box [.sl (.int .u8) l15, cI n16, cI n17]] ∧ ((List.length r12 + List.length [(n13, (n14, ()))]) * 16 ≤ 140737488355328 ∧ (∃ m7, m7 < m6 ∧ (eqC [cI n1] ∧ I5 m7 (wI (n8 + (1 : Int))) l15 n16 n17 (r12 ++ [(n13, (n14, ()))]))))) (K (.one (.row 1)) [.box [.sl (.int .u8) l9, cI n10, cI n11], .row t_impl_Instr ty1 r12])))
/- loop.example/g00684/spec.SomeCode -/
def v_spec_SomeCode (C : Calls_) (K : Ent → List Ob → Prop) (l1 : List Int) (n2 : Int) : Prop :=
  (∃ (l3 : List Int) (n4 n5 : Int), C n_spec_l00Source [(.one (.sl (.int .u8) l1))] [] (.one (.ptrB 0 0)) [.box [.sl (.int .u8) l3, cI n4, cI n5]] ∧ (∃ (r6 : List dn2) (l7 : List Int) (n8 n9 : Int), C n_spec_l00Src_someCode [(.one (.ptrB 0 0)), (eI n2)] [.box [.sl (.int .u8) l3, cI n4, cI n5]] (.one (.row 1)) [.box [.sl (.int .u8) l7, cI n8, cI n9], .row t_impl_Instr ty1 r6] ∧ K (.one (.row 0)) [.row t_impl_Instr ty1 r6]))
/- loop.example/g00684/impl.when -/
def v_impl_when (C : Calls_) (K : Ent → List Ob → Prop) (b1 : Bool) (n2 : Int) : Prop :=
  (ifB b1 (K (eI n2) []) (K (eI 0) []))
/- loop.example/g00684/impl.many[loop.example/g00684/impl.Instr] -/
def v_impl_many_impl_Instr (C : Calls_) (K : Ent → List Ob → Prop) (l1 : List dn2) : Prop :=
  (∃ n2 : Int, C n_impl_when [(eB (decide ((List.length l1 : Int) > (4096 : Int)))), (eI 2)] [] (eI n2) [] ∧ K (eI n2) [])
/- loop.example/g00684/impl.rangeOf -/
def v_impl_rangeOf (C : Calls_) (K : Ent → List Ob → Prop) (n1 : Int) : Prop :=
  (ifB (n1 == (1 : Int)) (K (.tup [(false, [cI (-2147483648)]), (false, [cI 2147483647]), (false, [.bool true])]) []) (ifB (n1 == (2 : Int)) (K (.tup [(false, [cI 0]), (false, [cI 1]), (false, [.bool true])]) []) (∃ J2 : Bool → Prop, (ifB (n1 == (3 : Int)) (eqC [cI n1] ∧ J2 (n1 == (3 : Int))) (eqC [cI n1] ∧ J2 (n1 == (4 : Int)))) ∧ ∀ b3 : Bool, J2 b3 → (ifB b3 (K (.tup [(false, [cI 0]), (false, [cI 15]), (false, [.bool true])]) []) (∃ J4 : Bool → Prop, (ifB (n1 == (5 : Int)) (eqC [cI n1] ∧ J4 (n1 == (5 : Int))) (ifB (n1 == (6 : Int)) (eqC [cI n1] ∧ J4 (n1 == (6 : Int))) (ifB (n1 == (7 : Int)) (eqC [cI n1] ∧ J4 (n1 == (7 : Int))) (eqC [cI n1] ∧ J4 (n1 == (8 : Int)))))) ∧ ∀ b5 : Bool, J4 b5 → (ifB b5 (K (.tup [(false, [cI 0]), (false, [cI 7]), (false, [.bool true])]) []) (∃ J6 : Bool → Prop, (ifB (n1 == (19 : Int)) (eqC [cI n1] ∧ J6 (n1 == (19 : Int))) (eqC [cI n1] ∧ J6 (n1 == (20 : Int)))) ∧ ∀ b7 : Bool, J6 b7 → (ifB b7 (K (.tup [(false, [cI 0]), (false, [cI 7]), (false, [.bool true])]) []) (ifB (n1 == (24 : Int)) (K (.tup [(false, [cI 1]), (false, [cI 20]), (false, [.bool true])]) []) (ifB (n1 == (26 : Int)) (K (.tup [(false, [cI 0]), (false, [cI 5]), (false, [.bool true])]) []) (K (.tup [(false, [cI 0]), (false, [cI 0]), (false, [.bool false])]) [])))))))))))
/- loop.example/g00684/impl.within -/
def v_impl_within (C : Calls_) (K : Ent → List Ob → Prop) (n1 : Int) (n2 : Int) (n3 : Int) : Prop :=
  (ifB (decide (n1 ≥ n2)) (K (eB (decide (n1 ≤ n3))) []) (K (eB false) []))
/- loop.example/g00684/impl.isOp -/
def v_impl_isOp (C : Calls_) (K : Ent → List Ob → Prop) (n1 : Int) : Prop :=
  (∃ b2 : Bool, C n_impl_within [(eI n1), (eI 1), (eI 26)] [] (eB b2) [] ∧ K (eB b2) [])
/- loop.example/g00684/impl.InstrOK -/
def v_impl_InstrOK (C : Calls_) (K : Ent → List Ob → Prop) (n1 : Int) (n2 : Int) : Prop :=
  (∃ (n3 n4 : Int) (b5 : Bool), C n_impl_rangeOf [(eI n1)] [] (.tup [(false, [cI n3]), (false, [cI n4]), (false, [.bool b5])]) [] ∧ (∃ b6 : Bool, C n_impl_isOp [(eI n1)] [] (eB b6) [] ∧ (ifB b6 (∃ b7 : Bool, C n_impl_within [(eI n2), (eI n3), (eI n4)] [] (eB b7) [] ∧ K (eB b7) []) (K (eB false) []))))
/- loop.example/g00684/impl.all[loop.example/g00684/impl.Instr]$1 -/
def v_impl_all_impl_Instr_1 (C : Calls_) (K : Ent → List Ob → Prop) (n1 : Int) (n2 : Int) : Prop :=
  (∃ b3 : Bool, C n_impl_InstrOK [(.agg [cI n1, cI n2])] [] (eB b3) [] ∧ K (eB (!b3)) [.box [.fn n_impl_InstrOK []]])
/- slices.IndexFunc[[]loop.example/g00684/impl.Instr,loop.example/g00684/impl.Instr] -/
def v_slices_IndexFunc_impl_Instr_impl_Instr (C : Calls_) (K : Ent → List Ob → Prop) (l1 : List dn2) : Prop :=
  (∃ I2 : Nat → Int → Prop, (∃ m, (eqC [.sl ty1 l1, cI (List.length l1 : Int)] ∧ I2 m 0)) ∧ ∀ m3 : Nat, ∀ n5 : Int, I2 m3 n5 → (ifB (decide (n5 < (List.length l1 : Int))) ((0 ≤ n5 ∧ n5 < List.length l1) ∧ (∃ b6 : Bool, C n_impl_all_impl_Instr_1 [(.agg [cI ((l1.getD (Int.toNat n5) df3).1), cI (((l1.getD (Int.toNat n5) df3).2).1)]), (.one (.ptrB 0 0))] [.box [.fn n_impl_InstrOK []]] (eB b6) [.box [.fn n_impl_InstrOK []]] ∧ (ifB b6 (K (eI n5) [.box [.fn n_impl_InstrOK []]]) (∃ m4, m4 < m3 ∧ (eqC [.sl ty1 l1, cI (List.length l1 : Int)] ∧ I2 m4 (wI (n5 + (1 : Int)))))))) (K (eI (-1)) [.box [.fn n_impl_InstrOK []]])))
/- slices.ContainsFunc[[]loop.example/g00684/impl.Instr,loop.example/g00684/impl.Instr] -/
def v_slices_ContainsFunc_impl_Instr_impl_Instr (C : Calls_) (K : Ent → List Ob → Prop) (l1 : List dn2) : Prop :=
  (∃ n2 : Int, C n_slices_IndexFunc_impl_Instr_impl_Instr [(.one (.sl ty1 l1)), (.one (.fn n_impl_all_impl_Instr_1 [0]))] [.box [.fn n_impl_InstrOK []]] (eI n2) [.box [.fn n_impl_InstrOK []]] ∧ K (eB (decide (n2 ≥ (0 : Int)))) [.box [.fn n_impl_InstrOK []]])
/- loop.example/g00684/impl.all[loop.example/g00684/impl.Instr] -/
def v_impl_all_impl_Instr (C : Calls_) (K : Ent → List Ob → Prop) (l1 : List dn2) : Prop :=
  (∃ b2 : Bool, C n_slices_ContainsFunc_impl_Instr_impl_Instr [(.one (.sl ty1 l1)), (.one (.fn n_impl_all_impl_Instr_1 [0]))] [.box [.fn n_impl_InstrOK []]] (eB b2) [.box [.fn n_impl_InstrOK []]] ∧ K (eB (!b2)) [])
/- loop.example/g00684/impl.first -/
def v_impl_first (C : Calls_) (K : Ent → List Ob → Prop) (l1 : List Int) : Prop :=
  (∃ I2 : Nat → Int → Prop, (∃ m, (eqC [.sl (.int .i64) l1, cI (List.length l1 : Int)] ∧ I2 m 0)) ∧ ∀ m3 : Nat, ∀ n5 : Int, I2 m3 n5 → (ifB (decide (n5 < (List.length l1 : Int))) ((0 ≤ n5 ∧ n5 < List.length l1) ∧ (ifB ((l1.getD (Int.toNat n5) (0 : Int)) != (0 : Int)) (K (eI (l1.getD (Int.toNat n5) (0 : Int))) []) (∃ m4, m4 < m3 ∧ (eqC [.sl (.int .i64) l1, cI (List.length l1 : Int)] ∧ I2 m4 (wI (n5 + (1 : Int))))))) (K (eI 0) [])))
/- loop.example/g00684/impl.hasOperand -/
def v_impl_hasOperand (C : Calls_) (K : Ent → List Ob → Prop) (n1 : Int) : Prop :=
  (∃ (n2 n3 : Int) (b4 : Bool), C n_impl_rangeOf [(eI n1)] [] (.tup [(false, [cI n2]), (false, [cI n3]), (false, [.bool b4])]) [] ∧ K (eB b4) [])
/- loop.example/g00684/impl.put -/
def v_impl_put (C : Calls_) (K : Ent → List Ob → Prop) (n1 : Int) (n2 : Int) : Prop :=
  (∃ I3 : Nat → Int → Int → List Int → Prop, (∃ m, (eqC [cI n2] ∧ I3 m n1 0 ([] : List Int))) ∧ ∀ m4 : Nat, ∀ (n6 n7 : Int) (r8 : List Int), I3 m4 n6 n7 r8 → (ifB (decide (n7 < n2)) ((List.length r8 + List.length [wY n6]) * 1 ≤ 140737488355328 ∧ (0 ≤ (8 : Int) ∧ (∃ m5, m5 < m4 ∧ (eqC [cI n2] ∧ I3 m5 (Int.fdiv n6 (2 ^ min (Int.toNat (8 : Int)) (IntKind.bits .i64))) (wI (n7 + (1 : Int))) (r8 ++ [wY n6]))))) (K (eS (strL r8)) [])))
/- (*strings.Builder).WriteString -/
def v_strings_Builder_WriteString (C : Calls_) (K : Ent → List Ob → Prop) (s1 : ByteArray) (r2 : List Int) : Prop :=
  (C n_strings_Builder_copyCheck [(.one (.ptrB 0 0))] [.box [.selfp 0 t_strings_Builder 2, .row 1], .row t_uint8 (.int .u8) r2] (.tup []) [.box [.selfp 0 t_strings_Builder 2, .row 1], .row t_uint8 (.int .u8) r2] ∧ ((List.length r2 + List.length (bytesL s1)) * 1 ≤ 140737488355328 ∧ K (.tup [(false, [cI (ByteArray.size s1 : Int)]), (false, [.ifc true])]) [.box [.selfp 0 t_strings_Builder 2, .row 2], .dead, .row t_uint8 (.int .u8) (r2 ++ (bytesL s1))]))
/- (*strings.Builder).WriteByte -/
def v_strings_Builder_WriteByte (C : Calls_) (K : Ent → List Ob → Prop) (n1 : Int) (r2 : List Int) : Prop :=
  (C n_strings_Builder_copyCheck [(.one (.ptrB 0 0))] [.box [.selfp 0 t_strings_Builder 2, .row 1], .row t_uint8 (.int .u8) r2] (.tup []) [.box [.selfp 0 t_strings_Builder 2, .row 1], .row t_uint8 (.int .u8) r2] ∧ ((List.length r2 + List.length [n1]) * 1 ≤ 140737488355328 ∧ K (.one (.ifc true)) [.box [.selfp 0 t_strings_Builder 2, .row 2], .dead, .row t_uint8 (.int .u8) (r2 ++ [n1])]))
/- loop.example/g00684/impl.codeText -/
def v_impl_codeText (C : Calls_) (K : Ent → List Ob → Prop) (l1 : List dn2) : Prop :=
  (∃ I2 : Nat → Int → List Int → Prop, (∃ m, (eqC [.sl ty1 l1, cI (List.length l1 : Int)] ∧ I2 m 0 ([] : List Int))) ∧ ∀ m3 : Nat, ∀ (n5 : Int) (r6 : List Int), I2 m3 n5 r6 → (ifB (decide (n5 < (List.length l1 : Int))) ((0 ≤ n5 ∧ n5 < List.length l1) ∧ (∃ (b7 : Bool) (r8 : List Int), C n_strings_Builder_WriteByte [(.one (.ptrB 0 0)), (.one (cY (wY ((l1.getD (Int.toNat n5) df3).1))))] [.box [.selfp 0 t_strings_Builder 2, .row 1], .row t_uint8 (.int .u8) r6] (.one (.ifc b7)) [.box [.selfp 0 t_strings_Builder 2, .row 2], .dead, .row t_uint8 (.int .u8) r8] ∧ (∃ b9 : Bool, C n_impl_hasOperand [(eI ((l1.getD (Int.toNat n5) df3).1))] [] (eB b9) [] ∧ (ifB b9 (∃ s10 : ByteArray, C n_impl_put [(eI (((l1.getD (Int.toNat n5) df3).2).1)), (eI 4)] [] (eS s10) [] ∧ (∃ (n11 : Int) (b12 : Bool) (r13 : List Int), C n_strings_Builder_WriteString [(.one (.ptrB 0 0)), (eS s10)] [.box [.selfp 0 t_strings_Builder 2, .row 1], .row t_uint8 (.int .u8) r8] (.tup [(false, [cI n11]), (false, [.ifc b12])]) [.box [.selfp 0 t_strings_Builder 2, .row 2], .dead, .row t_uint8 (.int .u8) r13] ∧ (∃ m4, m4 < m3 ∧ (eqC [.sl ty1 l1, cI (List.length l1 : Int)] ∧ I2 m4 (wI (n5 + (1 : Int))) r13)))) (∃ m4, m4 < m3 ∧ (eqC [.sl ty1 l1, cI (List.length l1 : Int)] ∧ I2 m4 (wI (n5 + (1 : Int))) r8)))))) (∃ s14 : ByteArray, C n_strings_Builder_String [(.one (.ptrB 0 0))] [.box [.selfp 0 t_strings_Builder 2, .row 1], .row t_uint8 (.int .u8) r6] (eS s14) [.box [.selfp 0 t_strings_Builder 2, .undef], .dead] ∧ K (eS s14) [])))
/- loop.example/g00684/impl.CodeText -/
def v_impl_CodeText (C : Calls_) (K : Ent → List Ob → Prop) (l1 : List dn2) : Prop :=
  (∃ n2 : Int, C n_impl_many_impl_Instr [(.one (.sl ty1 l1))] [] (eI n2) [] ∧ (∃ n3 : Int, C n_impl_when [(eB (decide ((List.length l1 : Int) > (40 : Int)))), (eI 6)] [] (eI n3) [] ∧ (∃ b4 : Bool, C n_impl_all_impl_Instr [(.one (.sl ty1 l1)), (.one (.fn n_impl_InstrOK []))] [] (eB b4) [] ∧ (∃ n5 : Int, C n_impl_when [(eB (!b4)), (eI 1)] [] (eI n5) [] ∧ (∃ n6 : Int, C n_impl_first [(.one (.sl (.int .i64) [n2, n3, n5]))] [] (eI n6) [] ∧ (ifB (n6 != (0 : Int)) (K (.tup [(false, [.str (⟨#[]⟩ : ByteArray)]), (false, [cI n6])]) []) (∃ s7 : ByteArray, C n_impl_codeText [(.one (.sl ty1 l1))] [] (eS s7) [] ∧ K (.tup [(false, [.str s7]), (false, [cI 0])]) [])))))))
/- loop.example/g00684/spec.l01In -/
def v_spec_l01In (C : Calls_) (K : Ent → List Ob → Prop) (n1 : Int) (n2 : Int) (n3 : Int) : Prop :=
  (ifB (decide (n1 ≥ n2)) (K (eB (decide (n1 ≤ n3))) []) (K (eB false) []))
/- loop.example/g00684/spec.l02Op -/
def v_spec_l02Op (C : Calls_) (K : Ent → List Ob → Prop) (n1 : Int) : Prop :=
  (∃ b2 : Bool, C n_spec_l01In [(eI n1), (eI 1), (eI 26)] [] (eB b2) [] ∧ K (eB b2) [])
/- loop.example/g00684/spec.l02OK -/
def v_spec_l02OK (C : Calls_) (K : Ent → List Ob → Prop) (n1 : Int) (n2 : Int) : Prop :=
  (∃ b3 : Bool, C n_spec_l02Op [(eI n1)] [] (eB b3) [] ∧ (ifB (!b3) (K (eB false) []) (∃ (n4 n5 : Int) (b6 : Bool), C n_spec_l02Has [(eI n1)] [] (.tup [(false, [cI n4]), (false, [cI n5]), (false, [.bool b6])]) [] ∧ (∃ b7 : Bool, C n_spec_l01In [(eI n2), (eI n4), (eI n5)] [] (eB b7) [] ∧ K (eB b7) []))))
/- loop.example/g00684/spec.l02All -/
def v_spec_l02All (C : Calls_) (K : Ent → List Ob → Prop) (l1 : List dn2) : Prop :=
  (∃ I2 : Nat → Int → Prop, (∃ m, (eqC [.sl ty1 l1] ∧ I2 m 0)) ∧ ∀ m3 : Nat, ∀ n5 : Int, I2 m3 n5 → (ifB (decide (n5 < (List.length l1 : Int))) ((0 ≤ n5 ∧ n5 < List.length l1) ∧ (∃ b6 : Bool, C n_spec_l02OK [(.agg [cI ((l1.getD (Int.toNat n5) df3).1), cI (((l1.getD (Int.toNat n5) df3).2).1)])] [] (eB b6) [] ∧ (ifB (!b6) (K (eB false) []) (∃ m4, m4 < m3 ∧ (eqC [.sl ty1 l1] ∧ I2 m4 (wI (n5 + (1 : Int)))))))) (K (eB true) [])))
/- loop.example/g00684/spec.l01Put -/
def v_spec_l01Put (C : Calls_) (K : Ent → List Ob → Prop) (n1 : Int) (n2 : Int) : Prop :=
  (∃ I3 : Nat → Int → Int → List Int → Prop, (∃ m, (eqC [cI n2] ∧ I3 m (IntKind.wrap .u64 n1) 0 ([] : List Int))) ∧ ∀ m4 : Nat, ∀ (n6 n7 : Int) (r8 : List Int), I3 m4 n6 n7 r8 → (ifB (decide (n7 < n2)) ((List.length r8 + List.length [wY n6]) * 1 ≤ 140737488355328 ∧ (0 ≤ (8 : Int) ∧ (∃ m5, m5 < m4 ∧ (eqC [cI n2] ∧ I3 m5 (Int.fdiv n6 (2 ^ min (Int.toNat (8 : Int)) (IntKind.bits .u64))) (wI (n7 + (1 : Int))) (r8 ++ [wY n6]))))) (K (eS (strL r8)) [])))
/- loop.example/g00684/spec.l02Bytes -/
def v_spec_l02Bytes (C : Calls_) (K : Ent → List Ob → Prop) (l1 : List dn2) : Prop :=
  (∃ I2 : Nat → ByteArray → Int → Prop, (∃ m, (eqC [.sl ty1 l1] ∧ I2 m (⟨#[]⟩ : ByteArray) 0)) ∧ ∀ m3 : Nat, ∀ (s5 : ByteArray) (n6 : Int), I2 m3 s5 n6 → (ifB (decide (n6 < (List.length l1 : Int))) ((0 ≤ n6 ∧ n6 < List.length l1) ∧ (∃ s7 : ByteArray, C n_spec_l01Put [(eI ((l1.getD (Int.toNat n6) df3).1)), (eI 1)] [] (eS s7) [] ∧ (ByteArray.size s5 + ByteArray.size s7 ≤ 9223372036854775807 ∧ ((0 ≤ n6 ∧ n6 < List.length l1) ∧ (∃ (n8 n9 : Int) (b10 : Bool), C n_spec_l02Has [(eI ((l1.getD (Int.toNat n6) df3).1))] [] (.tup [(false, [cI n8]), (false, [cI n9]), (false, [.bool b10])]) [] ∧ (ifB b10 ((0 ≤ n6 ∧ n6 < List.length l1) ∧ (∃ s11 : ByteArray, C n_spec_l01Put [(eI (((l1.getD (Int.toNat n6) df3).2).1)), (eI 4)] [] (eS s11) [] ∧ (ByteArray.size (s5 ++ s7) + ByteArray.size s11 ≤ 9223372036854775807 ∧ (∃ m4, m4 < m3 ∧ (eqC [.sl ty1 l1] ∧ I2 m4 ((s5 ++ s7) ++ s11) (wI (n6 + (1 : Int)))))))) (∃ m4, m4 < m3 ∧ (eqC [.sl ty1 l1] ∧ I2 m4 (s5 ++ s7) (wI (n6 + (1 : Int))))))))))) (K (eS s5) [])))
/- loop.example/g00684/spec.CodeText -/
def v_spec_CodeText (C : Calls_) (K : Ent → List Ob → Prop) (l1 : List dn2) : Prop :=
  (ifB (decide ((List.length l1 : Int) > (4096 : Int))) (K (.tup [(false, [.str (⟨#[]⟩ : ByteArray)]), (false, [cI 2])]) []) (ifB (decide ((List.length l1 : Int) > (40 : Int))) (K (.tup [(false, [.str (⟨#[]⟩ : ByteArray)]), (false, [cI 6])]) []) (∃ b2 : Bool, C n_spec_l02All [(.one (.sl ty1 l1))] [] (eB b2) [] ∧ (ifB (!b2) (K (.tup [(false, [.str (⟨#[]⟩ : ByteArray)]), (false, [cI 1])]) []) (∃ s3 : ByteArray, C n_spec_l02Bytes [(.one (.sl ty1 l1))] [] (eS s3) [] ∧ K (.tup [(false, [.str s3]), (false, [cI 0])]) [])))))
/- loop.example/g00684/impl.long -/
def v_impl_long (C : Calls_) (K : Ent → List Ob → Prop) (s1 : ByteArray) : Prop :=
  (∃ n2 : Int, C n_impl_when [(eB (decide ((ByteArray.size s1 : Int) > (65536 : Int)))), (eI 2)] [] (eI n2) [] ∧ K (eI n2) [])
/- loop.example/g00684/impl.take -/
def v_impl_take (C : Calls_) (K : Ent → List Ob → Prop) (s1 : ByteArray) : Prop :=
  (∃ J2 : Int → Prop, (∃ I3 : Nat → Int → Int → Prop, (∃ m, (eqC [.str s1] ∧ I3 m 0 (wI ((ByteArray.size s1 : Int) - (1 : Int))))) ∧ ∀ m4 : Nat, ∀ n6 n7 : Int, I3 m4 n6 n7 → (ifB (decide (n7 ≥ (0 : Int))) (0 ≤ (8 : Int) ∧ ((0 ≤ n7 ∧ n7 < ByteArray.size s1) ∧ (∃ m5, m5 < m4 ∧ (eqC [.str s1] ∧ I3 m5 (bits .or .i64 (wI (n6 * 2 ^ min (Int.toNat (8 : Int)) (IntKind.bits .i64))) (wI ((bytesL s1).getD (Int.toNat n7) 0))) (wI (n7 - (1 : Int))))))) (eqC [.str s1] ∧ J2 n6))) ∧ ∀ n8 : Int, J2 n8 → (0 ≤ (wI ((wI ((8 : Int) * (ByteArray.size s1 : Int))) - (1 : Int))) ∧ (ifB (decide (n8 ≥ (wI ((1 : Int) * 2 ^ min (Int.toNat (wI ((wI ((8 : Int) * (ByteArray.size s1 : Int))) - (1 : Int)))) (IntKind.bits .i64))))) (K (eI (wI (n8 - (wI ((2 : Int) * (wI ((1 : Int) * 2 ^ min (Int.toNat (wI ((wI ((8 : Int) * (ByteArray.size s1 : Int))) - (1 : Int)))) (IntKind.bits .i64)))))))) []) (K (eI n8) []))))
/- loop.example/g00684/impl.readCode -/
def v_impl_readCode (C : Calls_) (K : Ent → List Ob → Prop) (s1 : ByteArray) : Prop :=
  (∃ I2 : Nat → ByteArray → List dn2 → Prop, (∃ m, I2 m s1 ([] : List dn2)) ∧ ∀ m3 : Nat, ∀ (s5 : ByteArray) (r6 : List dn2), I2 m3 s5 r6 → (ifB (decide ((ByteArray.size s5 : Int) > (0 : Int))) ((0 ≤ (0 : Int) ∧ (0 : Int) < ByteArray.size s5) ∧ ((0 ≤ (1 : Int) ∧ (1 : Int) ≤ (ByteArray.size s5 : Int) ∧ (ByteArray.size s5 : Int) ≤ (ByteArray.size s5 : Int)) ∧ (∃ b7 : Bool, C n_impl_isOp [(eI (wI ((bytesL s5).getD (Int.toNat 0) 0)))] [] (eB b7) [] ∧ (ifB (!b7) (K (.tup [(false, [.row 0]), (false, [cI 11])]) [.row t_impl_Instr ty1 ([] : List dn2)]) (∃ J8 : ByteArray → List dn2 → Int → Int → Prop, (∃ b9 : Bool, C n_impl_hasOperand [(eI (wI ((bytesL s5).getD (Int.toNat 0) 0)))] [] (eB b9) [] ∧ (ifB b9 (ifB (decide ((ByteArray.size (s5.extract (Int.toNat 1) (Int.toNat (ByteArray.size s5 : Int))) : Int) < (4 : Int))) (K (.tup [(false, [.row 0]), (false, [cI 16])]) [.row t_impl_Instr ty1 ([] : List dn2)]) ((0 ≤ (0 : Int) ∧ (0 : Int) ≤ (4 : Int) ∧ (4 : Int) ≤ (ByteArray.size (s5.extract (Int.toNat 1) (Int.toNat (ByteArray.size s5 : Int))) : Int)) ∧ ((0 ≤ (4 : Int) ∧ (4 : Int) ≤ (ByteArray.size (s5.extract (Int.toNat 1) (Int.toNat (ByteArray.size s5 : Int))) : Int) ∧ (ByteArray.size (s5.extract (Int.toNat 1) (Int.toNat (ByteArray.size s5 : Int))) : Int) ≤ (ByteArray.size (s5.extract (Int.toNat 1) (Int.toNat (ByteArray.size s5 : Int))) : Int)) ∧ (∃ n10 : Int, C n_impl_take [(eS ((s5.extract (Int.toNat 1) (Int.toNat (ByteArray.size s5 : Int))).extract (Int.toNat 0) (Int.toNat 4)))] [] (eI n10) [] ∧ J8 ((s5.extract (Int.toNat 1) (Int.toNat (ByteArray.size s5 : Int))).extract (Int.toNat 4) (Int.toNat (ByteArray.size (s5.extract (Int.toNat 1) (Int.toNat (ByteArray.size s5 : Int))) : Int))) r6 (wI ((bytesL s5).getD (Int.toNat 0) 0)) n10)))) (J8 (s5.extract (Int.toNat 1) (Int.toNat (ByteArray.size s5 : Int))) r6 (wI ((bytesL s5).getD (Int.toNat 0) 0)) 0))) ∧ ∀ (s11 : ByteArray) (r12 : List dn2) (n13 n14 : Int), J8 s11 r12 n13 n14 → (∃ b15 : Bool, C n_impl_InstrOK [(.agg [cI n13, cI n14])] [] (eB b15) [] ∧ (∃ n16 : Int, C n_impl_when [(eB (!b15)), (eI 4)] [] (eI n16) [] ∧ (∃ n17 : Int, C n_impl_when [(eB ((List.length r12 : Int) == (40 : Int))), (eI 6)] [] (eI n17) [] ∧ (∃ n18 : Int, C n_impl_first [(.one (.sl (.int .i64) [n16, n17]))] [] (eI n18) [] ∧ (ifB (n18 != (0 : Int)) (K (.tup [(false, [.row 0]), (false, [cI n18])]) [.row t_impl_Instr ty1 ([] : List dn2)]) ((List.length r12 + List.length [(n13, (n14, ()))]) * 16 ≤ 140737488355328 ∧ (∃ m4, m4 < m3 ∧ I2 m4 s11 (r12 ++ [(n13, (n14, ()))]))))))))))))) (K (.tup [(false, [.row 0]), (false, [cI 0])]) [.row t_impl_Instr ty1 r6])))
/- loop.example/g00684/impl.ReadCode -/
def v_impl_ReadCode (C : Calls_) (K : Ent → List Ob → Prop) (s1 : ByteArray) : Prop :=
  (∃ n2 : Int, C n_impl_long [(eS s1)] [] (eI n2) [] ∧ (ifB (n2 != (0 : Int)) (K (.tup [(false, [.row 0]), (false, [cI n2])]) [.row t_impl_Instr ty1 ([] : List dn2)]) (∃ (n3 : Int) (r4 : List dn2), C n_impl_readCode [(eS s1)] [] (.tup [(false, [.row 0]), (false, [cI n3])]) [.row t_impl_Instr ty1 r4] ∧ K (.tup [(false, [.row 0]), (false, [cI n3])]) [.row t_impl_Instr ty1 r4])))
/- loop.example/g00684/laws.sameCode -/
def v_laws_sameCode (C : Calls_) (K : Ent → List Ob → Prop) (l1 : List dn2) (l2 : List dn2) : Prop :=
  (ifB ((List.length l1 : Int) != (List.length l2 : Int)) (K (eB false) []) (∃ I3 : Nat → Int → Prop, (∃ m, (eqC [.sl ty1 l1, .sl ty1 l2] ∧ I3 m 0)) ∧ ∀ m4 : Nat, ∀ n6 : Int, I3 m4 n6 → (ifB (decide (n6 < (List.length l1 : Int))) ((0 ≤ n6 ∧ n6 < List.length l1) ∧ ((0 ≤ n6 ∧ n6 < List.length l2) ∧ (ifB (!((((l1.getD (Int.toNat n6) df3).1) == ((l2.getD (Int.toNat n6) df3).1)) && (((((l1.getD (Int.toNat n6) df3).2).1) == (((l2.getD (Int.toNat n6) df3).2).1)) && true))) (K (eB false) []) (∃ m5, m5 < m4 ∧ (eqC [.sl ty1 l1, .sl ty1 l2] ∧ I3 m5 (wI (n6 + (1 : Int)))))))) (K (eB true) []))))
/- loop.example/g00684/laws.FnCode -/
def v_laws_FnCode (C : Calls_) (K : Ent → List Ob → Prop) (l1 : List Int) (l2 : List Int) : Prop :=
  (ifB (decide ((List.length l1 : Int) > (1048576 : Int))) (K (eB true) []) (ifB (decide ((List.length l2 : Int) > (1048576 : Int))) (K (eB true) []) (∃ n3 : Int, C n_laws_at [(.one (.sl (.int .u8) l2)), (eI 0), (eI 20)] [] (eI n3) [] ∧ (∃ r4 : List dn2, C n_spec_SomeCode [(.one (.sl (.int .u8) l1)), (eI n3)] [] (.one (.row 0)) [.row t_impl_Instr ty1 r4] ∧ (∃ (s5 : ByteArray) (n6 : Int), C n_impl_CodeText [(.one (.sl ty1 r4))] [] (.tup [(false, [.str s5]), (false, [cI n6])]) [] ∧ (∃ (s7 : ByteArray) (n8 : Int), C n_spec_CodeText [(.one (.sl ty1 r4))] [] (.tup [(false, [.str s7]), (false, [cI n8])]) [] ∧ (∃ (n9 : Int) (r10 : List dn2), C n_impl_ReadCode [(eS s5)] [] (.tup [(false, [.row 0]), (false, [cI n9])]) [.row t_impl_Instr ty1 r10] ∧ (ByteArray.size s5 + ByteArray.size (⟨#[1, 0]⟩ : ByteArray) ≤ 9223372036854775807 ∧ (∃ (n11 : Int) (r12 : List dn2), C n_impl_ReadCode [(eS (s5 ++ (⟨#[1, 0]⟩ : ByteArray)))] [] (.tup [(false, [.row 0]), (false, [cI n11])]) [.row t_impl_Instr ty1 r12] ∧ (ByteArray.size s5 + ByteArray.size (⟨#[27]⟩ : ByteArray) ≤ 9223372036854775807 ∧ (∃ (n13 : Int) (r14 : List dn2), C n_impl_ReadCode [(eS (s5 ++ (⟨#[27]⟩ : ByteArray)))] [] (.tup [(false, [.row 0]), (false, [cI n13])]) [.row t_impl_Instr ty1 r14] ∧ (ifB (n6 == (0 : Int)) (ifB (ByteArray.toList s5 == ByteArray.toList s7) (ifB (n9 == (0 : Int)) (∃ b15 : Bool, C n_laws_sameCode [(.one (.sl ty1 r10)), (.one (.sl ty1 r4))] [] (eB b15) [] ∧ (ifB b15 (ifB (n11 == (16 : Int)) (K (eB (n13 == (11 : Int))) []) (K (eB false) [])) (K (eB false) []))) (K (eB false) [])) (K (eB false) [])) (K (eB false) [])))))))))))))
end Go.Ry
