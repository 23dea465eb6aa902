/- ReadCode, the parser: of the program and of the reference. No condition. -/
import Derived.Test.YtnnhfeopdhnlhaaPCode
set_option linter.unusedVariables false
set_option linter.unusedSimpArgs false
namespace Go.Ry
variable {C : Calls_}

def rangeN_ (op : Int) : Int × Int × Bool :=
  if op = 1 then (-2147483648, 2147483647, true) else if op = 2 then (0, 1, true) else if op = 3 ∨ op = 4 then (0, 15, true) else if op = 5 ∨ op = 6 ∨ op = 7 ∨ op = 8 then (0, 7, true)
  else if op = 19 ∨ op = 20 then (0, 7, true) else if op = 24 then (1, 20, true) else if op = 26 then (0, 5, true) else (0, 0, false)
@[reducible] def three (a b : Int) (c : Bool) : Ent := .tup [(false, [.int .i64 a]), (false, [.int .i64 b]), (false, [.bool c])]
def K_rangeOf (n : Nat) (C : Calls_) : Prop := ∀ op : Int, C n [.one (.int .i64 op)] [] (three (rangeN_ op).1 (rangeN_ op).2.1 (rangeN_ op).2.2) []
def K_isOp (n : Nat) (C : Calls_) : Prop := ∀ op : Int, C n [.one (.int .i64 op)] [] (.one (.bool (inR op 1 26))) []
def instrOK (op a : Int) : Bool := inR op 1 26 && inR a (rangeN_ op).1 (rangeN_ op).2.1
def K_instrOK (n : Nat) (C : Calls_) : Prop := ∀ op a : Int, C n [.agg [.int .i64 op, .int .i64 a]] [] (.one (.bool (instrOK op a))) []
/-! ### the parser -/
@[reducible] def Ins : Type := List (Int × Int × Unit)
def step1 (rec : List Int → Ins → Int × Ins) (b a : Int) (l : List Int) (out : Ins) : Int × Ins :=
  if instrOK b a = true then if 40 ≤ out.length then (6, []) else rec l (out ++ [(b, (a, ()))]) else (4, [])
/-- What is read from the bytes l on, out being read already; n bounds the rounds. -/
def parse : Nat → List Int → Ins → Int × Ins
  | 0, _, out => (0, out)
  | _ + 1, [], out => (0, out)
  | n + 1, b :: l, out =>
    if inR b 1 26 = true then
      if (rangeN_ b).2.2 = true then
        if l.length < 4 then (16, []) else step1 (parse n) b (four l) (l.drop 4) out
      else step1 (parse n) b 0 l out
    else (11, [])
theorem parse_fuel : ∀ (n m : Nat) (l : List Int) (out : Ins), l.length ≤ n → l.length ≤ m → parse n l out = parse m l out
  | 0, m, l, out, h, _ => by
    have : l = [] := List.eq_nil_of_length_eq_zero (by omega)
    subst this
    cases m <;> rfl
  | n + 1, 0, l, out, _, h => by
    have : l = [] := List.eq_nil_of_length_eq_zero (by omega)
    subst this
    rfl
  | n + 1, m + 1, [], out, _, _ => rfl
  | n + 1, m + 1, b :: l, out, h, k => by
    simp only [List.length_cons] at h k
    have e1 : ∀ o, parse n (l.drop 4) o = parse m (l.drop 4) o := fun o => parse_fuel n m _ o (by simp; omega) (by simp; omega)
    have e2 : ∀ o, parse n l o = parse m l o := fun o => parse_fuel n m _ o (by omega) (by omega)
    simp only [parse, step1, e1, e2]
theorem parse_nil (n : Nat) (out : Ins) : parse n [] out = (0, out) := by cases n <;> rfl
@[reducible] def retC (p : Int × Ins) : Ent := .tup [(false, [.row 0]), (false, [.int .i64 p.1])]
def readB (s : ByteArray) : Int × Ins := parse s.size (bytesL s) []
theorem drop_cons {l : List Int} {i : Nat} (h : i < l.length) : l.drop i = l.getD i 0 :: l.drop (i + 1) := by
  rw [List.drop_eq_getElem_cons h]
  simp [List.getD, List.getElem?_eq_getElem h]

def readR (s : ByteArray) : Int × Ins := if 65536 < s.size then (2, []) else readB s
end Go.Ry
