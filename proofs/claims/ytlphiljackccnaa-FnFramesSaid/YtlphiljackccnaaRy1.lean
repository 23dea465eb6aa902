/- The evaluator's states: cells, and objects by number. No condition. -/
import Derived.Test.YtlphiljackccnaaRy0
set_option linter.unusedVariables false
set_option linter.unusedSimpArgs false
namespace Go.Ry

/-- What a cell holds, as it is told. Numbers of objects are places in the state's list of objects. -/
inductive Cell where
  | undef
  | int (k : IntKind) (n : Int)
  | bool (b : Bool)
  | str (s : ByteArray)
  | sl (t : Ty) (xs : List t.den)          -- a slice that nobody writes any more
  | row (i : Nat)                          -- the whole of row i
  | win (i lo hi : Nat)                    -- a part of it
  | ptrB (i o : Nat)                       -- into variable i
  | ptrE (i k o : Nat)                     -- into element k of row i
  | ptrZ (t : Ty) (x : t.den) (o : Nat)    -- into memory that nobody writes any more
  | fn (f : Nat) (bs : List Nat)           -- a function, and the variables that it has captured
  | nils | nilp | nilf
  | ifc (nil : Bool)                       -- an interface value; is it nil?

inductive Ent where
  | undef
  | one (c : Cell)
  | agg (cs : List Cell)
  | tup (es : List (Bool × List Cell))

/-- An object in memory that is the call's to write. -/
inductive Ob where
  | dead
  | box (cs : List Cell)
  | row (e : Nat) (t : Ty) (xs : List t.den)
  | hole (e : Nat) (t : Ty) (xs : List t.den) (k : Nat)   -- a row whose element k is lent

structure St where
  tmps : List Ent
  objs : List Ob

inductive TK where
  | int (k : IntKind) | bool | str | slice | struct | array (n : Nat) | pointer | func | iface (bare : Bool) | other

/-- What is known of a type. -/
structure TE where
  kind : TK
  ty : Ty                       -- its values as plain data
  told : Bool                   -- are they
  agg : Bool
  size : Nat
  bytes : Nat
  flds : List (Nat × Nat)       -- a struct's fields: offset, type
  elem : Nat                    -- a slice's or an array's element type
  zero : List Cell

def look {α : Type} : List (Nat × α) → Nat → Option α
  | [], _ => none
  | (k, a) :: l, n => bif k == n then some a else look l n

def setNth {α : Type} : List α → Nat → α → List α
  | [], _, _ => []
  | _ :: l, 0, b => b :: l
  | a :: l, n + 1, b => a :: setNth l n b

def nth {α : Type} : List α → Nat → Option α
  | [], _ => none
  | a :: _, 0 => some a
  | _ :: l, n + 1 => nth l n

def Ent.cells : Ent → List Cell
  | .one c => [c]
  | .agg cs => cs
  | _ => []

def St.tmp (st : St) (d : Nat) : Ent := (nth st.tmps d).getD .undef
def St.ob (st : St) (i : Nat) : Ob := (nth st.objs i).getD .dead
def St.box (st : St) (i : Nat) : Option (List Cell) := match st.ob i with
  | .box cs => some cs
  | _ => none
def St.putO (st : St) (d : Option Nat) (e : Ent) : St := match d with
  | some d => ⟨setNth st.tmps d e, st.objs⟩
  | none => st
def St.setOb (st : St) (i : Nat) (o : Ob) : St := ⟨st.tmps, setNth st.objs i o⟩
def St.addOb (st : St) (o : Ob) : St := ⟨st.tmps, st.objs ++ [o]⟩

def mapE (f : Cell → Cell) : Ent → Ent
  | .one c => .one (f c)
  | .agg cs => .agg (cs.map f)
  | .tup es => .tup (es.map fun x => (x.1, x.2.map f))
  | .undef => .undef
def mapO (f : Cell → Cell) : Ob → Ob
  | .box cs => .box (cs.map f)
  | o => o
def St.map (f : Cell → Cell) (st : St) : St := ⟨st.tmps.map (mapE f), st.objs.map (mapO f)⟩

def cstC : Value → Cell
  | .int k n => .int k n
  | .bool b => .bool b
  | .string s => .str s
  | .slice none 0 0 => .nils
  | .pointer none => .nilp
  | .nilFunc => .nilf
  | .nilIface => .ifc true
  | _ => .undef
def cstE : Value → Ent
  | .agg cs => match cs.toList.all Value.oneCell' with
    | true => .agg (cs.toList.map cstC)
    | false => .undef
  | v => match v.oneCell' with
    | true => .one (cstC v)
    | false => .undef

def St.ev (st : St) : Operand → Ent
  | .tmp d => st.tmp d
  | .const v => cstE v
  | .func f => .one (.fn f [])
  | .global _ => .undef

/-! ### values and cells -/
def Ty.cells : (t : Ty) → t.den → List Cell
  | .unit, _ => []
  | .int k, x => [.int k x]
  | .bool, x => [.bool x]
  | .str, x => [.str x]
  | .slice t, x => [.sl t x]
  | .pair a b, x => a.cells x.1 ++ b.cells x.2

/-- A slice's elements' type and its elements. -/
def St.listOf (st : St) : Cell → Option (Σ t : Ty, List t.den)
  | .sl u xs => some ⟨u, xs⟩
  | .row i => match st.ob i with
    | .row _ u xs => some ⟨u, xs⟩
    | _ => none
  | .win i lo hi => match st.ob i with
    | .row _ u xs => some ⟨u, (xs.take hi).drop lo⟩
    | _ => none
  | _ => none

/-- The same, at a type that is asked for. -/
def castL (t : Ty) (x : Σ u : Ty, List u.den) : Option (List t.den) :=
  if h : Ty.eqb x.1 t = true then some (Ty.eqb_eq h ▸ x.2) else none

/-- Cells (slices in them are shared) read as a value; and what is left of them. -/
def readC : (t : Ty) → List Cell → Option (t.den × List Cell)
  | .unit, cs => some ((), cs)
  | .int k, cs => match cs with
    | .int l n :: cs => if l = k then some (n, cs) else none
    | _ => none
  | .bool, cs => match cs with
    | .bool b :: cs => some (b, cs)
    | _ => none
  | .str, cs => match cs with
    | .str s :: cs => some (s, cs)
    | _ => none
  | .slice t, cs => match cs with
    | .sl u xs :: cs => match castL t ⟨u, xs⟩ with
      | some xs => some (xs, cs)
      | none => none
    | .nils :: cs => some ([], cs)
    | _ => none
  | .pair a b, cs => match readC a cs with
    | some (x, cs) => match readC b cs with
      | some (y, cs) => some ((x, y), cs)
      | none => none
    | none => none
def readV (t : Ty) (cs : List Cell) : Option t.den := match readC t cs with
  | some (x, []) => some x
  | _ => none

/-! ### sharing -/
/-- Row i, from now on shared: what names it reads it. -/
def shareC (i : Nat) (u : Ty) (xs : List u.den) (c : Cell) : Cell := match c with
  | .row j => bif j == i then .sl u xs else c
  | .win j lo hi => bif j == i then .sl u ((xs.take hi).drop lo) else c
  | .ptrE j k o => bif j == i then .ptrZ u (xs.getD k u.dflt) o else c
  | c => c
def St.share (st : St) (i : Nat) : St := match st.ob i with
  | .row _ u xs => (st.setOb i .dead).map (shareC i u xs)
  | _ => st
/-- What a cell that names a row reads as, once that is shared. -/
def sharedC (st : St) (c : Cell) : Cell := match c with
  | .row i => match st.ob i with
    | .row _ u xs => .sl u xs
    | _ => .undef
  | .win i lo hi => match st.ob i with
    | .row _ u xs => .sl u ((xs.take hi).drop lo)
    | _ => .undef
  | .ptrE _ _ _ => .undef
  | c => c
/-- All rows that the cells name are shared from now on. -/
def St.shareAll (st : St) : List Cell → St
  | [] => st
  | c :: cs => match c with
    | .row i => (st.share i).shareAll cs
    | .win i _ _ => (st.share i).shareAll cs
    | _ => st.shareAll cs

/-! ### objects get other numbers -/
def mapAll (f : Nat → Option Nat) : List Nat → Option (List Nat)
  | [] => some []
  | n :: l => match f n, mapAll f l with
    | some m, some l => some (m :: l)
    | _, _ => none
def renC (f : Nat → Option Nat) (c : Cell) : Cell := match c with
  | .row i => match f i with
    | some j => .row j
    | none => .undef
  | .win i lo hi => match f i with
    | some j => .win j lo hi
    | none => .undef
  | .ptrB i o => match f i with
    | some j => .ptrB j o
    | none => .undef
  | .ptrE i k o => match f i with
    | some j => .ptrE j k o
    | none => .undef
  | .fn g bs => match mapAll f bs with
    | some bs => .fn g bs
    | none => .undef
  | c => c
/-- A number's place in a list. -/
def idx : List Nat → Nat → Option Nat
  | [], _ => none
  | m :: l, n => bif m == n then some 0 else match idx l n with
    | some k => some (k + 1)
    | none => none
def memN (n : Nat) : List Nat → Bool
  | [] => false
  | m :: l => bif m == n then true else memN n l
def nodupN : List Nat → Bool
  | [] => true
  | m :: l => bif memN m l then false else nodupN l
def allLt (n : Nat) : List Nat → Bool
  | [] => true
  | m :: l => bif Nat.blt m n then allLt n l else false
/-- The objects of the list M alone, each under its place in M. -/
def St.pick (st : St) (M : List Nat) : St := ⟨st.tmps.map (mapE (renC (idx M))), M.map fun i => mapO (renC (idx M)) (st.ob i)⟩

/-- The numbers that cells name. -/
def Cell.ids : Cell → List Nat
  | .row i | .win i _ _ | .ptrB i _ | .ptrE i _ _ => [i]
  | .fn _ bs => bs
  | _ => []
def addNew : List Nat → List Nat → List Nat
  | M, [] => M
  | M, n :: l => addNew (bif memN n M then M else M ++ [n]) l
def idsOf : List Cell → List Nat
  | [] => []
  | c :: cs => c.ids ++ idsOf cs
/-- What is reached from the numbers M, from place k on. -/
def reach (st : St) : Nat → Nat → List Nat → List Nat
  | 0, _, M => M
  | n + 1, k, M => match nth M k with
    | none => M
    | some i => match st.ob i with
      | .box cs => reach st n (k + 1) (addNew M (idsOf cs))
      | _ => reach st n (k + 1) M
def rangeN : Nat → Nat → List Nat
  | 0, _ => []
  | n + 1, k => k :: rangeN n (k + 1)
end Go.Ry
