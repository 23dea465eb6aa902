/- The evaluator's operations. No condition. -/
import Derived.Test.YtlphiljackccnaaRy1
set_option linter.unusedVariables false
set_option linter.unusedSimpArgs false
namespace Go.Ry
abbrev Tab := List (Nat × TE)

/-- A test: known, or both ways. -/
def ifB (b : Bool) (p q : Prop) : Prop := match b with
  | true => p
  | false => q

/-! ### scalars -/
def arith (op : BinOp) (k : IntKind) (x y : Int) (K : Cell → Prop) : Prop :=
  match op with
  | .add => K (.int k (k.wrap (x + y)))
  | .sub => K (.int k (k.wrap (x - y)))
  | .mul => K (.int k (k.wrap (x * y)))
  | .quo => y ≠ 0 ∧ K (.int k (k.wrap (x.tdiv y)))
  | .rem => y ≠ 0 ∧ K (.int k (x.tmod y))
  | .and => K (.int k (bits .and k x y))
  | .or => K (.int k (bits .or k x y))
  | .xor => K (.int k (bits .xor k x y))
  | .andNot => K (.int k (bits .andNot k x y))
  | .shl => 0 ≤ y ∧ K (.int k (k.wrap (x * 2 ^ min y.toNat k.bits)))
  | .shr => 0 ≤ y ∧ K (.int k (x.fdiv (2 ^ min y.toNat k.bits)))
  | .eql => K (.bool (x == y))
  | .neq => K (.bool (x != y))
  | .lss => K (.bool (decide (x < y)))
  | .leq => K (.bool (decide (x ≤ y)))
  | .gtr => K (.bool (decide (x > y)))
  | .geq => K (.bool (decide (x ≥ y)))

def strOp (op : BinOp) (x y : ByteArray) (K : Cell → Prop) : Prop :=
  match op with
  | .add => x.size + y.size ≤ 9223372036854775807 ∧ K (.str (x ++ y))
  | .eql => K (.bool (x.toList == y.toList))
  | .neq => K (.bool (!(x.toList == y.toList)))
  | .lss => K (.bool (Op.bytesLess x.toList y.toList))
  | .leq => K (.bool (Op.bytesLess x.toList y.toList || x.toList == y.toList))
  | .gtr => K (.bool (!(Op.bytesLess x.toList y.toList || x.toList == y.toList)))
  | .geq => K (.bool (!Op.bytesLess x.toList y.toList))
  | _ => False

/-- '==' of plain cells. -/
def eqCells : List Cell → List Cell → Option Bool
  | [], [] => some true
  | c :: cs, d :: ds => match c, d with
    | .int k x, .int l y => if k = l then (eqCells cs ds).map ((x == y) && ·) else none
    | .bool x, .bool y => (eqCells cs ds).map ((x == y) && ·)
    | .str x, .str y => (eqCells cs ds).map ((x.toList == y.toList) && ·)
    | _, _ => none
  | _, _ => none

def binW (op : BinOp) (x y : Ent) (K : Cell → Prop) : Prop :=
  match x, y with
  | .one (.int k a), .one (.int l b) => match op with
    | .shl | .shr => arith op k a b K
    | _ => if k = l then arith op k a b K else False
  | .one (.bool a), .one (.bool b) => match op with
    | .eql => K (.bool (a == b))
    | .neq => K (.bool (!(a == b)))
    | _ => False
  | .one (.str a), .one (.str b) => strOp op a b K
  | .one .nils, .one .nils => match op with
    | .eql => K (.bool true)
    | .neq => K (.bool false)
    | _ => False
  | .one (.ifc a), .one (.ifc true) => match op with
    | .eql => K (.bool a)
    | .neq => K (.bool (!a))
    | _ => False
  | _, _ => False

/-- Is a slice nil? It is empty then; an empty one may be either. -/
def nilW (op : BinOp) (xs : Nat) (K : Cell → Prop) : Prop :=
  match op with
  | .eql => ∀ b : Bool, (b = true → xs = 0) → K (.bool b)
  | .neq => ∀ b : Bool, (b = true → xs = 0) → K (.bool (!b))
  | _ => False

def unW (op : UnOp) (x : Ent) (K : Cell → Prop) : Prop :=
  match op, x with
  | .neg, .one (.int k a) => K (.int k (k.wrap (0 - a)))
  | .not, .one (.bool a) => K (.bool (!a))
  | _, _ => False

/-! ### memory -/
def entOf (agg : Bool) (cs : List Cell) : Ent := match agg with
  | true => .agg cs
  | false => match cs with
    | [c] => .one c
    | _ => .undef

/-- The cells behind a pointer, from there on. -/
def St.behind (st : St) : Cell → Option (List Cell)
  | .ptrB i o => (st.box i).map fun cs => cs.drop o
  | .ptrE i k o => match st.ob i with
    | .row _ u xs => some ((u.cells (xs.getD k u.dflt)).drop o)
    | _ => none
  | .ptrZ t x o => some ((t.cells x).drop o)
  | _ => none

def putAt : List Cell → Nat → List Cell → List Cell
  | cs, 0, ds => ds ++ cs.drop ds.length
  | c :: cs, o + 1, ds => c :: putAt cs o ds
  | [], _, _ => []

/-- A store behind a pointer. -/
def storeW (st : St) (a : Cell) (v : List Cell) (K : St → Prop) : Prop :=
  match a with
  | .ptrB i o => match st.box i with
    | some cs => Nat.ble (o + v.length) cs.length = true ∧ K (st.setOb i (.box (putAt cs o v)))
    | none => False
  | .ptrE i k o => match (st.shareAll v).ob i with
    | .row e u xs => match Nat.ble (o + v.length) u.size, readV u (putAt (u.cells (xs.getD k u.dflt)) o (v.map (sharedC st))) with
      | true, some x => K ((st.shareAll v).setOb i (.row e u (xs.set k x)))
      | _, _ => False
    | _ => False
  | _ => False

def addrField (o : Nat) : Cell → Cell
  | .ptrB i q => .ptrB i (q + o)
  | .ptrE i k q => .ptrE i k (q + o)
  | .ptrZ t x q => .ptrZ t x (q + o)
  | _ => .undef

/-- A struct's fields: offset and size. -/
def placesOf (T : Tab) : List (Nat × Nat) → Option (List (Nat × Nat))
  | [] => some []
  | p :: l => match look T p.2, placesOf T l with
    | some fe, some ps => some ((p.1, fe.size) :: ps)
    | _, _ => none
/-- The parts of a literal go to their places. -/
def fillW (ps : List (Nat × Nat)) : List Cell → List (Nat × List Cell) → Option (List Cell)
  | cs, [] => some cs
  | cs, p :: l => match nth ps p.1 with
    | none => none
    | some (o, n) => match Nat.beq p.2.length n && Nat.ble (o + p.2.length) cs.length with
      | true => fillW ps (putAt cs o p.2) l
      | false => none
/-- A literal's parts: number and cells. -/
def partsOf (st : St) : List (Nat × Operand) → Option (List (Nat × List Cell))
  | [] => some []
  | p :: l => match partsOf st l with
    | some vs => match st.ev p.2 with
      | .one c => some ((p.1, [c]) :: vs)
      | .agg cs => some ((p.1, cs) :: vs)
      | _ => none
    | none => none
def partCells : List (Nat × List Cell) → List Cell
  | [] => []
  | p :: l => p.2 ++ partCells l

/-- A slice literal's elements, shared. -/
def readAll (u : Ty) : List (List Cell) → Option (List u.den)
  | [] => some []
  | c :: cs => match readV u c, readAll u cs with
    | some x, some xs => some (x :: xs)
    | _, _ => none

def boundOf (st : St) (x : Option Operand) (d : Int) : Option Int := match x with
  | none => some d
  | some x => match st.ev x with
    | .one (.int _ n) => some n
    | _ => none

def bytesL (s : ByteArray) : List Int := s.data.toList.map fun b => (b.toNat : Int)
def strL (xs : List Int) : ByteArray := ⟨(xs.map fun n => UInt8.ofNat n.toNat).toArray⟩

/-- A field's place and type. -/
def fldOf (T : Tab) (s f : Nat) : Option (Nat × TE) := match look T s with
  | some te => match te.kind with
    | .struct => match nth te.flds f with
      | some (o, t) => match look T t with
        | some fe => some (o, fe)
        | none => none
      | none => none
    | _ => none
  | none => none
/-- A slice type's element type. -/
def slTy (T : Tab) (t : Nat) : Option (Nat × TE) := match look T t with
  | some te => match te.kind with
    | .slice => match look T te.elem with
      | some ee => some (te.elem, ee)
      | none => none
    | _ => none
  | none => none

/-- append: the row that is taken up dies; the new one is new. -/
def appendW (st : St) (e bytes : Nat) (u : Ty) (s : Cell) (ys : List u.den) (d : Option Nat) (K : St → Prop) : Prop :=
  match s with
  | .nils => ys.length * bytes ≤ 140737488355328 ∧ K ((st.addOb (.row e u ys)).putO d (.one (.row st.objs.length)))
  | .row i => match st.ob i with
    | .row f t xs => match f == e, castL u ⟨t, xs⟩ with
      | true, some xs => (xs.length + ys.length) * bytes ≤ 140737488355328 ∧ K (((st.setOb i .dead).addOb (.row e u (xs ++ ys))).putO d (.one (.row st.objs.length)))
      | _, _ => False
    | _ => False
  | .win i lo hi => match lo, st.ob i with
    | 0, .row f t xs => match f == e, castL u ⟨t, xs⟩ with
      | true, some xs => ((xs.take hi).length + ys.length) * bytes ≤ 140737488355328 ∧ K (((st.setOb i .dead).addOb (.row e u (xs.take hi ++ ys))).putO d (.one (.row st.objs.length)))
      | _, _ => False
    | _, _ => False
  | _ => False

def intsOf (st : St) : List Operand → Option (List (IntKind × Int))
  | [] => some []
  | x :: xs => match st.ev x, intsOf st xs with
    | .one (.int k a), some l => some ((k, a) :: l)
    | _, _ => none
def minL (a : Int) : List (IntKind × Int) → Int
  | [] => a
  | (_, b) :: l => minL (if b < a then b else a) l
def maxL (a : Int) : List (IntKind × Int) → Int
  | [] => a
  | (_, b) :: l => maxL (if b > a then b else a) l

def builtinW (T : Tab) (b : Builtin) (args : List Operand) (argTypes : List Nat) (st : St) (d : Option Nat) (K : St → Prop) : Prop :=
  match b, args with
  | .len, [x] => match argTypes with
    | t :: _ => match look T t with
      | some te => match te.kind, st.ev x with
        | .str, .one (.str s) => K (st.putO d (.one (.int .i64 s.size)))
        | .slice, .one .nils => K (st.putO d (.one (.int .i64 0)))
        | .slice, .one c => match st.listOf c with
          | some ⟨_, xs⟩ => K (st.putO d (.one (.int .i64 xs.length)))
          | none => False
        | _, _ => False
      | none => False
    | _ => False
  | .min, xs => match intsOf st xs with
    | some ((k, a) :: l) => K (st.putO d (.one (.int k (minL a l))))
    | _ => False
  | .max, xs => match intsOf st xs with
    | some ((k, a) :: l) => K (st.putO d (.one (.int k (maxL a l))))
    | _ => False
  | .append, [s, x] => match argTypes with
    | [ts, tx] => match slTy T ts, look T tx with
      | some (e, ee), some xe => match ee.told && Nat.blt 0 ee.size with
        | true => match xe.kind, st.ev s, st.ev x with
          | .str, .one s, .one (.str y) => match ee.ty with
            | .int .u8 => appendW st e ee.bytes (.int .u8) s (bytesL y) d K
            | _ => False
          | .slice, .one s, .one .nils => appendW st e ee.bytes ee.ty s [] d K
          | .slice, .one s, .one x => match st.listOf x with
            | some ys => match castL ee.ty ys with
              | some ys => appendW st e ee.bytes ee.ty s ys d K
              | none => False
            | none => False
          | _, _, _ => False
        | false => False
      | _, _ => False
    | _ => False
  | _, _ => False

/-! ### calls -/
/-- The shape of a cell. -/
inductive Sh where
  | int (k : IntKind) | bool | str | sl (t : Ty) | ifc | win (i : Nat) | fix (c : Cell)

def exC : List Sh → (List Cell → Prop) → Prop
  | [], K => K []
  | s :: l, K => match s with
    | .int k => ∃ n : Int, exC l fun cs => K (.int k n :: cs)
    | .bool => ∃ b : Bool, exC l fun cs => K (.bool b :: cs)
    | .str => ∃ s : ByteArray, exC l fun cs => K (.str s :: cs)
    | .sl t => ∃ xs : List t.den, exC l fun cs => K (.sl t xs :: cs)
    | .ifc => ∃ b : Bool, exC l fun cs => K (.ifc b :: cs)
    | .win i => ∃ lo hi : Nat, exC l fun cs => K (.win i lo hi :: cs)
    | .fix c => exC l fun cs => K (c :: cs)

inductive RS where
  | one (s : Sh)
  | agg (l : List Sh)
  | tup (l : List (Bool × List Sh))

def exT : List (Bool × List Sh) → (List (Bool × List Cell) → Prop) → Prop
  | [], K => K []
  | (a, s) :: l, K => exC s fun cs => exT l fun es => K ((a, cs) :: es)
def exE (r : RS) (K : Ent → Prop) : Prop := match r with
  | .one s => exC [s] fun cs => match cs with
    | [c] => K (.one c)
    | _ => False
  | .agg l => exC l fun cs => K (.agg cs)
  | .tup l => exT l fun es => K (.tup es)

/-- The shape of an object. -/
inductive OSh where
  | dead
  | box (l : List Sh)
  | row (e : Nat) (t : Ty)
def exO : List OSh → (List Ob → Prop) → Prop
  | [], K => K []
  | s :: l, K => match s with
    | .dead => exO l fun os => K (.dead :: os)
    | .box ss => exC ss fun cs => exO l fun os => K (.box cs :: os)
    | .row e t => ∃ xs : List t.den, exO l fun os => K (.row e t xs :: os)

def Ty.flat : Ty → Bool
  | .slice _ => false
  | .pair a b => a.flat && b.flat
  | _ => true
/-- Nothing of that shape leads to shared memory. -/
def Cell.flat : Cell → Bool
  | .sl _ _ | .ptrZ _ _ _ => false
  | _ => true
def Sh.flat : Sh → Bool
  | .sl _ => false
  | .fix c => c.flat
  | _ => true
def RS.flat : RS → Bool
  | .one s => s.flat
  | .agg l => l.all Sh.flat
  | .tup l => l.all fun x => x.2.all Sh.flat
def OSh.flat : OSh → Bool
  | .dead => true
  | .box l => l.all Sh.flat
  | .row _ t => t.flat

def eqNats : List Nat → List Nat → Bool
  | [], [] => true
  | a :: l, b :: m => Nat.beq a b && eqNats l m
  | _, _ => false

/-- A cell's kind, as a number. -/
def kindC : Cell → Nat
  | .undef => 0
  | .int _ _ => 1
  | .bool _ => 2
  | .str _ => 3
  | .sl _ _ => 4
  | .row _ => 5
  | .win _ _ _ => 6
  | .ptrB _ _ => 7
  | .ptrE _ _ _ => 8
  | .ptrZ _ _ _ => 9
  | .fn _ _ => 10
  | .nils => 11
  | .nilp => 12
  | .nilf => 13
  | .ifc _ => 14
def noNats : List Nat → Bool
  | [] => true
  | _ => false
/-- What is told of a function ahead of its calls: the shape of its result; are the rows among its arguments lent to be written; the objects that it is lent as it leaves them (none: as they were), and those that it makes. -/
structure Sig where
  ret : RS
  wr : Bool
  keep : Bool                -- rows that it is only shown stay the caller's (nothing that it hands back leads to them)
  after : Option (List OSh)
  news : List OSh
  args : List Nat             -- the kinds of its arguments' cells (none: whatever they are)

def Sig.flat (s : Sig) : Bool := s.ret.flat && ((match s.after with
  | none => true
  | some l => l.all OSh.flat) && s.news.all OSh.flat)

/-- What functions do, as told of them: function, arguments, objects that it is lent, result, and the objects after. -/
abbrev Calls_ := Nat → List Ent → List Ob → Ent → List Ob → Prop

def entCells : List Ent → List Cell
  | [] => []
  | e :: es => e.cells ++ entCells es

/-- Elements whose addresses are handed on are lent as variables. -/
def openC (st : St) (c : Cell) : St × Cell × List (Nat × Nat) := match c with
  | .ptrE i k o => match st.ob i with
    | .row e t xs => ((st.setOb i (.hole e t xs k)).addOb (.box (t.cells (xs.getD k t.dflt))), .ptrB st.objs.length o, [(i, st.objs.length)])
    | _ => (st, .undef, [])
  | c => (st, c, [])
def openCs (st : St) : List Cell → St × List Cell × List (Nat × Nat)
  | [] => (st, [], [])
  | c :: cs => match openC st c with
    | (st, c, h) => match openCs st cs with
      | (st, cs, hs) => (st, c :: cs, h ++ hs)
def openE (st : St) (e : Ent) : St × Ent × List (Nat × Nat) := match e with
  | .one c => match openC st c with
    | (st, c, h) => (st, .one c, h)
  | .agg cs => match openCs st cs with
    | (st, cs, h) => (st, .agg cs, h)
  | e => (st, e, [])
def openEs (st : St) : List Ent → St × List Ent × List (Nat × Nat)
  | [] => (st, [], [])
  | e :: es => match openE st e with
    | (st, e, h) => match openEs st es with
      | (st, es, hs) => (st, e :: es, h ++ hs)
def closeW (st : St) : List (Nat × Nat) → (St → Prop) → Prop
  | [], K => K st
  | (i, j) :: l, K => match st.ob j with
    | .box cs => match (st.shareAll cs).ob i with
      | .hole e t xs k => match readV t (cs.map (sharedC st)) with
        | some x => closeW (((st.shareAll cs).setOb i (.row e t (xs.set k x))).setOb j .dead) l K
        | none => False
      | _ => False
    | _ => False

/-- What was lent comes back. -/
def backTo (f : Nat → Option Nat) (st : St) : List Nat → List Ob → St
  | i :: M, o :: os => backTo f (st.setOb i (mapO (renC f) o)) M os
  | _, _ => st

def disj : List Nat → List Nat → Bool
  | [], _ => true
  | n :: l, M => bif memN n M then false else disj l M
def rowIds : List Cell → List Nat
  | [] => []
  | c :: cs => match c with
    | .row i | .win i _ _ => i :: rowIds cs
    | _ => rowIds cs

def lent (st : St) (M : List Nat) : List Ob := M.map fun i => mapO (renC (idx M)) (st.ob i)

/-- What was lent, as the call leaves it. -/
def exA (l : Option (List OSh)) (os : List Ob) (K : List Ob → Prop) : Prop := match l with
  | none => K os
  | some l => exO l K

/-- The call itself: the objects of M are lent. -/
def callM (C : Calls_) (g : Nat) (s : Sig) (as : List Ent) (M : List Nat) (hs : List (Nat × Nat)) (st : St) (d : Option Nat) (K : St → Prop) : Prop :=
  exE s.ret fun r => exO s.news fun nw => exA s.after (lent st M) fun os =>
    C g (as.map (mapE (renC (idx M)))) (lent st M) r (os ++ nw) ∧ Nat.beq os.length M.length = true ∧
      closeW (backTo (nth (M ++ rangeN nw.length st.objs.length)) ⟨st.tmps, st.objs ++ nw.map (mapO (renC (nth (M ++ rangeN nw.length st.objs.length))))⟩ M os) hs
        fun st' => K (st'.putO d (mapE (renC (nth (M ++ rangeN nw.length st.objs.length))) r))

def Ob.flat : Ob → Bool
  | .dead => true
  | .box cs => cs.all Cell.flat
  | .row _ t _ => t.flat
  | .hole _ t _ _ => t.flat
def mapA (f : Cell → Cell) : Ent → Ent
  | .one c => .one (f c)
  | .agg cs => .agg (cs.map f)
  | _ => .undef
def isNone {α : Type} : Option α → Bool
  | none => true
  | some _ => false

def pickSig : List (Nat × Sig) → Nat → List Nat → Option Sig
  | [], _, _ => none
  | p :: l, g, ks => bif Nat.beq p.1 g && (noNats p.2.args || eqNats p.2.args ks) then some p.2 else pickSig l g ks
def callW (C : Calls_) (G : List (Nat × Sig)) (g : Nat) (es : List Ent) (st : St) (d : Option Nat) (K : St → Prop) : Prop :=
  match pickSig G g ((entCells es).map kindC) with
  | some s =>
    match s.wr with
    | true => match nodupN (reach st st.objs.length 0 (addNew [] (idsOf (entCells es)))) && allLt st.objs.length (reach st st.objs.length 0 (addNew [] (idsOf (entCells es)))) with
      | true => callM C g s es (reach st st.objs.length 0 (addNew [] (idsOf (entCells es)))) [] st d K
      | false => False
    | false => match s.keep with
      | true => let as := es.map (mapA (sharedC st)); let M := reach st st.objs.length 0 (addNew [] (idsOf (entCells as)))
        match nodupN M && (allLt st.objs.length M && (disj (rowIds (entCells es)) M && (s.flat && (!(isNone s.after) || (lent st M).all Ob.flat)))) with
        | true => callM C g s as M [] st d K
        | false => False
      | false => let as := es.map (mapA (sharedC st)); let st' := st.shareAll (entCells es); let M := reach st' st'.objs.length 0 (addNew [] (idsOf (entCells as)))
        match nodupN M && allLt st'.objs.length M with
        | true => callM C g s as M [] st' d K
        | false => False
  | none => False

def opW (T : Tab) (C : Calls_) (G : List (Nat × Sig)) (o : Oper) (st : St) (K : St → Prop) : Prop :=
  match o.op with
  | .move x => K (st.putO o.dst (st.ev x))
  | .assign x => K (st.putO o.dst (st.ev x))
  | .pick c a b => match st.ev c with
    | .one (.bool t) => match t with
      | true => K (st.putO o.dst (st.ev a))
      | false => K (st.putO o.dst (st.ev b))
    | _ => False
  | .binOp op t x y _ => match look T t with
    | some te => match st.ev x, st.ev y with
      | .one .nils, .one .nils => match te.kind with
        | .slice => binW op (.one .nils) (.one .nils) fun c => K (st.putO o.dst (.one c))
        | _ => False
      | .one c, .one .nils => match te.kind, st.listOf c with
        | .slice, some ⟨_, xs⟩ => nilW op xs.length fun c => K (st.putO o.dst (.one c))
        | _, _ => False
      | .one (.bool a), .one (.bool b) => match te.kind with
        | .bool => binW op (.one (.bool a)) (.one (.bool b)) fun c => K (st.putO o.dst (.one c))
        | _ => False
      | .one .nilp, .one .nilp => match te.kind with
        | .pointer => binW op (.one .nils) (.one .nils) fun c => K (st.putO o.dst (.one c))
        | _ => False
      | .one (.ifc a), .one (.ifc b) => match te.kind, y with
        | .iface _, .const _ => binW op (.one (.ifc a)) (.one (.ifc b)) fun c => K (st.putO o.dst (.one c))
        | _, _ => False
      | x, y => binW op x y fun c => K (st.putO o.dst (.one c))
    | none => match st.ev x, st.ev y with
      | .one (.int k a), .one (.int l b) => binW op (.one (.int k a)) (.one (.int l b)) fun c => K (st.putO o.dst (.one c))
      | .one (.str a), .one (.str b) => binW op (.one (.str a)) (.one (.str b)) fun c => K (st.putO o.dst (.one c))
      | _, _ => False
  | .unOp op _ x => unW op (st.ev x) fun c => K (st.putO o.dst (.one c))
  | .convert src dst x => match look T dst, look T src with
    | some te, some ts => match st.ev x, te.kind with
      | .one (.int _ n), .int k => K (st.putO o.dst (.one (.int k (k.wrap n))))
      | .one (.str s), .str => K (st.putO o.dst (.one (.str s)))
      | .one (.str s), .slice => match ts.kind, look T te.elem with
        | .str, some ee => match ee.kind with
          | .int .u8 => s.size ≤ 140737488355328 ∧ K (st.putO o.dst (.one (.sl (.int .u8) (bytesL s))))
          | _ => False
        | _, _ => False
      | .one c, .str => match ts.kind, look T ts.elem with
        | .slice, some ee => match ee.kind, st.listOf c with
          | .int .u8, some ⟨.int .u8, xs⟩ => K (st.putO o.dst (.one (.str (strL xs))))
          | _, _ => False
        | _, _ => False
      | _, _ => False
    | _, _ => False
  | .alloc t => match look T t with
    | some te => K ((st.addOb (.box te.zero)).putO o.dst (.one (.ptrB st.objs.length 0)))
    | none => False
  | .box _ x => match st.ev x with
    | .tup _ => False
    | .undef => False
    | e => K ((st.addOb (.box e.cells)).putO o.dst (.one (.ptrB st.objs.length 0)))
  | .build t parts => match look T t with
    | some te => match te.kind with
      | .struct => match placesOf T te.flds, partsOf st parts.toList with
        | some ps, some vs => match fillW ps te.zero vs with
          | some cs => K (st.putO o.dst (.agg cs))
          | none => False
        | _, _ => False
      | _ => False
    | none => False
  | .buildSlice t n parts => match slTy T t with
    | some (e, ee) => match partsOf st parts.toList with
      | some vs => match (ee.told && Nat.blt 0 ee.size) && (Nat.ble (n * ee.size) 16777216 && eqNats (vs.map Prod.fst) (rangeN n 0)) with
        | true => match readAll ee.ty (vs.map fun v => v.2.map (sharedC st)) with
          | some xs => K (((st.shareAll (partCells vs)).addOb (.row e ee.ty xs)).putO o.dst (.one (.row (st.shareAll (partCells vs)).objs.length)))
          | none => False
        | false => False
      | none => False
    | none => False
  | .load t a => match look T t, st.ev a with
    | some te, .one c => match st.behind c with
      | some cs => match Nat.ble te.size cs.length with
        | true => K (st.putO o.dst (entOf te.agg (cs.take te.size)))
        | false => False
      | none => False
    | _, _ => False
  | .store t a x => match look T t, st.ev a with
    | some te, .one c => match st.ev x with
      | .tup _ => False
      | .undef => False
      | e => match Nat.beq e.cells.length te.size with
        | true => storeW st c e.cells fun st => K (st.putO o.dst (.tup []))
        | false => False
    | _, _ => False
  | .nilCheck x => match st.ev x with
    | .one c => match c with
      | .ptrB _ _ | .ptrE _ _ _ | .ptrZ _ _ _ => K (st.putO o.dst (.one c))
      | _ => False
    | _ => False
  | .fieldAddr s x f => match fldOf T s f, st.ev x with
    | some (q, fe), .one c => match Nat.beq fe.size 0, addrField q c with
      | true, _ => False
      | false, .undef => False
      | false, c => K (st.putO o.dst (.one c))
    | _, _ => False
  | .field s x f => match fldOf T s f, st.ev x with
    | some (q, fe), .agg cs => match Nat.ble (q + fe.size) cs.length with
      | true => K (st.putO o.dst (entOf fe.agg ((cs.drop q).take fe.size)))
      | false => False
    | _, _ => False
  | .indexAddr t x i => match slTy T t, st.ev x, st.ev i with
    | some (_, ee), .one c, .one (.int _ i) => match c with
      | .sl u xs => match Nat.beq ee.size u.size with
        | true => (0 ≤ i ∧ i < xs.length) ∧ K (st.putO o.dst (.one (.ptrZ u (xs.getD i.toNat u.dflt) 0)))
        | false => False
      | .row r => match st.ob r with
        | .row _ u xs => match Nat.beq ee.size u.size with
          | true => (0 ≤ i ∧ i < xs.length) ∧ K (st.putO o.dst (.one (.ptrE r i.toNat 0)))
          | false => False
        | _ => False
      | .win r lo hi => match st.ob r with
        | .row _ u xs => match Nat.beq ee.size u.size with
          | true => (0 ≤ i ∧ i < ((xs.take hi).drop lo).length) ∧ K (st.putO o.dst (.one (.ptrE r (lo + i.toNat) 0)))
          | false => False
        | _ => False
      | .nils => 0 ≤ i ∧ i < 0
      | _ => False
    | _, _, _ => False
  | .index t x i => match look T t, st.ev x, st.ev i with
    | some te, .one (.str s), .one (.int _ i) => match te.kind with
      | .str => (0 ≤ i ∧ i < s.size) ∧ K (st.putO o.dst (.one (.int .u8 ((bytesL s).getD i.toNat 0))))
      | _ => False
    | _, _, _ => False
  | .slice t x lo hi none => match st.ev x with
    | .one c => match c with
      | .str s => match look T t with
        | some te => match te.kind with
          | .str => match boundOf st lo 0, boundOf st hi s.size with
            | some l, some h => (0 ≤ l ∧ l ≤ h ∧ h ≤ s.size) ∧ K (st.putO o.dst (.one (.str (s.extract l.toNat h.toNat))))
            | _, _ => False
          | _ => False
        | none => False
      | .sl u xs => match slTy T t, boundOf st lo 0, boundOf st hi xs.length with
        | some (_, ee), some l, some h => Nat.beq ee.size u.size = true ∧ (0 ≤ l ∧ l ≤ h ∧ h ≤ xs.length) ∧ K (st.putO o.dst (.one (.sl u ((xs.take h.toNat).drop l.toNat))))
        | _, _, _ => False
      | .row r => match st.ob r with
        | .row _ u xs => match slTy T t, boundOf st lo 0, boundOf st hi xs.length with
          | some (_, ee), some l, some h => Nat.beq ee.size u.size = true ∧ (0 ≤ l ∧ l ≤ h ∧ h ≤ xs.length) ∧ K (st.putO o.dst (.one (.win r l.toNat h.toNat)))
          | _, _, _ => False
        | _ => False
      | _ => False
    | _ => False
  | .makeSlice t n m => match slTy T t, st.ev n, st.ev m with
    | some (e, ee), .one (.int _ n), .one (.int _ m) => match ee.told && Nat.blt 0 ee.size with
      | true => n = m ∧ (0 ≤ n ∧ n * ee.bytes ≤ 140737488355328) ∧ K ((st.addOb (.row e ee.ty (List.replicate n.toNat ee.ty.dflt))).putO o.dst (.one (.row st.objs.length)))
      | false => False
    | _, _, _ => False
  | .extract x i => match st.ev x with
    | .tup es => match nth es i with
      | some (a, cs) => K (st.putO o.dst (entOf a cs))
      | none => False
    | _ => False
  | .makeFunc fn fst caps => match fn, fst.toList with
    | .func f, [] => match caps.toList.map st.ev with
      | [] => K (st.putO o.dst (.one (.fn f [])))
      | [.one (.ptrB b 0)] => K (st.putO o.dst (.one (.fn f [b])))
      | [.one (.ptrB b 0), .one (.ptrB c 0)] => K (st.putO o.dst (.one (.fn f [b, c])))
      | _ => False
    | _, _ => False
  | .call { callee := .builtin b, args, argTypes } => builtinW T b args.toList argTypes.toList st o.dst K
  | .call { callee := .value f, args, .. } => match st.ev f with
    | .one (.fn g bs) => callW C G g (args.toList.map st.ev ++ bs.map fun b => .one (.ptrB b 0)) st o.dst K
    | _ => False
  | _ => False
end Go.Ry
