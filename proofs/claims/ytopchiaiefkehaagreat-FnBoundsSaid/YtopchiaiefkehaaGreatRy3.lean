/- The evaluator, texts 0 to 3: Typed values, what memory reads as: the ground of the evaluator. The evaluator's states: cells, and objects by number. The evaluator's operations. The evaluator's code: regions, branches, loops, functions. No condition. -/
import Derived.Laws.AppendOwn
import Derived.Below
import Derived.Tactics
import Derived.WalkKit
import Derived.KernelRfl
set_option linter.unusedVariables false
set_option linter.unusedSimpArgs false
namespace Go.Ry

def tabK : List (Nat × (Array Value → Prop)) := []

inductive Ty where
  | unit
  | int (k : IntKind)
  | bool
  | str
  | slice (t : Ty)
  | pair (a b : Ty)

@[reducible] def Ty.den : Ty → Type
  | .unit => Unit
  | .int _ => Int
  | .bool => Bool
  | .str => ByteArray
  | .slice t => List t.den
  | .pair a b => a.den × b.den

def Ty.dflt : (t : Ty) → t.den
  | .unit => ()
  | .int _ => (0 : Int)
  | .bool => false
  | .str => (⟨#[]⟩ : ByteArray)
  | .slice _ => []
  | .pair a b => (a.dflt, b.dflt)

def Ty.size : Ty → Nat
  | .unit => 0
  | .int _ | .bool | .str | .slice _ => 1
  | .pair a b => a.size + b.size

def Ty.eqb : Ty → Ty → Bool
  | .unit, .unit => true
  | .int k, .int l => k == l
  | .bool, .bool => true
  | .str, .str => true
  | .slice t, .slice u => Ty.eqb t u
  | .pair a b, .pair c d => Ty.eqb a c && Ty.eqb b d
  | _, _ => false

theorem Ty.eqb_eq : ∀ {t u : Ty}, Ty.eqb t u = true → t = u
  | .unit, .unit, _ => rfl
  | .int k, .int l, h => by simp only [Ty.eqb, beq_iff_eq] at h; rw [h]
  | .bool, .bool, _ => rfl
  | .str, .str, _ => rfl
  | .slice t, .slice u, h => by rw [Ty.eqb_eq (t := t) (u := u) h]
  | .pair a b, .pair c d, h => by
    simp only [Ty.eqb, Bool.and_eq_true] at h
    rw [Ty.eqb_eq (t := a) (u := c) h.1, Ty.eqb_eq (t := b) (u := d) h.2]
  | .unit, .int _, h | .unit, .bool, h | .unit, .str, h | .unit, .slice _, h | .unit, .pair _ _, h
  | .int _, .unit, h | .int _, .bool, h | .int _, .str, h | .int _, .slice _, h | .int _, .pair _ _, h
  | .bool, .unit, h | .bool, .int _, h | .bool, .str, h | .bool, .slice _, h | .bool, .pair _ _, h
  | .str, .unit, h | .str, .int _, h | .str, .bool, h | .str, .slice _, h | .str, .pair _ _, h
  | .slice _, .unit, h | .slice _, .int _, h | .slice _, .bool, h | .slice _, .str, h | .slice _, .pair _ _, h
  | .pair _ _, .unit, h | .pair _ _, .int _, h | .pair _ _, .bool, h | .pair _ _, .str, h | .pair _ _, .slice _, h => by simp [Ty.eqb] at h

def CellsAt (w : World) (g o : Nat) (cs : List Value) : Prop := ∀ j u, cs[j]? = some u → w.cell? ⟨g, o + j, none⟩ = some u

def Rd (w : World) (Z : Nat → Prop) : (t : Ty) → t.den → List Value → Prop
  | .unit, _, cs => cs = []
  | .int k, x, cs => cs = [.int k x]
  | .bool, x, cs => cs = [.bool x]
  | .str, x, cs => cs = [.string x]
  | .pair a b, x, cs => ∃ c1 c2, cs = c1 ++ c2 ∧ Rd w Z a x.1 c1 ∧ Rd w Z b x.2 c2
  | .slice t, xs, cs => ∃ (a : Option Addr) (n c : Nat), cs = [.slice a n c] ∧ n = xs.length ∧ n ≤ c ∧
      (a = none → n = 0) ∧
      (∀ ad, a = some ad → ∀ (i : Nat) (x : t.den), xs[i]? = some x → ad.spot = none ∧ Z ad.block ∧ ∃ es : List Value, es.length = t.size ∧ CellsAt w ad.block (ad.off + i * t.size) es ∧ Rd w Z t x es)

theorem Rd.length {w : World} {Z : Nat → Prop} : ∀ {t : Ty} {x : t.den} {cs : List Value}, Rd w Z t x cs → cs.length = t.size
  | .unit, _, _, h => by simp only [Rd] at h; rw [h]; rfl
  | .int _, _, _, h => by simp only [Rd] at h; rw [h]; rfl
  | .bool, _, _, h => by simp only [Rd] at h; rw [h]; rfl
  | .str, _, _, h => by simp only [Rd] at h; rw [h]; rfl
  | .slice _, _, _, h => by obtain ⟨a, n, c, h, _⟩ := h; rw [h]; rfl
  | .pair a b, x, _, h => by
    obtain ⟨c1, c2, rfl, h1, h2⟩ := h
    rw [List.length_append, Rd.length h1, Rd.length h2]; rfl

theorem Rd.mono {w w' : World} {Z Z' : Nat → Prop} (hw : ∀ b, Z b → w'.heap[b]? = w.heap[b]?) (hz : ∀ b, Z b → Z' b) :
    ∀ {t : Ty} {x : t.den} {cs : List Value}, Rd w Z t x cs → Rd w' Z' t x cs
  | .unit, _, _, h => h
  | .int _, _, _, h => h
  | .bool, _, _, h => h
  | .str, _, _, h => h
  | .pair a b, x, _, h => by
    obtain ⟨c1, c2, e, h1, h2⟩ := h
    exact ⟨c1, c2, e, Rd.mono hw hz h1, Rd.mono hw hz h2⟩
  | .slice t, xs, _, h => by
    obtain ⟨a, n, c, e, hn, hc, h0, ha⟩ := h
    refine ⟨a, n, c, e, hn, hc, h0, fun ad had i x hi => ?_⟩
    obtain ⟨hs, hz1, es, hl, hat, hr⟩ := ha ad had i x hi
    refine ⟨hs, hz _ hz1, es, hl, fun j u hj => ?_, Rd.mono hw hz hr⟩
    rw [← hat j u hj]
    exact World.cell?_of_block (w := w) (w' := w') (hw _ hz1)
end Go.Ry
set_option linter.unusedVariables false
set_option linter.unusedSimpArgs false
namespace Go.Ry

inductive Cell where
  | undef
  | int (k : IntKind) (n : Int)
  | bool (b : Bool)
  | str (s : ByteArray)
  | sl (t : Ty) (xs : List t.den)          -- a slice that nobody writes any more
  | row (i : Nat)                          -- the whole of row i
  | win (i lo hi : Nat)                    -- a part of it
  | ptrB (i o : Nat)                       -- into variable i
  | ptrE (i k o : Nat)                     -- into element k of row i
  | ptrZ (t : Ty) (x : t.den) (o : Nat)    -- into memory that nobody writes any more
  | fn (f : Nat) (bs : List Nat)           -- a function, and the variables that it has captured
  | nils | nilp | nilf
  | selfp (i t n : Nat)                    -- nil, or a pointer to variable i, which is all of a block of type t with n cells
  | dat (i : Nat)                          -- where row i begins
  | sub (i k : Nat)                        -- the inner slice of element k of nest i
  | mapP (i : Nat)                         -- map i
  | ifc (nil : Bool)                       -- an interface value; is it nil?

inductive Ent where
  | undef
  | one (c : Cell)
  | agg (cs : List Cell)
  | tup (es : List (Bool × List Cell))

structure Inn where
  o : Nat
  e : Nat
  s : Ty

inductive Ob where
  | dead
  | box (cs : List Cell)
  | row (e : Nat) (t : Ty) (xs : List t.den)
  | imap (k v : IntKind) (es : List (Int × Int))   -- a map from numbers to numbers
  | nest (e : Nat) (t : Ty) (q : Inn) (xs : List t.den) (hl : Option Nat)   -- a row whose elements' inner slices are owned, too (hl: that of element hl is lent)

structure St where
  tmps : List Ent
  objs : List Ob

inductive TK where
  | int (k : IntKind) | bool | str | slice | struct | array (n : Nat) | pointer | func | iface (bare : Bool) | map (k e : Nat) | other

structure TE where
  kind : TK
  ty : Ty                       -- its values as plain data
  told : Bool                   -- are they
  agg : Bool
  size : Nat
  bytes : Nat
  flds : List (Nat × Nat)       -- a struct's fields: offset, type
  elem : Nat                    -- a slice's or an array's element type
  zero : List Cell
  eq : Bool                     -- may structs of that type be compared field by field
  inn : Option Inn              -- slices of it are nests

def look {α : Type} : List (Nat × α) → Nat → Option α
  | [], _ => none
  | (k, a) :: l, n => bif k == n then some a else look l n

def setNth {α : Type} : List α → Nat → α → List α
  | [], _, _ => []
  | _ :: l, 0, b => b :: l
  | a :: l, n + 1, b => a :: setNth l n b

def nth {α : Type} : List α → Nat → Option α
  | [], _ => none
  | a :: _, 0 => some a
  | _ :: l, n + 1 => nth l n

def Ent.cells : Ent → List Cell
  | .one c => [c]
  | .agg cs => cs
  | _ => []

def St.tmp (st : St) (d : Nat) : Ent := (nth st.tmps d).getD .undef
def St.ob (st : St) (i : Nat) : Ob := (nth st.objs i).getD .dead
def St.box (st : St) (i : Nat) : Option (List Cell) := match st.ob i with
  | .box cs => some cs
  | _ => none
def St.putO (st : St) (d : Option Nat) (e : Ent) : St := match d with
  | some d => ⟨setNth st.tmps d e, st.objs⟩
  | none => st
def St.setOb (st : St) (i : Nat) (o : Ob) : St := ⟨st.tmps, setNth st.objs i o⟩
def St.addOb (st : St) (o : Ob) : St := ⟨st.tmps, st.objs ++ [o]⟩

def mapE (f : Cell → Cell) : Ent → Ent
  | .one c => .one (f c)
  | .agg cs => .agg (cs.map f)
  | .tup es => .tup (es.map fun x => (x.1, x.2.map f))
  | .undef => .undef
def mapO (f : Cell → Cell) : Ob → Ob
  | .box cs => .box (cs.map f)
  | o => o
def St.map (f : Cell → Cell) (st : St) : St := ⟨st.tmps.map (mapE f), st.objs.map (mapO f)⟩

def cstC : Value → Cell
  | .int k n => .int k n
  | .bool b => .bool b
  | .string s => .str s
  | .slice none 0 0 => .nils
  | .pointer none => .nilp
  | .nilFunc => .nilf
  | .nilIface => .ifc true
  | _ => .undef
def cstE : Value → Ent
  | .agg cs => match cs.toList.all Value.oneCell' with
    | true => .agg (cs.toList.map cstC)
    | false => .undef
  | v => match v.oneCell' with
    | true => .one (cstC v)
    | false => .undef

def St.ev (st : St) : Operand → Ent
  | .tmp d => st.tmp d
  | .const v => cstE v
  | .func f => .one (.fn f [])
  | .global _ => .undef

/-! ### maps from numbers to numbers -/
def mfind : List (Int × Int) → Int → Nat → Option (Nat × Int)
  | [], _, _ => none
  | p :: l, n, i => if n = p.1 then some (i, p.2) else mfind l n (i + 1)
def lkup (es : List (Int × Int)) (n : Int) : Option Int := (mfind es n 0).map Prod.snd
def mput (es : List (Int × Int)) (n x : Int) : List (Int × Int) := match mfind es n 0 with
  | some (i, _) => es.set i (n, x)
  | none => es ++ [(n, x)]

/-! ### values and cells -/
def Ty.cells : (t : Ty) → t.den → List Cell
  | .unit, _ => []
  | .int k, x => [.int k x]
  | .bool, x => [.bool x]
  | .str, x => [.str x]
  | .slice t, x => [.sl t x]
  | .pair a b, x => a.cells x.1 ++ b.cells x.2

def St.listOf (st : St) : Cell → Option (Σ t : Ty, List t.den)
  | .sl u xs => some ⟨u, xs⟩
  | .row i => match st.ob i with
    | .row _ u xs => some ⟨u, xs⟩
    | _ => none
  | .win i lo hi => match st.ob i with
    | .row _ u xs => some ⟨u, (xs.take hi).drop lo⟩
    | _ => none
  | _ => none

def castL (t : Ty) (x : Σ u : Ty, List u.den) : Option (List t.den) :=
  if h : Ty.eqb x.1 t = true then some (Ty.eqb_eq h ▸ x.2) else none

def innerOf (t : Ty) (q : Inn) (x : t.den) : List q.s.den := match nth (t.cells x) q.o with
  | some (.sl u ys) => match castL q.s ⟨u, ys⟩ with
    | some ys => ys
    | none => []
  | _ => []
def nestCells (t : Ty) (q : Inn) (x : t.den) (i k : Nat) : List Cell := setNth (t.cells x) q.o (.sub i k)
def St.lenOf (st : St) (c : Cell) : Option Nat := match c with
  | .row i => match st.ob i with
    | .row _ _ xs => some xs.length
    | .nest _ _ _ xs none => some xs.length
    | _ => none
  | .sub i k => match st.ob i with
    | .nest _ t q xs none => some (innerOf t q (xs.getD k t.dflt)).length
    | _ => none
  | c => match st.listOf c with
    | some ⟨_, xs⟩ => some xs.length
    | none => none

def readC : (t : Ty) → List Cell → Option (t.den × List Cell)
  | .unit, cs => some ((), cs)
  | .int k, cs => match cs with
    | .int l n :: cs => if l = k then some (n, cs) else none
    | _ => none
  | .bool, cs => match cs with
    | .bool b :: cs => some (b, cs)
    | _ => none
  | .str, cs => match cs with
    | .str s :: cs => some (s, cs)
    | _ => none
  | .slice t, cs => match cs with
    | .sl u xs :: cs => match castL t ⟨u, xs⟩ with
      | some xs => some (xs, cs)
      | none => none
    | .nils :: cs => some ([], cs)
    | _ => none
  | .pair a b, cs => match readC a cs with
    | some (x, cs) => match readC b cs with
      | some (y, cs) => some ((x, y), cs)
      | none => none
    | none => none
def readV (t : Ty) (cs : List Cell) : Option t.den := match readC t cs with
  | some (x, []) => some x
  | _ => none

/-! ### sharing -/
def shareC (i : Nat) (u : Ty) (xs : List u.den) (c : Cell) : Cell := match c with
  | .row j => bif j == i then .sl u xs else c
  | .win j lo hi => bif j == i then .sl u ((xs.take hi).drop lo) else c
  | .ptrE j k o => bif j == i then .ptrZ u (xs.getD k u.dflt) o else c
  | c => c
def shareN (i : Nat) (u : Ty) (q : Inn) (xs : List u.den) (c : Cell) : Cell := match c with
  | .sub j k => bif j == i then (nth (u.cells (xs.getD k u.dflt)) q.o).getD .undef else c
  | c => shareC i u xs c
def St.share (st : St) (i : Nat) : St := match st.ob i with
  | .row _ u xs => (st.setOb i .dead).map (shareC i u xs)
  | .nest _ u q xs none => (st.setOb i .dead).map (shareN i u q xs)
  | _ => st
def sharedC (st : St) (c : Cell) : Cell := match c with
  | .row i => match st.ob i with
    | .row _ u xs => .sl u xs
    | .nest _ u _ xs none => .sl u xs
    | _ => .undef
  | .win i lo hi => match st.ob i with
    | .row _ u xs => .sl u ((xs.take hi).drop lo)
    | _ => .undef
  | .sub i k => match st.ob i with
    | .nest _ u q xs none => (nth (u.cells (xs.getD k u.dflt)) q.o).getD .undef
    | _ => .undef
  | .ptrE _ _ _ => .undef
  | c => c
def St.shareAll (st : St) : List Cell → St
  | [] => st
  | c :: cs => match c with
    | .row i => (st.share i).shareAll cs
    | .win i _ _ => (st.share i).shareAll cs
    | .sub i _ => (st.share i).shareAll cs
    | _ => st.shareAll cs

/-! ### objects get other numbers -/
def mapAll (f : Nat → Option Nat) : List Nat → Option (List Nat)
  | [] => some []
  | n :: l => match f n, mapAll f l with
    | some m, some l => some (m :: l)
    | _, _ => none
def renC (f : Nat → Option Nat) (c : Cell) : Cell := match c with
  | .row i => match f i with
    | some j => .row j
    | none => .undef
  | .win i lo hi => match f i with
    | some j => .win j lo hi
    | none => .undef
  | .ptrB i o => match f i with
    | some j => .ptrB j o
    | none => .undef
  | .ptrE i k o => match f i with
    | some j => .ptrE j k o
    | none => .undef
  | .selfp i t n => match f i with
    | some j => .selfp j t n
    | none => .undef
  | .dat i => match f i with
    | some j => .dat j
    | none => .undef
  | .sub i k => match f i with
    | some j => .sub j k
    | none => .undef
  | .mapP i => match f i with
    | some j => .mapP j
    | none => .undef
  | .fn g bs => match mapAll f bs with
    | some bs => .fn g bs
    | none => .undef
  | c => c
def idx : List Nat → Nat → Option Nat
  | [], _ => none
  | m :: l, n => bif m == n then some 0 else match idx l n with
    | some k => some (k + 1)
    | none => none
def memN (n : Nat) : List Nat → Bool
  | [] => false
  | m :: l => bif m == n then true else memN n l
def nodupN : List Nat → Bool
  | [] => true
  | m :: l => bif memN m l then false else nodupN l
def allLt (n : Nat) : List Nat → Bool
  | [] => true
  | m :: l => bif Nat.blt m n then allLt n l else false
def St.pick (st : St) (M : List Nat) : St := ⟨st.tmps.map (mapE (renC (idx M))), M.map fun i => mapO (renC (idx M)) (st.ob i)⟩

def Cell.ids : Cell → List Nat
  | .row i | .win i _ _ | .ptrB i _ | .ptrE i _ _ | .selfp i _ _ | .dat i | .sub i _ | .mapP i => [i]
  | .fn _ bs => bs
  | _ => []
def addNew : List Nat → List Nat → List Nat
  | M, [] => M
  | M, n :: l => addNew (bif memN n M then M else M ++ [n]) l
def idsOf : List Cell → List Nat
  | [] => []
  | c :: cs => c.ids ++ idsOf cs
def reach (st : St) : Nat → Nat → List Nat → List Nat
  | 0, _, M => M
  | n + 1, k, M => match nth M k with
    | none => M
    | some i => match st.ob i with
      | .box cs => reach st n (k + 1) (addNew M (idsOf cs))
      | _ => reach st n (k + 1) M
def rangeN : Nat → Nat → List Nat
  | 0, _ => []
  | n + 1, k => k :: rangeN n (k + 1)
end Go.Ry
set_option linter.unusedVariables false
set_option linter.unusedSimpArgs false
namespace Go.Ry
abbrev Tab := List (Nat × TE)

def ifB (b : Bool) (p q : Prop) : Prop := match b with
  | true => p
  | false => q

def ifT (b : Bool) (p : Prop) : Prop := match b with
  | true => p
  | false => False
theorem ifT_iff {b : Bool} {p : Prop} : ifT b p ↔ b = true ∧ p := by cases b <;> simp [ifT]

/-! ### scalars -/
def arith (op : BinOp) (k : IntKind) (x y : Int) (K : Cell → Prop) : Prop :=
  match op with
  | .add => K (.int k (k.wrap (x + y)))
  | .sub => K (.int k (k.wrap (x - y)))
  | .mul => K (.int k (k.wrap (x * y)))
  | .quo => y ≠ 0 ∧ K (.int k (k.wrap (x.tdiv y)))
  | .rem => y ≠ 0 ∧ K (.int k (x.tmod y))
  | .and => K (.int k (bits .and k x y))
  | .or => K (.int k (bits .or k x y))
  | .xor => K (.int k (bits .xor k x y))
  | .andNot => K (.int k (bits .andNot k x y))
  | .shl => 0 ≤ y ∧ K (.int k (k.wrap (x * 2 ^ min y.toNat k.bits)))
  | .shr => 0 ≤ y ∧ K (.int k (x.fdiv (2 ^ min y.toNat k.bits)))
  | .eql => K (.bool (x == y))
  | .neq => K (.bool (x != y))
  | .lss => K (.bool (decide (x < y)))
  | .leq => K (.bool (decide (x ≤ y)))
  | .gtr => K (.bool (decide (x > y)))
  | .geq => K (.bool (decide (x ≥ y)))

def strOp (op : BinOp) (x y : ByteArray) (K : Cell → Prop) : Prop :=
  match op with
  | .add => x.size + y.size ≤ 9223372036854775807 ∧ K (.str (x ++ y))
  | .eql => K (.bool (x.toList == y.toList))
  | .neq => K (.bool (!(x.toList == y.toList)))
  | .lss => K (.bool (Op.bytesLess x.toList y.toList))
  | .leq => K (.bool (Op.bytesLess x.toList y.toList || x.toList == y.toList))
  | .gtr => K (.bool (!(Op.bytesLess x.toList y.toList || x.toList == y.toList)))
  | .geq => K (.bool (!Op.bytesLess x.toList y.toList))
  | _ => False

def binW (op : BinOp) (x y : Ent) (K : Cell → Prop) : Prop :=
  match x, y with
  | .one (.int k a), .one (.int l b) => match op with
    | .shl | .shr => arith op k a b K
    | _ => if k = l then arith op k a b K else False
  | .one (.bool a), .one (.bool b) => match op with
    | .eql => K (.bool (a == b))
    | .neq => K (.bool (!(a == b)))
    | _ => False
  | .one (.str a), .one (.str b) => strOp op a b K
  | .one .nils, .one .nils => match op with
    | .eql => K (.bool true)
    | .neq => K (.bool false)
    | _ => False
  | .one (.ifc a), .one (.ifc true) => match op with
    | .eql => K (.bool a)
    | .neq => K (.bool (!a))
    | _ => False
  | _, _ => False

def nilW (op : BinOp) (xs : Nat) (K : Cell → Prop) : Prop :=
  match op with
  | .eql => ∀ b : Bool, (b = true → xs = 0) → K (.bool b)
  | .neq => ∀ b : Bool, (b = true → xs = 0) → K (.bool (!b))
  | _ => False

def unW (op : UnOp) (x : Ent) (K : Cell → Prop) : Prop :=
  match op, x with
  | .neg, .one (.int k a) => K (.int k (k.wrap (0 - a)))
  | .not, .one (.bool a) => K (.bool (!a))
  | _, _ => False

/-! ### memory -/
def Ty.parts : Ty → List Ty
  | .unit => []
  | .pair a b => a.parts ++ b.parts
  | t => [t]
def Ty.plain : Ty → Bool
  | .int _ | .bool | .str => true
  | _ => false
def onlyAt : List Ty → Nat → Ty → Bool
  | [], _, _ => false
  | t :: l, 0, s => (match t with
    | .slice u => Ty.eqb u s
    | _ => false) && l.all Ty.plain
  | t :: l, o + 1, s => t.plain && onlyAt l o s
def nestTy (t : Ty) (q : Inn) : Bool := onlyAt t.parts q.o q.s && ((q.s.parts.all Ty.plain) && Nat.blt 0 q.s.size)

def entOf (agg : Bool) (cs : List Cell) : Ent := match agg with
  | true => .agg cs
  | false => match cs with
    | [c] => .one c
    | _ => .undef

def St.behind (st : St) : Cell → Option (List Cell)
  | .ptrB i o => (st.box i).map fun cs => cs.drop o
  | .ptrE i k o => match st.ob i with
    | .row _ u xs => some ((u.cells (xs.getD k u.dflt)).drop o)
    | .nest _ u q xs none => some ((nestCells u q (xs.getD k u.dflt) i k).drop o)
    | _ => none
  | .ptrZ t x o => some ((t.cells x).drop o)
  | _ => none

def putAt : List Cell → Nat → List Cell → List Cell
  | cs, 0, ds => ds ++ cs.drop ds.length
  | c :: cs, o + 1, ds => c :: putAt cs o ds
  | [], _, _ => []

def namedL {α : Type} (n : Nat) (xs : List α) (K : List α → Prop) : Prop := match Nat.ble 6 n with
  | true => ∀ ys, ys = xs → K ys
  | false => K xs
theorem namedL_use {α : Type} {n : Nat} {xs : List α} {K : List α → Prop} (h : namedL n xs K) : K xs := by
  unfold namedL at h
  split at h
  · exact h xs rfl
  · exact h

def nestC (i j : Nat) (c : Cell) : Cell := match c with
  | .row n => bif Nat.beq n i then .row j else c
  | .win n lo hi => bif Nat.beq n i then .win j lo hi else c
  | .ptrE n m o => bif Nat.beq n i then .ptrE j m o else c
  | .dat n => bif Nat.beq n i then .dat j else c
  | .sub n _ => bif Nat.beq n i then .undef else c
  | c => c
def storeN (st : St) (i k o : Nat) (v : List Cell) (e : Nat) (u : Ty) (q : Inn) (xs : List u.den) (K : St → Prop) : Prop :=
  match Nat.ble o q.o && Nat.blt q.o (o + v.length) with
  | false => match readV u (putAt (u.cells (xs.getD k u.dflt)) o v) with
    | some x => namedL u.size (xs.set k x) fun xs => K (st.setOb i (.nest e u q xs none))
    | none => False
  | true => match nth v (q.o - o) with
    | some (.row j) => match st.ob j with
      | .row f s ys => match Nat.beq f q.e && (Ty.eqb s q.s && !Nat.beq j i), readV u (putAt (u.cells (xs.getD k u.dflt)) o (setNth v (q.o - o) (.sl s ys))) with
        | true, some x => K ((((st.setOb i .dead).setOb j .dead).addOb (.nest e u q (xs.set k x) none)).map (nestC i st.objs.length))
        | _, _ => False
      | _ => False
    | some .nils => match readV u (putAt (u.cells (xs.getD k u.dflt)) o v) with
      | some x => K (((st.setOb i .dead).addOb (.nest e u q (xs.set k x) none)).map (nestC i st.objs.length))
      | none => False
    | some (.sub j m) => match Nat.beq j i, readV u (putAt (u.cells (xs.getD k u.dflt)) o (setNth v (q.o - o) (.sl q.s (innerOf u q (xs.getD k u.dflt))))) with
      | true, some x => m = k ∧ K (st.setOb i (.nest e u q (xs.set k x) none))
      | _, _ => False
    | _ => False

def selfAt (i t n : Nat) : List Cell → List Cell
  | .nilp :: l => .selfp i t n :: l
  | l => l
def mendSelf : List Cell → List Cell → List Cell
  | .selfp i t n :: _, .nilp :: l => .selfp i t n :: l
  | _, l => l
theorem mendSelf_length {cs ds : List Cell} : (mendSelf cs ds).length = ds.length := by
  unfold mendSelf
  split <;> simp
def storeW (st : St) (a : Cell) (v : List Cell) (K : St → Prop) : Prop :=
  match a with
  | .ptrB i o => match st.box i with
    | some cs => ifT (Nat.ble (o + v.length) cs.length) (K (st.setOb i (.box (mendSelf cs (putAt cs o v)))))
    | none => False
  | .ptrE i k o => match st.ob i with
   | .nest e u q xs none => ifT (Nat.ble (o + v.length) u.size) (storeN st i k o v e u q xs K)
   | _ => match (st.shareAll v).ob i with
    | .row e u xs => match Nat.ble (o + v.length) u.size, readV u (putAt (u.cells (xs.getD k u.dflt)) o (v.map (sharedC st))) with
      | true, some x => namedL u.size (xs.set k x) fun xs => K ((st.shareAll v).setOb i (.row e u xs))
      | _, _ => False
    | _ => False
  | _ => False

def addrField (o : Nat) : Cell → Cell
  | .ptrB i q => .ptrB i (q + o)
  | .ptrE i k q => .ptrE i k (q + o)
  | .ptrZ t x q => .ptrZ t x (q + o)
  | _ => .undef

def placesOf (T : Tab) : List (Nat × Nat) → Option (List (Nat × Nat))
  | [] => some []
  | p :: l => match look T p.2, placesOf T l with
    | some fe, some ps => some ((p.1, fe.size) :: ps)
    | _, _ => none
def fillW (ps : List (Nat × Nat)) : List Cell → List (Nat × List Cell) → Option (List Cell)
  | cs, [] => some cs
  | cs, p :: l => match nth ps p.1 with
    | none => none
    | some (o, n) => match Nat.beq p.2.length n && Nat.ble (o + p.2.length) cs.length with
      | true => fillW ps (putAt cs o p.2) l
      | false => none
def partsOf (st : St) : List (Nat × Operand) → Option (List (Nat × List Cell))
  | [] => some []
  | p :: l => match partsOf st l with
    | some vs => match st.ev p.2 with
      | .one c => some ((p.1, [c]) :: vs)
      | .agg cs => some ((p.1, cs) :: vs)
      | _ => none
    | none => none
def partCells : List (Nat × List Cell) → List Cell
  | [] => []
  | p :: l => p.2 ++ partCells l

def readAll (u : Ty) : List (List Cell) → Option (List u.den)
  | [] => some []
  | c :: cs => match readV u c, readAll u cs with
    | some x, some xs => some (x :: xs)
    | _, _ => none

def boundOf (st : St) (x : Option Operand) (d : Int) : Option Int := match x with
  | none => some d
  | some x => match st.ev x with
    | .one (.int _ n) => some n
    | _ => none

def bytesL (s : ByteArray) : List Int := s.data.toList.map fun b => (b.toNat : Int)
def strL (xs : List Int) : ByteArray := ⟨(xs.map fun n => UInt8.ofNat n.toNat).toArray⟩

def fldOf (T : Tab) (s f : Nat) : Option (Nat × TE) := match look T s with
  | some te => match te.kind with
    | .struct => match nth te.flds f with
      | some (o, t) => match look T t with
        | some fe => some (o, fe)
        | none => none
      | none => none
    | _ => none
  | none => none
def eqCell (fe : TE) (c d : Cell) : Option Bool := match fe.kind, c, d with
  | .int _, .int k x, .int l y => if k = l then some (x == y) else none
  | .bool, .bool x, .bool y => some (x == y)
  | .str, .str x, .str y => some (x.toList == y.toList)
  | _, _, _ => none
def eqFlds (T : Tab) : List (Nat × Nat) → List Cell → List Cell → Option Bool
  | [], _, _ => some true
  | p :: l, cs, ds => match look T p.2, nth cs p.1, nth ds p.1, eqFlds T l cs ds with
    | some fe, some c, some d, some b => match eqCell fe c d with
      | some e => some (e && b)
      | none => none
    | _, _, _, _ => none
def slTy (T : Tab) (t : Nat) : Option (Nat × TE) := match look T t with
  | some te => match te.kind with
    | .slice => match look T te.elem with
      | some ee => some (te.elem, ee)
      | none => none
    | _ => none
  | none => none

def appendW (st : St) (e bytes : Nat) (u : Ty) (s : Cell) (ys : List u.den) (d : Option Nat) (K : St → Prop) : Prop :=
  match s with
  | .nils => ys.length * bytes ≤ 140737488355328 ∧ K ((st.addOb (.row e u ys)).putO d (.one (.row st.objs.length)))
  | .row i => match st.ob i with
    | .row f t xs => match f == e, castL u ⟨t, xs⟩ with
      | true, some xs => (xs.length + ys.length) * bytes ≤ 140737488355328 ∧ K (((st.setOb i .dead).addOb (.row e u (xs ++ ys))).putO d (.one (.row st.objs.length)))
      | _, _ => False
    | _ => False
  | .win i lo hi => match lo, st.ob i with
    | 0, .row f t xs => match f == e, castL u ⟨t, xs⟩ with
      | true, some xs => ((xs.take hi).length + ys.length) * bytes ≤ 140737488355328 ∧ K (((st.setOb i .dead).addOb (.row e u (xs.take hi ++ ys))).putO d (.one (.row st.objs.length)))
      | _, _ => False
    | _, _ => False
  | _ => False

def copyW (st : St) (e : Nat) (u : Ty) (s : Cell) (ys : List u.den) (d : Option Nat) (K : St → Prop) : Prop :=
  match s with
  | .row i => match st.ob i with
    | .row f t xs => match f == e, castL u ⟨t, xs⟩ with
      | true, some xs => ys.length = xs.length ∧ K ((st.setOb i (.row e u ys)).putO d (.one (.int .i64 ys.length)))
      | _, _ => False
    | _ => False
  | _ => False
def innEq (p q : Inn) : Bool := Nat.beq p.o q.o && (Nat.beq p.e q.e && Ty.eqb p.s q.s)
def appendN (st : St) (e bytes : Nat) (u : Ty) (s x : Cell) (d : Option Nat) (K : St → Prop) : Prop :=
  match x with
  | .row r => match st.ob r with
    | .nest f t q ys none => match f == e, castL u ⟨t, ys⟩ with
      | true, some ys => match s with
        | .nils => ys.length * bytes ≤ 140737488355328 ∧ K (((st.setOb r .dead).addOb (.nest e u q ys none)).putO d (.one (.row st.objs.length)))
        | .row i => match st.ob i with
          | .nest g t' p xs none => match (g == e) && (innEq p q && !Nat.beq r i), castL u ⟨t', xs⟩ with
            | true, some xs => (xs.length + ys.length) * bytes ≤ 140737488355328 ∧ K ((((st.setOb i .dead).setOb r .dead).addOb (.nest e u q (xs ++ ys) none)).putO d (.one (.row st.objs.length)))
            | _, _ => False
          | _ => False
        | _ => False
      | _, _ => False
    | _ => False
  | _ => False
def movesIn (st : St) (q : Inn) (v : List Cell) : Bool := match nth v q.o with
  | some (.row j) => match st.ob j with
    | .row f s _ => Nat.beq f q.e && Ty.eqb s q.s
    | _ => false
  | some .nils => true
  | _ => false
def nestPart (st : St) (u : Ty) (inn : Option Inn) (vs : List (Nat × List Cell)) : Option (Inn × List Cell) := match inn, vs with
  | some q, [p] => match nestTy u q && movesIn st q p.2 with
    | true => some (q, p.2)
    | false => none
  | some q, [] => match nestTy u q with
    | true => some (q, [])
    | false => none
  | _, _ => none
def buildN (st : St) (e : Nat) (u : Ty) (q : Inn) (v : List Cell) (d : Option Nat) (K : St → Prop) : Prop := match nth v q.o with
  | some (.row j) => match st.ob j with
    | .row f s ys => match Nat.beq f q.e && Ty.eqb s q.s, readV u (setNth v q.o (.sl s ys)) with
      | true, some x => K (((st.setOb j .dead).addOb (.nest e u q [x] none)).putO d (.one (.row st.objs.length)))
      | _, _ => False
    | _ => False
  | some .nils => match readV u v with
    | some x => K ((st.addOb (.nest e u q [x] none)).putO d (.one (.row st.objs.length)))
    | none => False
  | _ => False

def intsOf (st : St) : List Operand → Option (List (IntKind × Int))
  | [] => some []
  | x :: xs => match st.ev x, intsOf st xs with
    | .one (.int k a), some l => some ((k, a) :: l)
    | _, _ => none
def minL (a : Int) : List (IntKind × Int) → Int
  | [] => a
  | (_, b) :: l => minL (if b < a then b else a) l
def maxL (a : Int) : List (IntKind × Int) → Int
  | [] => a
  | (_, b) :: l => maxL (if b > a then b else a) l

def builtinW (T : Tab) (b : Builtin) (args : List Operand) (argTypes : List Nat) (st : St) (d : Option Nat) (K : St → Prop) : Prop :=
  match b, args with
  | .len, [x] => match argTypes with
    | t :: _ => match look T t with
      | some te => match te.kind, st.ev x with
        | .str, .one (.str s) => K (st.putO d (.one (.int .i64 s.size)))
        | .slice, .one .nils => K (st.putO d (.one (.int .i64 0)))
        | .slice, .one c => match st.lenOf c with
          | some n => K (st.putO d (.one (.int .i64 n)))
          | none => False
        | _, _ => False
      | none => False
    | _ => False
  | .min, xs => match intsOf st xs with
    | some ((k, a) :: l) => K (st.putO d (.one (.int k (minL a l))))
    | _ => False
  | .max, xs => match intsOf st xs with
    | some ((k, a) :: l) => K (st.putO d (.one (.int k (maxL a l))))
    | _ => False
  | .append, [s, x] => match argTypes with
    | [ts, tx] => match slTy T ts, look T tx with
      | some (e, ee), some xe => match ee.told && Nat.blt 0 ee.size with
        | true => match xe.kind, st.ev s, st.ev x with
          | .str, .one s, .one (.str y) => match ee.ty with
            | .int .u8 => appendW st e ee.bytes (.int .u8) s (bytesL y) d K
            | _ => False
          | .slice, .one s, .one .nils => appendW st e ee.bytes ee.ty s [] d K
          | .slice, .one s, .one x => match st.listOf x with
            | some ys => match castL ee.ty ys with
              | some ys => appendW st e ee.bytes ee.ty s ys d K
              | none => False
            | none => appendN st e ee.bytes ee.ty s x d K
          | _, _, _ => False
        | false => False
      | _, _ => False
    | _ => False
  | .copy, [s, x] => match argTypes with
    | [ts, tx] => match slTy T ts, look T tx with
      | some (e, ee), some xe => match ee.told && Nat.blt 0 ee.size with
        | true => match xe.kind, st.ev s, st.ev x with
          | .slice, .one s, .one x => match st.listOf x with
            | some ys => match castL ee.ty ys with
              | some ys => copyW st e ee.ty s ys d K
              | none => False
            | none => False
          | _, _, _ => False
        | false => False
      | _, _ => False
    | _ => False
  | _, _ => False

/-! ### calls -/
inductive Sh where
  | int (k : IntKind) | bool | str | sl (t : Ty) | ifc | win (i : Nat) | fix (c : Cell)
  | val (c : Cell)          -- this very value
  | elem (i o : Nat)         -- a pointer into some element of row i
  | addr (t : Ty) (o : Nat)  -- a pointer into memory that nobody writes any more

def exC : List Sh → (List Cell → Prop) → Prop
  | [], K => K []
  | s :: l, K => match s with
    | .int k => ∃ n : Int, exC l fun cs => K (.int k n :: cs)
    | .bool => ∃ b : Bool, exC l fun cs => K (.bool b :: cs)
    | .str => ∃ s : ByteArray, exC l fun cs => K (.str s :: cs)
    | .sl t => ∃ xs : List t.den, exC l fun cs => K (.sl t xs :: cs)
    | .ifc => ∃ b : Bool, exC l fun cs => K (.ifc b :: cs)
    | .win i => ∃ lo hi : Nat, exC l fun cs => K (.win i lo hi :: cs)
    | .fix c => exC l fun cs => K (c :: cs)
    | .val c => exC l fun cs => K (c :: cs)
    | .elem i o => ∃ k : Nat, exC l fun cs => K (.ptrE i k o :: cs)
    | .addr t o => ∃ x : t.den, exC l fun cs => K (.ptrZ t x o :: cs)

inductive RS where
  | one (s : Sh)
  | agg (l : List Sh)
  | tup (l : List (Bool × List Sh))

def exT : List (Bool × List Sh) → (List (Bool × List Cell) → Prop) → Prop
  | [], K => K []
  | (a, s) :: l, K => exC s fun cs => exT l fun es => K ((a, cs) :: es)
def exE (r : RS) (K : Ent → Prop) : Prop := match r with
  | .one s => exC [s] fun cs => match cs with
    | [c] => K (.one c)
    | _ => False
  | .agg l => exC l fun cs => K (.agg cs)
  | .tup l => exT l fun es => K (.tup es)

inductive OSh where
  | dead
  | box (l : List Sh)
  | row (e : Nat) (t : Ty)
  | nest (e : Nat) (t : Ty) (q : Inn)
  | imap (k v : IntKind)
def exO : List OSh → (List Ob → Prop) → Prop
  | [], K => K []
  | s :: l, K => match s with
    | .dead => exO l fun os => K (.dead :: os)
    | .box ss => exC ss fun cs => exO l fun os => K (.box cs :: os)
    | .row e t => ∃ xs : List t.den, exO l fun os => K (.row e t xs :: os)
    | .nest e t q => ∃ xs : List t.den, exO l fun os => K (.nest e t q xs none :: os)
    | .imap k v => ∃ es : List (Int × Int), exO l fun os => K (.imap k v es :: os)

def Ty.flat : Ty → Bool
  | .slice _ => false
  | .pair a b => a.flat && b.flat
  | _ => true
def Cell.flat : Cell → Bool
  | .sl _ _ | .ptrZ _ _ _ => false
  | _ => true
def Sh.flat : Sh → Bool
  | .sl _ => false
  | .addr _ _ => false
  | .fix c => c.flat
  | .val c => c.flat
  | _ => true
def RS.flat : RS → Bool
  | .one s => s.flat
  | .agg l => l.all Sh.flat
  | .tup l => l.all fun x => x.2.all Sh.flat
def OSh.flat : OSh → Bool
  | .dead => true
  | .box l => l.all Sh.flat
  | .row _ t => t.flat
  | .nest _ _ _ => true
  | .imap _ _ => true

def eqNats : List Nat → List Nat → Bool
  | [], [] => true
  | a :: l, b :: m => Nat.beq a b && eqNats l m
  | _, _ => false

def kindC : Cell → Nat
  | .undef => 0
  | .int _ _ => 1
  | .bool _ => 2
  | .str _ => 3
  | .sl _ _ => 4
  | .row _ => 5
  | .win _ _ _ => 6
  | .ptrB _ _ => 7
  | .ptrE _ _ _ => 8
  | .ptrZ _ _ _ => 9
  | .fn _ _ => 10
  | .nils => 11
  | .nilp => 12
  | .nilf => 13
  | .ifc _ => 14
  | .selfp _ _ _ => 15
  | .dat _ => 16
  | .sub _ _ => 17
  | .mapP _ => 18
def noNats : List Nat → Bool
  | [] => true
  | _ => false
structure Sig where
  ret : RS
  wr : Bool
  keep : Bool                -- rows that it is only shown stay the caller's (nothing that it hands back leads to them)
  after : Option (List OSh)
  news : List OSh
  args : List Nat             -- the kinds of its arguments' cells (none: whatever they are)

def Sig.flat (s : Sig) : Bool := s.ret.flat && ((match s.after with
  | none => true
  | some l => l.all OSh.flat) && s.news.all OSh.flat)

abbrev Calls_ := Nat → List Ent → List Ob → Ent → List Ob → Prop

def entCells : List Ent → List Cell
  | [] => []
  | e :: es => e.cells ++ entCells es

def openC (st : St) (c : Cell) : St × Cell × List (Nat × Nat × Nat) := match c with
  | .sub i k => match st.ob i with
    | .nest e t q xs none => ((st.setOb i (.nest e t q xs (some k))).addOb (.row q.e q.s (innerOf t q (xs.getD k t.dflt))), .row st.objs.length, [(i, k, st.objs.length)])
    | _ => (st, .undef, [])
  | c => (st, c, [])
def openCs (st : St) : List Cell → St × List Cell × List (Nat × Nat × Nat)
  | [] => (st, [], [])
  | c :: cs => match openC st c with
    | (st, c, h) => match openCs st cs with
      | (st, cs, hs) => (st, c :: cs, h ++ hs)
def openE (st : St) (e : Ent) : St × Ent × List (Nat × Nat × Nat) := match e with
  | .one c => match openC st c with
    | (st, c, h) => (st, .one c, h)
  | .agg cs => match openCs st cs with
    | (st, cs, h) => (st, .agg cs, h)
  | e => (st, e, [])
def openEs (st : St) : List Ent → St × List Ent × List (Nat × Nat × Nat)
  | [] => (st, [], [])
  | e :: es => match openE st e with
    | (st, e, h) => match openEs st es with
      | (st, es, hs) => (st, e :: es, h ++ hs)
def closeW (st : St) : List (Nat × Nat × Nat) → (St → Prop) → Prop
  | [], K => K st
  | (i, k, j) :: l, K => match st.ob j with
    | .row f s ys => match st.ob i with
      | .nest e t q xs (some m) => match Nat.beq f q.e && (Ty.eqb s q.s && !Nat.beq j i), readV t (setNth (t.cells (xs.getD k t.dflt)) q.o (.sl s ys)) with
        | true, some x => m = k ∧ closeW ((st.setOb i (.nest e t q (xs.set k x) none)).setOb j .dead) l K
        | _, _ => False
      | _ => False
    | _ => False

def backTo (f : Nat → Option Nat) (st : St) : List Nat → List Ob → St
  | i :: M, o :: os => backTo f (st.setOb i (mapO (renC f) o)) M os
  | _, _ => st

def disj : List Nat → List Nat → Bool
  | [], _ => true
  | n :: l, M => bif memN n M then false else disj l M
def rowIds : List Cell → List Nat
  | [] => []
  | c :: cs => match c with
    | .row i | .win i _ _ | .sub i _ => i :: rowIds cs
    | _ => rowIds cs

def lent (st : St) (M : List Nat) : List Ob := M.map fun i => mapO (renC (idx M)) (st.ob i)

def exA (l : Option (List OSh)) (os : List Ob) (K : List Ob → Prop) : Prop := match l with
  | none => K os
  | some l => exO l K

def callM (C : Calls_) (g : Nat) (s : Sig) (as : List Ent) (M : List Nat) (hs : List (Nat × Nat × Nat)) (st : St) (d : Option Nat) (K : St → Prop) : Prop :=
  exE s.ret fun r => exO s.news fun nw => exA s.after (lent st M) fun os =>
    C g (as.map (mapE (renC (idx M)))) (lent st M) r (os ++ nw) ∧ ifT (Nat.beq os.length M.length)
      (closeW (backTo (nth (M ++ rangeN nw.length st.objs.length)) ⟨st.tmps, st.objs ++ nw.map (mapO (renC (nth (M ++ rangeN nw.length st.objs.length))))⟩ M os) hs
        fun st' => K (st'.putO d (mapE (renC (nth (M ++ rangeN nw.length st.objs.length))) r)))

def Ob.flat : Ob → Bool
  | .dead => true
  | .box cs => cs.all Cell.flat
  | .row _ t _ => t.flat
  | .nest _ _ _ _ _ => true
  | .imap _ _ _ => true
def mapA (f : Cell → Cell) : Ent → Ent
  | .one c => .one (f c)
  | .agg cs => .agg (cs.map f)
  | _ => .undef
def isNone {α : Type} : Option α → Bool
  | none => true
  | some _ => false

def pickSig : List (Nat × Sig) → Nat → List Nat → Option Sig
  | [], _, _ => none
  | p :: l, g, ks => bif Nat.beq p.1 g && (noNats p.2.args || eqNats p.2.args ks) then some p.2 else pickSig l g ks
def callW (C : Calls_) (G : List (Nat × Sig)) (g : Nat) (es : List Ent) (st : St) (d : Option Nat) (K : St → Prop) : Prop :=
  match pickSig G g ((entCells es).map kindC) with
  | some s =>
    match s.wr with
    | true => match openEs st es with
      | (st, es, hs) => match nodupN (reach st st.objs.length 0 (addNew [] (idsOf (entCells es)))) && allLt st.objs.length (reach st st.objs.length 0 (addNew [] (idsOf (entCells es)))) with
        | true => callM C g s es (reach st st.objs.length 0 (addNew [] (idsOf (entCells es)))) hs st d K
        | false => False
    | false => match s.keep with
      | true => let as := es.map (mapA (sharedC st)); let M := reach st st.objs.length 0 (addNew [] (idsOf (entCells as)))
        match nodupN M && (allLt st.objs.length M && (disj (rowIds (entCells es)) M && (s.flat && (!(isNone s.after) || (lent st M).all Ob.flat)))) with
        | true => callM C g s as M [] st d K
        | false => False
      | false => let as := es.map (mapA (sharedC st)); let st' := st.shareAll (entCells es); let M := reach st' st'.objs.length 0 (addNew [] (idsOf (entCells as)))
        match nodupN M && allLt st'.objs.length M with
        | true => callM C g s as M [] st' d K
        | false => False
  | none => False

def arrPlaces (sz : Nat) : Nat → Nat → List (Nat × Nat)
  | 0, _ => []
  | n + 1, o => (o, sz) :: arrPlaces sz n (o + sz)
def chunks (sz : Nat) : Nat → List Cell → List (List Cell)
  | 0, _ => []
  | n + 1, cs => cs.take sz :: chunks sz n (cs.drop sz)
def pickA (agg : Bool) (i : Int) : List (List Cell) → Nat → (Ent → Prop) → Prop
  | [], _, _ => False
  | cs :: l, k, K => match l with
    | [] => K (entOf agg cs)
    | _ => ifB (i == (k : Int)) (K (entOf agg cs)) (pickA agg i l (k + 1) K)
def arrW (ee : TE) (ccs : List (List Cell)) (i : Int) (K : Ent → Prop) : Prop := match ee.told with
  | true => match readAll ee.ty ccs with
    | some xs => K (entOf ee.agg (ee.ty.cells (xs.getD i.toNat ee.ty.dflt)))
    | none => pickA ee.agg i ccs 0 K
  | false => pickA ee.agg i ccs 0 K

def opW (T : Tab) (C : Calls_) (G : List (Nat × Sig)) (o : Oper) (st : St) (K : St → Prop) : Prop :=
  match o.op with
  | .move x => K (st.putO o.dst (st.ev x))
  | .assign x => K (st.putO o.dst (st.ev x))
  | .pick c a b => match st.ev c with
    | .one (.bool t) => match t with
      | true => K (st.putO o.dst (st.ev a))
      | false => K (st.putO o.dst (st.ev b))
    | _ => False
  | .binOp op t x y _ => match look T t with
    | some te => match st.ev x, st.ev y with
      | .one .nils, .one .nils => match te.kind with
        | .slice => binW op (.one .nils) (.one .nils) fun c => K (st.putO o.dst (.one c))
        | _ => False
      | .one c, .one .nils => match te.kind, st.lenOf c with
        | .slice, some n => nilW op n fun c => K (st.putO o.dst (.one c))
        | _, _ => False
      | .one (.bool a), .one (.bool b) => match te.kind with
        | .bool => binW op (.one (.bool a)) (.one (.bool b)) fun c => K (st.putO o.dst (.one c))
        | _ => False
      | .one .nilp, .one .nilp => match te.kind with
        | .pointer => binW op (.one .nils) (.one .nils) fun c => K (st.putO o.dst (.one c))
        | _ => False
      | .one (.ifc a), .one (.ifc b) => match te.kind, y with
        | .iface _, .const _ => binW op (.one (.ifc a)) (.one (.ifc b)) fun c => K (st.putO o.dst (.one c))
        | _, _ => False
      | .agg cs, .agg ds => match te.kind, te.eq, eqFlds T te.flds cs ds with
        | .struct, true, some b => match op with
          | .eql => K (st.putO o.dst (.one (.bool b)))
          | .neq => K (st.putO o.dst (.one (.bool (!b))))
          | _ => False
        | _, _, _ => False
      | x, y => binW op x y fun c => K (st.putO o.dst (.one c))
    | none => match st.ev x, st.ev y with
      | .one (.int k a), .one (.int l b) => binW op (.one (.int k a)) (.one (.int l b)) fun c => K (st.putO o.dst (.one c))
      | .one (.str a), .one (.str b) => binW op (.one (.str a)) (.one (.str b)) fun c => K (st.putO o.dst (.one c))
      | _, _ => False
  | .unOp op _ x => unW op (st.ev x) fun c => K (st.putO o.dst (.one c))
  | .convert src dst x => match look T dst, look T src with
    | some te, some ts => match st.ev x, te.kind with
      | .one (.int _ n), .int k => K (st.putO o.dst (.one (.int k (k.wrap n))))
      | .one (.str s), .str => K (st.putO o.dst (.one (.str s)))
      | .one (.str s), .slice => match ts.kind, look T te.elem with
        | .str, some ee => match ee.kind with
          | .int .u8 => s.size ≤ 140737488355328 ∧ K (st.putO o.dst (.one (.sl (.int .u8) (bytesL s))))
          | _ => False
        | _, _ => False
      | .one c, .str => match ts.kind, look T ts.elem with
        | .slice, some ee => match ee.kind, st.listOf c with
          | .int .u8, some ⟨.int .u8, xs⟩ => K (st.putO o.dst (.one (.str (strL xs))))
          | _, _ => False
        | _, _ => False
      | _, _ => False
    | _, _ => False
  | .alloc t => match look T t with
    | some te => K ((st.addOb (.box (selfAt st.objs.length t te.zero.length te.zero))).putO o.dst (.one (.ptrB st.objs.length 0)))
    | none => False
  | .box _ x => match st.ev x with
    | .tup _ => False
    | .undef => False
    | e => K ((st.addOb (.box e.cells)).putO o.dst (.one (.ptrB st.objs.length 0)))
  | .build t parts => match look T t with
    | some te => match te.kind with
      | .struct => match placesOf T te.flds, partsOf st parts.toList with
        | some ps, some vs => match fillW ps te.zero vs with
          | some cs => K (st.putO o.dst (.agg cs))
          | none => False
        | _, _ => False
      | .array n => match look T te.elem, partsOf st parts.toList with
        | some ee, some vs => match fillW (arrPlaces ee.size n 0) te.zero vs with
          | some cs => K (st.putO o.dst (.agg cs))
          | none => False
        | _, _ => False
      | _ => False
    | none => False
  | .buildSlice t n parts => match slTy T t with
    | some (e, ee) => match partsOf st parts.toList with
      | some vs => match (ee.told && Nat.blt 0 ee.size) && (Nat.ble (n * ee.size) 16777216 && eqNats (vs.map Prod.fst) (rangeN n 0)) with
        | true => match nestPart st ee.ty ee.inn vs with
         | some (q, []) => K ((st.addOb (.nest e ee.ty q [] none)).putO o.dst (.one (.row st.objs.length)))
         | some (q, v) => buildN st e ee.ty q v o.dst K
         | none => match readAll ee.ty (vs.map fun v => v.2.map (sharedC st)) with
          | some xs => K (((st.shareAll (partCells vs)).addOb (.row e ee.ty xs)).putO o.dst (.one (.row (st.shareAll (partCells vs)).objs.length)))
          | none => False
        | false => False
      | none => False
    | none => False
  | .load t a => match look T t, st.ev a with
    | some te, .one c => match st.behind c with
      | some cs => match Nat.ble te.size cs.length with
        | true => K (st.putO o.dst (entOf te.agg (cs.take te.size)))
        | false => False
      | none => False
    | _, _ => False
  | .store t a x => match look T t, st.ev a with
    | some te, .one c => match st.ev x with
      | .tup _ => False
      | .undef => False
      | e => match Nat.beq e.cells.length te.size with
        | true => storeW st c e.cells fun st => K (st.putO o.dst (.tup []))
        | false => False
    | _, _ => False
  | .nilCheck x => match st.ev x with
    | .one c => match c with
      | .ptrB _ _ | .ptrE _ _ _ | .ptrZ _ _ _ => K (st.putO o.dst (.one c))
      | _ => False
    | _ => False
  | .fieldAddr s x f => match fldOf T s f, st.ev x with
    | some (q, fe), .one c => match Nat.beq fe.size 0, addrField q c with
      | true, _ => False
      | false, .undef => False
      | false, c => K (st.putO o.dst (.one c))
    | _, _ => False
  | .field s x f => match fldOf T s f, st.ev x with
    | some (q, fe), .agg cs => match Nat.ble (q + fe.size) cs.length with
      | true => K (st.putO o.dst (entOf fe.agg ((cs.drop q).take fe.size)))
      | false => False
    | _, _ => False
  | .indexAddr t x i => match slTy T t, st.ev x, st.ev i with
    | some (_, ee), .one c, .one (.int _ i) => match c with
      | .sl u xs => match Nat.beq ee.size u.size with
        | true => (0 ≤ i ∧ i < xs.length) ∧ K (st.putO o.dst (.one (.ptrZ u (xs.getD i.toNat u.dflt) 0)))
        | false => False
      | .row r => match st.ob r with
        | .row _ u xs => match Nat.beq ee.size u.size with
          | true => (0 ≤ i ∧ i < xs.length) ∧ K (st.putO o.dst (.one (.ptrE r i.toNat 0)))
          | false => False
        | .nest _ u _ xs none => match Nat.beq ee.size u.size with
          | true => (0 ≤ i ∧ i < xs.length) ∧ K (st.putO o.dst (.one (.ptrE r i.toNat 0)))
          | false => False
        | _ => False
      | .win r lo hi => match st.ob r with
        | .row _ u xs => match Nat.beq ee.size u.size with
          | true => (0 ≤ i ∧ i < ((xs.take hi).drop lo).length) ∧ K (st.putO o.dst (.one (.ptrE r (lo + i.toNat) 0)))
          | false => False
        | _ => False
      | .nils => 0 ≤ i ∧ i < 0
      | _ => False
    | _, _, _ => False
  | .index t x i => match look T t, st.ev x, st.ev i with
    | some te, .one (.str s), .one (.int _ i) => match te.kind with
      | .str => (0 ≤ i ∧ i < s.size) ∧ K (st.putO o.dst (.one (.int .u8 ((bytesL s).getD i.toNat 0))))
      | _ => False
    | some te, .agg cs, .one (.int _ i) => match te.kind, look T te.elem with
      | .array n, some ee => match Nat.beq cs.length (n * ee.size) with
        | true => (0 ≤ i ∧ i < n) ∧ arrW ee (chunks ee.size n cs) i fun e => K (st.putO o.dst e)
        | false => False
      | _, _ => False
    | _, _, _ => False
  | .slice t x lo hi none => match st.ev x with
    | .one c => match c with
      | .str s => match look T t with
        | some te => match te.kind with
          | .str => match boundOf st lo 0, boundOf st hi s.size with
            | some l, some h => (0 ≤ l ∧ l ≤ h ∧ h ≤ s.size) ∧ K (st.putO o.dst (.one (.str (s.extract l.toNat h.toNat))))
            | _, _ => False
          | _ => False
        | none => False
      | .sl u xs => match slTy T t, boundOf st lo 0, boundOf st hi xs.length with
        | some (_, ee), some l, some h => ifT (Nat.beq ee.size u.size) ((0 ≤ l ∧ l ≤ h ∧ h ≤ xs.length) ∧ K (st.putO o.dst (.one (.sl u ((xs.take h.toNat).drop l.toNat)))))
        | _, _, _ => False
      | .row r => match st.ob r with
        | .row _ u xs => match slTy T t, boundOf st lo 0, boundOf st hi xs.length with
          | some (_, ee), some l, some h => ifT (Nat.beq ee.size u.size) ((0 ≤ l ∧ l ≤ h ∧ h ≤ xs.length) ∧ K (st.putO o.dst (.one (.win r l.toNat h.toNat))))
          | _, _, _ => False
        | _ => False
      | _ => False
    | _ => False
  | .makeSlice t n m => match slTy T t, st.ev n, st.ev m with
    | some (e, ee), .one (.int _ n), .one (.int _ m) => match ee.told && Nat.blt 0 ee.size with
      | true => n = m ∧ (0 ≤ n ∧ n * ee.bytes ≤ 140737488355328) ∧ match ee.inn with
        | none => K ((st.addOb (.row e ee.ty (List.replicate n.toNat ee.ty.dflt))).putO o.dst (.one (.row st.objs.length)))
        | some q => ifT (nestTy ee.ty q) (K ((st.addOb (.nest e ee.ty q (List.replicate n.toNat ee.ty.dflt) none)).putO o.dst (.one (.row st.objs.length))))
      | false => False
    | _, _, _ => False
  | .makeMap t r => match look T t, r with
    | some te, none => match te.kind with
      | .map a b => match look T a, look T b with
        | some ta, some tb => match ta.kind, tb.kind with
          | .int k, .int v => K ((st.addOb (.imap k v [])).putO o.dst (.one (.mapP st.objs.length)))
          | _, _ => False
        | _, _ => False
      | _ => False
    | _, _ => False
  | .lookup t x y ok => match look T t, st.ev x, st.ev y with
    | some te, .one (.mapP i), .one (.int l n) => match te.kind, st.ob i with
      | .map a b, .imap k v es => match look T a, look T b with
        | some ta, some tb => match ta.kind, tb.kind with
          | .int k', .int v' => if k' = l ∧ k = l ∧ v' = v then (match ok with
            | true => K (st.putO o.dst (.tup [(false, [.int v ((lkup es n).getD 0)]), (false, [.bool (lkup es n).isSome])]))
            | false => K (st.putO o.dst (.one (.int v ((lkup es n).getD 0))))) else False
          | _, _ => False
        | _, _ => False
      | _, _ => False
    | _, _, _ => False
  | .mapUpdate t m x y => match look T t, st.ev m, st.ev x, st.ev y with
    | some te, .one (.mapP i), .one (.int l n), .one (.int u z) => match te.kind, st.ob i with
      | .map a _, .imap k v es => match look T a with
        | some ta => match ta.kind with
          | .int k' => if k' = l ∧ k = l ∧ u = v then K ((st.setOb i (.imap k v (mput es n z))).putO o.dst (.tup [])) else False
          | _ => False
        | _ => False
      | _, _ => False
    | _, _, _, _ => False
  | .extract x i => match st.ev x with
    | .tup es => match nth es i with
      | some (a, cs) => K (st.putO o.dst (entOf a cs))
      | none => False
    | _ => False
  | .makeFunc fn fst caps => match fn, fst.toList with
    | .func f, [] => match caps.toList.map st.ev with
      | [] => K (st.putO o.dst (.one (.fn f [])))
      | [.one (.ptrB b 0)] => K (st.putO o.dst (.one (.fn f [b])))
      | [.one (.ptrB b 0), .one (.ptrB c 0)] => K (st.putO o.dst (.one (.fn f [b, c])))
      | _ => False
    | _, _ => False
  | .call { callee := .builtin b, args, argTypes } => builtinW T b args.toList argTypes.toList st o.dst K
  | .call { callee := .value f, args, .. } => match st.ev f with
    | .one (.fn g bs) => callW C G g (args.toList.map st.ev ++ bs.map fun b => .one (.ptrB b 0)) st o.dst K
    | _ => False
  | _ => False
end Go.Ry
set_option linter.unusedVariables false
set_option linter.unusedSimpArgs false
namespace Go.Ry

def eqFix : Cell → Cell → Bool
  | .undef, _ => true
  | .row i, .row j => Nat.beq i j
  | .mapP i, .mapP j => Nat.beq i j
  | .ptrB a o, .ptrB b q => Nat.beq a b && Nat.beq o q
  | .fn f bs, .fn g cs => Nat.beq f g && eqNats bs cs
  | .selfp a t n, .selfp b u m => Nat.beq a b && (Nat.beq t u && Nat.beq n m)
  | .nils, .nils | .nilp, .nilp | .nilf, .nilf => true
  | _, _ => false
def fitC : Sh → Cell → Option Cell
  | .int k, .int l n => if l = k then some (.int l n) else none
  | .bool, .bool b => some (.bool b)
  | .str, .str s => some (.str s)
  | .sl t, .sl u xs => bif Ty.eqb u t then some (.sl u xs) else none
  | .sl t, .nils => some (.sl t [])
  | .ifc, .ifc b => some (.ifc b)
  | .win i, .win j lo hi => bif Nat.beq i j then some (.win j lo hi) else none
  | .fix c, d => bif eqFix c d then some c else none
  | .val _, d => some d
  | .elem i o, .ptrE j k p => bif Nat.beq i j && Nat.beq o p then some (.ptrE i k o) else none
  | .addr t o, .ptrZ u x p => bif Ty.eqb u t && Nat.beq o p then some (.ptrZ u x p) else none
  | _, _ => none
def fitCs : List Sh → List Cell → Option (List Cell)
  | [], [] => some []
  | s :: l, c :: cs => match fitC s c, fitCs l cs with
    | some c, some cs => some (c :: cs)
    | _, _ => none
  | _, _ => none

inductive ESh where
  | one (s : Sh)
  | agg (l : List Sh)
def fitE : ESh → Ent → Option Ent
  | .one s, .one c => match fitC s c with
    | some c => some (.one c)
    | none => none
  | .agg l, .agg cs => match fitCs l cs with
    | some cs => some (.agg cs)
    | none => none
  | _, _ => none
def fitEs (st : St) : List (Nat × ESh) → Option (List Ent)
  | [] => some []
  | s :: l => match fitE s.2 (st.tmp s.1), fitEs st l with
    | some e, some es => some (e :: es)
    | _, _ => none
def fitO : OSh → Ob → Option Ob
  | .dead, _ => some .dead
  | .box l, .box cs => match fitCs l cs with
    | some cs => some (.box cs)
    | none => none
  | .row e t, .row f u xs => bif Nat.beq f e && Ty.eqb u t then some (.row f u xs) else none
  | .imap k v, .imap k' v' es => if k' = k ∧ v' = v then some (.imap k v es) else none
  | .nest e t q, .nest f u p xs none => bif (Nat.beq f e && Ty.eqb u t) && (Nat.beq p.o q.o && (Nat.beq p.e q.e && Ty.eqb p.s q.s)) then some (.nest f u q xs none) else none
  | _, _ => none
def fitOs : List OSh → List Ob → Option (List Ob)
  | [], [] => some []
  | s :: l, o :: os => match fitO s o, fitOs l os with
    | some o, some os => some (o :: os)
    | _, _ => none
  | _, _ => none

structure Cut where
  slots : List (Nat × ESh)
  objs : List OSh

def allC : List Sh → (List Cell → Prop) → Prop
  | [], K => K []
  | s :: l, K => match s with
    | .int k => ∀ n : Int, allC l fun cs => K (.int k n :: cs)
    | .bool => ∀ b : Bool, allC l fun cs => K (.bool b :: cs)
    | .str => ∀ s : ByteArray, allC l fun cs => K (.str s :: cs)
    | .sl t => ∀ xs : List t.den, allC l fun cs => K (.sl t xs :: cs)
    | .ifc => ∀ b : Bool, allC l fun cs => K (.ifc b :: cs)
    | .win i => ∀ lo hi : Nat, allC l fun cs => K (.win i lo hi :: cs)
    | .fix c => allC l fun cs => K (c :: cs)
    | .val c => allC l fun cs => K (c :: cs)
    | .elem i o => ∀ k : Nat, allC l fun cs => K (.ptrE i k o :: cs)
    | .addr t o => ∀ x : t.den, allC l fun cs => K (.ptrZ t x o :: cs)
def allE : List (Nat × ESh) → (List Ent → Prop) → Prop
  | [], K => K []
  | s :: l, K => match s.2 with
    | .one s => allC [s] fun cs => match cs with
      | [c] => allE l fun es => K (.one c :: es)
      | _ => True
    | .agg ss => allC ss fun cs => allE l fun es => K (.agg cs :: es)
def allO : List OSh → (List Ob → Prop) → Prop
  | [], K => K []
  | s :: l, K => match s with
    | .dead => allO l fun os => K (.dead :: os)
    | .box ss => allC ss fun cs => allO l fun os => K (.box cs :: os)
    | .row e t => ∀ xs : List t.den, allO l fun os => K (.row e t xs :: os)
    | .nest e t q => ∀ xs : List t.den, allO l fun os => K (.nest e t q xs none :: os)
    | .imap k v => ∀ es : List (Int × Int), allO l fun os => K (.imap k v es :: os)

def undefs : Nat → List Ent
  | 0 => []
  | n + 1 => .undef :: undefs n
def setSlots : List Ent → List (Nat × ESh) → List Ent → List Ent
  | ts, s :: l, e :: es => setSlots (setNth ts s.1 e) l es
  | ts, _, _ => ts
def mkSt (n : Nat) (k : Cut) (es : List Ent) (os : List Ob) : St := ⟨setSlots (undefs n) k.slots es, os⟩

/-! ### getting ready for a cut -/
def ESh.list : ESh → List Sh
  | .one s => [s]
  | .agg l => l
inductive Pos where
  | slot (d j : Nat)
  | box (i j : Nat)
inductive Cmd where
  | share (i : Nat)
  | nilrow (p : Pos) (e : Nat) (t : Ty)     -- a nil slice becomes a row
  | nilnest (p : Pos) (e : Nat) (t : Ty) (q : Inn)
  | trim (p : Pos)                           -- a row's beginning becomes a row
  | towin (p : Pos)                          -- a row becomes a part of it: the whole
def Ent.setCell (e : Ent) (j : Nat) (c : Cell) : Ent := match e with
  | .one x => match j with
    | 0 => .one c
    | _ => .one x
  | .agg cs => .agg (setNth cs j c)
  | e => e
def St.at (st : St) : Pos → Cell
  | .slot d j => (nth (st.tmp d).cells j).getD .undef
  | .box i j => match st.ob i with
    | .box cs => (nth cs j).getD .undef
    | _ => .undef
def St.setAt (st : St) (p : Pos) (c : Cell) : St := match p with
  | .slot d j => ⟨setNth st.tmps d ((st.tmp d).setCell j c), st.objs⟩
  | .box i j => match st.ob i with
    | .box cs => st.setOb i (.box (setNth cs j c))
    | _ => st
def St.obey (st : St) : Cmd → St
  | .share i => st.share i
  | .nilrow p e t => match st.at p, Nat.blt 0 t.size with
    | .nils, true => (st.addOb (.row e t [])).setAt p (.row st.objs.length)
    | _, _ => st
  | .nilnest p e t q => match st.at p, Nat.blt 0 t.size && nestTy t q with
    | .nils, true => (st.addOb (.nest e t q [] none)).setAt p (.row st.objs.length)
    | _, _ => st
  | .trim p => match st.at p with
    | .win i 0 hi => match st.ob i with
      | .row e t xs => ((st.setOb i .dead).addOb (.row e t (xs.take hi))).setAt p (.row st.objs.length)
      | _ => st
    | _ => st
  | .towin p => match st.at p with
    | .row i => match st.ob i with
      | .row _ _ xs => st.setAt p (.win i 0 xs.length)
      | _ => st
    | _ => st
def St.obeys (st : St) : List Cmd → St
  | [] => st
  | c :: l => (st.obey c).obeys l

def bindN (M : List (Option Nat)) (k i : Nat) : List (Option Nat) := match nth M k with
  | some none => setNth M k (some i)
  | _ => M
def bindC (M : List (Option Nat)) (s : Sh) (c : Cell) : List (Option Nat) := match s, c with
  | .fix (.row k), .row i => bindN M k i
  | .fix (.mapP k), .mapP i => bindN M k i
  | .win k, .win i _ _ => bindN M k i
  | .elem k _, .ptrE i _ _ => bindN M k i
  | .val (.ptrE k _ _), .ptrE i _ _ => bindN M k i
  | .fix (.ptrB k _), .ptrB i _ => bindN M k i
  | .fix (.fn _ ks), .fn _ is => (List.zip ks is).foldl (fun M x => bindN M x.1 x.2) M
  | _, _ => M
def bindCs : List (Option Nat) → List Sh → List Cell → List (Option Nat)
  | M, s :: l, c :: cs => bindCs (bindC M s c) l cs
  | M, _, _ => M
def bindS (st : St) : List (Option Nat) → List (Nat × ESh) → List (Option Nat)
  | M, [] => M
  | M, s :: l => bindS st (bindCs M s.2.list (st.tmp s.1).cells) l
def bindB (st : St) : Nat → List (Option Nat) → List OSh → List (Option Nat)
  | _, M, [] => M
  | k, M, s :: l => bindB st (k + 1) (match s, nth M k with
    | .box ss, some (some i) => match st.ob i with
      | .box cs => bindCs M ss cs
      | _ => M
    | _, _ => M) l
def nones : Nat → List (Option Nat)
  | 0 => []
  | n + 1 => none :: nones n
def bindAll (st : St) (nl : Nat) (k : Cut) : List (Option Nat) :=
  bindB st 0 (bindS st ((rangeN nl 0).map some ++ nones (k.objs.length - nl)) k.slots) k.objs

def cmdC (nl : Nat) (objs : List OSh) (p : Pos) (s : Sh) (c : Cell) : List Cmd := match s, c with
  | .sl _, .row i => [.share i]
  | .sl _, .win i _ _ => [.share i]
  | .fix (.row k), .nils => match nth objs k with
    | some (.row e t) => [.nilrow p e t]
    | some (.nest e t q) => [.nilnest p e t q]
    | _ => []
  | .fix (.row _), .win _ _ _ => [.trim p]
  | .fix (.row k), .row i => match Nat.blt i nl && Nat.ble nl k with
    | true => [.towin p, .trim p]
    | false => []
  | .win _, .row _ => [.towin p]
  | .win k, .nils => match nth objs k with
    | some (.row e t) => [.nilrow p e t, .towin p]
    | _ => []
  | _, _ => []
def cmdCs (nl : Nat) (objs : List OSh) (f : Nat → Pos) : Nat → List Sh → List Cell → List Cmd
  | j, s :: l, c :: cs => cmdC nl objs (f j) s c ++ cmdCs nl objs f (j + 1) l cs
  | _, _, _ => []
def cmdS (nl : Nat) (st : St) (objs : List OSh) : List (Nat × ESh) → List Cmd
  | [] => []
  | s :: l => cmdCs nl objs (.slot s.1) 0 s.2.list (st.tmp s.1).cells ++ cmdS nl st objs l
def cmdB (nl : Nat) (st : St) (objs : List OSh) : List OSh → List (Option Nat) → List Cmd
  | s :: l, m :: M => (match s, m with
    | .box ss, some i => match st.ob i with
      | .box cs => cmdCs nl objs (.box i) 0 ss cs
      | _ => []
    | _, _ => []) ++ cmdB nl st objs l M
  | _, _ => []
def allSome : List (Option Nat) → Option (List Nat)
  | [] => some []
  | none :: _ => none
  | some n :: l => match allSome l with
    | some l => some (n :: l)
    | none => none
def sameTo : Nat → List Nat → List Nat → Bool
  | 0, _, _ => true
  | n + 1, a :: l, b :: m => Nat.beq a b && sameTo n l m
  | _, _, _ => false

def valC : List Sh → List Cell → List Cell × List Cell
  | .val c :: l, d :: ds => match valC l ds with
    | (x, y) => (d :: x, c :: y)
  | _ :: l, _ :: ds => valC l ds
  | _, _ => ([], [])
def valE : List (Nat × ESh) → List Ent → List Cell × List Cell
  | s :: l, e :: es => match valC s.2.list e.cells, valE l es with
    | (x, y), (x', y') => (x ++ x', y ++ y')
  | _, _ => ([], [])
def valO : List OSh → List Ob → List Cell × List Cell
  | .box ss :: l, .box cs :: os => match valC ss cs, valO l os with
    | (x, y), (x', y') => (x ++ x', y ++ y')
  | _ :: l, _ :: os => valO l os
  | _, _ => ([], [])
def sameVals (p : List Cell × List Cell) (P : Prop) : Prop := match p with
  | ([], []) => P
  | (x, y) => x = y ∧ P
theorem sameVals_iff {p : List Cell × List Cell} {P : Prop} : sameVals p P ↔ p.1 = p.2 ∧ P := by
  obtain ⟨x, y⟩ := p
  cases x <;> cases y <;> simp [sameVals]

def arrive (n nl : Nat) (k : Cut) (st : St) (J : List Ent → List Ob → Prop) : Prop :=
  let st1 := st.obeys (cmdS nl st k.objs k.slots ++ cmdB nl st k.objs k.objs (bindAll st nl k))
  match allSome (bindAll st1 nl k) with
  | some M => match nodupN M && (allLt st1.objs.length M && (sameTo nl M (rangeN nl 0) && Nat.beq st.tmps.length n)) with
    | true => match fitEs (st1.pick M) k.slots, fitOs k.objs (st1.pick M).objs with
      | some es, some os => sameVals (valE k.slots es) (sameVals (valO k.objs os) (J es os))
      | _, _ => False
    | false => False
  | none => False

def opsW (T : Tab) (C : Calls_) (G : List (Nat × Sig)) (all : List Oper) : List Oper → St → (St → Prop) → Prop
  | [], st, K => K st
  | o :: os, st, K => match o.guard with
    | none => opW T C G o st fun st => opsW T C G all os st K
    | some (j, want) => match (nth all j).bind Oper.dst with
      | some d => match st.tmp d with
        | .tup [] => opsW T C G all os (st.putO o.dst (.tup [])) K
        | .one (.bool b) => match want with
          | true => ifB b
              (opW T C G o ⟨setNth st.tmps d (.one (.bool true)), st.objs⟩ fun st => opsW T C G all os st K)
              (opsW T C G all os ((⟨setNth st.tmps d (.one (.bool false)), st.objs⟩ : St).putO o.dst (.tup [])) K)
          | false => ifB b
              (opsW T C G all os ((⟨setNth st.tmps d (.one (.bool true)), st.objs⟩ : St).putO o.dst (.tup [])) K)
              (opW T C G o ⟨setNth st.tmps d (.one (.bool false)), st.objs⟩ fun st => opsW T C G all os st K)
        | _ => False
      | none => False

/-! ### what is kept of a cut, as a relation between plain values -/
def curC : List Sh → Type → Type
  | [], R => R
  | s :: l, R => match s with
    | .int _ => Int → curC l R
    | .bool => Bool → curC l R
    | .str => ByteArray → curC l R
    | .sl t => List t.den → curC l R
    | .ifc => Bool → curC l R
    | .win _ => Nat → Nat → curC l R
    | .fix _ => curC l R
    | .val _ => curC l R
    | .elem _ _ => Nat → curC l R
    | .addr t _ => t.den → curC l R
def curE : List (Nat × ESh) → Type → Type
  | [], R => R
  | s :: l, R => curC s.2.list (curE l R)
def curO : List OSh → Type → Type
  | [], R => R
  | s :: l, R => match s with
    | .dead => curO l R
    | .box ss => curC ss (curO l R)
    | .row _ t => List t.den → curO l R
    | .nest _ t _ => List t.den → curO l R
    | .imap _ _ => List (Int × Int) → curO l R
def appC : (l : List Sh) → {R : Type} → curC l R → List Cell → Option R
  | [], _, f, [] => some f
  | .int _ :: l, _, f, .int _ n :: cs => appC l (f n) cs
  | .bool :: l, _, f, .bool b :: cs => appC l (f b) cs
  | .str :: l, _, f, .str s :: cs => appC l (f s) cs
  | .sl t :: l, _, f, .sl u xs :: cs => match castL t ⟨u, xs⟩ with
    | some ys => appC l (f ys) cs
    | none => none
  | .ifc :: l, _, f, .ifc b :: cs => appC l (f b) cs
  | .win _ :: l, _, f, .win _ lo hi :: cs => appC l (f lo hi) cs
  | .fix _ :: l, R, f, _ :: cs => appC l (R := R) f cs
  | .val _ :: l, R, f, _ :: cs => appC l (R := R) f cs
  | .elem _ _ :: l, _, f, .ptrE _ k _ :: cs => appC l (f k) cs
  | .addr t _ :: l, _, f, .ptrZ u x _ :: cs => if h : Ty.eqb u t = true then appC l (f (Ty.eqb_eq h ▸ x)) cs else none
  | _, _, _, _ => none
def appE : (l : List (Nat × ESh)) → {R : Type} → curE l R → List Ent → Option R
  | [], _, f, [] => some f
  | s :: l, R, f, e :: es => match appC s.2.list (R := curE l R) f e.cells with
    | some f => appE l f es
    | none => none
  | _, _, _, _ => none
def appO : (l : List OSh) → {R : Type} → curO l R → List Ob → Option R
  | [], _, f, [] => some f
  | .dead :: l, R, f, _ :: os => appO l (R := R) f os
  | .box ss :: l, R, f, .box cs :: os => match appC ss (R := curO l R) f cs with
    | some f => appO l f os
    | none => none
  | .row _ t :: l, _, f, .row _ u xs :: os => match castL t ⟨u, xs⟩ with
    | some ys => appO l (f ys) os
    | none => none
  | .imap _ _ :: l, _, f, .imap _ _ es :: os => appO l (f es) os
  | .nest _ t _ :: l, _, f, .nest _ u _ xs none :: os => match castL t ⟨u, xs⟩ with
    | some ys => appO l (f ys) os
    | none => none
  | _, _, _, _ => none
@[reducible] def Cut.rel (k : Cut) : Type := curE k.slots (curO k.objs Prop)
def appJ (k : Cut) (J : k.rel) (es : List Ent) (os : List Ob) : Prop := match appE k.slots J es with
  | some f => match appO k.objs f os with
    | some p => p
    | none => False
  | none => False

inductive Out where
  | norm | exit (id : Nat) | ret

def firstReg : Code → Option Nat
  | .region id _ _ => some id
  | .seq a b => match firstReg a with
    | some n => some n
    | none => firstReg b
  | .cond _ a b => match firstReg a with
    | some n => some n
    | none => firstReg b
  | .block _ c => firstReg c
  | .loop c => firstReg c
  | _ => none

structure Hints where
  loops : List (Nat × Cut)
  joins : List (Nat × Cut)
  fin : Cut
  draws : List (Nat × List (Nat × List Nat))

/-! ### regions that draw their order -/
def floats (T : Tab) (o : Oper) : Bool := match o.op with
  | .move _ => true
  | .assign _ => true
  | .pick _ _ _ => true
  | .binOp _ _ _ _ _ => true
  | .unOp _ _ _ => true
  | .nilCheck _ => true
  | .fieldAddr _ _ _ => true
  | .field _ _ _ => true
  | .indexAddr _ _ _ => true
  | .index _ _ _ => true
  | .extract _ _ => true
  | .slice _ _ _ _ _ => true
  | .makeFunc _ _ _ => true
  | .build _ _ => true
  | .load _ _ => true
  | .convert _ d _ => match look T d with
    | some te => match te.kind with
      | .int _ => true
      | _ => false
    | none => false
  | .call c => match c.callee with
    | .builtin .len => true
    | .builtin .min => true
    | .builtin .max => true
    | _ => false
  | _ => false
def loadIn (X : List Nat) (st : St) (o : Oper) : Bool := match o.op with
  | .load _ a => match st.ev a with
    | .one (.ptrZ _ _ _) => true
    | .one (.ptrB i _) => memN i X
    | .one (.ptrE i _ _) => memN i X
    | _ => false
  | _ => true
def killAll : List Ob → List Nat → List Ob
  | os, [] => os
  | os, i :: X => killAll (setNth os i .dead) X
def backAll (st : St) : List Ob → List Nat → List Ob
  | os, [] => os
  | os, i :: X => backAll st (setNth os i (st.ob i)) X
def St.hide (st : St) (X : List Nat) : St := ⟨st.tmps, killAll st.objs X⟩
def St.unhide (st : St) (X : List Nat) (st' : St) : St := ⟨st'.tmps, backAll st st'.objs X⟩
def guardW (all : List Oper) (o : Oper) (st : St) (run skip : St → Prop) : Prop := match o.guard with
  | none => run st
  | some (j, want) => match (nth all j).bind Oper.dst with
    | some d => match st.tmp d with
      | .tup [] => skip st
      | .one (.bool b) => match want with
        | true => ifB b (run ⟨setNth st.tmps d (.one (.bool true)), st.objs⟩) (skip ⟨setNth st.tmps d (.one (.bool false)), st.objs⟩)
        | false => ifB b (skip ⟨setNth st.tmps d (.one (.bool true)), st.objs⟩) (run ⟨setNth st.tmps d (.one (.bool false)), st.objs⟩)
      | _ => False
    | none => False
def edgesOf (ops : Array Oper) (j : Nat) : List Nat := match ops[j]? with
  | some o => (o.after.toList.filter fun e => Region.binds .any e).map fun e => e.on
  | none => []
def upsW (ops : Array Oper) : Nat → Nat → List Nat → List Nat
  | 0, _, M => M
  | n + 1, k, M => match nth M k with
    | none => M
    | some j => upsW ops n (k + 1) (addNew M (edgesOf ops j))
def allB (f : Nat → Bool) : List Nat → Bool
  | [] => true
  | n :: l => match f n with
    | true => allB f l
    | false => false
def loadOk (ops : Array Oper) (X : List (Nat × List Nat)) (j : Nat) (st : St) (o : Oper) : Bool := match o.op with
  | .load _ a => match st.ev a with
    | .one (.ptrZ _ _ _) => true
    | .one (.ptrB i _) => match look X i with
      | some rs => allB (fun r => memN j (upsW ops ops.size 0 [r])) rs
      | none => false
    | .one (.ptrE i _ _) => match look X i with
      | some rs => allB (fun r => memN j (upsW ops ops.size 0 [r])) rs
      | none => false
    | _ => false
  | _ => true
def inNone (j : Nat) : List (Nat × List Nat) → Bool
  | [] => true
  | p :: X => match memN j p.2 with
    | true => false
    | false => inNone j X
def stillOn (listed : Array Bool) : List (Nat × List Nat) → List Nat
  | [] => []
  | p :: X => match allB (fun r => !listed.getD r false) p.2 with
    | true => p.1 :: stillOn listed X
    | false => stillOn listed X
def canFloat (T : Tab) (ops : Array Oper) (X : List (Nat × List Nat)) (listed : Array Bool) (j : Nat) : Bool := match ops[j]? with
  | some o => floats T o && (inNone j X && Region.free .any ops listed j)
  | none => false
def firstOf (f : Nat → Bool) : List Nat → Option Nat
  | [] => none
  | j :: l => match f j with
    | true => some j
    | false => firstOf f l
def allOf (f : Nat → Prop) : List Nat → Prop
  | [] => True
  | i :: l => match l with
    | [] => f i
    | j :: l => f i ∧ allOf f (j :: l)
def drawW (T : Tab) (C : Calls_) (G : List (Nat × Sig)) (ops : Array Oper) (X : List (Nat × List Nat)) : Nat → Array Bool → St → (St → Prop) → Prop
  | 0, listed, st, K => match Region.ready .any ops listed with
    | [] => K st
    | _ => False
  | n + 1, listed, st, K => match Region.ready .any ops listed with
    | [] => K st
    | i :: rd => match firstOf (canFloat T ops X listed) (i :: rd) with
      | some j => match ops[j]? with
        | some o => guardW ops.toList o st (fun st => match loadOk ops X j st o with
            | true => opW T C G o st fun st => drawW T C G ops X n (listed.setIfInBounds j true) st K
            | false => False)
            (fun st => drawW T C G ops X n (listed.setIfInBounds j true) (st.putO o.dst (.tup [])) K)
        | none => False
      | none => allOf (fun i => match ops[i]? with
        | some o => guardW ops.toList o st
            (fun st => opW T C G o (st.hide (stillOn (listed.setIfInBounds i true) X)) fun st' => drawW T C G ops X n (listed.setIfInBounds i true) (st.unhide (stillOn (listed.setIfInBounds i true) X) st') K)
            (fun st => drawW T C G ops X n (listed.setIfInBounds i true) (st.putO o.dst (.tup [])) K)
        | none => False) (i :: rd)

def codeW (T : Tab) (C : Calls_) (G : List (Nat × Sig)) (H : Hints) (n nl : Nat) : Code → St → (Out → St → Prop) → Prop
  | .skip, st, K => K .norm st
  | .region id ops draw, st, K => match draw with
    | false => opsW T C G ops.toList ops.toList st (K .norm)
    | true => match Region.noSelect ops with
      | true => drawW T C G ops ((look H.draws id).getD []) ops.size (Array.replicate ops.size false) st (K .norm)
      | false => False
  | .seq a b, st, K => match (firstReg b).bind (look H.joins) with
    | none => codeW T C G H n nl a st fun x st => match x with
      | .norm => codeW T C G H n nl b st K
      | x => K x st
    | some k => ∃ J : k.rel,
      (codeW T C G H n nl a st fun x st => match x with
        | .norm => arrive n nl k st (appJ k J)
        | x => K x st) ∧
      allE k.slots fun es => allO k.objs fun os => appJ k J es os → codeW T C G H n nl b (mkSt n k es os) K
  | .cond c a b, st, K => match st.ev c with
    | .one (.bool t) => ifB t (codeW T C G H n nl a st K) (codeW T C G H n nl b st K)
    | _ => False
  | .block id c, st, K => codeW T C G H n nl c st fun x st => match x with
    | .exit j => bif Nat.beq j id then K .norm st else K (.exit j) st
    | x => K x st
  | .exit id, st, K => K (.exit id) st
  | .label _, st, K => K .norm st
  | .ret, st, K => K .ret st
  | .loop c, st, K => match (firstReg c).bind (look H.loops) with
    | some k => ∃ I : Nat → k.rel,
      (∃ m, arrive n nl k st (appJ k (I m))) ∧
      ∀ m, allE k.slots fun es => allO k.objs fun os => appJ k (I m) es os → codeW T C G H n nl c (mkSt n k es os) fun x st => match x with
        | .norm => ∃ m', m' < m ∧ arrive n nl k st (appJ k (I m'))
        | x => K x st
    | none => False
  | _, _, _ => False

/-! ### short names -/
@[reducible] def cI (n : Int) : Cell := .int .i64 n
@[reducible] def cY (n : Int) : Cell := .int .u8 n
@[reducible] def eI (n : Int) : Ent := .one (.int .i64 n)
@[reducible] def eB (b : Bool) : Ent := .one (.bool b)
@[reducible] def eS (s : ByteArray) : Ent := .one (.str s)
def wI (n : Int) : Int := IntKind.wrap .i64 n
def wY (n : Int) : Int := IntKind.wrap .u8 n

/-! ### functions -/
def resC (T : Tab) (st : St) : ResultVar → Option (Bool × List Cell)
  | .tmp t => match st.tmp t with
    | .one c => some (false, [c])
    | .agg cs => some (true, cs)
    | _ => none
  | .cell a t => match st.tmp a, look T t with
    | .one c, some te => match st.behind c with
      | some cs => match Nat.ble te.size cs.length with
        | true => some (te.agg, cs.take te.size)
        | false => none
      | none => none
    | _, _ => none
def resCs (T : Tab) (st : St) : List ResultVar → Option (List (Bool × List Cell))
  | [] => some []
  | r :: rs => match resC T st r, resCs T st rs with
    | some e, some es => some (e :: es)
    | _, _ => none

def tupE : List (Bool × List Cell) → Ent
  | [(a, cs)] => entOf a cs
  | es => .tup es
def tupCells : List (Bool × List Cell) → List Cell
  | [] => []
  | (_, cs) :: l => cs ++ tupCells l

def retup : List (Bool × List Cell) → List Cell → List (Bool × List Cell)
  | [], _ => []
  | x :: es, cs => (x.1, cs.take x.2.length) :: retup es (cs.drop x.2.length)

def finW (T : Tab) (fn : Func) (nl : Nat) (k : Cut) (st : St) (K : Ent → List Ob → Prop) : Prop :=
  match resCs T st fn.results.toList with
  | some es => match k.slots with
    | [(0, .agg _)] => arrive 1 nl k ⟨[.agg (tupCells es)], st.objs⟩ fun es' os => match es' with
      | [.agg cs] => K (tupE (retup es cs)) os
      | _ => False
    | _ => False
  | none => False

def funW (T : Tab) (C : Calls_) (G : List (Nat × Sig)) (H : Hints) (fn : Func) (c : Code) (as : List Ent) (os : List Ob) (K : Ent → List Ob → Prop) : Prop :=
  codeW T C G H fn.ntmps os.length c ⟨as ++ undefs (fn.ntmps - as.length), os⟩ fun x st => match x with
    | .exit _ => False
    | _ => finW T fn os.length H.fin st K
end Go.Ry
