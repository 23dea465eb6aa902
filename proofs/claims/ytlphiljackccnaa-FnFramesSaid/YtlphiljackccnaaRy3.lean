/- The evaluator's code: regions, branches, loops, functions. No condition. -/
import Derived.Test.YtlphiljackccnaaRy2
set_option linter.unusedVariables false
set_option linter.unusedSimpArgs false
namespace Go.Ry

def eqFix : Cell → Cell → Bool
  | .undef, _ => true
  | .row i, .row j => Nat.beq i j
  | .ptrB a o, .ptrB b q => Nat.beq a b && Nat.beq o q
  | .fn f bs, .fn g cs => Nat.beq f g && eqNats bs cs
  | .nils, .nils | .nilp, .nilp | .nilf, .nilf => true
  | _, _ => false
/-- The cell as the shape has it. -/
def fitC : Sh → Cell → Option Cell
  | .int k, .int l n => if l = k then some (.int l n) else none
  | .bool, .bool b => some (.bool b)
  | .str, .str s => some (.str s)
  | .sl t, .sl u xs => bif Ty.eqb u t then some (.sl u xs) else none
  | .sl t, .nils => some (.sl t [])
  | .ifc, .ifc b => some (.ifc b)
  | .win i, .win j lo hi => bif Nat.beq i j then some (.win j lo hi) else none
  | .fix c, d => bif eqFix c d then some c else none
  | _, _ => none
def fitCs : List Sh → List Cell → Option (List Cell)
  | [], [] => some []
  | s :: l, c :: cs => match fitC s c, fitCs l cs with
    | some c, some cs => some (c :: cs)
    | _, _ => none
  | _, _ => none

inductive ESh where
  | one (s : Sh)
  | agg (l : List Sh)
def fitE : ESh → Ent → Option Ent
  | .one s, .one c => match fitC s c with
    | some c => some (.one c)
    | none => none
  | .agg l, .agg cs => match fitCs l cs with
    | some cs => some (.agg cs)
    | none => none
  | _, _ => none
def fitEs (st : St) : List (Nat × ESh) → Option (List Ent)
  | [] => some []
  | s :: l => match fitE s.2 (st.tmp s.1), fitEs st l with
    | some e, some es => some (e :: es)
    | _, _ => none
def fitO : OSh → Ob → Option Ob
  | .dead, _ => some .dead
  | .box l, .box cs => match fitCs l cs with
    | some cs => some (.box cs)
    | none => none
  | .row e t, .row f u xs => bif Nat.beq f e && Ty.eqb u t then some (.row f u xs) else none
  | _, _ => none
def fitOs : List OSh → List Ob → Option (List Ob)
  | [], [] => some []
  | s :: l, o :: os => match fitO s o, fitOs l os with
    | some o, some os => some (o :: os)
    | _, _ => none
  | _, _ => none

/-- What is kept at a place in the code: slots and objects, with their shapes. -/
structure Cut where
  slots : List (Nat × ESh)
  objs : List OSh

def allC : List Sh → (List Cell → Prop) → Prop
  | [], K => K []
  | s :: l, K => match s with
    | .int k => ∀ n : Int, allC l fun cs => K (.int k n :: cs)
    | .bool => ∀ b : Bool, allC l fun cs => K (.bool b :: cs)
    | .str => ∀ s : ByteArray, allC l fun cs => K (.str s :: cs)
    | .sl t => ∀ xs : List t.den, allC l fun cs => K (.sl t xs :: cs)
    | .ifc => ∀ b : Bool, allC l fun cs => K (.ifc b :: cs)
    | .win i => ∀ lo hi : Nat, allC l fun cs => K (.win i lo hi :: cs)
    | .fix c => allC l fun cs => K (c :: cs)
def allE : List (Nat × ESh) → (List Ent → Prop) → Prop
  | [], K => K []
  | s :: l, K => match s.2 with
    | .one s => allC [s] fun cs => match cs with
      | [c] => allE l fun es => K (.one c :: es)
      | _ => True
    | .agg ss => allC ss fun cs => allE l fun es => K (.agg cs :: es)
def allO : List OSh → (List Ob → Prop) → Prop
  | [], K => K []
  | s :: l, K => match s with
    | .dead => allO l fun os => K (.dead :: os)
    | .box ss => allC ss fun cs => allO l fun os => K (.box cs :: os)
    | .row e t => ∀ xs : List t.den, allO l fun os => K (.row e t xs :: os)

def undefs : Nat → List Ent
  | 0 => []
  | n + 1 => .undef :: undefs n
def setSlots : List Ent → List (Nat × ESh) → List Ent → List Ent
  | ts, s :: l, e :: es => setSlots (setNth ts s.1 e) l es
  | ts, _, _ => ts
def mkSt (n : Nat) (k : Cut) (es : List Ent) (os : List Ob) : St := ⟨setSlots (undefs n) k.slots es, os⟩

/-! ### getting ready for a cut -/
def ESh.list : ESh → List Sh
  | .one s => [s]
  | .agg l => l
inductive Pos where
  | slot (d j : Nat)
  | box (i j : Nat)
inductive Cmd where
  | share (i : Nat)
  | nilrow (p : Pos) (e : Nat) (t : Ty)     -- a nil slice becomes a row
  | trim (p : Pos)                           -- a row's beginning becomes a row
  | towin (p : Pos)                          -- a row becomes a part of it: the whole
def Ent.setCell (e : Ent) (j : Nat) (c : Cell) : Ent := match e with
  | .one x => match j with
    | 0 => .one c
    | _ => .one x
  | .agg cs => .agg (setNth cs j c)
  | e => e
def St.at (st : St) : Pos → Cell
  | .slot d j => (nth (st.tmp d).cells j).getD .undef
  | .box i j => match st.ob i with
    | .box cs => (nth cs j).getD .undef
    | _ => .undef
def St.setAt (st : St) (p : Pos) (c : Cell) : St := match p with
  | .slot d j => ⟨setNth st.tmps d ((st.tmp d).setCell j c), st.objs⟩
  | .box i j => match st.ob i with
    | .box cs => st.setOb i (.box (setNth cs j c))
    | _ => st
def St.obey (st : St) : Cmd → St
  | .share i => st.share i
  | .nilrow p e t => match st.at p, Nat.blt 0 t.size with
    | .nils, true => (st.addOb (.row e t [])).setAt p (.row st.objs.length)
    | _, _ => st
  | .trim p => match st.at p with
    | .win i 0 hi => match st.ob i with
      | .row e t xs => ((st.setOb i .dead).addOb (.row e t (xs.take hi))).setAt p (.row st.objs.length)
      | _ => st
    | _ => st
  | .towin p => match st.at p with
    | .row i => match st.ob i with
      | .row _ _ xs => st.setAt p (.win i 0 xs.length)
      | _ => st
    | _ => st
def St.obeys (st : St) : List Cmd → St
  | [] => st
  | c :: l => (st.obey c).obeys l

/-- Which objects' numbers are whose. -/
def bindN (M : List (Option Nat)) (k i : Nat) : List (Option Nat) := match nth M k with
  | some none => setNth M k (some i)
  | _ => M
def bindC (M : List (Option Nat)) (s : Sh) (c : Cell) : List (Option Nat) := match s, c with
  | .fix (.row k), .row i => bindN M k i
  | .win k, .win i _ _ => bindN M k i
  | .fix (.ptrB k _), .ptrB i _ => bindN M k i
  | .fix (.fn _ ks), .fn _ is => (List.zip ks is).foldl (fun M x => bindN M x.1 x.2) M
  | _, _ => M
def bindCs : List (Option Nat) → List Sh → List Cell → List (Option Nat)
  | M, s :: l, c :: cs => bindCs (bindC M s c) l cs
  | M, _, _ => M
def bindS (st : St) : List (Option Nat) → List (Nat × ESh) → List (Option Nat)
  | M, [] => M
  | M, s :: l => bindS st (bindCs M s.2.list (st.tmp s.1).cells) l
def bindB (st : St) : Nat → List (Option Nat) → List OSh → List (Option Nat)
  | _, M, [] => M
  | k, M, s :: l => bindB st (k + 1) (match s, nth M k with
    | .box ss, some (some i) => match st.ob i with
      | .box cs => bindCs M ss cs
      | _ => M
    | _, _ => M) l
def nones : Nat → List (Option Nat)
  | 0 => []
  | n + 1 => none :: nones n
/-- The first nl objects are lent: they keep their numbers. -/
def bindAll (st : St) (nl : Nat) (k : Cut) : List (Option Nat) :=
  bindB st 0 (bindS st ((rangeN nl 0).map some ++ nones (k.objs.length - nl)) k.slots) k.objs

def cmdC (objs : List OSh) (p : Pos) (s : Sh) (c : Cell) : List Cmd := match s, c with
  | .sl _, .row i => [.share i]
  | .sl _, .win i _ _ => [.share i]
  | .fix (.row k), .nils => match nth objs k with
    | some (.row e t) => [.nilrow p e t]
    | _ => []
  | .fix (.row _), .win _ _ _ => [.trim p]
  | .win _, .row _ => [.towin p]
  | .win k, .nils => match nth objs k with
    | some (.row e t) => [.nilrow p e t, .towin p]
    | _ => []
  | _, _ => []
def cmdCs (objs : List OSh) (f : Nat → Pos) : Nat → List Sh → List Cell → List Cmd
  | j, s :: l, c :: cs => cmdC objs (f j) s c ++ cmdCs objs f (j + 1) l cs
  | _, _, _ => []
def cmdS (st : St) (objs : List OSh) : List (Nat × ESh) → List Cmd
  | [] => []
  | s :: l => cmdCs objs (.slot s.1) 0 s.2.list (st.tmp s.1).cells ++ cmdS st objs l
def cmdB (st : St) (objs : List OSh) : List OSh → List (Option Nat) → List Cmd
  | s :: l, m :: M => (match s, m with
    | .box ss, some i => match st.ob i with
      | .box cs => cmdCs objs (.box i) 0 ss cs
      | _ => []
    | _, _ => []) ++ cmdB st objs l M
  | _, _ => []
def allSome : List (Option Nat) → Option (List Nat)
  | [] => some []
  | none :: _ => none
  | some n :: l => match allSome l with
    | some l => some (n :: l)
    | none => none
def sameTo : Nat → List Nat → List Nat → Bool
  | 0, _, _ => true
  | n + 1, a :: l, b :: m => Nat.beq a b && sameTo n l m
  | _, _, _ => false

/-- What is kept is handed on. -/
def arrive (n nl : Nat) (k : Cut) (st : St) (J : List Ent → List Ob → Prop) : Prop :=
  let st1 := st.obeys (cmdS st k.objs k.slots ++ cmdB st k.objs k.objs (bindAll st nl k))
  match allSome (bindAll st1 nl k) with
  | some M => match nodupN M && (allLt st1.objs.length M && (sameTo nl M (rangeN nl 0) && Nat.beq st.tmps.length n)) with
    | true => match fitEs (st1.pick M) k.slots, fitOs k.objs (st1.pick M).objs with
      | some es, some os => J es os
      | _, _ => False
    | false => False
  | none => False

/-- Guards: what is not asked for is skipped. -/
def opsW (T : Tab) (C : Calls_) (G : List (Nat × Sig)) (all : List Oper) : List Oper → St → (St → Prop) → Prop
  | [], st, K => K st
  | o :: os, st, K => match o.guard with
    | none => opW T C G o st fun st => opsW T C G all os st K
    | some (j, want) => match (nth all j).bind Oper.dst with
      | some d => match st.tmp d with
        | .tup [] => opsW T C G all os (st.putO o.dst (.tup [])) K
        | .one (.bool b) => match want with
          | true => ifB b
              (opW T C G o ⟨setNth st.tmps d (.one (.bool true)), st.objs⟩ fun st => opsW T C G all os st K)
              (opsW T C G all os ((⟨setNth st.tmps d (.one (.bool false)), st.objs⟩ : St).putO o.dst (.tup [])) K)
          | false => ifB b
              (opsW T C G all os ((⟨setNth st.tmps d (.one (.bool true)), st.objs⟩ : St).putO o.dst (.tup [])) K)
              (opW T C G o ⟨setNth st.tmps d (.one (.bool false)), st.objs⟩ fun st => opsW T C G all os st K)
        | _ => False
      | none => False

/-! ### what is kept of a cut, as a relation between plain values -/
def curC : List Sh → Type → Type
  | [], R => R
  | s :: l, R => match s with
    | .int _ => Int → curC l R
    | .bool => Bool → curC l R
    | .str => ByteArray → curC l R
    | .sl t => List t.den → curC l R
    | .ifc => Bool → curC l R
    | .win _ => Nat → Nat → curC l R
    | .fix _ => curC l R
def curE : List (Nat × ESh) → Type → Type
  | [], R => R
  | s :: l, R => curC s.2.list (curE l R)
def curO : List OSh → Type → Type
  | [], R => R
  | s :: l, R => match s with
    | .dead => curO l R
    | .box ss => curC ss (curO l R)
    | .row _ t => List t.den → curO l R
def appC : (l : List Sh) → {R : Type} → curC l R → List Cell → Option R
  | [], _, f, [] => some f
  | .int _ :: l, _, f, .int _ n :: cs => appC l (f n) cs
  | .bool :: l, _, f, .bool b :: cs => appC l (f b) cs
  | .str :: l, _, f, .str s :: cs => appC l (f s) cs
  | .sl t :: l, _, f, .sl u xs :: cs => match castL t ⟨u, xs⟩ with
    | some ys => appC l (f ys) cs
    | none => none
  | .ifc :: l, _, f, .ifc b :: cs => appC l (f b) cs
  | .win _ :: l, _, f, .win _ lo hi :: cs => appC l (f lo hi) cs
  | .fix _ :: l, R, f, _ :: cs => appC l (R := R) f cs
  | _, _, _, _ => none
def appE : (l : List (Nat × ESh)) → {R : Type} → curE l R → List Ent → Option R
  | [], _, f, [] => some f
  | s :: l, R, f, e :: es => match appC s.2.list (R := curE l R) f e.cells with
    | some f => appE l f es
    | none => none
  | _, _, _, _ => none
def appO : (l : List OSh) → {R : Type} → curO l R → List Ob → Option R
  | [], _, f, [] => some f
  | .dead :: l, R, f, _ :: os => appO l (R := R) f os
  | .box ss :: l, R, f, .box cs :: os => match appC ss (R := curO l R) f cs with
    | some f => appO l f os
    | none => none
  | .row _ t :: l, _, f, .row _ u xs :: os => match castL t ⟨u, xs⟩ with
    | some ys => appO l (f ys) os
    | none => none
  | _, _, _, _ => none
@[reducible] def Cut.rel (k : Cut) : Type := curE k.slots (curO k.objs Prop)
def appJ (k : Cut) (J : k.rel) (es : List Ent) (os : List Ob) : Prop := match appE k.slots J es with
  | some f => match appO k.objs f os with
    | some p => p
    | none => False
  | none => False

inductive Out where
  | norm | exit (id : Nat) | ret

/-- The first region in code: its number names a loop's hint. -/
def firstReg : Code → Option Nat
  | .region id _ _ => some id
  | .seq a b => match firstReg a with
    | some n => some n
    | none => firstReg b
  | .cond _ a b => match firstReg a with
    | some n => some n
    | none => firstReg b
  | .block _ c => firstReg c
  | .loop c => firstReg c
  | _ => none

structure Hints where
  loops : List (Nat × Cut)
  joins : List (Nat × Cut)
  fin : Cut
  draws : List (Nat × List (Nat × List Nat))

/-! ### regions that draw their order -/
/-- Operations that hand back the same in every world (a load: in every world that agrees on what it reads), and do nothing else. -/
def floats (T : Tab) (o : Oper) : Bool := match o.op with
  | .move _ => true
  | .assign _ => true
  | .pick _ _ _ => true
  | .binOp _ _ _ _ _ => true
  | .unOp _ _ _ => true
  | .nilCheck _ => true
  | .fieldAddr _ _ _ => true
  | .field _ _ _ => true
  | .indexAddr _ _ _ => true
  | .index _ _ _ => true
  | .extract _ _ => true
  | .slice _ _ _ _ _ => true
  | .makeFunc _ _ _ => true
  | .build _ _ => true
  | .load _ _ => true
  | .convert _ d _ => match look T d with
    | some te => match te.kind with
      | .int _ => true
      | _ => false
    | none => false
  | .call c => match c.callee with
    | .builtin .len => true
    | .builtin .min => true
    | .builtin .max => true
    | _ => false
  | _ => false
/-- A load in such a region reads what nobody writes, or an object of the list X. -/
def loadIn (X : List Nat) (st : St) (o : Oper) : Bool := match o.op with
  | .load _ a => match st.ev a with
    | .one (.ptrZ _ _ _) => true
    | .one (.ptrB i _) => memN i X
    | .one (.ptrE i _ _) => memN i X
    | _ => false
  | _ => true
/-- The objects of X are set aside, while something else is done. -/
def killAll : List Ob → List Nat → List Ob
  | os, [] => os
  | os, i :: X => killAll (setNth os i .dead) X
def backAll (st : St) : List Ob → List Nat → List Ob
  | os, [] => os
  | os, i :: X => backAll st (setNth os i (st.ob i)) X
def St.hide (st : St) (X : List Nat) : St := ⟨st.tmps, killAll st.objs X⟩
def St.unhide (st : St) (X : List Nat) (st' : St) : St := ⟨st'.tmps, backAll st st'.objs X⟩
def guardW (all : List Oper) (o : Oper) (st : St) (run skip : St → Prop) : Prop := match o.guard with
  | none => run st
  | some (j, want) => match (nth all j).bind Oper.dst with
    | some d => match st.tmp d with
      | .tup [] => skip st
      | .one (.bool b) => match want with
        | true => ifB b (run ⟨setNth st.tmps d (.one (.bool true)), st.objs⟩) (skip ⟨setNth st.tmps d (.one (.bool false)), st.objs⟩)
        | false => ifB b (skip ⟨setNth st.tmps d (.one (.bool true)), st.objs⟩) (run ⟨setNth st.tmps d (.one (.bool false)), st.objs⟩)
      | _ => False
    | none => False
/-- The operations that one waits for. -/
def edgesOf (ops : Array Oper) (j : Nat) : List Nat := match ops[j]? with
  | some o => (o.after.toList.filter fun e => Region.binds .any e).map fun e => e.on
  | none => []
def upsW (ops : Array Oper) : Nat → Nat → List Nat → List Nat
  | 0, _, M => M
  | n + 1, k, M => match nth M k with
    | none => M
    | some j => upsW ops n (k + 1) (addNew M (edgesOf ops j))
def allB (f : Nat → Bool) : List Nat → Bool
  | [] => true
  | n :: l => match f n with
    | true => allB f l
    | false => false
/-- X: objects that are read, each with the operations from which on it is read no more. A load of one of them: these operations wait for it. -/
def loadOk (ops : Array Oper) (X : List (Nat × List Nat)) (j : Nat) (st : St) (o : Oper) : Bool := match o.op with
  | .load _ a => match st.ev a with
    | .one (.ptrZ _ _ _) => true
    | .one (.ptrB i _) => match look X i with
      | some rs => allB (fun r => memN j (upsW ops ops.size 0 [r])) rs
      | none => false
    | .one (.ptrE i _ _) => match look X i with
      | some rs => allB (fun r => memN j (upsW ops ops.size 0 [r])) rs
      | none => false
    | _ => false
  | _ => true
def inNone (j : Nat) : List (Nat × List Nat) → Bool
  | [] => true
  | p :: X => match memN j p.2 with
    | true => false
    | false => inNone j X
/-- The objects that are still read. -/
def stillOn (listed : Array Bool) : List (Nat × List Nat) → List Nat
  | [] => []
  | p :: X => match allB (fun r => !listed.getD r false) p.2 with
    | true => p.1 :: stillOn listed X
    | false => stillOn listed X
def canFloat (T : Tab) (ops : Array Oper) (X : List (Nat × List Nat)) (listed : Array Bool) (j : Nat) : Bool := match ops[j]? with
  | some o => floats T o && (inNone j X && Region.free .any ops listed j)
  | none => false
def firstOf (f : Nat → Bool) : List Nat → Option Nat
  | [] => none
  | j :: l => match f j with
    | true => some j
    | false => firstOf f l
def allOf (f : Nat → Prop) : List Nat → Prop
  | [] => True
  | i :: l => match l with
    | [] => f i
    | j :: l => f i ∧ allOf f (j :: l)
/-- Values first; then, in whatever order, all else. -/
def drawW (T : Tab) (C : Calls_) (G : List (Nat × Sig)) (ops : Array Oper) (X : List (Nat × List Nat)) : Nat → Array Bool → St → (St → Prop) → Prop
  | 0, listed, st, K => match Region.ready .any ops listed with
    | [] => K st
    | _ => False
  | n + 1, listed, st, K => match Region.ready .any ops listed with
    | [] => K st
    | i :: rd => match firstOf (canFloat T ops X listed) (i :: rd) with
      | some j => match ops[j]? with
        | some o => guardW ops.toList o st (fun st => match loadOk ops X j st o with
            | true => opW T C G o st fun st => drawW T C G ops X n (listed.setIfInBounds j true) st K
            | false => False)
            (fun st => drawW T C G ops X n (listed.setIfInBounds j true) (st.putO o.dst (.tup [])) K)
        | none => False
      | none => allOf (fun i => match ops[i]? with
        | some o => guardW ops.toList o st
            (fun st => opW T C G o (st.hide (stillOn (listed.setIfInBounds i true) X)) fun st' => drawW T C G ops X n (listed.setIfInBounds i true) (st.unhide (stillOn (listed.setIfInBounds i true) X) st') K)
            (fun st => drawW T C G ops X n (listed.setIfInBounds i true) (st.putO o.dst (.tup [])) K)
        | none => False) (i :: rd)

def codeW (T : Tab) (C : Calls_) (G : List (Nat × Sig)) (H : Hints) (n nl : Nat) : Code → St → (Out → St → Prop) → Prop
  | .skip, st, K => K .norm st
  | .region id ops draw, st, K => match draw with
    | false => opsW T C G ops.toList ops.toList st (K .norm)
    | true => match Region.noSelect ops with
      | true => drawW T C G ops ((look H.draws id).getD []) ops.size (Array.replicate ops.size false) st (K .norm)
      | false => False
  | .seq a b, st, K => match (firstReg b).bind (look H.joins) with
    | none => codeW T C G H n nl a st fun x st => match x with
      | .norm => codeW T C G H n nl b st K
      | x => K x st
    | some k => ∃ J : k.rel,
      (codeW T C G H n nl a st fun x st => match x with
        | .norm => arrive n nl k st (appJ k J)
        | x => K x st) ∧
      allE k.slots fun es => allO k.objs fun os => appJ k J es os → codeW T C G H n nl b (mkSt n k es os) K
  | .cond c a b, st, K => match st.ev c with
    | .one (.bool t) => ifB t (codeW T C G H n nl a st K) (codeW T C G H n nl b st K)
    | _ => False
  | .block id c, st, K => codeW T C G H n nl c st fun x st => match x with
    | .exit j => bif Nat.beq j id then K .norm st else K (.exit j) st
    | x => K x st
  | .exit id, st, K => K (.exit id) st
  | .label _, st, K => K .norm st
  | .ret, st, K => K .ret st
  | .loop c, st, K => match (firstReg c).bind (look H.loops) with
    | some k => ∃ I : Nat → k.rel,
      (∃ m, arrive n nl k st (appJ k (I m))) ∧
      ∀ m, allE k.slots fun es => allO k.objs fun os => appJ k (I m) es os → codeW T C G H n nl c (mkSt n k es os) fun x st => match x with
        | .norm => ∃ m', m' < m ∧ arrive n nl k st (appJ k (I m'))
        | x => K x st
    | none => False
  | _, _, _ => False

/-! ### functions -/
/-- One result: is it an aggregate, and its cells. -/
def resC (T : Tab) (st : St) : ResultVar → Option (Bool × List Cell)
  | .tmp t => match st.tmp t with
    | .one c => some (false, [c])
    | .agg cs => some (true, cs)
    | _ => none
  | .cell a t => match st.tmp a, look T t with
    | .one c, some te => match st.behind c with
      | some cs => match Nat.ble te.size cs.length with
        | true => some (te.agg, cs.take te.size)
        | false => none
      | none => none
    | _, _ => none
def resCs (T : Tab) (st : St) : List ResultVar → Option (List (Bool × List Cell))
  | [] => some []
  | r :: rs => match resC T st r, resCs T st rs with
    | some e, some es => some (e :: es)
    | _, _ => none

def tupE : List (Bool × List Cell) → Ent
  | [(a, cs)] => entOf a cs
  | es => .tup es
def tupCells : List (Bool × List Cell) → List Cell
  | [] => []
  | (_, cs) :: l => cs ++ tupCells l

/-- Results with other cells. -/
def retup : List (Bool × List Cell) → List Cell → List (Bool × List Cell)
  | [], _ => []
  | x :: es, cs => (x.1, cs.take x.2.length) :: retup es (cs.drop x.2.length)

/-- The end of a body: the results get ready as they are told. -/
def finW (T : Tab) (fn : Func) (nl : Nat) (k : Cut) (st : St) (K : Ent → List Ob → Prop) : Prop :=
  match resCs T st fn.results.toList with
  | some es => match k.slots with
    | [(0, .agg _)] => arrive 1 nl k ⟨[.agg (tupCells es)], st.objs⟩ fun es' os => match es' with
      | [.agg cs] => K (tupE (retup es cs)) os
      | _ => False
    | _ => False
  | none => False

/-- A function's body, from its arguments on. -/
def funW (T : Tab) (C : Calls_) (G : List (Nat × Sig)) (H : Hints) (fn : Func) (c : Code) (as : List Ent) (os : List Ob) (K : Ent → List Ob → Prop) : Prop :=
  codeW T C G H fn.ntmps os.length c ⟨as ++ undefs (fn.ntmps - as.length), os⟩ fun x st => match x with
    | .exit _ => False
    | _ => finW T fn os.length H.fin st K
end Go.Ry
