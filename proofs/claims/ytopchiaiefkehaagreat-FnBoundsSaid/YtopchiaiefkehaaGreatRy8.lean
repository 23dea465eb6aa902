/- The evaluator, texts 4 to 8: What states mean: cells and objects against values and memory. The evaluator is right: states in the middle of a call; operations on plain values. The evaluator is right: types, lists of cells, what is read. The evaluator is right: objects come, change, are shared. The evaluator is right: loads, stores, sharing. No condition. -/
import Derived.Test.YtopchiaiefkehaaGreatRy3
set_option linter.unusedVariables false
set_option linter.unusedSimpArgs false
namespace Go.Ry

theorem nth_eq {α : Type} : ∀ (l : List α) (n : Nat), nth l n = l[n]?
  | [], _ => by simp [nth]
  | _ :: _, 0 => by simp [nth]
  | _ :: l, n + 1 => by simp [nth, nth_eq l n]
theorem setNth_eq {α : Type} : ∀ (l : List α) (n : Nat) (b : α), setNth l n b = l.set n b
  | [], _, _ => by simp [setNth]
  | _ :: _, 0, _ => by simp [setNth]
  | _ :: l, n + 1, b => by simp [setNth, setNth_eq l n b]

structure LN where
  n : Nat
  h : Nat → Value
def nilS : Value := .slice none 0 0
def LN.of (n : Nat) : LN := ⟨n, fun _ => nilS⟩
instance : Coe Nat LN := ⟨LN.of⟩
theorem nilS_own : nilS.ownBlock = none := rfl

inductive Loc where
  | gone
  | box (g q : Nat) (s : Nat × Nat)
  | row (v : Value) (sz : Nat) (n : LN)

def isDat (u v : Value) : Prop := (∃ p, v = .pointer p) ∧ ∀ a n c, u = .slice (some a) n c → c ≠ 0 → v = .pointer (some a)
def isWin (v : Value) (sz lo hi : Nat) (u : Value) : Prop :=
  (v = .slice none 0 0 ∧ u = .slice none 0 0 ∧ lo = 0 ∧ hi = 0) ∨
  ∃ g n c, v = .slice (some ⟨g, 0, none⟩) n c ∧ lo ≤ hi ∧ hi ≤ n ∧ n ≤ c ∧ u = .slice (some ⟨g, if c = lo then 0 else lo * sz, none⟩) (hi - lo) (c - lo)

theorem Rd.flat' {w : World} {Z Z' : Nat → Prop} : ∀ {t : Ty} {x : t.den} {es : List Value}, t.flat = true → Rd w Z t x es → Rd w Z' t x es
  | .unit, _, _, _, h | .int _, _, _, _, h | .bool, _, _, _, h | .str, _, _, _, h => h
  | .slice _, _, _, hf, _ => by simp [Ty.flat] at hf
  | .pair a b, x, _, hf, h => by
    simp only [Ty.flat, Bool.and_eq_true] at hf
    obtain ⟨c1, c2, e, h1, h2⟩ := h
    exact ⟨c1, c2, e, Rd.flat' hf.1 h1, Rd.flat' hf.2 h2⟩

def areBoxes (L : List Loc) : List Nat → List Value → Prop
  | [], [] => True
  | b :: bs, v :: vs => (∃ g q s, L[b]? = some (.box g q s) ∧ v = .pointer (some ⟨g, q, none⟩)) ∧ areBoxes L bs vs
  | _, _ => False

def CSim (w : World) (Z : Nat → Prop) (L : List Loc) : Cell → Value → Prop
  | .undef, v => v.oneCell' = true
  | .int k n, v => v = .int k n
  | .bool b, v => v = .bool b
  | .str s, v => v = .string s
  | .sl t xs, v => Rd w Z (.slice t) xs [v]
  | .row i, v => (∃ a n c, v = .slice a n c) ∧ ∃ sz n, L[i]? = some (.row v sz n)
  | .win i lo hi, v => ∃ u sz n, L[i]? = some (.row u sz n) ∧ isWin u sz lo hi v
  | .ptrB i o, v => ∃ g q s, L[i]? = some (.box g q s) ∧ v = .pointer (some ⟨g, q + o, none⟩)
  | .ptrE i k o, v => ∃ g n c sz m, L[i]? = some (.row (.slice (some ⟨g, 0, none⟩) n c) sz m) ∧ k < n ∧ v = .pointer (some ⟨g, k * sz + o, none⟩)
  | .ptrZ t x o, v => ∃ g q es, v = .pointer (some ⟨g, q + o, none⟩) ∧ Z g ∧ CellsAt w g q es ∧ Rd w Z t x es
  | .fn f bs, v => ∃ caps : Array Value, v = .func (.func f) #[] caps ∧ areBoxes L bs caps.toList
  | .nils, v => v = .slice none 0 0
  | .nilp, v => v = .pointer none
  | .selfp i t n, v => ∃ g, L[i]? = some (.box g 0 (t, n)) ∧ (v = .pointer none ∨ v = .pointer (some ⟨g, 0, none⟩))
  | .dat i, v => ∃ u sz n, L[i]? = some (.row u sz n) ∧ isDat u v
  | .mapP i, v => ∃ g, L[i]? = some (.box g 0 (0, 0)) ∧ v = .map (some g)
  | .sub i k, v => (∃ a n c, v = .slice a n c) ∧ ∃ u sz n, L[i]? = some (.row u sz n) ∧ v = n.h k
  | .nilf, v => v = .nilFunc
  | .ifc b, v => (b = true → v = .nilIface) ∧ (b = false → ∃ t x, v = .iface t x)

theorem CSim.oneCell {w : World} {Z : Nat → Prop} {L : List Loc} : ∀ {c : Cell} {v : Value}, CSim w Z L c v → v.oneCell' = true
  | .undef, _, h => h
  | .int _ _, _, h | .bool _, _, h | .str _, _, h | .nils, _, h | .nilp, _, h | .nilf, _, h => by simp only [CSim] at h; rw [h]; rfl
  | .sl _ _, _, h => by
    obtain ⟨a, n, c, h, _⟩ := h
    simp only [List.cons.injEq, and_true] at h
    rw [h]; rfl
  | .row _, _, h => by obtain ⟨⟨a, n, c, rfl⟩, _⟩ := h; rfl
  | .win _ _ _, _, h => by
    obtain ⟨u, sz, n, _, h⟩ := h
    rcases h with ⟨_, rfl, _⟩ | ⟨g, n, c, _, _, _, _, rfl⟩ <;> rfl
  | .ptrB _ _, _, h => by obtain ⟨g, q, _, _, rfl⟩ := h; rfl
  | .selfp _ _ _, _, h => by obtain ⟨g, _, rfl | rfl⟩ := h <;> rfl
  | .dat _, _, h => by obtain ⟨u, sz, n, _, ⟨p, rfl⟩, _⟩ := h; rfl
  | .sub _ _, _, h => by obtain ⟨⟨a, n, c, rfl⟩, _⟩ := h; rfl
  | .mapP _, _, h => by obtain ⟨g, _, rfl⟩ := h; rfl
  | .ptrE _ _ _, _, h => by obtain ⟨g, n, c, sz, m, _, _, rfl⟩ := h; rfl
  | .ptrZ _ _ _, _, h => by obtain ⟨g, q, es, rfl, _⟩ := h; rfl
  | .fn _ _, _, h => by obtain ⟨caps, rfl, _⟩ := h; rfl
  | .ifc b, v, h => by
    cases b
    · obtain ⟨t, x, rfl⟩ := h.2 rfl; rfl
    · rw [h.1 rfl]; rfl

def CsSim (w : World) (Z : Nat → Prop) (L : List Loc) : List Cell → List Value → Prop
  | [], [] => True
  | c :: cs, v :: vs => CSim w Z L c v ∧ CsSim w Z L cs vs
  | _, _ => False

def PSim (w : World) (Z : Nat → Prop) (L : List Loc) (p : Bool × List Cell) (v : Value) : Prop := match p.1 with
  | true => ∃ vs : Array Value, v = .agg vs ∧ CsSim w Z L p.2 vs.toList
  | false => CsSim w Z L p.2 [v]
def PsSim (w : World) (Z : Nat → Prop) (L : List Loc) : List (Bool × List Cell) → List Value → Prop
  | [], [] => True
  | p :: ps, v :: vs => PSim w Z L p v ∧ PsSim w Z L ps vs
  | _, _ => False

def ESim (w : World) (Z : Nat → Prop) (L : List Loc) : Ent → Value → Prop
  | .undef, _ => True
  | .one c, v => CSim w Z L c v
  | .agg cs, v => ∃ vs : Array Value, v = .agg vs ∧ CsSim w Z L cs vs.toList
  | .tup es, v => ∃ vs : Array Value, v = .tuple vs ∧ PsSim w Z L es vs.toList

def EsSim (w : World) (Z : Nat → Prop) (L : List Loc) : List Ent → List Value → Prop
  | [], [] => True
  | c :: cs, v :: vs => ESim w Z L c v ∧ EsSim w Z L cs vs
  | _, _ => False

def BoxAt (w : World) (g q : Nat) (s : Nat × Nat) (vs : List Value) : Prop :=
  ∃ cur e, w.heap[g]? = some (.cells cur e (0, 0)) ∧ q + vs.length ≤ cur.size ∧ (∀ j v, vs[j]? = some v → cur[q + j]? = some v) ∧ s = (e, cur.size)

def RowRd (w : World) (Z : Nat → Prop) (t : Ty) (xs : List t.den) (es : List Value) : Prop :=
  ∀ i x, xs[i]? = some x → Rd w Z t x ((es.drop (i * t.size)).take t.size)

def none1 : Nat → Prop := fun _ => False

structure Nests (w : World) (t : Ty) (q : Inn) (xs : List t.den) (hl : Option Nat) (v : Value) (es : List Value) (h : Nat → Value) : Prop where
  plain : ∀ (k : Nat) (x : t.den), xs[k]? = some x → ∀ (p : Nat) (c : Cell) (u : Value), p ≠ q.o → (t.cells x)[p]? = some c → es[k * t.size + p]? = some u → CSim w none1 [] c u
  head : ∀ k : Nat, k < xs.length → es[k * t.size + q.o]? = some (h k) ∧ ∃ a n c, h k = .slice a n c
  inner : ∀ (k : Nat) (x : t.den), xs[k]? = some x → hl ≠ some k → ∃ fs, w.ownsRow 0 q.e q.s.size (h k) (innerOf t q x).length fs ∧ RowRd w none1 q.s (innerOf t q x) fs
  sep : ∀ (k b : Nat), (h k).ownBlock = some b → v.ownBlock ≠ some b ∧ ∀ k', k' ≠ k → (h k').ownBlock ≠ some b
  out : ∀ k : Nat, xs.length ≤ k → h k = nilS

def MapAt (w : World) (g : Nat) (k v : IntKind) (es : List (Int × Int)) : Prop :=
  ∃ arr clock, w.heap[g]? = some (.map arr clock) ∧ arr.toList.map (fun e => (e.key, e.val)) = es.map fun p => (Value.int k p.1, Value.int v p.2)

def OSim (w : World) (Z : Nat → Prop) (L : List Loc) : Ob → Loc → Prop
  | .dead, _ => True
  | .box cs, l => ∃ g q s vs, l = .box g q s ∧ CsSim w Z L cs vs ∧ BoxAt w g q s vs
  | .row e t xs, l => ∃ v es, l = .row v t.size xs.length ∧ 0 < t.size ∧ w.ownsRow 0 e t.size v xs.length es ∧ RowRd w Z t xs es
  | .imap k v es, l => ∃ g, l = .box g 0 (0, 0) ∧ MapAt w g k v es
  | .nest e t q xs hl, l => ∃ v es h, l = .row v t.size ⟨xs.length, h⟩ ∧ 0 < t.size ∧ nestTy t q = true ∧ w.ownsRow 0 e t.size v xs.length es ∧ Nests w t q xs hl v es h

def foot : Ob → Loc → Nat → Nat → Prop
  | .box cs, .box g q _ => fun b o => b = g ∧ (cs.length = 0 ∨ (q ≤ o ∧ o < q + cs.length))
  | .row _ _ _, .row v _ _ => fun b _ => v.ownBlock = some b
  | .imap _ _ _, .box g _ _ => fun b _ => b = g
  | .nest _ _ _ _ hl, .row v _ n => fun b _ => v.ownBlock = some b ∨ ∃ k, hl ≠ some k ∧ (n.h k).ownBlock = some b
  | _, _ => fun _ _ => False

def Tabbed (w : World) (Z : Nat → Prop) : Prop := ∀ x ∈ tabK, Z x.1 ∧ ∃ cs e z, w.heap[x.1]? = some (.cells cs e z) ∧ x.2 cs
theorem Tabbed.mono {w w' : World} {Z Z' : Nat → Prop} (h : Tabbed w Z) (hw : ∀ b, Z b → w'.heap[b]? = w.heap[b]?) (hz : ∀ b, Z b → Z' b) : Tabbed w' Z' := by
  intro x hx
  obtain ⟨h1, cs, e, z, h2, h3⟩ := h x hx
  exact ⟨hz _ h1, cs, e, z, (hw _ h1).trans h2, h3⟩

structure Sims (w : World) (Z : Nat → Prop) (L : List Loc) (os : List Ob) : Prop where
  len : L.length = os.length
  ob : ∀ (i : Nat) (o : Ob) (l : Loc), os[i]? = some o → L[i]? = some l → OSim w Z L o l
  sep : ∀ (i j : Nat) (o : Ob) (l : Loc) (o' : Ob) (l' : Loc), os[i]? = some o → L[i]? = some l → os[j]? = some o' → L[j]? = some l' → i ≠ j → ∀ b q, foot o l b q → foot o' l' b q → False
  zap : ∀ (i : Nat) (o : Ob) (l : Loc), os[i]? = some o → L[i]? = some l → ∀ b q, foot o l b q → Z b → False
  zin : ∀ b, Z b → b < w.heap.size
  tab : Tabbed w Z

structure Keeps (W : World) (F : Nat → Nat → Prop) (w : World) : Prop where
  os : w.os = W.os
  tape : w.tape = W.tape
  output : w.output = W.output
  size : W.heap.size ≤ w.heap.size
  block : ∀ b, b < W.heap.size → w.heap[b]? = W.heap[b]? ∨
    (∃ c c' e z z', W.heap[b]? = some (.cells c e z) ∧ w.heap[b]? = some (.cells c' e z') ∧ c'.size = c.size ∧ (∀ o, ¬ F b o → c'[o]? = c[o]?) ∧ (z' = z ∨ ∀ o, F b o)) ∨ ∀ o, F b o

theorem Keeps.refl (W : World) (F : Nat → Nat → Prop) : Keeps W F W := ⟨rfl, rfl, rfl, Nat.le_refl _, fun _ _ => .inl rfl⟩
theorem Keeps.trans {a b c : World} {F : Nat → Nat → Prop} (h : Keeps a F b) (k : Keeps b F c) : Keeps a F c := by
  refine ⟨k.os.trans h.os, k.tape.trans h.tape, k.output.trans h.output, Nat.le_trans h.size k.size, fun i hi => ?_⟩
  rcases k.block i (Nat.lt_of_lt_of_le hi h.size) with k1 | ⟨x, x', e, z, z2, k1, k2, k3, k4, k5⟩ | k6
  · rcases h.block i hi with h1 | ⟨y, y', e', z', z3, h1, h2, h3, h4, h5⟩ | h6
    · exact .inl (k1.trans h1)
    · exact .inr (.inl ⟨y, y', e', z', z3, h1, k1.trans h2, h3, h4, h5⟩)
    · exact .inr (.inr h6)
  · rcases h.block i hi with h1 | ⟨y, y', e', z', z3, h1, h2, h3, h4, h5⟩ | h6
    · exact .inr (.inl ⟨x, x', e, z, z2, h1 ▸ k1, k2, k3, k4, k5⟩)
    · rw [k1] at h2
      simp only [Option.some.injEq, Obj.cells.injEq] at h2
      obtain ⟨rfl, rfl, rfl⟩ := h2
      exact .inr (.inl ⟨y, x', _, _, _, h1, k2, k3.trans h3, fun o ho => (k4 o ho).trans (h4 o ho), by rcases k5 with rfl | k5; exact h5; exact .inr k5⟩)
    · exact .inr (.inr h6)
  · exact .inr (.inr k6)
theorem Keeps.mono {a b : World} {F G : Nat → Nat → Prop} (h : Keeps a F b) (hg : ∀ i o, i < a.heap.size → F i o → G i o) : Keeps a G b := by
  refine ⟨h.os, h.tape, h.output, h.size, fun i hi => ?_⟩
  rcases h.block i hi with h1 | ⟨y, y', e', z', z2, h1, h2, h3, h4, h5⟩ | h6
  · exact .inl h1
  · exact .inr (.inl ⟨y, y', e', z', z2, h1, h2, h3, fun o ho => h4 o fun hf => ho (hg i o hi hf), h5.imp id fun k o => hg i o hi (k o)⟩)
  · exact .inr (.inr fun o => hg i o hi (h6 o))
theorem Keeps.same {a b : World} {F : Nat → Nat → Prop} (h : Keeps a F b) {i : Nat} (hi : i < a.heap.size) (hf : ∀ o, ¬ F i o) : b.heap[i]? = a.heap[i]? := by
  rcases h.block i hi with h1 | ⟨y, y', e', z', z2, h1, h2, h3, h4, h5⟩ | h6
  · exact h1
  · obtain rfl : z2 = z' := h5.elim id fun k => (hf 0 (k 0)).elim
    rw [h1, h2]
    have : y' = y := Array.ext_getElem? fun o => h4 o (hf o)
    rw [this]
  · exact (hf 0 (h6 0)).elim
theorem Keeps.drew (W : World) (F : Nat → Nat → Prop) : Keeps W F W.drew := ⟨rfl, rfl, rfl, Nat.le_refl _, fun _ _ => .inl rfl⟩
theorem Keeps.alloc (W : World) (F : Nat → Nat → Prop) (o : Obj) : Keeps W F (W.alloc o) :=
  ⟨rfl, rfl, rfl, by simp, fun k hk => .inl (RowKit.Below.heap_alloc W o k hk)⟩

def Grows (L L' : List Loc) : Prop := ∀ (i : Nat) (l : Loc), L[i]? = some l → L'[i]? = some l
theorem Grows.refl (L : List Loc) : Grows L L := fun _ _ h => h
theorem Grows.trans {A B C : List Loc} (h : Grows A B) (k : Grows B C) : Grows A C := fun i l hi => k i l (h i l hi)
theorem Grows.append (L M : List Loc) : Grows L (L ++ M) := fun i l h => by
  rw [List.getElem?_append_left]
  · exact h
  · exact (List.getElem?_eq_some_iff.1 h).1

section mono
variable {w w' : World} {Z Z' : Nat → Prop} {L L' : List Loc} (hw : ∀ b, Z b → w'.heap[b]? = w.heap[b]?) (hz : ∀ b, Z b → Z' b) (hl : Grows L L')

theorem areBoxes.mono (hl : Grows L L') : ∀ {bs : List Nat} {vs : List Value}, areBoxes L bs vs → areBoxes L' bs vs
  | [], [], _ => trivial
  | [], _ :: _, h => h.elim
  | _ :: _, [], h => h.elim
  | b :: bs, v :: vs, ⟨⟨g, q, s, h1, h2⟩, h3⟩ => ⟨⟨g, q, s, hl _ _ h1, h2⟩, areBoxes.mono hl h3⟩

include hw hz hl in
theorem CSim.mono : ∀ {c : Cell} {v : Value}, CSim w Z L c v → CSim w' Z' L' c v
  | .undef, _, h | .int _ _, _, h | .bool _, _, h | .str _, _, h | .nils, _, h | .nilp, _, h | .nilf, _, h | .ifc _, _, h => h
  | .sl _ _, _, h => Rd.mono hw hz h
  | .row _, _, ⟨h, sz, n, h1⟩ => ⟨h, sz, n, hl _ _ h1⟩
  | .win _ _ _, _, ⟨u, sz, n, h1, h2⟩ => ⟨u, sz, n, hl _ _ h1, h2⟩
  | .ptrB _ _, _, ⟨g, q, s, h1, h2⟩ => ⟨g, q, s, hl _ _ h1, h2⟩
  | .selfp _ _ _, _, ⟨g, h1, h2⟩ => ⟨g, hl _ _ h1, h2⟩
  | .dat _, _, ⟨u, sz, n, h1, h2⟩ => ⟨u, sz, n, hl _ _ h1, h2⟩
  | .sub _ _, _, ⟨h0, u, sz, n, h1, h2⟩ => ⟨h0, u, sz, n, hl _ _ h1, h2⟩
  | .mapP _, _, ⟨g, h1, h2⟩ => ⟨g, hl _ _ h1, h2⟩
  | .ptrE _ _ _, _, ⟨g, n, c, sz, m, h1, h2⟩ => ⟨g, n, c, sz, m, hl _ _ h1, h2⟩
  | .ptrZ _ _ _, _, ⟨g, q, es, h1, h2, h3, h4⟩ => ⟨g, q, es, h1, hz _ h2, fun j u hj => by
      rw [← h3 j u hj]
      exact World.cell?_of_block (w := w) (w' := w') (hw _ h2), Rd.mono hw hz h4⟩
  | .fn _ _, _, ⟨caps, h1, h2⟩ => ⟨caps, h1, areBoxes.mono hl h2⟩

include hw hz hl in
theorem CsSim.mono : ∀ {cs : List Cell} {vs : List Value}, CsSim w Z L cs vs → CsSim w' Z' L' cs vs
  | [], [], _ => trivial
  | [], _ :: _, h => h.elim
  | _ :: _, [], h => h.elim
  | _ :: _, _ :: _, ⟨h1, h2⟩ => ⟨CSim.mono hw hz hl h1, CsSim.mono h2⟩
include hw hz hl in
theorem PSim.mono {p : Bool × List Cell} {v : Value} (h : PSim w Z L p v) : PSim w' Z' L' p v := by
  obtain ⟨a, cs⟩ := p
  cases a
  · exact CsSim.mono hw hz hl h
  · obtain ⟨vs, h1, h2⟩ := h
    exact ⟨vs, h1, CsSim.mono hw hz hl h2⟩
include hw hz hl in
theorem PsSim.mono : ∀ {ps : List (Bool × List Cell)} {vs : List Value}, PsSim w Z L ps vs → PsSim w' Z' L' ps vs
  | [], [], _ => trivial
  | [], _ :: _, h => h.elim
  | _ :: _, [], h => h.elim
  | _ :: _, _ :: _, ⟨h1, h2⟩ => ⟨PSim.mono hw hz hl h1, PsSim.mono h2⟩
include hw hz hl in
theorem ESim.mono : ∀ {e : Ent} {v : Value}, ESim w Z L e v → ESim w' Z' L' e v
  | .undef, _, _ => trivial
  | .one _, _, h => CSim.mono hw hz hl h
  | .agg _, _, ⟨vs, h1, h2⟩ => ⟨vs, h1, CsSim.mono hw hz hl h2⟩
  | .tup _, _, ⟨vs, h1, h2⟩ => ⟨vs, h1, PsSim.mono hw hz hl h2⟩
include hw hz hl in
theorem EsSim.mono : ∀ {es : List Ent} {vs : List Value}, EsSim w Z L es vs → EsSim w' Z' L' es vs
  | [], [], _ => trivial
  | [], _ :: _, h => h.elim
  | _ :: _, [], h => h.elim
  | _ :: _, _ :: _, ⟨h1, h2⟩ => ⟨ESim.mono hw hz hl h1, EsSim.mono h2⟩
include hw hz in
theorem RowRd.mono {t : Ty} {xs : List t.den} {es : List Value} (h : RowRd w Z t xs es) : RowRd w' Z' t xs es :=
  fun i x hi => Rd.mono hw hz (h i x hi)
end mono

theorem CsSim.length {w : World} {Z : Nat → Prop} {L : List Loc} : ∀ {cs : List Cell} {vs : List Value}, CsSim w Z L cs vs → vs.length = cs.length
  | [], [], _ => rfl
  | [], _ :: _, h => h.elim
  | _ :: _, [], h => h.elim
  | _ :: _, _ :: _, ⟨_, h2⟩ => by simp [CsSim.length h2]

theorem ownsRow_kept {w w' : World} {F : Nat → Nat → Prop} (hk : Keeps w F w') {e sz : Nat} {u : Value} {n : Nat} {fs : List Value} (hu : ∀ b, u.ownBlock = some b → ∀ q, ¬ F b q) (ho : w.ownsRow 0 e sz u n fs) : w'.ownsRow 0 e sz u n fs := by
  refine ⟨ho.1, ?_⟩
  rcases ho.2 with hn | ⟨g, cap, cur, rfl, hb, hgg, rest⟩
  · exact .inl hn
  · refine .inr ⟨g, cap, cur, rfl, hb, ?_, rest⟩
    rw [hk.same (Array.getElem?_eq_some_iff.1 hgg).1 fun o => hu g rfl o]
    exact hgg

theorem OSim.kept {w w' : World} {Z Z' : Nat → Prop} {L L' : List Loc} {F : Nat → Nat → Prop} (hw : ∀ b, Z b → w'.heap[b]? = w.heap[b]?) (hz : ∀ b, Z b → Z' b) (hl : Grows L L')
    (hk : Keeps w F w') {o : Ob} {l : Loc} (hf : ∀ b q, foot o l b q → ¬ F b q) (h : OSim w Z L o l) : OSim w' Z' L' o l := by
  cases o with
  | dead => trivial
  | box cs =>
    obtain ⟨g, q, s, vs, rfl, h1, cur, e, h2, h3, h4, h5⟩ := h
    have hlen := CsSim.length h1
    refine ⟨g, q, s, vs, rfl, CsSim.mono hw hz hl h1, ?_⟩
    rcases hk.block g (Array.getElem?_eq_some_iff.1 h2).1 with k | ⟨c, c', e', z, z2, k1, k2, k3, k4, k5⟩ | k6
    rotate_right
    · exact (hf g q ⟨rfl, by omega⟩ (k6 q)).elim
    · exact ⟨cur, e, k.trans h2, h3, h4, h5⟩
    · obtain rfl : z2 = z := k5.elim id fun k => (hf g q ⟨rfl, by omega⟩ (k q)).elim
      rw [h2] at k1
      simp only [Option.some.injEq, Obj.cells.injEq] at k1
      obtain ⟨rfl, rfl, rfl⟩ := k1
      refine ⟨c', _, k2, k3 ▸ h3, fun j v hj => ?_, by rw [h5, k3]⟩
      have hjl := (List.getElem?_eq_some_iff.1 hj).1
      rw [k4 (q + j) (hf g (q + j) ⟨rfl, .inr ⟨by omega, by omega⟩⟩)]
      exact h4 j v hj
  | row e t xs =>
    obtain ⟨v, es, rfl, h1, h2, h3⟩ := h
    refine ⟨v, es, rfl, h1, ?_, RowRd.mono hw hz h3⟩
    refine ⟨h2.1, ?_⟩
    rcases h2.2 with hn | ⟨g, cap, cur, rfl, hb, hgg, rest⟩
    · exact .inl hn
    · refine .inr ⟨g, cap, cur, rfl, hb, ?_, rest⟩
      rw [hk.same (Array.getElem?_eq_some_iff.1 hgg).1 fun o => hf g o rfl]
      exact hgg
  | imap k v es =>
    obtain ⟨g, rfl, arr, clock, h1, h2⟩ := h
    exact ⟨g, rfl, arr, clock, (hk.same (Array.getElem?_eq_some_iff.1 h1).1 fun o => hf g o rfl).trans h1, h2⟩
  | nest e t q xs hn =>
    obtain ⟨v, es, h, rfl, h1, h2, h3, h4⟩ := h
    refine ⟨v, es, h, rfl, h1, h2, ownsRow_kept hk (fun b hb q => hf b q (.inl hb)) h3, ⟨fun k x hx p c u hp hc hu => ?_, h4.head, fun k x hx hkn => ?_, h4.sep, h4.out⟩⟩
    · exact CSim.mono (w := w) (w' := w') (Z := none1) (Z' := none1) (fun _ h => h.elim) (fun _ h => h) (Grows.refl _) (h4.plain k x hx p c u hp hc hu)
    · obtain ⟨fs, a1, a2⟩ := h4.inner k x hx hkn
      exact ⟨fs, ownsRow_kept hk (fun b hb q => hf b q (.inr ⟨k, hkn, hb⟩)) a1, RowRd.mono (fun _ h => h.elim) (fun _ h => h) a2⟩

theorem foot_lt {w : World} {Z : Nat → Prop} {L : List Loc} {o : Ob} {l : Loc} (h : OSim w Z L o l) {b q : Nat} (hf : foot o l b q) : b < w.heap.size := by
  cases o with
  | dead => cases hf
  | box cs =>
    obtain ⟨g, q', s, vs, rfl, h1, cur, e, h2, h3, h4, h5⟩ := h
    obtain ⟨rfl, _⟩ := hf
    exact (Array.getElem?_eq_some_iff.1 h2).1
  | row e t xs =>
    obtain ⟨v, es, rfl, h1, h2, h3⟩ := h
    exact (h2.lt b hf).2
  | imap k v es =>
    obtain ⟨g, rfl, arr, clock, h1, h2⟩ := h
    have hb : b = g := hf
    rw [hb]
    exact (Array.getElem?_eq_some_iff.1 h1).1
  | nest e t q xs hn =>
    obtain ⟨v, es, h, rfl, h1, h2, h3, h4⟩ := h
    rcases hf with hf | ⟨k, hkn, hf⟩
    · exact (h3.lt b hf).2
    · rcases Nat.lt_or_ge k xs.length with hlt | hge
      · obtain ⟨fs, a1, _⟩ := h4.inner k _ (List.getElem?_eq_getElem hlt) hkn
        exact (a1.lt b hf).2
      · have := h4.out k hge
        simp only at hf
        rw [this] at hf
        simp [nilS, Value.ownBlock] at hf

theorem Sims.update {w w' : World} {Z Z' : Nat → Prop} {L L' : List Loc} {os os' : List Ob} (h : Sims w Z L os) (F : Nat → Nat → Prop) (D : Nat → Prop)
    (hk : Keeps w F w') (hfz : ∀ b q, F b q → Z b → False) (hz : ∀ b, Z b → Z' b) (hl : Grows L L') (hlen : L'.length = os'.length)
    (hold : ∀ i : Nat, ¬ D i → i < os'.length → os'[i]? = os[i]?)
    (hF : ∀ (i : Nat) (o : Ob) (l : Loc), ¬ D i → os[i]? = some o → L[i]? = some l → ∀ b q, foot o l b q → ¬ F b q)
    (hD : ∀ (i : Nat) (o : Ob) (l : Loc), D i → os'[i]? = some o → L'[i]? = some l → OSim w' Z' L' o l)
    (hDf : ∀ (i : Nat) (o : Ob) (l : Loc), D i → os'[i]? = some o → L'[i]? = some l → ∀ b q, foot o l b q → w.heap.size ≤ b ∨ F b q)
    (hDs : ∀ (i j : Nat) (o : Ob) (l : Loc) (o' : Ob) (l' : Loc), D i → D j → os'[i]? = some o → L'[i]? = some l → os'[j]? = some o' → L'[j]? = some l' → i ≠ j → ∀ b q, foot o l b q → foot o' l' b q → False)
    (hDz : ∀ (i : Nat) (o : Ob) (l : Loc), D i → os'[i]? = some o → L'[i]? = some l → ∀ b q, foot o l b q → Z' b → False)
    (hZ : ∀ b, Z' b → Z b ∨ (w.heap.size ≤ b ∧ b < w'.heap.size) ∨ ∀ q, F b q)
    (hZin : ∀ b, Z' b → b < w'.heap.size) : Sims w' Z' L' os' := by
  have hw : ∀ b, Z b → w'.heap[b]? = w.heap[b]? := fun b hb => hk.same (h.zin b hb) fun o ho => hfz b o ho hb
  have old : ∀ (i : Nat) (o : Ob) (l : Loc), ¬ D i → os'[i]? = some o → L'[i]? = some l → os[i]? = some o ∧ L[i]? = some l := by
    intro i o l hi ho hl'
    have hil := (List.getElem?_eq_some_iff.1 ho).1
    have ho' := (hold i hi hil) ▸ ho
    have hiL : i < L.length := by rw [h.len]; exact (List.getElem?_eq_some_iff.1 ho').1
    have hLi := List.getElem?_eq_getElem hiL
    have := hl i _ hLi
    rw [hl'] at this
    simp only [Option.some.injEq] at this
    exact ⟨ho', this ▸ hLi⟩
  refine ⟨hlen, fun i o l ho hl' => ?_, fun i j o l o' l' ho hl1 ho' hl2 hij b q f1 f2 => ?_, fun i o l ho hl' b q hf hb => ?_, hZin, h.tab.mono hw hz⟩
  · by_cases hi : D i
    · exact hD i o l hi ho hl'
    · obtain ⟨a1, a2⟩ := old i o l hi ho hl'
      exact OSim.kept hw hz hl hk (hF i o l hi a1 a2) (h.ob i o l a1 a2)
  · by_cases hi : D i
    · by_cases hj : D j
      · exact hDs i j o l o' l' hi hj ho hl1 ho' hl2 hij b q f1 f2
      · obtain ⟨a1, a2⟩ := old j o' l' hj ho' hl2
        have hlt := foot_lt (h.ob j o' l' a1 a2) f2
        rcases hDf i o l hi ho hl1 b q f1 with hx | hx
        · omega
        · exact hF j o' l' hj a1 a2 b q f2 hx
    · obtain ⟨a1, a2⟩ := old i o l hi ho hl1
      by_cases hj : D j
      · have hlt := foot_lt (h.ob i o l a1 a2) f1
        rcases hDf j o' l' hj ho' hl2 b q f2 with hx | hx
        · omega
        · exact hF i o l hi a1 a2 b q f1 hx
      · obtain ⟨b1, b2⟩ := old j o' l' hj ho' hl2
        exact h.sep i j o l o' l' a1 a2 b1 b2 hij b q f1 f2
  · by_cases hi : D i
    · exact hDz i o l hi ho hl' b q hf hb
    · obtain ⟨a1, a2⟩ := old i o l hi ho hl'
      have hlt := foot_lt (h.ob i o l a1 a2) hf
      rcases hZ b hb with hx | hx | hx
      · exact h.zap i o l a1 a2 b q hf hx
      · omega
      · exact hF i o l hi a1 a2 b q hf (hx q)
end Go.Ry
set_option linter.unusedVariables false
set_option linter.unusedSimpArgs false
namespace Go.Ry

structure Start where
  W : World
  F : Nat → Nat → Prop
  Z : Nat → Prop
  L : List Loc

structure Sit (S : Start) (st : St) (a : Act) (w : World) (Z : Nat → Prop) (L : List Loc) : Prop where
  tlen : st.tmps.length = a.tmps.size
  tmps : ∀ (d : Nat) (e : Ent), st.tmps[d]? = some e → ESim w Z L e (a.tmps.getD d undef)
  sims : Sims w Z L st.objs
  keeps : Keeps S.W S.F w
  zup : ∀ b, S.Z b → Z b
  znew : ∀ b, Z b → S.Z b ∨ S.W.heap.size ≤ b ∨ ∀ q, S.F b q
  fnew : ∀ (i : Nat) (o : Ob) (l : Loc), st.objs[i]? = some o → L[i]? = some l → ∀ b q, foot o l b q → S.W.heap.size ≤ b ∨ S.F b q
  lents : Grows S.L L
  defers : a.defers = []

theorem cstC_sim (w : World) (Z : Nat → Prop) (L : List Loc) : ∀ {v : Value}, v.oneCell' = true → CSim w Z L (cstC v) v := by
  intro v hv
  cases v with
  | agg _ => simp [Value.oneCell'] at hv
  | tuple _ => simp [Value.oneCell'] at hv
  | slice a n c =>
    unfold cstC
    split <;> simp_all [CSim]
  | pointer a =>
    unfold cstC
    split <;> simp_all [CSim]
  | _ => simp [cstC, CSim, Value.oneCell']

theorem cstCs_sim (w : World) (Z : Nat → Prop) (L : List Loc) : ∀ {vs : List Value}, vs.all Value.oneCell' = true → CsSim w Z L (vs.map cstC) vs
  | [], _ => trivial
  | v :: vs, h => by
    simp only [List.all_cons, Bool.and_eq_true] at h
    exact ⟨cstC_sim w Z L h.1, cstCs_sim w Z L h.2⟩

theorem cstE_sim (w : World) (Z : Nat → Prop) (L : List Loc) (v : Value) : ESim w Z L (cstE v) v := by
  unfold cstE
  split
  · rename_i cs
    split
    · rename_i h
      exact ⟨cs, rfl, cstCs_sim w Z L h⟩
    · trivial
  · split
    · rename_i h
      exact cstC_sim w Z L h
    · trivial

section
variable {S : Start} {st : St} {a : Act} {w : World} {Z : Nat → Prop} {L : List Loc}

theorem Sit.tmp (h : Sit S st a w Z L) (d : Nat) : ESim w Z L (st.tmp d) (a.tmps.getD d undef) := by
  unfold St.tmp
  rw [nth_eq]
  cases hd : st.tmps[d]? with
  | none => trivial
  | some e => exact h.tmps d e hd

theorem Sit.ev (h : Sit S st a w Z L) (x : Operand) : ESim w Z L (st.ev x) (a.eval x) := by
  cases x with
  | tmp d => exact h.tmp d
  | const v => exact cstE_sim w Z L v
  | func f => exact ⟨#[], rfl, trivial⟩
  | global g => trivial

theorem Sit.evs (h : Sit S st a w Z L) : ∀ xs : List Operand, EsSim w Z L (xs.map st.ev) (xs.map a.eval)
  | [] => trivial
  | x :: xs => ⟨h.ev x, h.evs xs⟩

theorem Sit.put (h : Sit S st a w Z L) {e : Ent} {v : Value} (he : ESim w Z L e v) (d : Option Nat) : Sit S (st.putO d e) (a.put d v) w Z L := by
  cases d with
  | none => exact h
  | some d =>
    refine ⟨?_, fun d' e' hd => ?_, h.sims, h.keeps, h.zup, h.znew, h.fnew, h.lents, h.defers⟩
    · simp [St.putO, Act.put, setNth_eq, h.tlen]
    · simp only [St.putO, setNth_eq, Act.put] at hd ⊢
      by_cases hdd : d' = d
      · subst hdd
        have hlt : d' < st.tmps.length := by
          have := (List.getElem?_eq_some_iff.1 hd).1
          simpa using this
        rw [List.getElem?_set_self hlt] at hd
        simp only [Option.some.injEq] at hd
        subst hd
        simpa [Array.getD_eq_getD_getElem?, h.tlen ▸ hlt] using he
      · rw [List.getElem?_set_ne (by omega)] at hd
        have := h.tmps d' e' hd
        simpa [Array.getD_eq_getD_getElem?, Array.getElem?_setIfInBounds, show ¬ d = d' by omega] using this

def Goes (S : Start) (K : St → Prop) (next : Act → World → Prop) : Prop :=
  ∀ st a w Z L, Sit S st a w Z L → K st → next a w

theorem wp_value {P : Program} {o : Oper} {next : Act → World → Prop} {Q : Exit → Act → World → Prop} {v : Value} {w' : World}
    (h : (execOp a.eval o).run P w = .ok (.value v) w') (hn : next (a.put o.dst v) w') : o.wp P a w next Q := by
  unfold Oper.wp
  rw [h]
  exact hn
def FinV (P : Program) (o : Oper) (a : Act) (w : World) (Z : Nat → Prop) (L : List Loc) (st : St) (K : St → Prop) (R : Prop) : Prop :=
  ∀ (v : Value) (e : Ent), (∀ w', (execOp a.eval o).run P w' = .ok (.value v) w') → ESim w Z L e v → K (st.putO o.dst e) → R
theorem FinV.value {P : Program} {o : Oper} {K : St → Prop} {R : Prop} {v : Value} {e : Ent} (hg : FinV P o a w Z L st K R) (hr : ∀ w', (execOp a.eval o).run P w' = .ok (.value v) w')
    (he : ESim w Z L e v) (hk : K (st.putO o.dst e)) : R := hg v e hr he hk
theorem wp_skip {P : Program} {o : Oper} {next : Act → World → Prop} {Q : Exit → Act → World → Prop} {w' : World}
    (h : (execOp a.eval o).run P w = .ok .skip w') (hn : next (a.put o.dst undef) w') : o.wp P a w next Q := by
  unfold Oper.wp
  rw [h]
  exact hn

theorem Sit.value {P : Program} (h : Sit S st a w Z L) {o : Oper} {K : St → Prop} {next : Act → World → Prop} {Q : Exit → Act → World → Prop} {v : Value} {e : Ent}
    (hg : Goes S K next) (hr : (execOp a.eval o).run P w = .ok (.value v) w) (he : ESim w Z L e v) (hk : K (st.putO o.dst e)) : o.wp P a w next Q :=
  wp_value hr (hg _ _ _ _ _ (h.put he o.dst) hk)
theorem Sit.finV {P : Program} (h : Sit S st a w Z L) {o : Oper} {K : St → Prop} {next : Act → World → Prop} {Q : Exit → Act → World → Prop} (hg : Goes S K next) : FinV P o a w Z L st K (o.wp P a w next Q) :=
  fun _ _ hr he hk => h.value hg (hr w) he hk
end

/-! ### arithmetic -/
section
variable {P : Program} {w : World} {Z : Nat → Prop} {L : List Loc} {K : Cell → Prop}

theorem arith_sound {op : BinOp} {k l : IntKind} {x y : Int} (t : TypeId) (hkl : k = l ∨ op = .shl ∨ op = .shr) (h : arith op k x y K) :
    ∃ c v, K c ∧ CSim w Z L c v ∧ ∀ w, (binOp op t (.int k x) (.int l y)).run P w = .ok v w := by
  cases op <;> simp only [arith] at h
  case shl => exact ⟨_, _, h.2, rfl, by simp [binOp, Op.shift, show ¬ y < 0 by omega]⟩
  case shr => exact ⟨_, _, h.2, rfl, by simp [binOp, Op.shift, show ¬ y < 0 by omega]⟩
  all_goals
    have hk : k = l := by simpa using hkl
    subst hk
  case quo => exact ⟨_, _, h.2, rfl, by simp [binOp, Op.intDiv, h.1]⟩
  case rem => exact ⟨_, _, h.2, rfl, by simp [binOp, Op.intDiv, h.1]⟩
  all_goals exact ⟨_, _, h, rfl, by simp [binOp, Op.intArith, Op.intBits, Op.intCmp, bits]⟩

theorem strOp_sound {op : BinOp} {x y : ByteArray} (t : TypeId) (h : strOp op x y K) :
    ∃ c v, K c ∧ CSim w Z L c v ∧ ∀ w, (binOp op t (.string x) (.string y)).run P w = .ok v w := by
  cases op <;> simp only [strOp] at h
  case add =>
    refine ⟨_, _, h.2, rfl, fun w => ?_⟩
    have : ¬ (((x.size + y.size : Nat) : Int) > IntKind.i64.max) := by
      have e : IntKind.i64.max = 9223372036854775807 := by decide
      rw [e]; omega
    simp only [binOp, Op.stringOp, this, if_false]
    rfl
  all_goals first
    | exact h.elim
    | exact ⟨_, _, h, rfl, by simp [binOp, Op.stringOp]⟩
end
end Go.Ry
set_option linter.unusedVariables false
set_option linter.unusedSimpArgs false
namespace Go.Ry

/-! ### types -/
def zeroEq : List Cell → List Value → Bool
  | [], [] => true
  | c :: cs, v :: vs => (match c, v with
    | .int k n, .int l m => k == l && n == m
    | .bool a, .bool b => a == b
    | .str s, .string t => s.data.size == 0 && t.data.size == 0
    | .nils, .slice none 0 0 => true
    | .nilp, .pointer none => true
    | .nilf, .nilFunc => true
    | .ifc true, .nilIface => true
    | .undef, .map none => true
    | _, _ => false) && zeroEq cs vs
  | _, _ => false
def fieldsEq : List (Nat × Nat) → List Field → Bool
  | [], [] => true
  | p :: ps, f :: fs => (p.1 == f.offset && p.2 == f.type) && fieldsEq ps fs
  | _, _ => false
def kindOk (te : TE) : TypeDesc → Bool
  | .int k => match te.kind with
    | .int l => k == l && !te.agg
    | _ => false
  | .bool => match te.kind with
    | .bool => !te.agg
    | _ => false
  | .string => match te.kind with
    | .str => !te.agg
    | _ => false
  | .slice e => match te.kind with
    | .slice => e == te.elem && !te.agg
    | _ => false
  | .struct fs => match te.kind with
    | .struct => te.agg && fieldsEq te.flds fs.toList
    | _ => false
  | .array n e => match te.kind with
    | .array m => te.agg && (n == m && e == te.elem)
    | _ => false
  | .pointer _ => match te.kind with
    | .pointer => !te.agg
    | _ => false
  | .func _ _ _ => match te.kind with
    | .func => !te.agg
    | _ => false
  | .map k e => match te.kind with
    | .map a b => (k == a && e == b) && !te.agg
    | _ => false
  | .interface ms => match te.kind with
    | .iface b => ms.isEmpty == b && !te.agg
    | _ => false
  | _ => match te.kind with
    | .other => !te.agg
    | _ => false
def zeroIs : Ty → List Cell → Option (List Cell)
  | .unit, cs => some cs
  | .int k, .int l 0 :: cs => if l = k then some cs else none
  | .bool, .bool false :: cs => some cs
  | .str, .str s :: cs => if s.data.size = 0 then some cs else none
  | .slice _, .nils :: cs => some cs
  | .pair a b, cs => match zeroIs a cs with
    | some cs => zeroIs b cs
    | none => none
  | _, _ => none
def plainNames : TypeDesc → Bool
  | .struct fs => fs.toList.all fun f => f.name != "_"
  | _ => false
def eqOk (P : Program) (t : Nat) (d : TypeDesc) : Bool := !P.stoodInHeld t && (!P.eqGuardType P.depth t && plainNames d)
def zintOk (k : TK) (z : Value) : Bool := match k, z with
  | .int k, .int l n => k == l && n == 0
  | .int _, _ => false
  | _, _ => true
def teOk (P : Program) (t : Nat) (te : TE) : Bool := match P.info? t, P.underlying t with
  | some i, some d => (!te.eq || eqOk P t d) && (i.size == te.size && (i.bytes == te.bytes && (kindOk te d && ((te.agg || te.size == 1) && ((te.size == 0 || Nat.blt 0 te.bytes) && ((match i.zero with
      | some z => zeroEq te.zero z.cells.toList && zintOk te.kind z
      | none => false) && (!te.told || (te.ty.size == te.size && (match zeroIs te.ty te.zero with
      | some [] => true
      | _ => false)))))))))
  | _, _ => false
def tabOk (P : Program) : Tab → Bool
  | [] => true
  | (t, te) :: T => teOk P t te && tabOk P T

theorem tabOk_look {P : Program} : ∀ {T : Tab} {t : Nat} {te : TE}, tabOk P T = true → look T t = some te → teOk P t te = true
  | [], _, _, _, h => by simp [look] at h
  | (u, ue) :: T, t, te, h, hl => by
    simp only [tabOk, Bool.and_eq_true] at h
    simp only [look, cond_eq_ite] at hl
    split at hl
    · rename_i hu
      simp only [beq_iff_eq] at hu
      simp only [Option.some.injEq] at hl
      rw [← hu, ← hl]; exact h.1
    · exact tabOk_look h.2 hl

structure TEFacts (P : Program) (t : Nat) (te : TE) (i : TypeInfo) (d : TypeDesc) (z : Value) : Prop where
  info : P.info? t = some i
  under : P.underlying t = some d
  size : i.size = te.size
  bytes : i.bytes = te.bytes
  kind : kindOk te d = true
  one : te.agg = true ∨ te.size = 1
  pos : te.size = 0 ∨ 0 < te.bytes
  zero : i.zero = some z
  zeroEq : zeroEq te.zero z.cells.toList = true
  zint : zintOk te.kind z = true
  told : te.told = true → te.ty.size = te.size ∧ zeroIs te.ty te.zero = some []
  eq : te.eq = true → eqOk P t d = true

theorem teFacts {P : Program} {t : Nat} {te : TE} (h : teOk P t te = true) : ∃ i d z, TEFacts P t te i d z := by
  unfold teOk at h
  split at h
  · rename_i i d hi hd
    simp only [Bool.and_eq_true, Bool.or_eq_true, beq_iff_eq] at h
    obtain ⟨h0, h1, h2, h3, h4, h5, h6, h7⟩ := h
    split at h6
    · rename_i z hz
      rw [Bool.and_eq_true] at h6
      refine ⟨i, d, z, hi, hd, h1, h2, h3, h4, ?_, hz, h6.1, h6.2, fun ht => ?_, fun he => by simpa [he] using h0⟩
      · simpa using h5
      · rw [ht] at h7
        simp only [Bool.not_true, Bool.false_eq_true, false_or] at h7
        refine ⟨h7.1, ?_⟩
        have h8 := h7.2
        split at h8
        · assumption
        · simp at h8
    · simp at h6
  · simp at h

theorem zeroEq_sim (w : World) (Z : Nat → Prop) (L : List Loc) : ∀ {cs : List Cell} {vs : List Value}, zeroEq cs vs = true → CsSim w Z L cs vs
  | [], [], _ => trivial
  | [], _ :: _, h => by simp [zeroEq] at h
  | _ :: _, [], h => by simp [zeroEq] at h
  | c :: cs, v :: vs, h => by
    simp only [zeroEq, Bool.and_eq_true] at h
    refine ⟨?_, zeroEq_sim w Z L h.2⟩
    have h1 := h.1
    split at h1
    · simp only [Bool.and_eq_true, beq_iff_eq] at h1
      obtain ⟨rfl, rfl⟩ := h1; rfl
    · simp only [beq_iff_eq] at h1; rw [h1]; rfl
    · rename_i s t
      simp only [Bool.and_eq_true, beq_iff_eq] at h1
      have : s = t := by
        cases s; cases t
        simp only [Array.size_eq_zero_iff] at h1
        rw [h1.1, h1.2]
      rw [this]; rfl
    · rfl
    · rfl
    · rfl
    · exact ⟨fun _ => rfl, fun h => by simp at h⟩
    · rfl
    · simp at h1

/-! ### lists of cells -/
section
variable {w : World} {Z : Nat → Prop} {L : List Loc}

theorem CsSim.append : ∀ {cs ds : List Cell} {vs us : List Value}, CsSim w Z L cs vs → CsSim w Z L ds us → CsSim w Z L (cs ++ ds) (vs ++ us)
  | [], _, [], _, _, h => h
  | [], _, _ :: _, _, h, _ => h.elim
  | _ :: _, _, [], _, h, _ => h.elim
  | _ :: _, _, _ :: _, _, ⟨h1, h2⟩, h => ⟨h1, CsSim.append h2 h⟩
theorem CsSim.take : ∀ {n : Nat} {cs : List Cell} {vs : List Value}, CsSim w Z L cs vs → CsSim w Z L (cs.take n) (vs.take n)
  | 0, _, _, _ => by simp [CsSim]
  | _ + 1, [], [], _ => trivial
  | _ + 1, [], _ :: _, h => h.elim
  | _ + 1, _ :: _, [], h => h.elim
  | n + 1, _ :: _, _ :: _, ⟨h1, h2⟩ => ⟨h1, CsSim.take h2⟩
theorem CsSim.drop : ∀ {n : Nat} {cs : List Cell} {vs : List Value}, CsSim w Z L cs vs → CsSim w Z L (cs.drop n) (vs.drop n)
  | 0, _, _, h => h
  | _ + 1, [], [], _ => trivial
  | _ + 1, [], _ :: _, h => h.elim
  | _ + 1, _ :: _, [], h => h.elim
  | n + 1, _ :: _, _ :: _, ⟨h1, h2⟩ => CsSim.drop (n := n) h2
theorem CsSim.one {c : Cell} {v : Value} (h : CSim w Z L c v) : CsSim w Z L [c] [v] := ⟨h, trivial⟩
theorem CsSim.oneCell : ∀ {cs : List Cell} {vs : List Value}, CsSim w Z L cs vs → ∀ v ∈ vs, v.oneCell' = true
  | [], [], _, v, hv => by simp at hv
  | [], _ :: _, h, _, _ => h.elim
  | _ :: _, [], h, _, _ => h.elim
  | _ :: _, u :: us, ⟨h1, h2⟩, v, hv => by
    rcases List.mem_cons.1 hv with rfl | hv
    · exact CSim.oneCell h1
    · exact CsSim.oneCell h2 v hv
theorem CsSim.putAt : ∀ {o : Nat} {cs ds : List Cell} {vs us : List Value}, CsSim w Z L cs vs → CsSim w Z L ds us → o + ds.length ≤ cs.length →
    CsSim w Z L (putAt cs o ds) (vs.take o ++ us ++ vs.drop (o + us.length))
  | 0, cs, ds, vs, us, h, k, hl => by
    simp only [Ry.putAt, List.take_zero, List.nil_append, Nat.zero_add]
    rw [CsSim.length k]
    exact CsSim.append k (CsSim.drop h)
  | o + 1, [], ds, vs, us, h, k, hl => by simp at hl
  | o + 1, c :: cs, ds, [], us, h, k, hl => h.elim
  | o + 1, c :: cs, ds, v :: vs, us, ⟨h1, h2⟩, k, hl => by
    have ih := CsSim.putAt (o := o) h2 k (by simp at hl; omega)
    simp only [Ry.putAt, List.take_succ_cons, List.cons_append, Nat.succ_add, Nat.add_right_comm o 1, List.drop_succ_cons]
    exact ⟨h1, ih⟩
theorem putAt_length : ∀ {o : Nat} {cs ds : List Cell}, o + ds.length ≤ cs.length → (putAt cs o ds).length = cs.length
  | 0, cs, ds, h => by simp [Ry.putAt]; omega
  | o + 1, [], ds, h => by simp at h
  | o + 1, c :: cs, ds, h => by simp [Ry.putAt, putAt_length (o := o) (cs := cs) (ds := ds) (by simp at h; omega)]

theorem Rd.cells : ∀ {t : Ty} {x : t.den} {es : List Value}, Rd w Z t x es → CsSim w Z L (t.cells x) es
  | .unit, _, _, h => by simp only [Rd] at h; rw [h]; trivial
  | .int _, _, _, h => by simp only [Rd] at h; rw [h]; exact ⟨rfl, trivial⟩
  | .bool, _, _, h => by simp only [Rd] at h; rw [h]; exact ⟨rfl, trivial⟩
  | .str, _, _, h => by simp only [Rd] at h; rw [h]; exact ⟨rfl, trivial⟩
  | .pair a b, x, _, h => by
    obtain ⟨c1, c2, rfl, h1, h2⟩ := h
    exact CsSim.append (Rd.cells h1) (Rd.cells h2)
  | .slice t, x, _, h => by
    have h' := h
    obtain ⟨a, n, c, rfl, _⟩ := h
    exact ⟨h', trivial⟩

theorem castL_some {t u : Ty} {xs : List u.den} {ys : List t.den} (h : castL t ⟨u, xs⟩ = some ys) : ∃ e : u = t, e ▸ xs = ys := by
  unfold castL at h
  split at h
  · rename_i hh
    simp only [Option.some.injEq] at h
    exact ⟨Ty.eqb_eq hh, h⟩
  · simp at h

theorem readC_sim : ∀ {t : Ty} {cs : List Cell} {x : t.den} {r : List Cell} {vs : List Value}, readC t cs = some (x, r) → CsSim w Z L cs vs →
    ∃ us rs, vs = us ++ rs ∧ Rd w Z t x us ∧ CsSim w Z L r rs
  | .unit, cs, x, r, vs, h, hs => by
    simp only [readC, Option.some.injEq, Prod.mk.injEq] at h
    obtain ⟨_, rfl⟩ := h
    exact ⟨[], vs, rfl, rfl, hs⟩
  | .int k, cs, x, r, vs, h, hs => by
    simp only [readC] at h
    split at h
    · split at h
      · rename_i l n cs hl
        simp only [Option.some.injEq, Prod.mk.injEq] at h
        obtain ⟨rfl, rfl⟩ := h
        cases vs with
        | nil => exact hs.elim
        | cons v vs => subst hl; exact ⟨[v], vs, rfl, by rw [hs.1]; rfl, hs.2⟩
      · simp at h
    · simp at h
  | .bool, cs, x, r, vs, h, hs => by
    simp only [readC] at h
    split at h
    · simp only [Option.some.injEq, Prod.mk.injEq] at h
      obtain ⟨rfl, rfl⟩ := h
      cases vs with
      | nil => exact hs.elim
      | cons v vs => exact ⟨[v], vs, rfl, by rw [hs.1]; rfl, hs.2⟩
    · simp at h
  | .str, cs, x, r, vs, h, hs => by
    simp only [readC] at h
    split at h
    · simp only [Option.some.injEq, Prod.mk.injEq] at h
      obtain ⟨rfl, rfl⟩ := h
      cases vs with
      | nil => exact hs.elim
      | cons v vs => exact ⟨[v], vs, rfl, by rw [hs.1]; rfl, hs.2⟩
    · simp at h
  | .slice t, cs, x, r, vs, h, hs => by
    simp only [readC] at h
    split at h
    · rename_i u xs cs
      split at h
      · rename_i ys hy
        simp only [Option.some.injEq, Prod.mk.injEq] at h
        obtain ⟨rfl, rfl⟩ := h
        obtain ⟨rfl, rfl⟩ := castL_some hy
        cases vs with
        | nil => exact hs.elim
        | cons v vs => exact ⟨[v], vs, rfl, hs.1, hs.2⟩
      · simp at h
    · simp only [Option.some.injEq, Prod.mk.injEq] at h
      obtain ⟨rfl, rfl⟩ := h
      cases vs with
      | nil => exact hs.elim
      | cons v vs =>
        refine ⟨[v], vs, rfl, ?_, hs.2⟩
        rw [show v = .slice none 0 0 from hs.1]
        exact ⟨none, 0, 0, rfl, rfl, Nat.le_refl _, fun _ => rfl, fun ad h => by simp at h⟩
    · simp at h
  | .pair a b, cs, x, r, vs, h, hs => by
    simp only [readC] at h
    split at h
    · rename_i y cs1 hy
      split at h
      · rename_i z cs2 hz
        simp only [Option.some.injEq, Prod.mk.injEq] at h
        obtain ⟨rfl, rfl⟩ := h
        obtain ⟨us, rs, rfl, h1, h2⟩ := readC_sim hy hs
        obtain ⟨us', rs', rfl, h3, h4⟩ := readC_sim hz h2
        exact ⟨us ++ us', rs', by simp, ⟨us, us', rfl, h1, h3⟩, h4⟩
      · simp at h
    · simp at h

theorem readC_at : ∀ {t : Ty} {cs : List Cell} {x : t.den} {r : List Cell}, readC t cs = some (x, r) → ∃ as, cs = as ++ r ∧ as.length = (t.cells x).length ∧
    ∀ (p : Nat) (c : Cell), as[p]? = some c → (t.cells x)[p]? = some c ∨ (c = .nils ∧ ∃ s, (t.cells x)[p]? = some (.sl s []))
  | .unit, cs, x, r, h => by
    simp only [readC, Option.some.injEq, Prod.mk.injEq] at h
    obtain ⟨_, rfl⟩ := h
    exact ⟨[], rfl, rfl, fun p c hp => by simp at hp⟩
  | .int k, cs, x, r, h => by
    simp only [readC] at h
    split at h
    · split at h
      · rename_i l n cs hl
        simp only [Option.some.injEq, Prod.mk.injEq] at h
        obtain ⟨rfl, rfl⟩ := h
        subst hl
        exact ⟨[_], rfl, rfl, fun p c hp => .inl hp⟩
      · simp at h
    · simp at h
  | .bool, cs, x, r, h => by
    simp only [readC] at h
    split at h
    · simp only [Option.some.injEq, Prod.mk.injEq] at h
      obtain ⟨rfl, rfl⟩ := h
      exact ⟨[_], rfl, rfl, fun p c hp => .inl hp⟩
    · simp at h
  | .str, cs, x, r, h => by
    simp only [readC] at h
    split at h
    · simp only [Option.some.injEq, Prod.mk.injEq] at h
      obtain ⟨rfl, rfl⟩ := h
      exact ⟨[_], rfl, rfl, fun p c hp => .inl hp⟩
    · simp at h
  | .slice t, cs, x, r, h => by
    simp only [readC] at h
    split at h
    · rename_i u xs cs
      split at h
      · rename_i ys hy
        simp only [Option.some.injEq, Prod.mk.injEq] at h
        obtain ⟨rfl, rfl⟩ := h
        obtain ⟨rfl, rfl⟩ := castL_some hy
        exact ⟨[_], rfl, rfl, fun p c hp => .inl hp⟩
      · simp at h
    · simp only [Option.some.injEq, Prod.mk.injEq] at h
      obtain ⟨rfl, rfl⟩ := h
      refine ⟨[.nils], rfl, rfl, fun p c hp => .inr ?_⟩
      cases p with
      | zero => simp at hp; exact ⟨hp.symm, t, rfl⟩
      | succ p => simp at hp
    · simp at h
  | .pair a b, cs, x, r, h => by
    simp only [readC] at h
    split at h
    · rename_i y cs1 hy
      split at h
      · rename_i z cs2 hz
        simp only [Option.some.injEq, Prod.mk.injEq] at h
        obtain ⟨rfl, rfl⟩ := h
        obtain ⟨as, rfl, l1, h1⟩ := readC_at hy
        obtain ⟨bs, rfl, l2, h2⟩ := readC_at hz
        refine ⟨as ++ bs, by simp, by simp [Ty.cells, l1, l2], fun p c hp => ?_⟩
        simp only [Ty.cells]
        by_cases hlt : p < as.length
        · rw [List.getElem?_append_left hlt] at hp
          rw [List.getElem?_append_left (by omega)]
          exact h1 p c hp
        · rw [List.getElem?_append_right (by omega)] at hp
          rw [List.getElem?_append_right (by omega), ← l1]
          exact h2 _ c hp
      · simp at h
    · simp at h
theorem readV_at {t : Ty} {cs : List Cell} {x : t.den} (h : readV t cs = some x) : cs.length = (t.cells x).length ∧ ∀ (p : Nat) (c : Cell), cs[p]? = some c → (t.cells x)[p]? = some c ∨ (c = .nils ∧ ∃ s, (t.cells x)[p]? = some (.sl s [])) := by
  unfold readV at h
  split at h
  · rename_i x' hx
    simp only [Option.some.injEq] at h
    subst h
    obtain ⟨as, e, l, h1⟩ := readC_at hx
    rw [List.append_nil] at e
    subst e
    exact ⟨l, h1⟩
  · simp at h

theorem readV_sim {t : Ty} {cs : List Cell} {x : t.den} {vs : List Value} (h : readV t cs = some x) (hs : CsSim w Z L cs vs) : Rd w Z t x vs := by
  unfold readV at h
  split at h
  · rename_i x' hx
    simp only [Option.some.injEq] at h
    subst h
    obtain ⟨us, rs, rfl, h1, h2⟩ := readC_sim hx hs
    cases rs with
    | nil => simpa using h1
    | cons _ _ => exact h2.elim
  · simp at h

theorem zeroIs_sim : ∀ {t : Ty} {cs r : List Cell} {vs : List Value}, zeroIs t cs = some r → CsSim w Z L cs vs → ∃ us rs, vs = us ++ rs ∧ Rd w Z t t.dflt us ∧ CsSim w Z L r rs
  | .unit, cs, r, vs, h, hs => by
    simp only [zeroIs, Option.some.injEq] at h
    subst h
    exact ⟨[], vs, rfl, rfl, hs⟩
  | .int k, cs, r, vs, h, hs => by
    cases cs with
    | nil => simp [zeroIs] at h
    | cons c cs =>
      cases vs with
      | nil => exact hs.elim
      | cons v vs =>
        cases c <;> try (simp [zeroIs] at h; done)
        rename_i l n
        by_cases hn : n = 0
        · subst hn
          simp only [zeroIs] at h
          split at h
          · rename_i hl
            simp only [Option.some.injEq] at h
            subst h; subst hl
            exact ⟨[v], vs, rfl, by rw [hs.1]; rfl, hs.2⟩
          · simp at h
        · unfold zeroIs at h
          split at h <;> simp_all
  | .bool, cs, r, vs, h, hs => by
    cases cs with
    | nil => simp [zeroIs] at h
    | cons c cs =>
      cases vs with
      | nil => exact hs.elim
      | cons v vs =>
        cases c <;> try (simp [zeroIs] at h; done)
        rename_i b
        cases b
        · simp only [zeroIs, Option.some.injEq] at h
          subst h
          exact ⟨[v], vs, rfl, by rw [hs.1]; rfl, hs.2⟩
        · simp [zeroIs] at h
  | .str, cs, r, vs, h, hs => by
    cases cs with
    | nil => simp [zeroIs] at h
    | cons c cs =>
      cases vs with
      | nil => exact hs.elim
      | cons v vs =>
        cases c <;> try (simp [zeroIs] at h; done)
        rename_i s
        simp only [zeroIs] at h
        split at h
        · rename_i hz
          simp only [Option.some.injEq] at h
          subst h
          refine ⟨[v], vs, rfl, ?_, hs.2⟩
          rw [hs.1]
          cases s
          simp only [Array.size_eq_zero_iff] at hz
          rw [hz]; rfl
        · simp at h
  | .slice t, cs, r, vs, h, hs => by
    cases cs with
    | nil => simp [zeroIs] at h
    | cons c cs =>
      cases vs with
      | nil => exact hs.elim
      | cons v vs =>
        cases c <;> try (simp [zeroIs] at h; done)
        simp only [zeroIs, Option.some.injEq] at h
        subst h
        refine ⟨[v], vs, rfl, ?_, hs.2⟩
        rw [show v = .slice none 0 0 from hs.1]
        exact ⟨none, 0, 0, rfl, rfl, Nat.le_refl _, fun _ => rfl, fun ad h => by simp at h⟩
  | .pair a b, cs, r, vs, h, hs => by
    simp only [zeroIs] at h
    split at h
    · rename_i cs1 h1
      obtain ⟨us, rs, rfl, h2, h3⟩ := zeroIs_sim h1 hs
      obtain ⟨us', rs', rfl, h4, h5⟩ := zeroIs_sim h h3
      exact ⟨us ++ us', rs', by simp, ⟨us, us', rfl, h2, h4⟩, h5⟩
    · simp at h

/-! ### cells at a place; nests -/
theorem CsSim.of_get : ∀ {cs : List Cell} {vs : List Value}, vs.length = cs.length → (∀ (p : Nat) (c : Cell) (u : Value), cs[p]? = some c → vs[p]? = some u → CSim w Z L c u) → CsSim w Z L cs vs
  | [], [], _, _ => trivial
  | [], _ :: _, h, _ => by simp at h
  | _ :: _, [], h, _ => by simp at h
  | c :: cs, v :: vs, h, hg => ⟨hg 0 c v rfl rfl, CsSim.of_get (by simpa using h) fun p c u hc hu => hg (p + 1) c u (by simpa using hc) (by simpa using hu)⟩
theorem CsSim.place : ∀ {cs : List Cell} {vs : List Value} {p : Nat} {c : Cell} {u : Value}, CsSim w Z L cs vs → cs[p]? = some c → vs[p]? = some u → CSim w Z L c u
  | [], _, _, _, _, _, h, _ => by simp at h
  | _ :: _, [], _, _, _, h, _, _ => h.elim
  | d :: _, v :: _, 0, c, u, ⟨h1, _⟩, hc, hu => by simp at hc hu; subst hc hu; exact h1
  | _ :: _, _ :: _, p + 1, c, u, ⟨_, h2⟩, hc, hu => CsSim.place (p := p) h2 (by simpa using hc) (by simpa using hu)
theorem CsSim.split : ∀ {cs ds : List Cell} {vs : List Value}, CsSim w Z L (cs ++ ds) vs → ∃ us rs, vs = us ++ rs ∧ CsSim w Z L cs us ∧ CsSim w Z L ds rs
  | [], ds, vs, h => ⟨[], vs, rfl, trivial, h⟩
  | _ :: _, _, [], h => h.elim
  | c :: cs, ds, v :: vs, ⟨h1, h2⟩ => by
    obtain ⟨us, rs, rfl, h3, h4⟩ := CsSim.split (cs := cs) h2
    exact ⟨v :: us, rs, rfl, ⟨h1, h3⟩, h4⟩
theorem Rd.of_cells : ∀ {t : Ty} {x : t.den} {es : List Value}, CsSim w Z L (t.cells x) es → Rd w Z t x es
  | .unit, _, [], _ => rfl
  | .unit, _, _ :: _, h => h.elim
  | .int _, _, [v], h => by rw [show v = _ from h.1]; rfl
  | .int _, _, [], h => h.elim
  | .int _, _, _ :: _ :: _, h => h.2.elim
  | .bool, _, [v], h => by rw [show v = _ from h.1]; rfl
  | .bool, _, [], h => h.elim
  | .bool, _, _ :: _ :: _, h => h.2.elim
  | .str, _, [v], h => by rw [show v = _ from h.1]; rfl
  | .str, _, [], h => h.elim
  | .str, _, _ :: _ :: _, h => h.2.elim
  | .slice _, _, [v], h => h.1
  | .slice _, _, [], h => h.elim
  | .slice _, _, _ :: _ :: _, h => h.2.elim
  | .pair a b, x, es, h => by
    obtain ⟨us, rs, rfl, h1, h2⟩ := CsSim.split (cs := a.cells x.1) h
    exact ⟨us, rs, rfl, Rd.of_cells h1, Rd.of_cells h2⟩
theorem Ty.cells_length : ∀ (t : Ty) (x : t.den), (t.cells x).length = t.size
  | .unit, _ | .int _, _ | .bool, _ | .str, _ | .slice _, _ => rfl
  | .pair a b, x => by simp only [Ty.cells, Ty.size, List.length_append, Ty.cells_length a, Ty.cells_length b]

def cellOf : Ty → Cell → Prop
  | .int k, c => ∃ n, c = .int k n
  | .bool, c => ∃ b, c = .bool b
  | .str, c => ∃ s, c = .str s
  | .slice t, c => ∃ ys, c = .sl t ys
  | _, _ => False
theorem parts_at : ∀ (t : Ty) (x : t.den) (p : Nat) (c : Cell), (t.cells x)[p]? = some c → ∃ u, t.parts[p]? = some u ∧ cellOf u c
  | .unit, _, p, c, h => by simp [Ty.cells] at h
  | .int k, x, p, c, h => by
    cases p <;> simp [Ty.cells] at h
    exact ⟨.int k, rfl, _, h.symm⟩
  | .bool, x, p, c, h => by
    cases p <;> simp [Ty.cells] at h
    exact ⟨.bool, rfl, _, h.symm⟩
  | .str, x, p, c, h => by
    cases p <;> simp [Ty.cells] at h
    exact ⟨.str, rfl, _, h.symm⟩
  | .slice t, x, p, c, h => by
    cases p <;> simp [Ty.cells] at h
    exact ⟨.slice t, rfl, _, h.symm⟩
  | .pair a b, x, p, c, h => by
    have hl : a.parts.length = (a.cells x.1).length := parts_length a x.1
    simp only [Ty.cells] at h
    simp only [Ty.parts]
    by_cases hp : p < (a.cells x.1).length
    · rw [List.getElem?_append_left hp] at h
      rw [List.getElem?_append_left (by omega)]
      exact parts_at a x.1 p c h
    · rw [List.getElem?_append_right (by omega)] at h
      rw [List.getElem?_append_right (by omega), hl]
      exact parts_at b x.2 _ c h
where
  parts_length : ∀ (t : Ty) (x : t.den), t.parts.length = (t.cells x).length
    | .unit, _ | .int _, _ | .bool, _ | .str, _ | .slice _, _ => rfl
    | .pair a b, x => by simp only [Ty.cells, Ty.parts, List.length_append, parts_length a x.1, parts_length b x.2]
theorem parts_len (t : Ty) : t.parts.length = t.size := by
  rw [parts_at.parts_length t t.dflt, Ty.cells_length]

theorem onlyAt_spec : ∀ {l : List Ty} {o : Nat} {s : Ty}, onlyAt l o s = true → l[o]? = some (.slice s) ∧ ∀ p t, p ≠ o → l[p]? = some t → t.plain = true
  | [], _, _, h => by simp [onlyAt] at h
  | t :: l, 0, s, h => by
    simp only [onlyAt, Bool.and_eq_true] at h
    refine ⟨?_, fun p u hp hu => ?_⟩
    · cases t <;> simp at h
      rename_i u
      rw [Ty.eqb_eq h.1]; rfl
    · cases p with
      | zero => exact absurd rfl hp
      | succ p => exact List.all_eq_true.1 h.2 u (List.mem_of_getElem? (by simpa using hu))
  | t :: l, o + 1, s, h => by
    simp only [onlyAt, Bool.and_eq_true] at h
    obtain ⟨h1, h2⟩ := onlyAt_spec h.2
    refine ⟨by simpa using h1, fun p u hp hu => ?_⟩
    cases p with
    | zero => simp at hu; subst hu; exact h.1
    | succ p => exact h2 p u (by omega) (by simpa using hu)

theorem flat_of_plain : ∀ {t : Ty}, t.parts.all Ty.plain = true → t.flat = true
  | .unit, _ | .int _, _ | .bool, _ | .str, _ => rfl
  | .slice _, h => by simp [Ty.parts, Ty.plain] at h
  | .pair a b, h => by
    simp only [Ty.parts, List.all_append, Bool.and_eq_true] at h
    simp only [Ty.flat, Bool.and_eq_true]
    exact ⟨flat_of_plain h.1, flat_of_plain h.2⟩

def Cell.plain : Cell → Bool
  | .int _ _ | .bool _ | .str _ => true
  | _ => false
theorem plain_any {w' : World} {Z' : Nat → Prop} {L' : List Loc} {c : Cell} {u : Value} (hc : c.plain = true) (h : CSim w Z L c u) : CSim w' Z' L' c u := by
  cases c <;> first
    | (simp [Cell.plain] at hc; done)
    | exact h

theorem castL_self {t : Ty} (xs : List t.den) : castL t ⟨t, xs⟩ = some xs := by
  unfold castL
  have h : ∀ t : Ty, Ty.eqb t t = true := fun t => by
    induction t with
    | pair a b iha ihb => simp [Ty.eqb, iha, ihb]
    | slice t ih => simpa [Ty.eqb] using ih
    | _ => simp [Ty.eqb]
  rw [dif_pos (h t)]

theorem nest_cell {t : Ty} {q : Inn} (h : nestTy t q = true) (x : t.den) : (t.cells x)[q.o]? = some (.sl q.s (innerOf t q x)) ∧ ∀ (p : Nat) (c : Cell), p ≠ q.o → (t.cells x)[p]? = some c → c.plain = true := by
  unfold nestTy at h
  simp only [Bool.and_eq_true] at h
  obtain ⟨h1, h2⟩ := onlyAt_spec h.1
  refine ⟨?_, fun p c hp hc => ?_⟩
  · have hlt : q.o < (t.cells x).length := by
      rw [Ty.cells_length, ← parts_len]
      exact (List.getElem?_eq_some_iff.1 h1).1
    obtain ⟨u, e1, e2⟩ := parts_at t x q.o _ (List.getElem?_eq_getElem hlt)
    rw [h1] at e1
    simp only [Option.some.injEq] at e1
    subst e1
    obtain ⟨ys, e3⟩ := e2
    have e4 : (t.cells x)[q.o]? = some (.sl q.s ys) := by rw [List.getElem?_eq_getElem hlt, e3]
    rw [e4]
    unfold innerOf
    rw [nth_eq, e4]
    simp only [castL_self]
  · obtain ⟨u, e1, e2⟩ := parts_at t x p c hc
    have := h2 p u hp e1
    cases u <;> simp [Ty.plain] at this
    · obtain ⟨n, rfl⟩ := e2; rfl
    · obtain ⟨n, rfl⟩ := e2; rfl
    · obtain ⟨n, rfl⟩ := e2; rfl
theorem nest_flat {t : Ty} {q : Inn} (h : nestTy t q = true) : q.s.flat = true ∧ 0 < q.s.size ∧ q.o < t.size := by
  unfold nestTy at h
  simp only [Bool.and_eq_true] at h
  refine ⟨flat_of_plain h.2.1, Nat.le_of_ble_eq_true h.2.2, ?_⟩
  rw [← parts_len]
  exact (List.getElem?_eq_some_iff.1 (onlyAt_spec h.1).1).1
end
end Go.Ry
set_option linter.unusedVariables false
set_option linter.unusedSimpArgs false
namespace Go.Ry

theorem Keeps.trans' {a b c : World} {F G : Nat → Nat → Prop} (h : Keeps a F b) (k : Keeps b G c) (hg : ∀ i o, i < a.heap.size → G i o → F i o) : Keeps a F c := by
  refine ⟨k.os.trans h.os, k.tape.trans h.tape, k.output.trans h.output, Nat.le_trans h.size k.size, fun i hi => ?_⟩
  rcases k.block i (Nat.lt_of_lt_of_le hi h.size) with k1 | ⟨x, x', e, z, z2, k1, k2, k3, k4, k5⟩ | k6
  · rcases h.block i hi with h1 | ⟨y, y', e', z', z3, h1, h2, h3, h4, h5⟩ | h6
    · exact .inl (k1.trans h1)
    · exact .inr (.inl ⟨y, y', e', z', z3, h1, k1.trans h2, h3, h4, h5⟩)
    · exact .inr (.inr h6)
  · rcases h.block i hi with h1 | ⟨y, y', e', z', z3, h1, h2, h3, h4, h5⟩ | h6
    · exact .inr (.inl ⟨x, x', e, z, z2, h1 ▸ k1, k2, k3, fun o ho => k4 o fun hx => ho (hg i o hi hx), k5.imp id fun kk o => hg i o hi (kk o)⟩)
    · rw [k1] at h2
      simp only [Option.some.injEq, Obj.cells.injEq] at h2
      obtain ⟨rfl, rfl, rfl⟩ := h2
      exact .inr (.inl ⟨y, x', _, _, _, h1, k2, k3.trans h3, fun o ho => (k4 o fun hx => ho (hg i o hi hx)).trans (h4 o ho), by rcases k5 with rfl | k5; exact h5; exact .inr fun o => hg i o hi (k5 o)⟩)
    · exact .inr (.inr h6)
  · exact .inr (.inr fun o => hg i o hi (k6 o))

section
variable {S : Start} {st : St} {a : Act} {w w' : World} {Z Z' : Nat → Prop} {L L' : List Loc}

theorem Sit.zsame (h : Sit S st a w Z L) {F : Nat → Nat → Prop} (hk : Keeps w F w') (hfz : ∀ b q, F b q → Z b → False) : ∀ b, Z b → w'.heap[b]? = w.heap[b]? :=
  fun b hb => hk.same (h.sims.zin b hb) fun o ho => hfz b o ho hb

theorem Sit.update {os' : List Ob} (h : Sit S st a w Z L) (F : Nat → Nat → Prop) (D : Nat → Prop)
    (hk : Keeps w F w') (hfz : ∀ b q, F b q → Z b → False) (hz : ∀ b, Z b → Z' b) (hl : Grows L L') (hlen : L'.length = os'.length)
    (hold : ∀ i : Nat, ¬ D i → i < os'.length → os'[i]? = st.objs[i]?)
    (hF : ∀ (i : Nat) (o : Ob) (l : Loc), ¬ D i → st.objs[i]? = some o → L[i]? = some l → ∀ b q, foot o l b q → ¬ F b q)
    (hD : ∀ (i : Nat) (o : Ob) (l : Loc), D i → os'[i]? = some o → L'[i]? = some l → OSim w' Z' L' o l)
    (hDf : ∀ (i : Nat) (o : Ob) (l : Loc), D i → os'[i]? = some o → L'[i]? = some l → ∀ b q, foot o l b q → w.heap.size ≤ b ∨ F b q)
    (hDs : ∀ (i j : Nat) (o : Ob) (l : Loc) (o' : Ob) (l' : Loc), D i → D j → os'[i]? = some o → L'[i]? = some l → os'[j]? = some o' → L'[j]? = some l' → i ≠ j → ∀ b q, foot o l b q → foot o' l' b q → False)
    (hDz : ∀ (i : Nat) (o : Ob) (l : Loc), D i → os'[i]? = some o → L'[i]? = some l → ∀ b q, foot o l b q → Z' b → False)
    (hZ : ∀ b, Z' b → Z b ∨ (w.heap.size ≤ b ∧ b < w'.heap.size) ∨ ∀ q, F b q)
    (hZin : ∀ b, Z' b → b < w'.heap.size)
    (hFS : ∀ b q, F b q → S.W.heap.size ≤ b ∨ S.F b q) : Sit S ⟨st.tmps, os'⟩ a w' Z' L' := by
  refine ⟨h.tlen, fun d e he => ESim.mono (h.zsame hk hfz) hz hl (h.tmps d e he), h.sims.update F D hk hfz hz hl hlen hold hF hD hDf hDs hDz hZ hZin, ?_, fun b hb => hz b (h.zup b hb), ?_, ?_, h.lents.trans hl, h.defers⟩
  · exact h.keeps.trans' hk fun i o hi hf => (hFS i o hf).resolve_left (by omega)
  · intro b hb
    rcases hZ b hb with h1 | h1 | h1
    · exact h.znew b h1
    · exact .inr (.inl (Nat.le_trans h.keeps.size h1.1))
    · by_cases hbS : S.W.heap.size ≤ b
      · exact .inr (.inl hbS)
      · exact .inr (.inr fun q => (hFS b q (h1 q)).resolve_left hbS)
  · intro i o l ho hl' b q hf
    by_cases hi : D i
    · rcases hDf i o l hi ho hl' b q hf with h1 | h1
      · exact .inl (Nat.le_trans h.keeps.size h1)
      · exact hFS b q h1
    · have hil := (List.getElem?_eq_some_iff.1 ho).1
      have ho' := (hold i hi hil) ▸ ho
      have hiL : i < L.length := by rw [h.sims.len]; exact (List.getElem?_eq_some_iff.1 ho').1
      have hLi := List.getElem?_eq_getElem hiL
      have := hl i _ hLi
      rw [hl'] at this
      simp only [Option.some.injEq] at this
      exact h.fnew i o l ho' (this ▸ hLi) b q hf

theorem Sit.add (h : Sit S st a w Z L) {o : Ob} {l : Loc} (hk : Keeps w (fun _ _ => False) w') (ho : OSim w' Z (L ++ [l]) o l)
    (hf : ∀ b q, foot o l b q → w.heap.size ≤ b) : Sit S (st.addOb o) a w' Z (L ++ [l]) := by
  have hlen := h.sims.len
  have new : ∀ (i : Nat) (o' : Ob) (l' : Loc), ¬ i < st.objs.length → (st.objs ++ [o])[i]? = some o' → (L ++ [l])[i]? = some l' → i = st.objs.length ∧ o' = o ∧ l' = l := by
    intro i o' l' hi h1 h2
    have hi' : i = st.objs.length := by
      have := (List.getElem?_eq_some_iff.1 h1).1
      simp at this; omega
    subst hi'
    rw [List.getElem?_append_right (Nat.le_refl _)] at h1
    rw [← hlen, List.getElem?_append_right (Nat.le_refl _)] at h2
    simp at h1 h2
    exact ⟨rfl, h1.symm, h2.symm⟩
  refine h.update (fun _ _ => False) (fun i => ¬ i < st.objs.length) hk (fun _ _ hx => hx.elim) (fun _ hb => hb) (Grows.append _ _) (by simp [hlen]) ?_ ?_ ?_ ?_ ?_ ?_ ?_ ?_ ?_
  · intro i hi _
    rw [List.getElem?_append_left (by omega)]
  · intro i o' l' _ _ _ b q _ hx
    exact hx
  · intro i o' l' hi h1 h2
    obtain ⟨_, rfl, rfl⟩ := new i o' l' hi h1 h2
    exact ho
  · intro i o' l' hi h1 h2 b q hq
    obtain ⟨_, rfl, rfl⟩ := new i o' l' hi h1 h2
    exact .inl (hf b q hq)
  · intro i j o1 l1 o2 l2 hi hj h1 h2 h3 h4 hij
    have a1 := (new i o1 l1 hi h1 h2).1
    have a2 := (new j o2 l2 hj h3 h4).1
    omega
  · intro i o' l' hi h1 h2 b q hq hb
    obtain ⟨_, rfl, rfl⟩ := new i o' l' hi h1 h2
    have := hf b q hq
    have := h.sims.zin b hb
    omega
  · exact fun b hb => .inl hb
  · exact fun b hb => Nat.lt_of_lt_of_le (h.sims.zin b hb) hk.size
  · exact fun b q hx => hx.elim

theorem Sit.set (h : Sit S st a w Z L) {i : Nat} {o o' : Ob} {l : Loc} (hio : st.objs[i]? = some o) (hil : L[i]? = some l) (hk : Keeps w (foot o l) w')
    (ho : OSim w' Z L o' l) (hf : ∀ b q, foot o' l b q → foot o l b q) : Sit S (st.setOb i o') a w' Z L := by
  have hlt := (List.getElem?_eq_some_iff.1 hio).1
  have at_ : ∀ (o'' : Ob) (l' : Loc), (st.objs.set i o')[i]? = some o'' → L[i]? = some l' → o'' = o' ∧ l' = l := by
    intro o'' l' h1 h2
    rw [List.getElem?_set_self hlt] at h1
    rw [hil] at h2
    simp only [Option.some.injEq] at h1 h2
    exact ⟨h1.symm, h2.symm⟩
  unfold St.setOb
  rw [setNth_eq]
  refine h.update (foot o l) (fun j => j = i) hk (fun b q hx hz => h.sims.zap i o l hio hil b q hx hz) (fun _ hb => hb) (Grows.refl _) (by simp [h.sims.len]) ?_ ?_ ?_ ?_ ?_ ?_ ?_ ?_ ?_
  · intro j hj _
    rw [List.getElem?_set_ne (by omega)]
  · intro j o1 l1 hj h1 h2 b q hq hx
    exact h.sims.sep j i o1 l1 o l h1 h2 hio hil hj b q hq hx
  · rintro j o1 l1 rfl h1 h2
    obtain ⟨rfl, rfl⟩ := at_ o1 l1 h1 h2
    exact ho
  · rintro j o1 l1 rfl h1 h2 b q hq
    obtain ⟨rfl, rfl⟩ := at_ o1 l1 h1 h2
    exact .inr (hf b q hq)
  · rintro j k o1 l1 o2 l2 rfl rfl h1 h2 h3 h4 hij
    exact absurd rfl hij
  · rintro j o1 l1 rfl h1 h2 b q hq hz
    obtain ⟨rfl, rfl⟩ := at_ o1 l1 h1 h2
    exact h.sims.zap j o l1 hio hil b q (hf b q hq) hz
  · exact fun b hb => .inl hb
  · exact fun b hb => Nat.lt_of_lt_of_le (h.sims.zin b hb) hk.size
  · exact fun b q hx => h.fnew i o l hio hil b q hx

theorem Sit.turn (h : Sit S st a w Z L) {i : Nat} {o o' : Ob} {l l' : Loc} (hio : st.objs[i]? = some o) (hil : L[i]? = some l) (hk : Keeps w (foot o l) w')
    (ho : OSim w' Z (L ++ [l']) o' l') (hf : ∀ b q, foot o' l' b q → w.heap.size ≤ b ∨ foot o l b q) : Sit S ((st.setOb i .dead).addOb o') a w' Z (L ++ [l']) := by
  have hlt := (List.getElem?_eq_some_iff.1 hio).1
  have hlen := h.sims.len
  have hL : (L ++ [l'])[i]? = some l := Grows.append _ _ i l hil
  unfold St.setOb St.addOb
  rw [setNth_eq]
  have cases_ : ∀ (j : Nat) (o1 : Ob) (l1 : Loc), (j = i ∨ ¬ j < st.objs.length) → (st.objs.set i .dead ++ [o'])[j]? = some o1 → (L ++ [l'])[j]? = some l1 →
      (j = i ∧ o1 = .dead ∧ l1 = l) ∨ (j = st.objs.length ∧ o1 = o' ∧ l1 = l') := by
    intro j o1 l1 hj h1 h2
    rcases hj with rfl | hj
    · rw [List.getElem?_append_left (by simpa using hlt), List.getElem?_set_self hlt] at h1
      rw [hL] at h2
      simp only [Option.some.injEq] at h1 h2
      exact .inl ⟨rfl, h1.symm, h2.symm⟩
    · have hj' : j = st.objs.length := by
        have := (List.getElem?_eq_some_iff.1 h1).1
        simp at this; omega
      subst hj'
      rw [List.getElem?_append_right (by simp)] at h1
      rw [← hlen, List.getElem?_append_right (Nat.le_refl _)] at h2
      simp at h1 h2
      exact .inr ⟨rfl, h1.symm, h2.symm⟩
  refine h.update (foot o l) (fun j => j = i ∨ ¬ j < st.objs.length) hk (fun b q hx hz => h.sims.zap i o l hio hil b q hx hz) (fun _ hb => hb) (Grows.append _ _) (by simp [hlen]) ?_ ?_ ?_ ?_ ?_ ?_ ?_ ?_ ?_
  · intro j hj hjl
    have hj1 : j ≠ i := fun e => hj (.inl e)
    have hj2 : j < st.objs.length := by
      rcases Nat.lt_or_ge j st.objs.length with hx | hx
      · exact hx
      · exact absurd (.inr (by omega)) hj
    rw [List.getElem?_append_left (by simpa using hj2), List.getElem?_set_ne (by omega)]
  · intro j o1 l1 hj h1 h2 b q hq hx
    exact h.sims.sep j i o1 l1 o l h1 h2 hio hil (fun e => hj (.inl e)) b q hq hx
  · intro j o1 l1 hj h1 h2
    rcases cases_ j o1 l1 hj h1 h2 with ⟨_, rfl, rfl⟩ | ⟨_, rfl, rfl⟩
    · trivial
    · exact ho
  · intro j o1 l1 hj h1 h2 b q hq
    rcases cases_ j o1 l1 hj h1 h2 with ⟨_, rfl, rfl⟩ | ⟨_, rfl, rfl⟩
    · exact hq.elim
    · exact hf b q hq
  · intro j k o1 l1 o2 l2 hj hk' h1 h2 h3 h4 hjk b q f1 f2
    rcases cases_ j o1 l1 hj h1 h2 with ⟨_, rfl, rfl⟩ | ⟨hj1, rfl, rfl⟩
    · exact f1.elim
    · rcases cases_ k o2 l2 hk' h3 h4 with ⟨_, rfl, rfl⟩ | ⟨hk1, rfl, rfl⟩
      · exact f2.elim
      · omega
  · intro j o1 l1 hj h1 h2 b q hq hz
    rcases cases_ j o1 l1 hj h1 h2 with ⟨_, rfl, rfl⟩ | ⟨_, rfl, rfl⟩
    · exact hq.elim
    · rcases hf b q hq with hx | hx
      · have := h.sims.zin b hz
        omega
      · exact h.sims.zap i o l hio hil b q hx hz
  · exact fun b hb => .inl hb
  · exact fun b hb => Nat.lt_of_lt_of_le (h.sims.zin b hb) hk.size
  · exact fun b q hx => h.fnew i o l hio hil b q hx

theorem St.ob_some {i : Nat} (h : st.ob i ≠ .dead) : st.objs[i]? = some (st.ob i) := by
  unfold St.ob at h ⊢
  rw [nth_eq] at h ⊢
  cases hi : st.objs[i]? with
  | none => rw [hi] at h; exact absurd rfl h
  | some o => rfl

theorem Sit.loc (h : Sit S st a w Z L) {i : Nat} {o : Ob} (hi : st.objs[i]? = some o) : ∃ l, L[i]? = some l ∧ OSim w Z L o l := by
  have hlt : i < L.length := by rw [h.sims.len]; exact (List.getElem?_eq_some_iff.1 hi).1
  exact ⟨L[i], List.getElem?_eq_getElem hlt, h.sims.ob i o _ hi (List.getElem?_eq_getElem hlt)⟩

theorem Sit.row (h : Sit S st a w Z L) {i e : Nat} {t : Ty} {xs : List t.den} (hi : st.ob i = .row e t xs) :
    ∃ v es, st.objs[i]? = some (.row e t xs) ∧ L[i]? = some (.row v t.size xs.length) ∧ 0 < t.size ∧ w.ownsRow 0 e t.size v xs.length es ∧ RowRd w Z t xs es := by
  have h1 : st.objs[i]? = some (.row e t xs) := hi ▸ St.ob_some (by rw [hi]; simp)
  obtain ⟨l, hl, v, es, rfl, h2⟩ := h.loc h1
  exact ⟨v, es, h1, hl, h2⟩

theorem Sit.nest (h : Sit S st a w Z L) {i e : Nat} {t : Ty} {q : Inn} {xs : List t.den} {hl : Option Nat} (hi : st.ob i = .nest e t q xs hl) :
    ∃ v es hd, st.objs[i]? = some (.nest e t q xs hl) ∧ L[i]? = some (.row v t.size ⟨xs.length, hd⟩) ∧ 0 < t.size ∧ nestTy t q = true ∧ w.ownsRow 0 e t.size v xs.length es ∧ Nests w t q xs hl v es hd := by
  have h1 : st.objs[i]? = some (.nest e t q xs hl) := hi ▸ St.ob_some (by rw [hi]; simp)
  obtain ⟨l, hl, v, es, hd, rfl, h2⟩ := h.loc h1
  exact ⟨v, es, hd, h1, hl, h2⟩

theorem seg_at (es : List Value) (i sz j : Nat) (hj : j < sz) : ((es.drop (i * sz)).take sz)[j]? = es[i * sz + j]? := by
  rw [List.getElem?_take_of_lt hj, List.getElem?_drop]
theorem seg_len (es : List Value) (i sz n : Nat) (hl : es.length = n * sz) (hi : i < n) : ((es.drop (i * sz)).take sz).length = sz := by
  have hks := Nat.mul_le_mul_right sz (show i + 1 ≤ n by omega)
  rw [Nat.add_mul, Nat.one_mul] at hks
  simp; omega

theorem nest_named {e : TypeId} {t : Ty} {q : Inn} {xs : List t.den} {hl : Option Nat} {v : Value} {es : List Value} {hd : Nat → Value} {i k : Nat} {x : t.den} (ht : nestTy t q = true) (ho : w.ownsRow 0 e t.size v xs.length es)
    (hn : Nests w t q xs hl v es hd) (hL : L[i]? = some (.row v t.size ⟨xs.length, hd⟩)) (hx : xs[k]? = some x) : CsSim w Z L (nestCells t q x i k) ((es.drop (k * t.size)).take t.size) := by
  have hk : k < xs.length := (List.getElem?_eq_some_iff.1 hx).1
  have hlen := seg_len es k t.size xs.length ho.1 hk
  have hcl : (nestCells t q x i k).length = t.size := by unfold nestCells; rw [setNth_eq, List.length_set, Ty.cells_length]
  refine CsSim.of_get (by rw [hlen, hcl]) fun p c u hc hu => ?_
  have hp : p < t.size := by rw [← hcl]; exact (List.getElem?_eq_some_iff.1 hc).1
  rw [seg_at _ _ _ _ hp] at hu
  unfold nestCells at hc
  rw [setNth_eq] at hc
  by_cases hpo : p = q.o
  · subst hpo
    rw [List.getElem?_set_self (by rw [Ty.cells_length]; exact hp)] at hc
    simp only [Option.some.injEq] at hc
    subst hc
    obtain ⟨h1, h2⟩ := hn.head k hk
    rw [hu] at h1
    simp only [Option.some.injEq] at h1
    subst h1
    exact ⟨h2, v, t.size, _, hL, rfl⟩
  · rw [List.getElem?_set_ne (by omega)] at hc
    exact plain_any ((nest_cell ht x).2 p c hpo hc) (hn.plain k x hx p c u hpo hc hu)

theorem Sit.boxAt (h : Sit S st a w Z L) {i : Nat} {cs : List Cell} (hi : st.box i = some cs) :
    ∃ g q s vs, st.objs[i]? = some (.box cs) ∧ L[i]? = some (.box g q s) ∧ CsSim w Z L cs vs ∧ BoxAt w g q s vs := by
  unfold St.box at hi
  split at hi
  · rename_i cs' hb
    simp only [Option.some.injEq] at hi
    subst hi
    have h1 : st.objs[i]? = some (.box cs') := hb ▸ St.ob_some (by rw [hb]; simp)
    obtain ⟨l, hl, g, q, s, vs, rfl, h2⟩ := h.loc h1
    exact ⟨g, q, s, vs, h1, hl, h2⟩
  · simp at hi

theorem BoxAt.cells {g q : Nat} {s : Nat × Nat} {vs : List Value} (h : BoxAt w g q s vs) : CellsAt w g q vs := by
  obtain ⟨cur, e, h1, h2, h3, _⟩ := h
  intro j u hj
  rw [cell_of_row w g (q + j) cur e (0, 0) h1]
  exact h3 j u hj

theorem CellsAt.drop {g q n : Nat} {vs : List Value} (h : CellsAt w g q vs) : CellsAt w g (q + n) (vs.drop n) := by
  intro j u hj
  rw [List.getElem?_drop] at hj
  have := h (n + j) u hj
  rwa [← Nat.add_assoc] at this

theorem Sit.behind (h : Sit S st a w Z L) {c : Cell} {v : Value} {cs : List Cell} (hc : CSim w Z L c v) (hb : st.behind c = some cs) :
    ∃ g q vs, v = .pointer (some ⟨g, q, none⟩) ∧ CsSim w Z L cs vs ∧ CellsAt w g q vs := by
  unfold St.behind at hb
  split at hb
  · rename_i i o
    obtain ⟨g, q, s, hl, rfl⟩ := hc
    cases hbx : st.box i with
    | none => rw [hbx] at hb; simp at hb
    | some cs0 =>
      rw [hbx] at hb
      simp only [Option.map_some, Option.some.injEq] at hb
      subst hb
      obtain ⟨g', q', s', vs, _, h2, h3, h4⟩ := h.boxAt hbx
      rw [hl] at h2
      simp only [Option.some.injEq, Loc.box.injEq] at h2
      obtain ⟨rfl, rfl, rfl⟩ := h2
      exact ⟨g, q + o, vs.drop o, rfl, CsSim.drop h3, h4.cells.drop⟩
  · rename_i i k o
    obtain ⟨g, n, c, sz, m, hl, hk, rfl⟩ := hc
    split at hb
    · rename_i e u xs hob
      simp only [Option.some.injEq] at hb
      subst hb
      obtain ⟨v, es, _, h2, h3, h4, h5⟩ := h.row hob
      rw [hl] at h2
      simp only [Option.some.injEq, Loc.row.injEq] at h2
      obtain ⟨rfl, rfl, rfl⟩ := h2
      rcases h4.2 with ⟨hx, _⟩ | ⟨g', cap, cur, hx, _, hg, hn, _, hcs, htk⟩
      · simp at hx
      · simp only [Value.slice.injEq, Option.some.injEq, Addr.mk.injEq, and_true] at hx
        obtain ⟨rfl, rfl, rfl⟩ := hx
        have hkx : xs[k]? = some (xs.getD k u.dflt) := by simp [List.getD, List.getElem?_eq_getElem hk]
        have hr := h5 k _ hkx
        refine ⟨g, k * u.size + o, _, rfl, CsSim.drop (n := o) (Rd.cells hr), CellsAt.drop (q := k * u.size) ?_⟩
        intro j x hj
        rw [List.getElem?_take] at hj
        split at hj
        · rw [List.getElem?_drop] at hj
          have := h4.cells (g := g) rfl (k * u.size + j) x hj
          rwa [Addr.add_lit, Nat.zero_add] at this
        · simp at hj
    · rename_i e u q xs hob
      simp only [Option.some.injEq] at hb
      subst hb
      obtain ⟨v, es, hd, _, h2, h3, ht, h4, h5⟩ := h.nest hob
      rw [hl] at h2
      simp only [Option.some.injEq, Loc.row.injEq] at h2
      obtain ⟨rfl, rfl, rfl⟩ := h2
      rcases h4.2 with ⟨hx, _⟩ | ⟨g', cap, cur, hx, _, hg, hn, _, hcs, htk⟩
      · simp at hx
      · simp only [Value.slice.injEq, Option.some.injEq, Addr.mk.injEq, and_true] at hx
        obtain ⟨rfl, rfl, rfl⟩ := hx
        have hkx : xs[k]? = some (xs.getD k u.dflt) := by simp [List.getD, List.getElem?_eq_getElem hk]
        refine ⟨g, k * u.size + o, _, rfl, CsSim.drop (n := o) (nest_named ht h4 h5 hl hkx), CellsAt.drop (q := k * u.size) ?_⟩
        intro j x hj
        rw [List.getElem?_take] at hj
        split at hj
        · rw [List.getElem?_drop] at hj
          have := h4.cells (g := g) rfl (k * u.size + j) x hj
          rwa [Addr.add_lit, Nat.zero_add] at this
        · simp at hj
    · simp at hb
  · rename_i t x o
    obtain ⟨g, q, es, rfl, _, h2, h3⟩ := hc
    simp only [Option.some.injEq] at hb
    subst hb
    exact ⟨g, q + o, es.drop o, rfl, CsSim.drop (Rd.cells h3), h2.drop⟩
  · simp at hb
end
end Go.Ry
set_option linter.unusedVariables false
set_option linter.unusedSimpArgs false
namespace Go.Ry

section
variable {P : Program} {t : TypeId} {te : TE} {i : TypeInfo} {d : TypeDesc} {z : Value}

theorem run_isAgg (f : TEFacts P t te i d z) (w : World) : (isAgg t).run P w = .ok te.agg w := by
  have hk := f.kind
  unfold isAgg
  simp only [Sem.run_bind, run_underlying f.under, Result.andThen_ok]
  cases d <;> simp only [kindOk] at hk <;> split at hk <;> simp_all

theorem run_sizeOf (f : TEFacts P t te i d z) (w : World) : (sizeOf t).run P w = .ok te.size w := by
  simp [sizeOf, typeInfo, f.info, f.size]
end

section
variable {P : Program} {w w' : World} {Z Z' : Nat → Prop} {L L' : List Loc}

theorem run_loadVar_at {t : TypeId} {te : TE} {i : TypeInfo} {d : TypeDesc} {z : Value} (f : TEFacts P t te i d z) {g q : Nat} {cs : List Cell} {vs : List Value}
    (hs : CsSim w Z L cs vs) (hsz : te.size ≤ cs.length) :
    ∃ v, (∀ w', CellsAt w' g q vs → (loadVar t ⟨g, q, none⟩).run P w' = .ok v w') ∧ ESim w Z L (entOf te.agg (cs.take te.size)) v := by
  have hlen := CsSim.length hs
  by_cases ha : te.agg = true
  · refine ⟨.agg (vs.take te.size).toArray, fun w' hc => ?_, ?_⟩
    · have hl := run_loadCells_list (P := P) w' ⟨g, q, none⟩ (vs.take te.size) (fun j v hv => by
        rw [Addr.add_lit]
        rw [List.getElem?_take] at hv
        split at hv
        · exact hc j v hv
        · simp at hv)
      rw [List.length_take, Nat.min_eq_left (by omega)] at hl
      unfold loadVar
      simp only [Sem.run_bind, run_isAgg f, Result.andThen_ok]
      simp [ha, run_sizeOf f, hl]
    · rw [ha]
      exact ⟨_, rfl, by simpa using CsSim.take (n := te.size) hs⟩
  · have h1 : te.size = 1 := f.one.resolve_left ha
    have ha' : te.agg = false := by simpa using ha
    rw [h1] at hsz ⊢
    match cs, vs, hs, hlen with
    | [], _, _, _ => simp at hsz
    | c :: cs, [], h, _ => exact h.elim
    | c :: cs, v :: vs, h, _ =>
      refine ⟨v, fun w' hc => ?_, ?_⟩
      · have h0 := hc 0 v rfl
        simp only [Nat.add_zero] at h0
        unfold loadVar
        simp only [Sem.run_bind, run_isAgg f, Result.andThen_ok]
        simp [ha', h0]
      · simp only [ha', List.take_succ_cons, List.take_zero, entOf]
        exact h.1

theorem splice_get (es us : List Value) (p j : Nat) (hp : p + us.length ≤ es.length) :
    (es.take p ++ us ++ es.drop (p + us.length))[j]? = if p ≤ j ∧ j < p + us.length then us[j - p]? else es[j]? := by
  by_cases h1 : j < p
  · rw [if_neg (by omega), List.append_assoc, List.getElem?_append_left (by simp; omega), List.getElem?_take_of_lt h1]
  · by_cases h2 : j < p + us.length
    · rw [if_pos ⟨by omega, h2⟩, List.append_assoc, List.getElem?_append_right (by simp; omega), List.getElem?_append_left (by simp; omega)]
      simp only [List.length_take]
      rw [Nat.min_eq_left (by omega)]
    · rw [if_neg (by omega), List.getElem?_append_right (by simp; omega), List.getElem?_drop]
      simp only [List.length_append, List.length_take]
      rw [Nat.min_eq_left (by omega)]
      congr 1
      omega

theorem run_storeCells_in {g p : Nat} {cur : Array Value} {e : TypeId} (hg : w.heap[g]? = some (.cells cur e (0, 0))) (us : List Value) (hp : p + us.length ≤ cur.size)
    (h1 : ∀ v ∈ us, v.oneCell' = true) : ∃ w' cur', (storeCells ⟨g, p, none⟩ us).run P w = .ok () w' ∧ w'.heap[g]? = some (.cells cur' e (0, 0)) ∧ cur'.size = cur.size ∧
      (∀ j, cur'[j]? = if p ≤ j ∧ j < p + us.length then us[j - p]? else cur[j]?) ∧ Keeps w (fun b o => b = g ∧ p ≤ o ∧ o < p + us.length) w' := by
  have hr := run_storeCells_at P g p e us 0 cur w hg (by simpa using hp) h1
  simp only [Nat.add_zero] at hr
  have hget : ∀ j, (cur.toList.take p ++ us ++ cur.toList.drop (p + us.length)).toArray[j]? = if p ≤ j ∧ j < p + us.length then us[j - p]? else cur[j]? := by
    intro j
    simp only [List.getElem?_toArray]
    rw [splice_get cur.toList us p j (by simpa using hp)]
    simp
  have hsz : (cur.toList.take p ++ us ++ cur.toList.drop (p + us.length)).toArray.size = cur.size := by
    simp only [List.size_toArray, List.length_append, List.length_take, List.length_drop, Array.length_toList]
    omega
  have hh := setRow_heap w g cur (cur.toList.take p ++ us ++ cur.toList.drop (p + us.length)).toArray e (0, 0) hg
  refine ⟨_, _, hr, hh, hsz, hget, ⟨rfl, rfl, rfl, by simp, fun b hb => ?_⟩⟩
  by_cases hbg : b = g
  · subst hbg
    refine .inr (.inl ⟨cur, _, e, (0, 0), (0, 0), hg, hh, hsz, fun o ho => ?_, .inl rfl⟩)
    rw [hget o, if_neg (by omega)]
  · exact .inl (setRow_other w g b _ (by omega))

theorem BoxAt.store {g q o : Nat} {s : Nat × Nat} {vs us : List Value} (h : BoxAt w g q s vs) (hp : o + us.length ≤ vs.length) (h1 : ∀ v ∈ us, v.oneCell' = true) :
    ∃ w', (storeCells ⟨g, q + o, none⟩ us).run P w = .ok () w' ∧ BoxAt w' g q s (vs.take o ++ us ++ vs.drop (o + us.length)) ∧
      Keeps w (fun b x => b = g ∧ q ≤ x ∧ x < q + vs.length) w' := by
  obtain ⟨cur, e, hg, hsz, hcs, hss⟩ := h
  obtain ⟨w', cur', hr, hg', hs', hget, hk⟩ := run_storeCells_in (P := P) hg us (p := q + o) (by omega) h1
  refine ⟨w', hr, ⟨cur', e, hg', ?_, fun j v hj => ?_, by rw [hss, hs']⟩, hk.mono fun b x _ hx => ⟨hx.1, by omega, by omega⟩⟩
  · simp only [List.length_append, List.length_take, List.length_drop]
    omega
  · rw [splice_get vs us o j hp] at hj
    rw [hget]
    split at hj
    · rw [if_pos (by omega)]
      rw [← hj]
      congr 1
      omega
    · rw [if_neg (by omega)]
      exact hcs j v hj

theorem seg_get (es : List Value) (i sz j : Nat) (hj : j < sz) : ((es.drop (i * sz)).take sz)[j]? = es[i * sz + j]? := by
  rw [List.getElem?_take_of_lt hj, List.getElem?_drop]

theorem ownsRow_store {e : TypeId} {sz n c g p : Nat} {es us : List Value} (h : w.ownsRow 0 e sz (.slice (some ⟨g, 0, none⟩) n c) n es) (hp : p + us.length ≤ n * sz)
    (h1 : ∀ v ∈ us, v.oneCell' = true) : ∃ w', (storeCells ⟨g, p, none⟩ us).run P w = .ok () w' ∧
      w'.ownsRow 0 e sz (.slice (some ⟨g, 0, none⟩) n c) n (es.take p ++ us ++ es.drop (p + us.length)) ∧ Keeps w (fun b _ => b = g) w' := by
  obtain ⟨hl, h2⟩ := h
  rcases h2 with ⟨hx, _⟩ | ⟨g', cap, cur, hx, hb, hg, hn, hm, hcs, htk⟩
  · simp at hx
  · simp only [Value.slice.injEq, Option.some.injEq, Addr.mk.injEq, and_true, true_and] at hx
    obtain ⟨rfl, rfl⟩ := hx
    have hle := Nat.mul_le_mul_right sz hn
    obtain ⟨w', cur', hr, hg', hs', hget, hk⟩ := run_storeCells_in (P := P) hg us (p := p) (by omega) h1
    refine ⟨w', hr, ⟨?_, .inr ⟨g, c, cur', rfl, hb, hg', hn, hm, by rw [hs', hcs], ?_⟩⟩, hk.mono fun b x _ hx => hx.1⟩
    · simp only [List.length_append, List.length_take, List.length_drop]; omega
    · apply List.ext_getElem?
      intro j
      rw [splice_get es us p j (by omega), List.getElem?_take]
      have := hget j
      rw [← Array.getElem?_toList] at this
      rw [this]
      rw [← htk]
      by_cases hj : j < n * sz
      · rw [if_pos hj]
        split
        · rfl
        · rw [List.getElem?_take_of_lt hj]; simp
      · rw [if_neg hj, if_neg (by omega), List.getElem?_take_eq_none (by omega)]

theorem RowRd.set {t : Ty} {xs : List t.den} {es us : List Value} {k o : Nat} {x : t.den} (h : RowRd w Z t xs es) (hl : es.length = xs.length * t.size) (hk : k < xs.length)
    (ho : o + us.length ≤ t.size) (hx : Rd w Z t x ((((es.drop (k * t.size)).take t.size).take o) ++ us ++ (((es.drop (k * t.size)).take t.size).drop (o + us.length)))) :
    RowRd w Z t (xs.set k x) (es.take (k * t.size + o) ++ us ++ es.drop (k * t.size + o + us.length)) := by
  have hks := Nat.mul_le_mul_right t.size (show k + 1 ≤ xs.length by omega)
  rw [Nat.add_mul, Nat.one_mul] at hks
  have hseglen : ((es.drop (k * t.size)).take t.size).length = t.size := by simp; omega
  intro i y hi
  have hil : i < xs.length := by have := (List.getElem?_eq_some_iff.1 hi).1; simpa using this
  have his := Nat.mul_le_mul_right t.size (show i + 1 ≤ xs.length by omega)
  rw [Nat.add_mul, Nat.one_mul] at his
  by_cases hik : i = k
  · subst hik
    rw [List.getElem?_set_self hil] at hi
    simp only [Option.some.injEq] at hi
    subst hi
    have : ((es.take (i * t.size + o) ++ us ++ es.drop (i * t.size + o + us.length)).drop (i * t.size)).take t.size =
        (((es.drop (i * t.size)).take t.size).take o) ++ us ++ (((es.drop (i * t.size)).take t.size).drop (o + us.length)) := by
      apply List.ext_getElem?
      intro j
      rw [splice_get _ us o j (by rw [hseglen]; exact ho)]
      by_cases hj : j < t.size
      · rw [seg_get _ _ _ _ hj, splice_get es us _ _ (by omega)]
        split
        · rw [if_pos (by omega)]
          congr 1
          omega
        · rw [if_neg (by omega), seg_get _ _ _ _ hj]
      · rw [List.getElem?_take_eq_none (by omega), if_neg (by omega), List.getElem?_take_eq_none (by omega)]
    rw [this]
    exact hx
  · rw [List.getElem?_set_ne (by omega)] at hi
    have hr := h i y hi
    have : ((es.take (k * t.size + o) ++ us ++ es.drop (k * t.size + o + us.length)).drop (i * t.size)).take t.size = (es.drop (i * t.size)).take t.size := by
      apply List.ext_getElem?
      intro j
      by_cases hj : j < t.size
      · rw [seg_get _ _ _ _ hj, seg_get _ _ _ _ hj, splice_get es us _ _ (by omega), if_neg]
        intro hc
        rcases Nat.lt_or_gt_of_ne hik with hlt | hgt
        · have := Nat.mul_le_mul_right t.size (show i + 1 ≤ k by omega)
          rw [Nat.add_mul, Nat.one_mul] at this
          omega
        · have := Nat.mul_le_mul_right t.size (show k + 1 ≤ i by omega)
          rw [Nat.add_mul, Nat.one_mul] at this
          omega
      · rw [List.getElem?_take_eq_none (by omega), List.getElem?_take_eq_none (by omega)]
    rw [this]
    exact hr

theorem row_sl {e : TypeId} {tt : Ty} {v u : Value} {xs : List tt.den} {es : List Value} {lo hi : Nat} (ho : w.ownsRow 0 e tt.size v xs.length es) (hr : RowRd w Z tt xs es)
    (hz : ∀ b, v.ownBlock = some b → Z b) (hw : isWin v tt.size lo hi u) : Rd w Z (.slice tt) ((xs.take hi).drop lo) [u] := by
  rcases hw with ⟨rfl, rfl, rfl, rfl⟩ | ⟨g, n, c, rfl, h1, h2, h3, rfl⟩
  · exact ⟨none, 0, 0, rfl, by simp, Nat.le_refl _, fun _ => rfl, fun ad h => by simp at h⟩
  · rcases ho.2 with ⟨hx, _⟩ | ⟨g', cap, cur, hx, hb, hg, hn, hm, hcs, htk⟩
    · simp at hx
    · simp only [Value.slice.injEq, Option.some.injEq, Addr.mk.injEq, and_true] at hx
      obtain ⟨rfl, rfl, rfl⟩ := hx
      refine ⟨some ⟨g, if c = lo then 0 else lo * tt.size, none⟩, hi - lo, c - lo, rfl, by simp; omega, by omega, fun h => by simp at h, fun ad had i x hx => ?_⟩
      simp only [Option.some.injEq] at had
      subst had
      rw [List.getElem?_drop] at hx
      have hlt : lo + i < hi := by
        have := (List.getElem?_eq_some_iff.1 hx).1
        simp at this; omega
      rw [List.getElem?_take_of_lt hlt] at hx
      have hR := hr (lo + i) x hx
      refine ⟨rfl, hz g rfl, _, Rd.length hR, fun j y hj => ?_, hR⟩
      rw [if_neg (by omega)]
      rw [List.getElem?_take] at hj
      split at hj
      · rw [List.getElem?_drop] at hj
        have := ho.cells (g := g) rfl _ y hj
        rw [Addr.add_lit, Nat.zero_add] at this
        rw [← this, Nat.add_mul]
      · simp at hj

def rowB (o : Ob) (l : Loc) (b : Nat) : Prop := match o, l with
  | .row _ _ _, .row v _ _ => v.ownBlock = some b
  | .nest _ _ _ _ none, .row v _ n => v.ownBlock = some b ∨ ∃ k, (n.h k).ownBlock = some b
  | _, _ => False
theorem rowB_foot {o : Ob} {l : Loc} {b : Nat} (h : rowB o l b) (q : Nat) : foot o l b q := by
  unfold rowB at h
  split at h
  · exact h
  · rcases h with h | ⟨k, h⟩
    · exact .inl h
    · exact .inr ⟨k, by simp, h⟩
  · exact h.elim
theorem rowB_map (f : Cell → Cell) (o : Ob) (l : Loc) (b : Nat) : rowB (mapO f o) l b = rowB o l b := by
  cases o <;> cases l <;> simp [mapO, rowB]

theorem isWin_all {e : TypeId} {sz n : Nat} {v : Value} {es : List Value} (ho : w.ownsRow 0 e sz v n es) : isWin v sz 0 n v := by
  rcases ho.2 with ⟨rfl, rfl⟩ | ⟨g', cap, cur, rfl, hb, hg, hn, hm, hcs, htk⟩
  · exact .inl ⟨rfl, rfl, rfl, rfl⟩
  · refine .inr ⟨g', n, cap, rfl, Nat.zero_le _, Nat.le_refl _, hn, ?_⟩
    simp

theorem CsSim.map {f : Cell → Cell} (hf : ∀ c v, CSim w Z L c v → CSim w Z' L' (f c) v) : ∀ {cs : List Cell} {vs : List Value}, CsSim w Z L cs vs → CsSim w Z' L' (cs.map f) vs
  | [], [], _ => trivial
  | [], _ :: _, h => h.elim
  | _ :: _, [], h => h.elim
  | _ :: _, _ :: _, ⟨h1, h2⟩ => ⟨hf _ _ h1, CsSim.map hf h2⟩
theorem PsSim.map {f : Cell → Cell} (hf : ∀ c v, CSim w Z L c v → CSim w Z' L' (f c) v) : ∀ {ps : List (Bool × List Cell)} {vs : List Value}, PsSim w Z L ps vs →
    PsSim w Z' L' (ps.map fun x => (x.1, x.2.map f)) vs
  | [], [], _ => trivial
  | [], _ :: _, h => h.elim
  | _ :: _, [], h => h.elim
  | (a, cs) :: _, _ :: _, ⟨h1, h2⟩ => ⟨by
      cases a
      · exact CsSim.map hf h1
      · obtain ⟨vs, e, h⟩ := h1
        exact ⟨vs, e, CsSim.map hf h⟩, PsSim.map hf h2⟩
theorem ESim.map {f : Cell → Cell} (hf : ∀ c v, CSim w Z L c v → CSim w Z' L' (f c) v) : ∀ {e : Ent} {v : Value}, ESim w Z L e v → ESim w Z' L' (mapE f e) v
  | .undef, _, _ => trivial
  | .one _, _, h => hf _ _ h
  | .agg _, _, ⟨vs, e, h⟩ => ⟨vs, e, CsSim.map hf h⟩
  | .tup _, _, ⟨vs, e, h⟩ => ⟨vs, e, PsSim.map hf h⟩
theorem OSim.map {f : Cell → Cell} (hf : ∀ c v, CSim w Z L c v → CSim w Z L (f c) v) {o : Ob} {l : Loc} (h : OSim w Z L o l) : OSim w Z L (mapO f o) l := by
  cases o with
  | box cs =>
    obtain ⟨g, q, s, vs, rfl, h1, h2⟩ := h
    exact ⟨g, q, s, vs, rfl, CsSim.map hf h1, h2⟩
  | _ => exact h
theorem foot_map (f : Cell → Cell) (o : Ob) (l : Loc) : foot (mapO f o) l = foot o l := by
  cases o <;> cases l <;> simp [mapO, foot]
end

section
variable {S : Start} {st : St} {a : Act} {w w' : World} {Z Z' : Nat → Prop} {L L' : List Loc}

theorem Sit.map (h : Sit S st a w Z L) {f : Cell → Cell} (hf : ∀ c v, CSim w Z L c v → CSim w Z L (f c) v) : Sit S (st.map f) a w Z L := by
  have old : ∀ (i : Nat) (o : Ob), (st.objs.map (mapO f))[i]? = some o → ∃ o', st.objs[i]? = some o' ∧ o = mapO f o' := by
    intro i o ho
    rw [List.getElem?_map] at ho
    cases hx : st.objs[i]? with
    | none => rw [hx] at ho; simp at ho
    | some o' => rw [hx] at ho; simp at ho; exact ⟨o', rfl, ho.symm⟩
  refine ⟨by simp [St.map, h.tlen], fun d e he => ?_, ⟨by simp [St.map, h.sims.len], fun i o l ho hl => ?_, fun i j o l o' l' h1 h2 h3 h4 hij b q f1 f2 => ?_, fun i o l ho hl b q hq hz => ?_, h.sims.zin, h.sims.tab⟩,
    h.keeps, h.zup, h.znew, fun i o l ho hl b q hq => ?_, h.lents, h.defers⟩
  · simp only [St.map, List.getElem?_map] at he
    cases hx : st.tmps[d]? with
    | none => rw [hx] at he; simp at he
    | some e' =>
      rw [hx] at he
      simp only [Option.map_some, Option.some.injEq] at he
      subst he
      exact ESim.map hf (h.tmps d e' hx)
  · obtain ⟨o', h1, rfl⟩ := old i o ho
    exact OSim.map hf (h.sims.ob i o' l h1 hl)
  · obtain ⟨o1, a1, rfl⟩ := old i o h1
    obtain ⟨o2, a2, rfl⟩ := old j o' h3
    rw [foot_map] at f1 f2
    exact h.sims.sep i j o1 l o2 l' a1 h2 a2 h4 hij b q f1 f2
  · obtain ⟨o1, a1, rfl⟩ := old i o ho
    rw [foot_map] at hq
    exact h.sims.zap i o1 l a1 hl b q hq hz
  · obtain ⟨o1, a1, rfl⟩ := old i o ho
    rw [foot_map] at hq
    exact h.fnew i o1 l a1 hl b q hq

theorem shareC_simN {i e : Nat} {t : Ty} {xs : List t.den} {v : Value} {es : List Value} {m : LN} (hl : L[i]? = some (.row v t.size m)) (ho : w.ownsRow 0 e t.size v xs.length es)
    (hr : RowRd w Z t xs es) (hz : ∀ b, v.ownBlock = some b → Z b) (c : Cell) (u : Value) (h : CSim w Z L c u) : CSim w Z L (shareC i t xs c) u := by
  unfold shareC
  split
  · rename_i j
    simp only [cond_eq_ite]
    split
    · rename_i hj
      simp only [beq_iff_eq] at hj
      subst hj
      obtain ⟨_, sz, n, h1⟩ := h
      rw [hl] at h1
      simp only [Option.some.injEq, Loc.row.injEq] at h1
      obtain ⟨rfl, rfl, rfl⟩ := h1
      have := row_sl ho hr hz (isWin_all ho)
      simpa [CSim] using this
    · exact h
  · rename_i j lo hi
    simp only [cond_eq_ite]
    split
    · rename_i hj
      simp only [beq_iff_eq] at hj
      subst hj
      obtain ⟨u', sz, n, h1, h2⟩ := h
      rw [hl] at h1
      simp only [Option.some.injEq, Loc.row.injEq] at h1
      obtain ⟨rfl, rfl, rfl⟩ := h1
      exact row_sl ho hr hz h2
    · exact h
  · rename_i j k o
    simp only [cond_eq_ite]
    split
    · rename_i hj
      simp only [beq_iff_eq] at hj
      subst hj
      obtain ⟨g, n, c, sz, m, h1, hk, rfl⟩ := h
      rw [hl] at h1
      simp only [Option.some.injEq, Loc.row.injEq] at h1
      obtain ⟨rfl, rfl, rfl⟩ := h1
      rcases ho.2 with ⟨hx, _⟩ | ⟨g', cap, cur, hx, hb, hg, hn, hm, hcs, htk⟩
      · simp at hx
      · simp only [Value.slice.injEq, Option.some.injEq, Addr.mk.injEq, and_true] at hx
        obtain ⟨rfl, rfl, rfl⟩ := hx
        have hkx : xs[k]? = some (xs.getD k t.dflt) := by simp [List.getD, List.getElem?_eq_getElem hk]
        refine ⟨g, k * t.size, _, rfl, hz g rfl, fun j y hj => ?_, hr k _ hkx⟩
        rw [List.getElem?_take] at hj
        split at hj
        · rw [List.getElem?_drop] at hj
          have := ho.cells (g := g) rfl _ y hj
          rwa [Addr.add_lit, Nat.zero_add] at this
        · simp at hj
    · exact h
  · exact h

theorem shareC_sim {i e : Nat} {t : Ty} {xs : List t.den} {v : Value} {es : List Value} (hl : L[i]? = some (.row v t.size xs.length)) (ho : w.ownsRow 0 e t.size v xs.length es)
    (hr : RowRd w Z t xs es) (hz : ∀ b, v.ownBlock = some b → Z b) (c : Cell) (u : Value) (h : CSim w Z L c u) : CSim w Z L (shareC i t xs c) u := shareC_simN hl ho hr hz c u h

theorem dflt_cell : ∀ (t : Ty) (p : Nat) (s : Ty) (ys : List s.den), (t.cells t.dflt)[p]? = some (.sl s ys) → ys = []
  | .unit, p, s, ys, h => by simp [Ty.cells] at h
  | .int k, p, s, ys, h => by cases p <;> simp [Ty.cells] at h
  | .bool, p, s, ys, h => by cases p <;> simp [Ty.cells] at h
  | .str, p, s, ys, h => by cases p <;> simp [Ty.cells] at h
  | .slice t, p, s, ys, h => by
    cases p <;> simp [Ty.cells] at h
    obtain ⟨rfl, h⟩ := h
    simpa [Ty.dflt] using (eq_of_heq h).symm
  | .pair a b, p, s, ys, h => by
    simp only [Ty.cells, Ty.dflt] at h
    by_cases hp : p < (a.cells a.dflt).length
    · rw [List.getElem?_append_left hp] at h
      exact dflt_cell a p s ys h
    · rw [List.getElem?_append_right (by omega)] at h
      exact dflt_cell b _ s ys h
theorem innerOf_dflt {t : Ty} {q : Inn} (ht : nestTy t q = true) : innerOf t q t.dflt = [] := dflt_cell t q.o q.s _ (nest_cell ht t.dflt).1

theorem nest_seg {e : TypeId} {t : Ty} {q : Inn} {xs : List t.den} {v : Value} {es : List Value} {hd : Nat → Value} {k : Nat} {x : t.den} (ht : nestTy t q = true) (ho : w.ownsRow 0 e t.size v xs.length es)
    (hn : Nests w t q xs none v es hd) (hx : xs[k]? = some x) (hz : ∀ b, (hd k).ownBlock = some b → Z b) : CsSim w Z L (t.cells x) ((es.drop (k * t.size)).take t.size) ∧ CSim w Z L ((nth (t.cells x) q.o).getD .undef) (hd k) := by
  have hk : k < xs.length := (List.getElem?_eq_some_iff.1 hx).1
  have hlen := seg_len es k t.size xs.length ho.1 hk
  obtain ⟨hc1, hc2⟩ := nest_cell ht x
  obtain ⟨fs, a1, a2⟩ := hn.inner k x hx (by simp)
  have hin : CSim w Z L (.sl q.s (innerOf t q x)) (hd k) := by
    have := row_sl a1 (RowRd.mono (fun _ h => h.elim) (fun _ h => h.elim) a2) hz (isWin_all a1)
    simpa [CSim] using this
  refine ⟨CsSim.of_get (by rw [hlen, Ty.cells_length]) fun p c u hc hu => ?_, by rw [nth_eq, hc1]; exact hin⟩
  have hp : p < t.size := by rw [← Ty.cells_length t x]; exact (List.getElem?_eq_some_iff.1 hc).1
  rw [seg_at _ _ _ _ hp] at hu
  by_cases hpo : p = q.o
  · subst hpo
    rw [hc1] at hc
    simp only [Option.some.injEq] at hc
    subst hc
    rw [(hn.head k hk).1] at hu
    simp only [Option.some.injEq] at hu
    subst hu
    exact hin
  · exact plain_any (hc2 p c hpo hc) (hn.plain k x hx p c u hpo hc hu)
theorem nest_rows {e : TypeId} {t : Ty} {q : Inn} {xs : List t.den} {v : Value} {es : List Value} {hd : Nat → Value} (ht : nestTy t q = true) (ho : w.ownsRow 0 e t.size v xs.length es)
    (hn : Nests w t q xs none v es hd) (hz : ∀ k b, (hd k).ownBlock = some b → Z b) : RowRd w Z t xs es :=
  fun k x hx => Rd.of_cells (L := []) (nest_seg ht ho hn hx (hz k)).1

theorem shareN_sim {i e : Nat} {t : Ty} {q : Inn} {xs : List t.den} {v : Value} {es : List Value} {hd : Nat → Value} (hl : L[i]? = some (.row v t.size ⟨xs.length, hd⟩)) (ht : nestTy t q = true) (ho : w.ownsRow 0 e t.size v xs.length es)
    (hn : Nests w t q xs none v es hd) (hz : ∀ b, v.ownBlock = some b → Z b) (hz' : ∀ k b, (hd k).ownBlock = some b → Z b) (c : Cell) (u : Value) (h : CSim w Z L c u) : CSim w Z L (shareN i t q xs c) u := by
  unfold shareN
  split
  · rename_i j k
    simp only [cond_eq_ite]
    split
    · rename_i hj
      simp only [beq_iff_eq] at hj
      subst hj
      obtain ⟨h0, u', sz, n, h1, h2⟩ := h
      rw [hl] at h1
      simp only [Option.some.injEq, Loc.row.injEq] at h1
      obtain ⟨rfl, rfl, rfl⟩ := h1
      subst h2
      rcases Nat.lt_or_ge k xs.length with hk | hk
      · have hkx : xs[k]? = some (xs.getD k t.dflt) := by simp [List.getD, List.getElem?_eq_getElem hk]
        exact (nest_seg ht ho hn hkx (hz' k)).2
      · have hx : xs.getD k t.dflt = t.dflt := by simp [List.getD, List.getElem?_eq_none hk]
        rw [hx, nth_eq, (nest_cell ht t.dflt).1]
        show CSim w Z L (.sl q.s (innerOf t q t.dflt)) (hd k)
        have hin : innerOf t q t.dflt = [] := innerOf_dflt ht
        rw [hin, hn.out k hk]
        exact ⟨none, 0, 0, rfl, rfl, Nat.le_refl _, fun _ => rfl, fun ad h => by simp at h⟩
    · exact h
  · rename_i c' hc
    exact shareC_simN hl ho (nest_rows ht ho hn hz') hz c u h

theorem Sit.gone (h : Sit S st a w Z L) {i : Nat} {o : Ob} {l : Loc} (h1 : st.objs[i]? = some o) (hl : L[i]? = some l) : Sit S (st.setOb i .dead) a w (fun b => Z b ∨ rowB o l b) L := by
  have hlt := (List.getElem?_eq_some_iff.1 h1).1
  have at_ : ∀ (o'' : Ob), (st.objs.set i .dead)[i]? = some o'' → o'' = .dead := by
    intro o'' h1
    rw [List.getElem?_set_self hlt] at h1
    simp only [Option.some.injEq] at h1
    exact h1.symm
  unfold St.setOb
  rw [setNth_eq]
  refine h.update (foot o l) (fun j => j = i) (Keeps.refl _ _) (fun b q hx hz => h.sims.zap i _ _ h1 hl b q hx hz) (fun _ hb => .inl hb) (Grows.refl _) (by simp [h.sims.len]) ?_ ?_ ?_ ?_ ?_ ?_ ?_ ?_ ?_
  · intro j hj _
    rw [List.getElem?_set_ne (by omega)]
  · intro j o1 l1 hj a1 a2 b q hq hx
    exact h.sims.sep j i o1 l1 _ _ a1 a2 h1 hl hj b q hq hx
  · rintro j o1 l1 rfl a1 a2
    rw [at_ o1 a1]; trivial
  · rintro j o1 l1 rfl a1 a2 b q hq
    rw [at_ o1 a1] at hq; exact hq.elim
  · rintro j k o1 l1 o2 l2 rfl rfl _ _ _ _ hij
    exact absurd rfl hij
  · rintro j o1 l1 rfl a1 a2 b q hq hz
    rw [at_ o1 a1] at hq; exact hq.elim
  · rintro b (hb | hb)
    · exact .inl hb
    · exact .inr (.inr fun q => rowB_foot hb q)
  · rintro b (hb | hb)
    · exact h.sims.zin b hb
    · exact foot_lt (h.sims.ob i o l h1 hl) (rowB_foot hb 0)
  · exact fun b q hx => h.fnew i _ _ h1 hl b q hx

theorem Sit.share (h : Sit S st a w Z L) (i : Nat) : ∃ Z', (∀ b, Z b → Z' b) ∧ Sit S (st.share i) a w Z' L ∧
    ∀ l b, L[i]? = some l → rowB (st.ob i) l b → Z' b := by
  unfold St.share
  split
  · rename_i e t xs hi
    obtain ⟨v, es, h1, hl, h2, h3, h4⟩ := h.row hi
    have key := h.gone h1 hl
    refine ⟨_, fun _ hb => .inl hb, key.map (f := shareC i t xs) (shareC_sim hl h3 (RowRd.mono (fun _ _ => rfl) (fun _ hb => .inl hb) h4) (fun b hb => .inr hb)), fun l b hl' hb => by
      rw [hl] at hl'
      simp only [Option.some.injEq] at hl'
      subst hl'
      rw [hi] at hb
      exact .inr hb⟩
  · rename_i e t q xs hi
    obtain ⟨v, es, hd, h1, hl, h2, ht, h3, h4⟩ := h.nest hi
    have key := h.gone h1 hl
    refine ⟨_, fun _ hb => .inl hb, key.map (f := shareN i t q xs) (shareN_sim hl ht h3 h4 (fun b hb => .inr (.inl hb)) (fun k b hb => .inr (.inr ⟨k, hb⟩))), fun l b hl' hb => by
      rw [hl] at hl'
      simp only [Option.some.injEq] at hl'
      subst hl'
      rw [hi] at hb
      exact .inr hb⟩
  · rename_i hn hn'
    refine ⟨Z, fun _ hb => hb, h, fun l b hl hb => ?_⟩
    unfold rowB at hb
    split at hb
    · rename_i _ _ hx; exact absurd hx (hn _ _ _)
    · rename_i _ _ hx; exact absurd hx (hn' _ _ _ _)
    · exact hb.elim

theorem St.map_ob (st : St) (f : Cell → Cell) (j : Nat) : (st.map f).ob j = mapO f (st.ob j) := by
  unfold St.ob St.map
  simp only [nth_eq, List.getElem?_map]
  cases st.objs[j]? <;> simp [mapO]
theorem St.setOb_ob (st : St) {i j : Nat} (hij : j ≠ i) (o : Ob) : (st.setOb i o).ob j = st.ob j := by
  unfold St.ob St.setOb
  simp only [nth_eq, setNth_eq]
  rw [List.getElem?_set_ne (by omega)]
theorem St.share_ob (st : St) (i j : Nat) (hij : j ≠ i) (l : Loc) (b : Nat) (h : rowB (st.ob j) l b) : rowB ((st.share i).ob j) l b := by
  unfold St.share
  split
  · rw [St.map_ob, rowB_map, St.setOb_ob st hij]; exact h
  · rw [St.map_ob, rowB_map, St.setOb_ob st hij]; exact h
  · exact h

theorem Sit.shareAll : ∀ (cs : List Cell) {st : St} {Z : Nat → Prop}, Sit S st a w Z L → ∃ Z', (∀ b, Z b → Z' b) ∧ Sit S (st.shareAll cs) a w Z' L ∧
    ∀ i, i ∈ rowIds cs → ∀ l b, L[i]? = some l → rowB (st.ob i) l b → Z' b
  | [], st, Z, h => ⟨Z, fun _ hb => hb, h, fun i hi => by simp [rowIds] at hi⟩
  | c :: cs, st, Z, h => by
    have step : ∀ i : Nat, ∃ Z', (∀ b, Z b → Z' b) ∧ Sit S ((st.share i).shareAll cs) a w Z' L ∧
        ∀ j, j ∈ i :: rowIds cs → ∀ l b, L[j]? = some l → rowB (st.ob j) l b → Z' b := by
      intro i
      obtain ⟨Z1, hz1, h1, b1⟩ := h.share i
      obtain ⟨Z2, hz2, h2, b2⟩ := Sit.shareAll cs h1
      refine ⟨Z2, fun b hb => hz2 b (hz1 b hb), h2, fun j hj l b hl hb => ?_⟩
      by_cases hji : j = i
      · subst hji
        exact hz2 b (b1 l b hl hb)
      · rcases List.mem_cons.1 hj with hj | hj
        · exact absurd hj hji
        · exact b2 j hj l b hl (St.share_ob st i j hji l b hb)
    cases c with
    | row i => exact step i
    | win i lo hi => exact step i
    | sub i k => exact step i
    | _ => exact Sit.shareAll cs h

theorem sharedC_sim (h : Sit S st a w Z L) (hz : ∀ b, Z b → Z' b) {c : Cell} {v : Value}
    (hb : ∀ i, i ∈ rowIds [c] → ∀ l b, L[i]? = some l → rowB (st.ob i) l b → Z' b)
    (hc : CSim w Z L c v) : CSim w Z' L (sharedC st c) v := by
  have up : CSim w Z' L c v := CSim.mono (fun _ _ => rfl) hz (Grows.refl _) hc
  cases c with
  | row i =>
    simp only [sharedC]
    split
    · rename_i e t xs hx
      obtain ⟨u, es, h1, hl, h2, h3, h4⟩ := h.row hx
      have := shareC_sim (Z := Z') hl h3 (RowRd.mono (fun _ _ => rfl) hz h4) (fun b hbb => hb i (by simp [rowIds]) _ b hl (by rw [hx]; exact hbb)) _ _ up
      simpa [shareC] using this
    · rename_i e t q xs hx
      obtain ⟨u, es, hd, h1, hl, h2, ht, h3, h4⟩ := h.nest hx
      have := shareN_sim (Z := Z') hl ht h3 h4 (fun b hbb => hb i (by simp [rowIds]) _ b hl (by rw [hx]; exact .inl hbb)) (fun k b hbb => hb i (by simp [rowIds]) _ b hl (by rw [hx]; exact .inr ⟨k, hbb⟩)) _ _ up
      simpa [shareN, shareC] using this
    · exact up.oneCell
  | sub i k =>
    simp only [sharedC]
    split
    · rename_i e t q xs hx
      obtain ⟨u, es, hd, h1, hl, h2, ht, h3, h4⟩ := h.nest hx
      have := shareN_sim (Z := Z') hl ht h3 h4 (fun b hbb => hb i (by simp [rowIds]) _ b hl (by rw [hx]; exact .inl hbb)) (fun k b hbb => hb i (by simp [rowIds]) _ b hl (by rw [hx]; exact .inr ⟨k, hbb⟩)) _ _ up
      simpa [shareN] using this
    · exact up.oneCell
  | win i lo hi =>
    simp only [sharedC]
    split
    · rename_i e t xs hx
      obtain ⟨u, es, h1, hl, h2, h3, h4⟩ := h.row hx
      have := shareC_sim (Z := Z') hl h3 (RowRd.mono (fun _ _ => rfl) hz h4) (fun b hbb => hb i (by simp [rowIds]) _ b hl (by rw [hx]; exact hbb)) _ _ up
      simpa [shareC] using this
    · exact up.oneCell
  | ptrE i k o => exact up.oneCell
  | _ => exact up

theorem mem_rowIds {i : Nat} : ∀ {cs : List Cell} {c : Cell}, c ∈ cs → i ∈ rowIds [c] → i ∈ rowIds cs
  | [], c, h, _ => by simp at h
  | d :: cs, c, h, hi => by
    rcases List.mem_cons.1 h with rfl | h
    · cases c <;> simp_all [rowIds]
    · have := mem_rowIds h hi
      cases d <;> simp_all [rowIds]

theorem sharedCs_sim (h : Sit S st a w Z L) (hz : ∀ b, Z b → Z' b) : ∀ {cs : List Cell} {vs : List Value},
    (∀ i, i ∈ rowIds cs → ∀ l b, L[i]? = some l → rowB (st.ob i) l b → Z' b) →
    CsSim w Z L cs vs → CsSim w Z' L (cs.map (sharedC st)) vs
  | [], [], _, _ => trivial
  | [], _ :: _, _, hh => hh.elim
  | _ :: _, [], _, hh => hh.elim
  | c :: cs, v :: vs, hb, ⟨h1, h2⟩ => ⟨sharedC_sim h hz (fun i hi => hb i (mem_rowIds (List.mem_cons_self) hi)) h1,
      sharedCs_sim h hz (fun i hi => hb i (by cases c <;> simp_all [rowIds])) h2⟩
end
end Go.Ry
