/- What states mean: cells and objects against values and memory. No condition. -/
import Derived.Test.YtlphiljackccnaaRy3
set_option linter.unusedVariables false
set_option linter.unusedSimpArgs false
namespace Go.Ry

theorem nth_eq {α : Type} : ∀ (l : List α) (n : Nat), nth l n = l[n]?
  | [], _ => by simp [nth]
  | _ :: _, 0 => by simp [nth]
  | _ :: l, n + 1 => by simp [nth, nth_eq l n]
theorem setNth_eq {α : Type} : ∀ (l : List α) (n : Nat) (b : α), setNth l n b = l.set n b
  | [], _, _ => by simp [setNth]
  | _ :: _, 0, _ => by simp [setNth]
  | _ :: l, n + 1, b => by simp [setNth, setNth_eq l n b]

/-- Where an object lies. -/
inductive Loc where
  | gone
  | box (g q : Nat)
  | row (v : Value) (sz n : Nat)

/-- u is the part from lo to hi of the row v. -/
def isWin (v : Value) (sz lo hi : Nat) (u : Value) : Prop :=
  (v = .slice none 0 0 ∧ u = .slice none 0 0 ∧ lo = 0 ∧ hi = 0) ∨
  ∃ g n c, v = .slice (some ⟨g, 0, none⟩) n c ∧ lo ≤ hi ∧ hi ≤ n ∧ n ≤ c ∧ u = .slice (some ⟨g, if c = lo then 0 else lo * sz, none⟩) (hi - lo) (c - lo)

def areBoxes (L : List Loc) : List Nat → List Value → Prop
  | [], [] => True
  | b :: bs, v :: vs => (∃ g q, L[b]? = some (.box g q) ∧ v = .pointer (some ⟨g, q, none⟩)) ∧ areBoxes L bs vs
  | _, _ => False

def CSim (w : World) (Z : Nat → Prop) (L : List Loc) : Cell → Value → Prop
  | .undef, v => v.oneCell' = true
  | .int k n, v => v = .int k n
  | .bool b, v => v = .bool b
  | .str s, v => v = .string s
  | .sl t xs, v => Rd w Z (.slice t) xs [v]
  | .row i, v => (∃ a n c, v = .slice a n c) ∧ ∃ sz n, L[i]? = some (.row v sz n)
  | .win i lo hi, v => ∃ u sz n, L[i]? = some (.row u sz n) ∧ isWin u sz lo hi v
  | .ptrB i o, v => ∃ g q, L[i]? = some (.box g q) ∧ v = .pointer (some ⟨g, q + o, none⟩)
  | .ptrE i k o, v => ∃ g n c sz m, L[i]? = some (.row (.slice (some ⟨g, 0, none⟩) n c) sz m) ∧ k < n ∧ v = .pointer (some ⟨g, k * sz + o, none⟩)
  | .ptrZ t x o, v => ∃ g q es, v = .pointer (some ⟨g, q + o, none⟩) ∧ Z g ∧ CellsAt w g q es ∧ Rd w Z t x es
  | .fn f bs, v => ∃ caps : Array Value, v = .func (.func f) #[] caps ∧ areBoxes L bs caps.toList
  | .nils, v => v = .slice none 0 0
  | .nilp, v => v = .pointer none
  | .nilf, v => v = .nilFunc
  | .ifc b, v => (b = true → v = .nilIface) ∧ (b = false → ∃ t x, v = .iface t x)

theorem CSim.oneCell {w : World} {Z : Nat → Prop} {L : List Loc} : ∀ {c : Cell} {v : Value}, CSim w Z L c v → v.oneCell' = true
  | .undef, _, h => h
  | .int _ _, _, h | .bool _, _, h | .str _, _, h | .nils, _, h | .nilp, _, h | .nilf, _, h => by simp only [CSim] at h; rw [h]; rfl
  | .sl _ _, _, h => by
    obtain ⟨a, n, c, h, _⟩ := h
    simp only [List.cons.injEq, and_true] at h
    rw [h]; rfl
  | .row _, _, h => by obtain ⟨⟨a, n, c, rfl⟩, _⟩ := h; rfl
  | .win _ _ _, _, h => by
    obtain ⟨u, sz, n, _, h⟩ := h
    rcases h with ⟨_, rfl, _⟩ | ⟨g, n, c, _, _, _, _, rfl⟩ <;> rfl
  | .ptrB _ _, _, h => by obtain ⟨g, q, _, rfl⟩ := h; rfl
  | .ptrE _ _ _, _, h => by obtain ⟨g, n, c, sz, m, _, _, rfl⟩ := h; rfl
  | .ptrZ _ _ _, _, h => by obtain ⟨g, q, es, rfl, _⟩ := h; rfl
  | .fn _ _, _, h => by obtain ⟨caps, rfl, _⟩ := h; rfl
  | .ifc b, v, h => by
    cases b
    · obtain ⟨t, x, rfl⟩ := h.2 rfl; rfl
    · rw [h.1 rfl]; rfl

def CsSim (w : World) (Z : Nat → Prop) (L : List Loc) : List Cell → List Value → Prop
  | [], [] => True
  | c :: cs, v :: vs => CSim w Z L c v ∧ CsSim w Z L cs vs
  | _, _ => False

def PSim (w : World) (Z : Nat → Prop) (L : List Loc) (p : Bool × List Cell) (v : Value) : Prop := match p.1 with
  | true => ∃ vs : Array Value, v = .agg vs ∧ CsSim w Z L p.2 vs.toList
  | false => CsSim w Z L p.2 [v]
def PsSim (w : World) (Z : Nat → Prop) (L : List Loc) : List (Bool × List Cell) → List Value → Prop
  | [], [] => True
  | p :: ps, v :: vs => PSim w Z L p v ∧ PsSim w Z L ps vs
  | _, _ => False

def ESim (w : World) (Z : Nat → Prop) (L : List Loc) : Ent → Value → Prop
  | .undef, _ => True
  | .one c, v => CSim w Z L c v
  | .agg cs, v => ∃ vs : Array Value, v = .agg vs ∧ CsSim w Z L cs vs.toList
  | .tup es, v => ∃ vs : Array Value, v = .tuple vs ∧ PsSim w Z L es vs.toList

def EsSim (w : World) (Z : Nat → Prop) (L : List Loc) : List Ent → List Value → Prop
  | [], [] => True
  | c :: cs, v :: vs => ESim w Z L c v ∧ EsSim w Z L cs vs
  | _, _ => False

/-- Variables in memory. -/
def BoxAt (w : World) (g q : Nat) (vs : List Value) : Prop :=
  ∃ cur e, w.heap[g]? = some (.cells cur e (0, 0)) ∧ q + vs.length ≤ cur.size ∧ ∀ j v, vs[j]? = some v → cur[q + j]? = some v

/-- A row's cells, element by element. -/
def RowRd (w : World) (Z : Nat → Prop) (t : Ty) (xs : List t.den) (es : List Value) : Prop :=
  ∀ i x, xs[i]? = some x → Rd w Z t x ((es.drop (i * t.size)).take t.size)

def OSim (w : World) (Z : Nat → Prop) (L : List Loc) : Ob → Loc → Prop
  | .dead, _ => True
  | .box cs, l => ∃ g q vs, l = .box g q ∧ CsSim w Z L cs vs ∧ BoxAt w g q vs
  | .row e t xs, l => ∃ v es, l = .row v t.size xs.length ∧ 0 < t.size ∧ w.ownsRow 0 e t.size v xs.length es ∧ RowRd w Z t xs es
  | .hole e t xs k, l => ∃ g c cur, l = .row (.slice (some ⟨g, 0, none⟩) xs.length c) t.size xs.length ∧ 0 < t.size ∧ k < xs.length ∧
      w.heap[g]? = some (.cells cur e (0, 0)) ∧ xs.length ≤ c ∧ c ≤ maxLen ∧ cur.size = c * t.size ∧
      ∀ i x, i ≠ k → xs[i]? = some x → ∃ es : List Value, es.length = t.size ∧ (∀ j u, es[j]? = some u → cur[i * t.size + j]? = some u) ∧ Rd w Z t x es

/-- The cells of memory that are an object's. -/
def foot : Ob → Loc → Nat → Nat → Prop
  | .box cs, .box g q => fun b o => b = g ∧ q ≤ o ∧ o < q + cs.length
  | .row _ _ _, .row v _ _ => fun b _ => v.ownBlock = some b
  | .hole _ _ _ k, .row v sz _ => fun b o => v.ownBlock = some b ∧ ¬ (k * sz ≤ o ∧ o < k * sz + sz)
  | _, _ => fun _ _ => False

/-- All objects are where they are said to be, each for itself. -/
structure Sims (w : World) (Z : Nat → Prop) (L : List Loc) (os : List Ob) : Prop where
  len : L.length = os.length
  ob : ∀ (i : Nat) (o : Ob) (l : Loc), os[i]? = some o → L[i]? = some l → OSim w Z L o l
  sep : ∀ (i j : Nat) (o : Ob) (l : Loc) (o' : Ob) (l' : Loc), os[i]? = some o → L[i]? = some l → os[j]? = some o' → L[j]? = some l' → i ≠ j → ∀ b q, foot o l b q → foot o' l' b q → False
  zap : ∀ (i : Nat) (o : Ob) (l : Loc), os[i]? = some o → L[i]? = some l → ∀ b q, foot o l b q → Z b → False
  zin : ∀ b, Z b → b < w.heap.size

/-- But for the cells of F the memory that was there is as it was. -/
structure Keeps (W : World) (F : Nat → Nat → Prop) (w : World) : Prop where
  os : w.os = W.os
  tape : w.tape = W.tape
  output : w.output = W.output
  size : W.heap.size ≤ w.heap.size
  block : ∀ b, b < W.heap.size → w.heap[b]? = W.heap[b]? ∨
    ∃ c c' e z, W.heap[b]? = some (.cells c e z) ∧ w.heap[b]? = some (.cells c' e z) ∧ c'.size = c.size ∧ ∀ o, ¬ F b o → c'[o]? = c[o]?

theorem Keeps.refl (W : World) (F : Nat → Nat → Prop) : Keeps W F W := ⟨rfl, rfl, rfl, Nat.le_refl _, fun _ _ => .inl rfl⟩
theorem Keeps.trans {a b c : World} {F : Nat → Nat → Prop} (h : Keeps a F b) (k : Keeps b F c) : Keeps a F c := by
  refine ⟨k.os.trans h.os, k.tape.trans h.tape, k.output.trans h.output, Nat.le_trans h.size k.size, fun i hi => ?_⟩
  rcases k.block i (Nat.lt_of_lt_of_le hi h.size) with k1 | ⟨x, x', e, z, k1, k2, k3, k4⟩
  · rcases h.block i hi with h1 | ⟨y, y', e', z', h1, h2, h3, h4⟩
    · exact .inl (k1.trans h1)
    · exact .inr ⟨y, y', e', z', h1, k1.trans h2, h3, h4⟩
  · rcases h.block i hi with h1 | ⟨y, y', e', z', h1, h2, h3, h4⟩
    · exact .inr ⟨x, x', e, z, h1 ▸ k1, k2, k3, k4⟩
    · rw [k1] at h2
      simp only [Option.some.injEq, Obj.cells.injEq] at h2
      obtain ⟨rfl, rfl, rfl⟩ := h2
      exact .inr ⟨y, x', _, _, h1, k2, k3.trans h3, fun o ho => (k4 o ho).trans (h4 o ho)⟩
theorem Keeps.mono {a b : World} {F G : Nat → Nat → Prop} (h : Keeps a F b) (hg : ∀ i o, i < a.heap.size → F i o → G i o) : Keeps a G b := by
  refine ⟨h.os, h.tape, h.output, h.size, fun i hi => ?_⟩
  rcases h.block i hi with h1 | ⟨y, y', e', z', h1, h2, h3, h4⟩
  · exact .inl h1
  · exact .inr ⟨y, y', e', z', h1, h2, h3, fun o ho => h4 o fun hf => ho (hg i o hi hf)⟩
/-- A block of which no cell is F's. -/
theorem Keeps.same {a b : World} {F : Nat → Nat → Prop} (h : Keeps a F b) {i : Nat} (hi : i < a.heap.size) (hf : ∀ o, ¬ F i o) : b.heap[i]? = a.heap[i]? := by
  rcases h.block i hi with h1 | ⟨y, y', e', z', h1, h2, h3, h4⟩
  · exact h1
  · rw [h1, h2]
    have : y' = y := Array.ext_getElem? fun o => h4 o (hf o)
    rw [this]
theorem Keeps.drew (W : World) (F : Nat → Nat → Prop) : Keeps W F W.drew := ⟨rfl, rfl, rfl, Nat.le_refl _, fun _ _ => .inl rfl⟩
theorem Keeps.alloc (W : World) (F : Nat → Nat → Prop) (o : Obj) : Keeps W F (W.alloc o) :=
  ⟨rfl, rfl, rfl, by simp, fun k hk => .inl (RowKit.Below.heap_alloc W o k hk)⟩

/-- More is known of where things lie. -/
def Grows (L L' : List Loc) : Prop := ∀ (i : Nat) (l : Loc), L[i]? = some l → L'[i]? = some l
theorem Grows.refl (L : List Loc) : Grows L L := fun _ _ h => h
theorem Grows.trans {A B C : List Loc} (h : Grows A B) (k : Grows B C) : Grows A C := fun i l hi => k i l (h i l hi)
theorem Grows.append (L M : List Loc) : Grows L (L ++ M) := fun i l h => by
  rw [List.getElem?_append_left]
  · exact h
  · exact (List.getElem?_eq_some_iff.1 h).1

section mono
variable {w w' : World} {Z Z' : Nat → Prop} {L L' : List Loc} (hw : ∀ b, Z b → w'.heap[b]? = w.heap[b]?) (hz : ∀ b, Z b → Z' b) (hl : Grows L L')

theorem areBoxes.mono (hl : Grows L L') : ∀ {bs : List Nat} {vs : List Value}, areBoxes L bs vs → areBoxes L' bs vs
  | [], [], _ => trivial
  | [], _ :: _, h => h.elim
  | _ :: _, [], h => h.elim
  | b :: bs, v :: vs, ⟨⟨g, q, h1, h2⟩, h3⟩ => ⟨⟨g, q, hl _ _ h1, h2⟩, areBoxes.mono hl h3⟩

include hw hz hl in
theorem CSim.mono : ∀ {c : Cell} {v : Value}, CSim w Z L c v → CSim w' Z' L' c v
  | .undef, _, h | .int _ _, _, h | .bool _, _, h | .str _, _, h | .nils, _, h | .nilp, _, h | .nilf, _, h | .ifc _, _, h => h
  | .sl _ _, _, h => Rd.mono hw hz h
  | .row _, _, ⟨h, sz, n, h1⟩ => ⟨h, sz, n, hl _ _ h1⟩
  | .win _ _ _, _, ⟨u, sz, n, h1, h2⟩ => ⟨u, sz, n, hl _ _ h1, h2⟩
  | .ptrB _ _, _, ⟨g, q, h1, h2⟩ => ⟨g, q, hl _ _ h1, h2⟩
  | .ptrE _ _ _, _, ⟨g, n, c, sz, m, h1, h2⟩ => ⟨g, n, c, sz, m, hl _ _ h1, h2⟩
  | .ptrZ _ _ _, _, ⟨g, q, es, h1, h2, h3, h4⟩ => ⟨g, q, es, h1, hz _ h2, fun j u hj => by
      rw [← h3 j u hj]
      exact World.cell?_of_block (w := w) (w' := w') (hw _ h2), Rd.mono hw hz h4⟩
  | .fn _ _, _, ⟨caps, h1, h2⟩ => ⟨caps, h1, areBoxes.mono hl h2⟩

include hw hz hl in
theorem CsSim.mono : ∀ {cs : List Cell} {vs : List Value}, CsSim w Z L cs vs → CsSim w' Z' L' cs vs
  | [], [], _ => trivial
  | [], _ :: _, h => h.elim
  | _ :: _, [], h => h.elim
  | _ :: _, _ :: _, ⟨h1, h2⟩ => ⟨CSim.mono hw hz hl h1, CsSim.mono h2⟩
include hw hz hl in
theorem PSim.mono {p : Bool × List Cell} {v : Value} (h : PSim w Z L p v) : PSim w' Z' L' p v := by
  obtain ⟨a, cs⟩ := p
  cases a
  · exact CsSim.mono hw hz hl h
  · obtain ⟨vs, h1, h2⟩ := h
    exact ⟨vs, h1, CsSim.mono hw hz hl h2⟩
include hw hz hl in
theorem PsSim.mono : ∀ {ps : List (Bool × List Cell)} {vs : List Value}, PsSim w Z L ps vs → PsSim w' Z' L' ps vs
  | [], [], _ => trivial
  | [], _ :: _, h => h.elim
  | _ :: _, [], h => h.elim
  | _ :: _, _ :: _, ⟨h1, h2⟩ => ⟨PSim.mono hw hz hl h1, PsSim.mono h2⟩
include hw hz hl in
theorem ESim.mono : ∀ {e : Ent} {v : Value}, ESim w Z L e v → ESim w' Z' L' e v
  | .undef, _, _ => trivial
  | .one _, _, h => CSim.mono hw hz hl h
  | .agg _, _, ⟨vs, h1, h2⟩ => ⟨vs, h1, CsSim.mono hw hz hl h2⟩
  | .tup _, _, ⟨vs, h1, h2⟩ => ⟨vs, h1, PsSim.mono hw hz hl h2⟩
include hw hz hl in
theorem EsSim.mono : ∀ {es : List Ent} {vs : List Value}, EsSim w Z L es vs → EsSim w' Z' L' es vs
  | [], [], _ => trivial
  | [], _ :: _, h => h.elim
  | _ :: _, [], h => h.elim
  | _ :: _, _ :: _, ⟨h1, h2⟩ => ⟨ESim.mono hw hz hl h1, EsSim.mono h2⟩
include hw hz in
theorem RowRd.mono {t : Ty} {xs : List t.den} {es : List Value} (h : RowRd w Z t xs es) : RowRd w' Z' t xs es :=
  fun i x hi => Rd.mono hw hz (h i x hi)
end mono

theorem CsSim.length {w : World} {Z : Nat → Prop} {L : List Loc} : ∀ {cs : List Cell} {vs : List Value}, CsSim w Z L cs vs → vs.length = cs.length
  | [], [], _ => rfl
  | [], _ :: _, h => h.elim
  | _ :: _, [], h => h.elim
  | _ :: _, _ :: _, ⟨_, h2⟩ => by simp [CsSim.length h2]

/-- An object of which no cell has been written is as it was. -/
theorem OSim.kept {w w' : World} {Z Z' : Nat → Prop} {L L' : List Loc} {F : Nat → Nat → Prop} (hw : ∀ b, Z b → w'.heap[b]? = w.heap[b]?) (hz : ∀ b, Z b → Z' b) (hl : Grows L L')
    (hk : Keeps w F w') {o : Ob} {l : Loc} (hf : ∀ b q, foot o l b q → ¬ F b q) (h : OSim w Z L o l) : OSim w' Z' L' o l := by
  cases o with
  | dead => trivial
  | box cs =>
    obtain ⟨g, q, vs, rfl, h1, cur, e, h2, h3, h4⟩ := h
    have hlen := CsSim.length h1
    refine ⟨g, q, vs, rfl, CsSim.mono hw hz hl h1, ?_⟩
    rcases hk.block g (Array.getElem?_eq_some_iff.1 h2).1 with k | ⟨c, c', e', z, k1, k2, k3, k4⟩
    · exact ⟨cur, e, k.trans h2, h3, h4⟩
    · rw [h2] at k1
      simp only [Option.some.injEq, Obj.cells.injEq] at k1
      obtain ⟨rfl, rfl, rfl⟩ := k1
      refine ⟨c', _, k2, k3 ▸ h3, fun j v hj => ?_⟩
      have hjl := (List.getElem?_eq_some_iff.1 hj).1
      rw [k4 (q + j) (hf g (q + j) ⟨rfl, by omega, by omega⟩)]
      exact h4 j v hj
  | row e t xs =>
    obtain ⟨v, es, rfl, h1, h2, h3⟩ := h
    refine ⟨v, es, rfl, h1, ?_, RowRd.mono hw hz h3⟩
    refine ⟨h2.1, ?_⟩
    rcases h2.2 with hn | ⟨g, cap, cur, rfl, hb, hgg, rest⟩
    · exact .inl hn
    · refine .inr ⟨g, cap, cur, rfl, hb, ?_, rest⟩
      rw [hk.same (Array.getElem?_eq_some_iff.1 hgg).1 fun o => hf g o rfl]
      exact hgg
  | hole e t xs k =>
    obtain ⟨g, c, cur, rfl, h1, h2, h3, h4, h5, h6, h7⟩ := h
    rcases hk.block g (Array.getElem?_eq_some_iff.1 h3).1 with k0 | ⟨c0, c', e', z, k1, k2, k3, k4⟩
    · exact ⟨g, c, cur, rfl, h1, h2, k0.trans h3, h4, h5, h6, fun i x hi hx => by
        obtain ⟨es, a1, a2, a3⟩ := h7 i x hi hx
        exact ⟨es, a1, a2, Rd.mono hw hz a3⟩⟩
    · rw [h3] at k1
      simp only [Option.some.injEq, Obj.cells.injEq] at k1
      obtain ⟨rfl, rfl, rfl⟩ := k1
      refine ⟨g, c, c', rfl, h1, h2, k2, h4, h5, k3.trans h6, fun i x hi hx => ?_⟩
      obtain ⟨es, a1, a2, a3⟩ := h7 i x hi hx
      refine ⟨es, a1, fun j u hj => ?_, Rd.mono hw hz a3⟩
      have hjl := (List.getElem?_eq_some_iff.1 hj).1
      rw [k4 (i * t.size + j) (hf g (i * t.size + j) ⟨rfl, fun hc => ?_⟩)]
      · exact a2 j u hj
      · rcases Nat.lt_or_gt_of_ne hi with hlt | hgt
        · have := Nat.mul_le_mul_right t.size (show i + 1 ≤ k by omega)
          rw [Nat.add_mul] at this
          omega
        · have := Nat.mul_le_mul_right t.size (show k + 1 ≤ i by omega)
          rw [Nat.add_mul] at this
          omega

theorem foot_lt {w : World} {Z : Nat → Prop} {L : List Loc} {o : Ob} {l : Loc} (h : OSim w Z L o l) {b q : Nat} (hf : foot o l b q) : b < w.heap.size := by
  cases o with
  | dead => cases hf
  | box cs =>
    obtain ⟨g, q', vs, rfl, h1, cur, e, h2, h3, h4⟩ := h
    obtain ⟨rfl, _⟩ := hf
    exact (Array.getElem?_eq_some_iff.1 h2).1
  | row e t xs =>
    obtain ⟨v, es, rfl, h1, h2, h3⟩ := h
    exact (h2.lt b hf).2
  | hole e t xs k =>
    obtain ⟨g, c, cur, rfl, h1, h2, h3, h4, h5, h6, h7⟩ := h
    have : g = b := by simpa [foot, Value.ownBlock] using hf.1
    subst this
    exact (Array.getElem?_eq_some_iff.1 h3).1

/-- Some objects (those of D) and some memory (that of F) change; the others stay. -/
theorem Sims.update {w w' : World} {Z Z' : Nat → Prop} {L L' : List Loc} {os os' : List Ob} (h : Sims w Z L os) (F : Nat → Nat → Prop) (D : Nat → Prop)
    (hk : Keeps w F w') (hfz : ∀ b q, F b q → Z b → False) (hz : ∀ b, Z b → Z' b) (hl : Grows L L') (hlen : L'.length = os'.length)
    (hold : ∀ i : Nat, ¬ D i → i < os'.length → os'[i]? = os[i]?)
    (hF : ∀ (i : Nat) (o : Ob) (l : Loc), ¬ D i → os[i]? = some o → L[i]? = some l → ∀ b q, foot o l b q → ¬ F b q)
    (hD : ∀ (i : Nat) (o : Ob) (l : Loc), D i → os'[i]? = some o → L'[i]? = some l → OSim w' Z' L' o l)
    (hDf : ∀ (i : Nat) (o : Ob) (l : Loc), D i → os'[i]? = some o → L'[i]? = some l → ∀ b q, foot o l b q → w.heap.size ≤ b ∨ F b q)
    (hDs : ∀ (i j : Nat) (o : Ob) (l : Loc) (o' : Ob) (l' : Loc), D i → D j → os'[i]? = some o → L'[i]? = some l → os'[j]? = some o' → L'[j]? = some l' → i ≠ j → ∀ b q, foot o l b q → foot o' l' b q → False)
    (hDz : ∀ (i : Nat) (o : Ob) (l : Loc), D i → os'[i]? = some o → L'[i]? = some l → ∀ b q, foot o l b q → Z' b → False)
    (hZ : ∀ b, Z' b → Z b ∨ (w.heap.size ≤ b ∧ b < w'.heap.size) ∨ ∀ q, F b q)
    (hZin : ∀ b, Z' b → b < w'.heap.size) : Sims w' Z' L' os' := by
  have hw : ∀ b, Z b → w'.heap[b]? = w.heap[b]? := fun b hb => hk.same (h.zin b hb) fun o ho => hfz b o ho hb
  have old : ∀ (i : Nat) (o : Ob) (l : Loc), ¬ D i → os'[i]? = some o → L'[i]? = some l → os[i]? = some o ∧ L[i]? = some l := by
    intro i o l hi ho hl'
    have hil := (List.getElem?_eq_some_iff.1 ho).1
    have ho' := (hold i hi hil) ▸ ho
    have hiL : i < L.length := by rw [h.len]; exact (List.getElem?_eq_some_iff.1 ho').1
    have hLi := List.getElem?_eq_getElem hiL
    have := hl i _ hLi
    rw [hl'] at this
    simp only [Option.some.injEq] at this
    exact ⟨ho', this ▸ hLi⟩
  refine ⟨hlen, fun i o l ho hl' => ?_, fun i j o l o' l' ho hl1 ho' hl2 hij b q f1 f2 => ?_, fun i o l ho hl' b q hf hb => ?_, hZin⟩
  · by_cases hi : D i
    · exact hD i o l hi ho hl'
    · obtain ⟨a1, a2⟩ := old i o l hi ho hl'
      exact OSim.kept hw hz hl hk (hF i o l hi a1 a2) (h.ob i o l a1 a2)
  · by_cases hi : D i
    · by_cases hj : D j
      · exact hDs i j o l o' l' hi hj ho hl1 ho' hl2 hij b q f1 f2
      · obtain ⟨a1, a2⟩ := old j o' l' hj ho' hl2
        have hlt := foot_lt (h.ob j o' l' a1 a2) f2
        rcases hDf i o l hi ho hl1 b q f1 with hx | hx
        · omega
        · exact hF j o' l' hj a1 a2 b q f2 hx
    · obtain ⟨a1, a2⟩ := old i o l hi ho hl1
      by_cases hj : D j
      · have hlt := foot_lt (h.ob i o l a1 a2) f1
        rcases hDf j o' l' hj ho' hl2 b q f2 with hx | hx
        · omega
        · exact hF i o l hi a1 a2 b q f1 hx
      · obtain ⟨b1, b2⟩ := old j o' l' hj ho' hl2
        exact h.sep i j o l o' l' a1 a2 b1 b2 hij b q f1 f2
  · by_cases hi : D i
    · exact hDz i o l hi ho hl' b q hf hb
    · obtain ⟨a1, a2⟩ := old i o l hi ho hl'
      have hlt := foot_lt (h.ob i o l a1 a2) hf
      rcases hZ b hb with hx | hx | hx
      · exact h.zap i o l a1 a2 b q hf hx
      · omega
      · exact hF i o l hi a1 a2 b q hf (hx q)
end Go.Ry
