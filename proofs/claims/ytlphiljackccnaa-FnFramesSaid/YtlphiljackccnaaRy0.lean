/- Typed values, what memory reads as: the ground of the evaluator. No condition. -/
import Derived.Laws.AppendOwn
import Derived.Below
import Derived.Tactics
import Derived.WalkKit
import Derived.KernelRfl
set_option linter.unusedVariables false
set_option linter.unusedSimpArgs false
namespace Go.Ry

/-- The types whose values are told as plain data. -/
inductive Ty where
  | unit
  | int (k : IntKind)
  | bool
  | str
  | slice (t : Ty)
  | pair (a b : Ty)

@[reducible] def Ty.den : Ty → Type
  | .unit => Unit
  | .int _ => Int
  | .bool => Bool
  | .str => ByteArray
  | .slice t => List t.den
  | .pair a b => a.den × b.den

def Ty.dflt : (t : Ty) → t.den
  | .unit => ()
  | .int _ => (0 : Int)
  | .bool => false
  | .str => (⟨#[]⟩ : ByteArray)
  | .slice _ => []
  | .pair a b => (a.dflt, b.dflt)

/-- How many cells a value has. -/
def Ty.size : Ty → Nat
  | .unit => 0
  | .int _ | .bool | .str | .slice _ => 1
  | .pair a b => a.size + b.size

def Ty.eqb : Ty → Ty → Bool
  | .unit, .unit => true
  | .int k, .int l => k == l
  | .bool, .bool => true
  | .str, .str => true
  | .slice t, .slice u => Ty.eqb t u
  | .pair a b, .pair c d => Ty.eqb a c && Ty.eqb b d
  | _, _ => false

theorem Ty.eqb_eq : ∀ {t u : Ty}, Ty.eqb t u = true → t = u
  | .unit, .unit, _ => rfl
  | .int k, .int l, h => by simp only [Ty.eqb, beq_iff_eq] at h; rw [h]
  | .bool, .bool, _ => rfl
  | .str, .str, _ => rfl
  | .slice t, .slice u, h => by rw [Ty.eqb_eq (t := t) (u := u) h]
  | .pair a b, .pair c d, h => by
    simp only [Ty.eqb, Bool.and_eq_true] at h
    rw [Ty.eqb_eq (t := a) (u := c) h.1, Ty.eqb_eq (t := b) (u := d) h.2]
  | .unit, .int _, h | .unit, .bool, h | .unit, .str, h | .unit, .slice _, h | .unit, .pair _ _, h
  | .int _, .unit, h | .int _, .bool, h | .int _, .str, h | .int _, .slice _, h | .int _, .pair _ _, h
  | .bool, .unit, h | .bool, .int _, h | .bool, .str, h | .bool, .slice _, h | .bool, .pair _ _, h
  | .str, .unit, h | .str, .int _, h | .str, .bool, h | .str, .slice _, h | .str, .pair _ _, h
  | .slice _, .unit, h | .slice _, .int _, h | .slice _, .bool, h | .slice _, .str, h | .slice _, .pair _ _, h
  | .pair _ _, .unit, h | .pair _ _, .int _, h | .pair _ _, .bool, h | .pair _ _, .str, h | .pair _ _, .slice _, h => by simp [Ty.eqb] at h

/-- Cells from address a on read as the list. -/
def CellsAt (w : World) (g o : Nat) (cs : List Value) : Prop := ∀ j u, cs[j]? = some u → w.cell? ⟨g, o + j, none⟩ = some u

/-- The list of cells reads as x; what it leads to lies in blocks of Z. -/
def Rd (w : World) (Z : Nat → Prop) : (t : Ty) → t.den → List Value → Prop
  | .unit, _, cs => cs = []
  | .int k, x, cs => cs = [.int k x]
  | .bool, x, cs => cs = [.bool x]
  | .str, x, cs => cs = [.string x]
  | .pair a b, x, cs => ∃ c1 c2, cs = c1 ++ c2 ∧ Rd w Z a x.1 c1 ∧ Rd w Z b x.2 c2
  | .slice t, xs, cs => ∃ (a : Option Addr) (n c : Nat), cs = [.slice a n c] ∧ n = xs.length ∧ n ≤ c ∧
      (a = none → n = 0) ∧
      (∀ ad, a = some ad → ∀ (i : Nat) (x : t.den), xs[i]? = some x → ad.spot = none ∧ Z ad.block ∧ ∃ es : List Value, es.length = t.size ∧ CellsAt w ad.block (ad.off + i * t.size) es ∧ Rd w Z t x es)

theorem Rd.length {w : World} {Z : Nat → Prop} : ∀ {t : Ty} {x : t.den} {cs : List Value}, Rd w Z t x cs → cs.length = t.size
  | .unit, _, _, h => by simp only [Rd] at h; rw [h]; rfl
  | .int _, _, _, h => by simp only [Rd] at h; rw [h]; rfl
  | .bool, _, _, h => by simp only [Rd] at h; rw [h]; rfl
  | .str, _, _, h => by simp only [Rd] at h; rw [h]; rfl
  | .slice _, _, _, h => by obtain ⟨a, n, c, h, _⟩ := h; rw [h]; rfl
  | .pair a b, x, _, h => by
    obtain ⟨c1, c2, rfl, h1, h2⟩ := h
    rw [List.length_append, Rd.length h1, Rd.length h2]; rfl

/-- What is read stays, where the blocks of Z stay. -/
theorem Rd.mono {w w' : World} {Z Z' : Nat → Prop} (hw : ∀ b, Z b → w'.heap[b]? = w.heap[b]?) (hz : ∀ b, Z b → Z' b) :
    ∀ {t : Ty} {x : t.den} {cs : List Value}, Rd w Z t x cs → Rd w' Z' t x cs
  | .unit, _, _, h => h
  | .int _, _, _, h => h
  | .bool, _, _, h => h
  | .str, _, _, h => h
  | .pair a b, x, _, h => by
    obtain ⟨c1, c2, e, h1, h2⟩ := h
    exact ⟨c1, c2, e, Rd.mono hw hz h1, Rd.mono hw hz h2⟩
  | .slice t, xs, _, h => by
    obtain ⟨a, n, c, e, hn, hc, h0, ha⟩ := h
    refine ⟨a, n, c, e, hn, hc, h0, fun ad had i x hi => ?_⟩
    obtain ⟨hs, hz1, es, hl, hat, hr⟩ := ha ad had i x hi
    refine ⟨hs, hz _ hz1, es, hl, fun j u hj => ?_, Rd.mono hw hz hr⟩
    rw [← hat j u hj]
    exact World.cell?_of_block (w := w) (w' := w') (hw _ hz1)
end Go.Ry
