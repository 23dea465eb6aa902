/- The evaluator is right: types, lists of cells, what is read. No condition. -/
import Derived.Test.YtlphiljackccnaaRy5
set_option linter.unusedVariables false
set_option linter.unusedSimpArgs false
namespace Go.Ry

/-! ### types -/
def zeroEq : List Cell → List Value → Bool
  | [], [] => true
  | c :: cs, v :: vs => (match c, v with
    | .int k n, .int l m => k == l && n == m
    | .bool a, .bool b => a == b
    | .str s, .string t => s.data.size == 0 && t.data.size == 0
    | .nils, .slice none 0 0 => true
    | .nilp, .pointer none => true
    | .nilf, .nilFunc => true
    | .ifc true, .nilIface => true
    | _, _ => false) && zeroEq cs vs
  | _, _ => false
def fieldsEq : List (Nat × Nat) → List Field → Bool
  | [], [] => true
  | p :: ps, f :: fs => (p.1 == f.offset && p.2 == f.type) && fieldsEq ps fs
  | _, _ => false
def kindOk (te : TE) : TypeDesc → Bool
  | .int k => match te.kind with
    | .int l => k == l && !te.agg
    | _ => false
  | .bool => match te.kind with
    | .bool => !te.agg
    | _ => false
  | .string => match te.kind with
    | .str => !te.agg
    | _ => false
  | .slice e => match te.kind with
    | .slice => e == te.elem && !te.agg
    | _ => false
  | .struct fs => match te.kind with
    | .struct => te.agg && fieldsEq te.flds fs.toList
    | _ => false
  | .array n e => match te.kind with
    | .array m => te.agg && (n == m && e == te.elem)
    | _ => false
  | .pointer _ => match te.kind with
    | .pointer => !te.agg
    | _ => false
  | .func _ _ _ => match te.kind with
    | .func => !te.agg
    | _ => false
  | .interface ms => match te.kind with
    | .iface b => ms.isEmpty == b && !te.agg
    | _ => false
  | _ => match te.kind with
    | .other => !te.agg
    | _ => false
/-- The zero value of a type that is told is that of the plain type. -/
def zeroIs : Ty → List Cell → Option (List Cell)
  | .unit, cs => some cs
  | .int k, .int l 0 :: cs => if l = k then some cs else none
  | .bool, .bool false :: cs => some cs
  | .str, .str s :: cs => if s.data.size = 0 then some cs else none
  | .slice _, .nils :: cs => some cs
  | .pair a b, cs => match zeroIs a cs with
    | some cs => zeroIs b cs
    | none => none
  | _, _ => none
def teOk (P : Program) (t : Nat) (te : TE) : Bool := match P.info? t, P.underlying t with
  | some i, some d => i.size == te.size && (i.bytes == te.bytes && (kindOk te d && ((te.agg || te.size == 1) && ((te.size == 0 || Nat.blt 0 te.bytes) && ((match i.zero with
      | some z => zeroEq te.zero z.cells.toList
      | none => false) && (!te.told || (te.ty.size == te.size && (match zeroIs te.ty te.zero with
      | some [] => true
      | _ => false))))))))
  | _, _ => false
def tabOk (P : Program) : Tab → Bool
  | [] => true
  | (t, te) :: T => teOk P t te && tabOk P T

theorem tabOk_look {P : Program} : ∀ {T : Tab} {t : Nat} {te : TE}, tabOk P T = true → look T t = some te → teOk P t te = true
  | [], _, _, _, h => by simp [look] at h
  | (u, ue) :: T, t, te, h, hl => by
    simp only [tabOk, Bool.and_eq_true] at h
    simp only [look, cond_eq_ite] at hl
    split at hl
    · rename_i hu
      simp only [beq_iff_eq] at hu
      simp only [Option.some.injEq] at hl
      rw [← hu, ← hl]; exact h.1
    · exact tabOk_look h.2 hl

structure TEFacts (P : Program) (t : Nat) (te : TE) (i : TypeInfo) (d : TypeDesc) (z : Value) : Prop where
  info : P.info? t = some i
  under : P.underlying t = some d
  size : i.size = te.size
  bytes : i.bytes = te.bytes
  kind : kindOk te d = true
  one : te.agg = true ∨ te.size = 1
  pos : te.size = 0 ∨ 0 < te.bytes
  zero : i.zero = some z
  zeroEq : zeroEq te.zero z.cells.toList = true
  told : te.told = true → te.ty.size = te.size ∧ zeroIs te.ty te.zero = some []

theorem teFacts {P : Program} {t : Nat} {te : TE} (h : teOk P t te = true) : ∃ i d z, TEFacts P t te i d z := by
  unfold teOk at h
  split at h
  · rename_i i d hi hd
    simp only [Bool.and_eq_true, Bool.or_eq_true, beq_iff_eq] at h
    obtain ⟨h1, h2, h3, h4, h5, h6, h7⟩ := h
    split at h6
    · rename_i z hz
      refine ⟨i, d, z, hi, hd, h1, h2, h3, h4, ?_, hz, h6, fun ht => ?_⟩
      · simpa using h5
      · rw [ht] at h7
        simp only [Bool.not_true, Bool.false_eq_true, false_or] at h7
        refine ⟨h7.1, ?_⟩
        have h8 := h7.2
        split at h8
        · assumption
        · simp at h8
    · simp at h6
  · simp at h

theorem zeroEq_sim (w : World) (Z : Nat → Prop) (L : List Loc) : ∀ {cs : List Cell} {vs : List Value}, zeroEq cs vs = true → CsSim w Z L cs vs
  | [], [], _ => trivial
  | [], _ :: _, h => by simp [zeroEq] at h
  | _ :: _, [], h => by simp [zeroEq] at h
  | c :: cs, v :: vs, h => by
    simp only [zeroEq, Bool.and_eq_true] at h
    refine ⟨?_, zeroEq_sim w Z L h.2⟩
    have h1 := h.1
    split at h1
    · simp only [Bool.and_eq_true, beq_iff_eq] at h1
      obtain ⟨rfl, rfl⟩ := h1; rfl
    · simp only [beq_iff_eq] at h1; rw [h1]; rfl
    · rename_i s t
      simp only [Bool.and_eq_true, beq_iff_eq] at h1
      have : s = t := by
        cases s; cases t
        simp only [Array.size_eq_zero_iff] at h1
        rw [h1.1, h1.2]
      rw [this]; rfl
    · rfl
    · rfl
    · rfl
    · exact ⟨fun _ => rfl, fun h => by simp at h⟩
    · simp at h1

/-! ### lists of cells -/
section
variable {w : World} {Z : Nat → Prop} {L : List Loc}

theorem CsSim.append : ∀ {cs ds : List Cell} {vs us : List Value}, CsSim w Z L cs vs → CsSim w Z L ds us → CsSim w Z L (cs ++ ds) (vs ++ us)
  | [], _, [], _, _, h => h
  | [], _, _ :: _, _, h, _ => h.elim
  | _ :: _, _, [], _, h, _ => h.elim
  | _ :: _, _, _ :: _, _, ⟨h1, h2⟩, h => ⟨h1, CsSim.append h2 h⟩
theorem CsSim.take : ∀ {n : Nat} {cs : List Cell} {vs : List Value}, CsSim w Z L cs vs → CsSim w Z L (cs.take n) (vs.take n)
  | 0, _, _, _ => by simp [CsSim]
  | _ + 1, [], [], _ => trivial
  | _ + 1, [], _ :: _, h => h.elim
  | _ + 1, _ :: _, [], h => h.elim
  | n + 1, _ :: _, _ :: _, ⟨h1, h2⟩ => ⟨h1, CsSim.take h2⟩
theorem CsSim.drop : ∀ {n : Nat} {cs : List Cell} {vs : List Value}, CsSim w Z L cs vs → CsSim w Z L (cs.drop n) (vs.drop n)
  | 0, _, _, h => h
  | _ + 1, [], [], _ => trivial
  | _ + 1, [], _ :: _, h => h.elim
  | _ + 1, _ :: _, [], h => h.elim
  | n + 1, _ :: _, _ :: _, ⟨h1, h2⟩ => CsSim.drop (n := n) h2
theorem CsSim.one {c : Cell} {v : Value} (h : CSim w Z L c v) : CsSim w Z L [c] [v] := ⟨h, trivial⟩
theorem CsSim.oneCell : ∀ {cs : List Cell} {vs : List Value}, CsSim w Z L cs vs → ∀ v ∈ vs, v.oneCell' = true
  | [], [], _, v, hv => by simp at hv
  | [], _ :: _, h, _, _ => h.elim
  | _ :: _, [], h, _, _ => h.elim
  | _ :: _, u :: us, ⟨h1, h2⟩, v, hv => by
    rcases List.mem_cons.1 hv with rfl | hv
    · exact CSim.oneCell h1
    · exact CsSim.oneCell h2 v hv
theorem CsSim.putAt : ∀ {o : Nat} {cs ds : List Cell} {vs us : List Value}, CsSim w Z L cs vs → CsSim w Z L ds us → o + ds.length ≤ cs.length →
    CsSim w Z L (putAt cs o ds) (vs.take o ++ us ++ vs.drop (o + us.length))
  | 0, cs, ds, vs, us, h, k, hl => by
    simp only [Ry.putAt, List.take_zero, List.nil_append, Nat.zero_add]
    rw [CsSim.length k]
    exact CsSim.append k (CsSim.drop h)
  | o + 1, [], ds, vs, us, h, k, hl => by simp at hl
  | o + 1, c :: cs, ds, [], us, h, k, hl => h.elim
  | o + 1, c :: cs, ds, v :: vs, us, ⟨h1, h2⟩, k, hl => by
    have ih := CsSim.putAt (o := o) h2 k (by simp at hl; omega)
    simp only [Ry.putAt, List.take_succ_cons, List.cons_append, Nat.succ_add, Nat.add_right_comm o 1, List.drop_succ_cons]
    exact ⟨h1, ih⟩
theorem putAt_length : ∀ {o : Nat} {cs ds : List Cell}, o + ds.length ≤ cs.length → (putAt cs o ds).length = cs.length
  | 0, cs, ds, h => by simp [Ry.putAt]; omega
  | o + 1, [], ds, h => by simp at h
  | o + 1, c :: cs, ds, h => by simp [Ry.putAt, putAt_length (o := o) (cs := cs) (ds := ds) (by simp at h; omega)]

/-- What reads as plain data stands for its cells. -/
theorem Rd.cells : ∀ {t : Ty} {x : t.den} {es : List Value}, Rd w Z t x es → CsSim w Z L (t.cells x) es
  | .unit, _, _, h => by simp only [Rd] at h; rw [h]; trivial
  | .int _, _, _, h => by simp only [Rd] at h; rw [h]; exact ⟨rfl, trivial⟩
  | .bool, _, _, h => by simp only [Rd] at h; rw [h]; exact ⟨rfl, trivial⟩
  | .str, _, _, h => by simp only [Rd] at h; rw [h]; exact ⟨rfl, trivial⟩
  | .pair a b, x, _, h => by
    obtain ⟨c1, c2, rfl, h1, h2⟩ := h
    exact CsSim.append (Rd.cells h1) (Rd.cells h2)
  | .slice t, x, _, h => by
    have h' := h
    obtain ⟨a, n, c, rfl, _⟩ := h
    exact ⟨h', trivial⟩

theorem castL_some {t u : Ty} {xs : List u.den} {ys : List t.den} (h : castL t ⟨u, xs⟩ = some ys) : ∃ e : u = t, e ▸ xs = ys := by
  unfold castL at h
  split at h
  · rename_i hh
    simp only [Option.some.injEq] at h
    exact ⟨Ty.eqb_eq hh, h⟩
  · simp at h

theorem readC_sim : ∀ {t : Ty} {cs : List Cell} {x : t.den} {r : List Cell} {vs : List Value}, readC t cs = some (x, r) → CsSim w Z L cs vs →
    ∃ us rs, vs = us ++ rs ∧ Rd w Z t x us ∧ CsSim w Z L r rs
  | .unit, cs, x, r, vs, h, hs => by
    simp only [readC, Option.some.injEq, Prod.mk.injEq] at h
    obtain ⟨_, rfl⟩ := h
    exact ⟨[], vs, rfl, rfl, hs⟩
  | .int k, cs, x, r, vs, h, hs => by
    simp only [readC] at h
    split at h
    · split at h
      · rename_i l n cs hl
        simp only [Option.some.injEq, Prod.mk.injEq] at h
        obtain ⟨rfl, rfl⟩ := h
        cases vs with
        | nil => exact hs.elim
        | cons v vs => subst hl; exact ⟨[v], vs, rfl, by rw [hs.1]; rfl, hs.2⟩
      · simp at h
    · simp at h
  | .bool, cs, x, r, vs, h, hs => by
    simp only [readC] at h
    split at h
    · simp only [Option.some.injEq, Prod.mk.injEq] at h
      obtain ⟨rfl, rfl⟩ := h
      cases vs with
      | nil => exact hs.elim
      | cons v vs => exact ⟨[v], vs, rfl, by rw [hs.1]; rfl, hs.2⟩
    · simp at h
  | .str, cs, x, r, vs, h, hs => by
    simp only [readC] at h
    split at h
    · simp only [Option.some.injEq, Prod.mk.injEq] at h
      obtain ⟨rfl, rfl⟩ := h
      cases vs with
      | nil => exact hs.elim
      | cons v vs => exact ⟨[v], vs, rfl, by rw [hs.1]; rfl, hs.2⟩
    · simp at h
  | .slice t, cs, x, r, vs, h, hs => by
    simp only [readC] at h
    split at h
    · rename_i u xs cs
      split at h
      · rename_i ys hy
        simp only [Option.some.injEq, Prod.mk.injEq] at h
        obtain ⟨rfl, rfl⟩ := h
        obtain ⟨rfl, rfl⟩ := castL_some hy
        cases vs with
        | nil => exact hs.elim
        | cons v vs => exact ⟨[v], vs, rfl, hs.1, hs.2⟩
      · simp at h
    · simp only [Option.some.injEq, Prod.mk.injEq] at h
      obtain ⟨rfl, rfl⟩ := h
      cases vs with
      | nil => exact hs.elim
      | cons v vs =>
        refine ⟨[v], vs, rfl, ?_, hs.2⟩
        rw [show v = .slice none 0 0 from hs.1]
        exact ⟨none, 0, 0, rfl, rfl, Nat.le_refl _, fun _ => rfl, fun ad h => by simp at h⟩
    · simp at h
  | .pair a b, cs, x, r, vs, h, hs => by
    simp only [readC] at h
    split at h
    · rename_i y cs1 hy
      split at h
      · rename_i z cs2 hz
        simp only [Option.some.injEq, Prod.mk.injEq] at h
        obtain ⟨rfl, rfl⟩ := h
        obtain ⟨us, rs, rfl, h1, h2⟩ := readC_sim hy hs
        obtain ⟨us', rs', rfl, h3, h4⟩ := readC_sim hz h2
        exact ⟨us ++ us', rs', by simp, ⟨us, us', rfl, h1, h3⟩, h4⟩
      · simp at h
    · simp at h

theorem readV_sim {t : Ty} {cs : List Cell} {x : t.den} {vs : List Value} (h : readV t cs = some x) (hs : CsSim w Z L cs vs) : Rd w Z t x vs := by
  unfold readV at h
  split at h
  · rename_i x' hx
    simp only [Option.some.injEq] at h
    subst h
    obtain ⟨us, rs, rfl, h1, h2⟩ := readC_sim hx hs
    cases rs with
    | nil => simpa using h1
    | cons _ _ => exact h2.elim
  · simp at h

theorem zeroIs_sim : ∀ {t : Ty} {cs r : List Cell} {vs : List Value}, zeroIs t cs = some r → CsSim w Z L cs vs → ∃ us rs, vs = us ++ rs ∧ Rd w Z t t.dflt us ∧ CsSim w Z L r rs
  | .unit, cs, r, vs, h, hs => by
    simp only [zeroIs, Option.some.injEq] at h
    subst h
    exact ⟨[], vs, rfl, rfl, hs⟩
  | .int k, cs, r, vs, h, hs => by
    cases cs with
    | nil => simp [zeroIs] at h
    | cons c cs =>
      cases vs with
      | nil => exact hs.elim
      | cons v vs =>
        cases c <;> try (simp [zeroIs] at h; done)
        rename_i l n
        by_cases hn : n = 0
        · subst hn
          simp only [zeroIs] at h
          split at h
          · rename_i hl
            simp only [Option.some.injEq] at h
            subst h; subst hl
            exact ⟨[v], vs, rfl, by rw [hs.1]; rfl, hs.2⟩
          · simp at h
        · unfold zeroIs at h
          split at h <;> simp_all
  | .bool, cs, r, vs, h, hs => by
    cases cs with
    | nil => simp [zeroIs] at h
    | cons c cs =>
      cases vs with
      | nil => exact hs.elim
      | cons v vs =>
        cases c <;> try (simp [zeroIs] at h; done)
        rename_i b
        cases b
        · simp only [zeroIs, Option.some.injEq] at h
          subst h
          exact ⟨[v], vs, rfl, by rw [hs.1]; rfl, hs.2⟩
        · simp [zeroIs] at h
  | .str, cs, r, vs, h, hs => by
    cases cs with
    | nil => simp [zeroIs] at h
    | cons c cs =>
      cases vs with
      | nil => exact hs.elim
      | cons v vs =>
        cases c <;> try (simp [zeroIs] at h; done)
        rename_i s
        simp only [zeroIs] at h
        split at h
        · rename_i hz
          simp only [Option.some.injEq] at h
          subst h
          refine ⟨[v], vs, rfl, ?_, hs.2⟩
          rw [hs.1]
          cases s
          simp only [Array.size_eq_zero_iff] at hz
          rw [hz]; rfl
        · simp at h
  | .slice t, cs, r, vs, h, hs => by
    cases cs with
    | nil => simp [zeroIs] at h
    | cons c cs =>
      cases vs with
      | nil => exact hs.elim
      | cons v vs =>
        cases c <;> try (simp [zeroIs] at h; done)
        simp only [zeroIs, Option.some.injEq] at h
        subst h
        refine ⟨[v], vs, rfl, ?_, hs.2⟩
        rw [show v = .slice none 0 0 from hs.1]
        exact ⟨none, 0, 0, rfl, rfl, Nat.le_refl _, fun _ => rfl, fun ad h => by simp at h⟩
  | .pair a b, cs, r, vs, h, hs => by
    simp only [zeroIs] at h
    split at h
    · rename_i cs1 h1
      obtain ⟨us, rs, rfl, h2, h3⟩ := zeroIs_sim h1 hs
      obtain ⟨us', rs', rfl, h4, h5⟩ := zeroIs_sim h h3
      exact ⟨us ++ us', rs', by simp, ⟨us, us', rfl, h2, h4⟩, h5⟩
    · simp at h
end
end Go.Ry
