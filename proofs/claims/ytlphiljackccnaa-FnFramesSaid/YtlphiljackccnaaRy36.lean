/- What is handed in reads as plain values. No condition. -/
import Derived.Test.YtlphiljackccnaaRy35
import Derived.ProofKit
import Derived.OpenShut
import Derived.ShutString
import Derived.ChangeOld
import Derived.Below
import Derived.SizedLaws
import Derived.ChangeArms
import Derived.ChangeAt
import Derived.Carry
set_option linter.unusedVariables false
set_option linter.unusedSimpArgs false
namespace Go.Ry
open Go.ChangeShapes Go.WideShapes Go.ChangeAt Go.RowKit

/-- Is this type, as the program has it, that of the plain values? A struct's fields are told one after the other. -/
def tyIs (P : Program) : Ty → Sum TypeId (List Field × Nat) → Bool
  | .int k, .inl t => match P.underlying t with
    | some (.int l) => k == l
    | _ => false
  | .bool, .inl t => match P.underlying t with
    | some .bool => true
    | _ => false
  | .str, .inl t => match P.underlying t with
    | some .string => true
    | _ => false
  | .slice u, .inl t => match P.underlying t with
    | some (.slice e) => P.cellsOf e == u.size && (Nat.blt 0 u.size && tyIs P u (.inl e))
    | _ => false
  | .pair a b, .inl t => match P.underlying t with
    | some (.struct fs) => match fs.toList with
      | f :: fs => P.cellsOf t == a.size + b.size && (f.offset == 0 && (P.cellsOf f.type == a.size && (tyIs P a (.inl f.type) && tyIs P b (.inr (fs, a.size)))))
      | [] => false
    | _ => false
  | .pair a b, .inr (f :: fs, off) => f.offset == off && (P.cellsOf f.type == a.size && (tyIs P a (.inl f.type) && tyIs P b (.inr (fs, off + a.size))))
  | .unit, .inr ([], _) => true
  | _, _ => false

/-- Numbers within their kinds, lists and strings of a length that a machine can hold. -/
def Ty.wf : (t : Ty) → t.den → Prop
  | .unit, _ => True
  | .int k, n => (Lit.int k n).wf = true
  | .bool, _ => True
  | .str, s => s.size ≤ maxLen
  | .slice t, xs => xs.length ≤ maxLen ∧ ∀ x, x ∈ xs → t.wf x
  | .pair a b, x => a.wf x.1 ∧ b.wf x.2

section
variable {H : Type} {enc : TypeId × Value → H} {P : Program} {w : World} {sp : Nat → Bool} {held : Bool}

theorem list_of {α : Type} {R : Nat → α → Prop} : ∀ (n : Nat), (∀ i, i < n → ∃ x, R i x) → ∃ xs : List α, xs.length = n ∧ ∀ (i : Nat) (x : α), xs[i]? = some x → R i x
  | 0, _ => ⟨[], rfl, fun i x h => by simp at h⟩
  | n + 1, h => by
    obtain ⟨xs, h1, h2⟩ := list_of n fun i hi => h i (by omega)
    obtain ⟨y, hy⟩ := h n (by omega)
    refine ⟨xs ++ [y], by simp [h1], fun i x hx => ?_⟩
    by_cases hi : i < n
    · rw [List.getElem?_append_left (by omega)] at hx
      exact h2 i x hx
    · have hin : i = n := by
        have := (List.getElem?_eq_some_iff.1 hx).1
        simp at this; omega
      subst hin
      rw [List.getElem?_append_right (by omega), h1, Nat.sub_self] at hx
      simp only [List.getElem?_cons_zero, Option.some.injEq] at hx
      exact hx ▸ hy

theorem trod_rd : ∀ (ty : Ty),
    (∀ (t fuel : Nat) (cs : List Value) (x : DataW H × List MemPlace), tyIs P ty (.inl t) = true → DataW.trod enc P w 0 sp held fuel t cs = some x → ∃ v : ty.den, Rd w (fun b => b < w.heap.size) ty v cs ∧ ty.wf v) ∧
    (∀ (fs : List Field) (off n : Nat) (cs : List Value), tyIs P ty (.inr (fs, off)) = true → (∀ (i : Nat) (f : Field), fs[i]? = some f → ∃ x : DataW H × List MemPlace, DataW.trod enc P w 0 sp held n f.type ((cs.drop f.offset).take (P.cellsOf f.type)) = some x) →
      off + ty.size = cs.length → ∃ v : ty.den, Rd w (fun b => b < w.heap.size) ty v (cs.drop off) ∧ ty.wf v)
  | .unit => by
    refine ⟨fun t fuel cs x h _ => by simp [tyIs] at h, fun fs off n cs h _ hl => ⟨(), ?_, trivial⟩⟩
    simp only [Ty.size, Nat.add_zero] at hl
    exact List.drop_eq_nil_of_le (by omega)
  | .int k => by
    refine ⟨fun t fuel cs x h hx => ?_, fun fs off n cs h => by simp [tyIs] at h⟩
    simp only [tyIs] at h
    split at h
    · rename_i l hu
      have : k = l := by simpa using h
      subst this
      obtain ⟨n, rfl, _, hw⟩ := DataW.trod_int hu hx
      exact ⟨n, rfl, hw⟩
    · simp at h
  | .bool => by
    refine ⟨fun t fuel cs x h hx => ?_, fun fs off n cs h => by simp [tyIs] at h⟩
    simp only [tyIs] at h
    split at h
    · rename_i hu
      obtain ⟨n, rfl, _⟩ := DataW.trod_bool hu hx
      exact ⟨n, rfl, trivial⟩
    · simp at h
  | .str => by
    refine ⟨fun t fuel cs x h hx => ?_, fun fs off n cs h => by simp [tyIs] at h⟩
    simp only [tyIs] at h
    split at h
    · rename_i hu
      obtain ⟨n, rfl, _, hw⟩ := DataW.trod_string hu hx
      exact ⟨n, rfl, hw⟩
    · simp at h
  | .slice u => by
    refine ⟨fun t fuel cs x h hx => ?_, fun fs off n cs h => by simp [tyIs] at h⟩
    simp only [tyIs] at h
    split at h
    · rename_i e hu
      simp only [Bool.and_eq_true, beq_iff_eq] at h
      obtain ⟨hc, hp, h⟩ := h
      have hp : 0 < u.size := Nat.le_of_ble_eq_true hp
      rcases DataW.trod_slice hu hx with ⟨rfl, _⟩ | ⟨a, len, cap, elems, rest, n, _, rfl, _, _, hl, hm, hlen, hel, _⟩
      · exact ⟨[], ⟨none, 0, 0, rfl, rfl, Nat.le_refl _, fun _ => rfl, fun ad h => by simp at h⟩, by simp [Ty.wf]⟩
      · have each : ∀ i, i < len → ∃ es y, w.cells? 0 (a.add (i * P.cellsOf e)) (P.cellsOf e) = some es ∧ DataW.trod enc P w 0 sp held n e es = some y := by
          intro i hi
          have he := hel i hi
          rw [List.getElem?_eq_getElem (by omega)] at he
          simp only [Option.bind_eq_some_iff] at he
          obtain ⟨es, e1, e2⟩ := he
          exact ⟨es, _, e1, e2⟩
        have hspot : 0 < len → a.spot = none := by
          intro h0
          obtain ⟨es, y, e1, _⟩ := each 0 h0
          obtain ⟨_, l1, l2⟩ := World.cells?_some e1
          have g0 := l2 0 (by omega)
          rw [List.getElem?_eq_getElem (by omega)] at g0
          have := World.cell?_spot g0
          simpa [Addr.add] using this
        obtain ⟨xs, h1, h2⟩ := list_of (R := fun i (x : u.den) => (a.spot = none ∧ a.block < w.heap.size ∧ ∃ es : List Value, es.length = u.size ∧ CellsAt w a.block (a.off + i * u.size) es ∧ Rd w (fun b => b < w.heap.size) u x es) ∧ u.wf x) len (fun i hi => by
          obtain ⟨es, y, e1, e2⟩ := each i hi
          obtain ⟨v, v1, v2⟩ := (trod_rd u).1 e n es _ h e2
          obtain ⟨_, l1, l2⟩ := World.cells?_some e1
          have hblk := World.cells?_block e1 (by omega)
          have hs := hspot (by omega)
          obtain ⟨b, off, spot⟩ := a
          simp only at hs
          subst hs
          refine ⟨v, ⟨rfl, by simpa [Addr.add_lit] using hblk, es, by omega, fun j y hj => ?_, v1⟩, v2⟩
          have hjl := (List.getElem?_eq_some_iff.1 hj).1
          have := l2 j (by omega)
          rw [Addr.add_lit, Addr.add_lit, hj, hc] at this
          exact this)
        exact ⟨xs, ⟨some a, len, cap, rfl, h1.symm, hl, fun h => by simp at h, fun ad had i x hi => by
          simp only [Option.some.injEq] at had
          subst had
          exact (h2 i x hi).1⟩, by
            refine ⟨by omega, fun x hx => ?_⟩
            obtain ⟨i, hi⟩ := List.getElem?_of_mem hx
            exact (h2 i x hi).2⟩
    · simp at h
  | .pair a b => by
    have step : ∀ (f : Field) (fs : List Field) (off n : Nat) (cs : List Value), f.offset = off → P.cellsOf f.type = a.size → tyIs P a (.inl f.type) = true → tyIs P b (.inr (fs, off + a.size)) = true →
        (∀ (i : Nat) (g : Field), (f :: fs)[i]? = some g → ∃ x : DataW H × List MemPlace, DataW.trod enc P w 0 sp held n g.type ((cs.drop g.offset).take (P.cellsOf g.type)) = some x) → off + (a.size + b.size) = cs.length →
        ∃ v : a.den × b.den, Rd w (fun b => b < w.heap.size) (.pair a b) v (cs.drop off) ∧ (Ty.pair a b).wf v := by
      intro f fs off n cs h1 h2 h3 h4 h5 h6
      obtain ⟨x, hx⟩ := h5 0 f rfl
      obtain ⟨v1, r1, w1⟩ := (trod_rd a).1 _ _ _ _ h3 hx
      obtain ⟨v2, r2, w2⟩ := (trod_rd b).2 fs (off + a.size) n cs h4 (fun i g hg => h5 (i + 1) g (by simpa using hg)) (by omega)
      refine ⟨(v1, v2), ⟨_, _, ?_, r1, r2⟩, w1, w2⟩
      rw [h1, h2, ← List.drop_drop, List.take_append_drop]
    refine ⟨fun t fuel cs x h hx => ?_, fun fs off n cs h h5 h6 => ?_⟩
    · simp only [tyIs] at h
      split at h
      · rename_i fs hu
        obtain ⟨xs, n, rfl, _, hl, hlen, hf⟩ := DataW.trod_struct hu hx
        split at h
        · rename_i f fs' hfs
          simp only [Bool.and_eq_true, beq_iff_eq] at h
          obtain ⟨h1, h2, h3, h4, h5⟩ := h
          have := step f fs' 0 n cs h2 h3 h4 (by simpa using h5) (fun i g hg => by
            have hg' : fs[i]? = some g := by rw [← Array.getElem?_toList, hfs]; exact hg
            have hi := (Array.getElem?_eq_some_iff.1 hg').1
            have := hf i g hg'
            rw [List.getElem?_eq_getElem (by omega)] at this
            exact ⟨_, this⟩) (by omega)
          simpa using this
        · simp at h
      · simp at h
    · cases fs with
      | nil => simp [tyIs] at h
      | cons f fs =>
        simp only [tyIs, Bool.and_eq_true, beq_iff_eq] at h
        obtain ⟨h1, h2, h3, h4⟩ := h
        exact step f fs off n cs h1 h2 h3 h4 h5 (by simpa [Ty.size] using h6)

/-- A value as it is handed in. -/
def tyEnt : (t : Ty) → t.den → Ent
  | .unit, x => .agg []
  | .pair a b, x => .agg ((Ty.pair a b).cells x)
  | .int k, x => .one (.int k x)
  | .bool, x => .one (.bool x)
  | .str, x => .one (.str x)
  | .slice t, x => .one (.sl t x)

theorem open_arg {r : Reach} {b0 : Nat} {ty : Ty} {t : TypeId} {v : Value} {d : DataW H} {ps : List MemPlace} (hty : tyIs P ty (.inl t) = true) (hval : Value.okWide P w r b0 t v) (hd : DataW.Trod enc P w 0 sp held t v d ps) :
    ∃ x : ty.den, ty.wf x ∧ ∀ L, ESim w (fun b => b < w.heap.size) L (tyEnt ty x) v := by
  obtain ⟨fuel, hf⟩ := hd
  obtain ⟨x, h1, h2⟩ := (trod_rd ty).1 _ _ _ _ hty hf
  refine ⟨x, h2, fun L => ?_⟩
  have hc := h1.cells (L := L)
  unfold Value.okWide at hval
  cases ty with
  | unit => simp [tyIs] at hty
  | pair a b =>
    simp only [tyIs] at hty
    split at hty
    · rename_i fs hu
      simp only [hu] at hval
      obtain ⟨cs, rfl, _⟩ := hval
      exact ⟨cs, rfl, hc⟩
    · simp at hty
  | int k =>
    simp only [tyIs] at hty
    split at hty
    · rename_i l hu
      simp only [hu, Cell.okWide, Cell.ok] at hval
      cases v <;> simp_all [Value.cells, Rd, tyEnt, ESim, CSim]
    · simp at hty
  | bool =>
    simp only [tyIs] at hty
    split at hty
    · rename_i hu
      simp only [hu, Cell.okWide, Cell.ok] at hval
      cases v <;> simp_all [Value.cells, Rd, tyEnt, ESim, CSim]
    · simp at hty
  | str =>
    simp only [tyIs] at hty
    split at hty
    · rename_i hu
      simp only [hu, Cell.okWide, Cell.ok] at hval
      cases v <;> simp_all [Value.cells, Rd, tyEnt, ESim, CSim]
    · simp at hty
  | slice u =>
    simp only [tyIs] at hty
    split at hty
    · rename_i e hu
      simp only [hu, Cell.okWide, Cell.ok] at hval
      cases v with
      | slice a n c => exact h1
      | _ => simp at hval
    · simp at hty

/-! ### all arguments -/
def Vals : List Ty → Type
  | [] => Unit
  | t :: ts => t.den × Vals ts
def Vals.wf : (ts : List Ty) → Vals ts → Prop
  | [], _ => True
  | t :: ts, x => t.wf x.1 ∧ Vals.wf ts x.2
def Vals.ents : (ts : List Ty) → Vals ts → List Ent
  | [], _ => []
  | t :: ts, x => tyEnt t x.1 :: Vals.ents ts x.2
def tysIs (P : Program) : List Ty → List TypeId → Bool
  | [], [] => true
  | y :: ys, t :: ts => tyIs P y (.inl t) && (P.readableRec t && (Nat.blt t P.types.size && tysIs P ys ts))
  | _, _ => false

theorem open_all {r : Reach} {b0 : Nat} : ∀ {ys : List Ty} {ts : List TypeId} {vs : List Value} {ds : List (DataW H)} {ps : List MemPlace}, tysIs P ys ts = true →
    (∀ (j : Nat) t v, ts[j]? = some t → vs[j]? = some v → Value.okWide P w r b0 t v) → DataW.TrodAll enc P w 0 sp held ts vs ds ps →
    ∃ x : Vals ys, Vals.wf ys x ∧ ∀ L, EsSim w (fun b => b < w.heap.size) L (Vals.ents ys x) vs
  | [], [], vs, ds, ps, _, _, h => by
    obtain ⟨rfl, rfl, rfl⟩ := trodAll_nil h
    exact ⟨(), trivial, fun _ => trivial⟩
  | [], _ :: _, _, _, _, h, _, _ => by simp [tysIs] at h
  | _ :: _, [], _, _, _, h, _, _ => by simp [tysIs] at h
  | y :: ys, t :: ts, vs, ds, ps, hty, hval, h => by
    simp only [tysIs, Bool.and_eq_true] at hty
    match vs, ds, h with
    | v :: vs, d :: ds, ⟨p, q, h1, h2, h3⟩ =>
      obtain ⟨x, x1, x2⟩ := open_arg hty.1 (hval 0 t v rfl rfl) h1
      obtain ⟨xs, y1, y2⟩ := open_all hty.2.2.2 (fun j t v h4 h5 => hval (j + 1) t v (by simpa using h4) (by simpa using h5)) h2
      exact ⟨(x, xs), ⟨x1, y1⟩, fun L => ⟨x2 L, y2 L⟩⟩

theorem all_length : ∀ {ts : List TypeId} {vs : List Value} {ds : List (DataW H)} {ps : List MemPlace}, DataW.TrodAll enc P w 0 sp held ts vs ds ps → ds.length = ts.length
  | [], vs, ds, ps, h => by
    obtain ⟨rfl, rfl, rfl⟩ := trodAll_nil h
    rfl
  | t :: ts, vs, ds, ps, h => by
    match vs, ds, h with
    | v :: vs, d :: ds, ⟨p, q, h1, h2, h3⟩ => simp [all_length h2]

theorem below_all (hl : laidOutB P = true) {w' : World} (hb : Below w.heap.size w w') : ∀ {ys : List Ty} {ts : List TypeId} {vs : List Value} {ds : List (DataW H)} {ps : List MemPlace}, tysIs P ys ts = true →
    (∀ x ∈ ps, x.block < w.heap.size) → DataW.TrodAll enc P w 0 (fun _ => true) true ts vs ds ps → DataW.TrodAll enc P w' 0 (fun b => decide (b < w.heap.size)) true ts vs ds ps
  | [], [], vs, ds, ps, _, _, h => by
    obtain ⟨rfl, rfl, rfl⟩ := trodAll_nil h
    rfl
  | [], _ :: _, _, _, _, h, _, _ => by simp [tysIs] at h
  | _ :: _, [], _, _, _, h, _, _ => by simp [tysIs] at h
  | y :: ys, t :: ts, vs, ds, ps, hty, hlt, h => by
    simp only [tysIs, Bool.and_eq_true] at hty
    match vs, ds, h with
    | v :: vs, d :: ds, ⟨p, q, h1, h2, h3⟩ =>
      subst h3
      exact ⟨p, q, Below.trod hl hty.2.1 (Nat.le_of_ble_eq_true hty.2.2.1) h1 hb (fun x hx => hlt x (List.mem_append_left _ hx)), below_all hl hb hty.2.2.2 (fun x hx => hlt x (List.mem_append_right _ hx)) h2, rfl⟩

/-- A law of the program: whatever is handed in, it returns true, and what was handed in reads as it did. -/
theorem law_calls {fn : Func} {c : Code} {f : Nat} {s : ChangeSpec} {tb : TypeId} {ys : List Ty} (hl : laidOutB P = true) (hf : P.funcs[f]? = some fn) (hb : fn.body = some c) (hn : (fn.name == "runtime.NumGoroutine") = false)
    (hty : tysIs P ys fn.params.toList = true) (hr : fn.resultTypes = #[tb]) (htb : P.underlying tb = some .bool) (hv : s.vars = [])
    (hfn : ∀ ds : List (DataW H), ds.length = fn.params.size → (s.fn H ds).results = [.lit (.bool true)] ∧ (s.fn H ds).args = ds ∧ (s.fn H ds).vars = [])
    (h : ∀ x : Vals ys, Vals.wf ys x → Triple P f (Vals.ents ys x) [] (.one (.bool true)) [])
    (W : World) (base : Nat) (args : Array Value) (ds gs : List (DataW H)) (before : List MemPlace)
    (hval : ∀ (j : Nat) t v, fn.params[j]? = some t → args[j]? = some v → Value.okWide P W .any base t v)
    (hW : DataW.Whole enc P fn.params.toList s.vars false W args.toList ds gs before) :
    Calls P f args W fun e W' => ∃ v, e = .returned v ∧ s.post enc P fn false true false false W args v W' := by
  have hW' := hW
  have hlt : ∀ x ∈ before, x.block < W.heap.size := fun x hx => by simpa using hW'.lt x hx
  obtain ⟨p, q, hA0, hV, rfl, hfz, hnd⟩ := hW
  have hA : DataW.TrodAll enc P W 0 (fun _ => true) true fn.params.toList args.toList ds p := hA0
  rw [hv] at hV
  obtain ⟨rfl, rfl⟩ := trodVars_none hV
  obtain ⟨x, x1, x2⟩ := open_all hty (fun j t v h1 h2 => hval j t v (by simpa using h1) (by simpa using h2)) hA
  have hlen : ds.length = fn.params.size := by
    have := all_length hA
    simpa using this
  obtain ⟨f1, f2, f3⟩ := hfn ds hlen
  rcases h x x1 W (fun b => b < W.heap.size) [] args ⟨rfl, fun i o l h => by simp at h, fun i j o l o' l' h => by simp at h, fun i o l h => by simp at h, fun b hb => hb⟩ (x2 []) with ⟨v, w', h1, _⟩ | ⟨_, h2⟩
  · have hn' : ¬ fn.name = "runtime.NumGoroutine" := fun e => by simp [e] at hn
    unfold callFunc at h1
    simp [hf, hn', hb] at h1
  · refine h2.mono fun e W' he => ?_
    cases e with
    | returned v =>
      obtain ⟨Z', L', _, hv', _, hk, _, _, _⟩ := he
      have hvb : v = .bool true := hv'
      subst hvb
      have bel : Below W.heap.size W W' := ⟨hk.os, hk.tape, hk.output, hk.size, fun b hb => hk.same hb fun o hfo => by
        obtain ⟨i, ob, l, h1, _⟩ := hfo
        simp at h1⟩
      refine ⟨_, rfl, ds, [], p ++ [], [], p, [], by rw [hv] at hW' ⊢; exact hW', ?_, ?_, ?_, bel.frame _, fun h => by cases h⟩
      · rw [List.append_nil, f1, hr]
        exact trodAll_mk1 (shut_bool htb _)
      · rw [List.append_nil, f2]
        exact below_all hl bel hty (fun x hx => hlt x (by simpa using hx)) hA
      · rw [List.append_nil, f3, hv]
        rfl
    | panicked _ => exact he.elim
    | outgrown => exact he.elim
end
end Go.Ry
