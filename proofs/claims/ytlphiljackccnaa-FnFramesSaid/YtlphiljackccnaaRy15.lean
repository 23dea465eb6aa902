/- The evaluator is right: operations (5). No condition. -/
import Derived.Test.YtlphiljackccnaaRy14
set_option linter.unusedVariables false
set_option linter.unusedSimpArgs false
namespace Go.Ry

section
variable {P : Program} {S : Start} {st : St} {a : Act} {w w' : World} {Z Z' : Nat → Prop} {L L' : List Loc} {T : Tab} {C : Calls_} {G : List (Nat × Sig)} {o : Oper} {K : St → Prop} {next : Act → World → Prop} {Q : Exit → Act → World → Prop} {R : Prop}

theorem boundOf_val (hs : Sit S st a w Z L) {x : Option Operand} {d l : Int} (h : boundOf st x d = some l) : (x = none ∧ l = d) ∨ ∃ y k, x = some y ∧ a.eval y = .int k l := by
  unfold boundOf at h
  split at h
  · simp only [Option.some.injEq] at h; exact .inl ⟨rfl, h.symm⟩
  · rename_i y
    split at h
    · rename_i k n hy
      simp only [Option.some.injEq] at h
      subst h
      exact .inr ⟨y, k, rfl, ev_one hs hy⟩
    · simp at h

theorem run_bounds (w : World) (b : Bool) {x y : Option Operand} {len cap : Nat} {l h : Int} (hx : (x = none ∧ l = 0) ∨ ∃ z k, x = some z ∧ a.eval z = .int k l) (hy : (y = none ∧ h = len) ∨ ∃ z k, y = some z ∧ a.eval z = .int k h)
    (h0 : 0 ≤ l) (h1 : l ≤ h) (h2 : h ≤ len) (h3 : len ≤ cap) : (Instr.sliceBounds b len cap (x.map a.eval) (y.map a.eval) none).run P w = .ok (l.toNat, h.toNat, cap) w := by
  have bound : ∀ (k : IntKind) (i : Int) (m : Nat) (code : BoundsCode), 0 ≤ i → i ≤ m → (Instr.sliceBound (.int k i) m code).run P w = .ok i.toNat w := by
    intro k i m code p q
    simp [Instr.sliceBound, asIntOf, p, q]
  rcases hx with ⟨rfl, rfl⟩ | ⟨z, k, rfl, hz⟩
  · rcases hy with ⟨rfl, rfl⟩ | ⟨z', k', rfl, hz'⟩
    · simp [Instr.sliceBounds]
    · cases b <;> simp [Instr.sliceBounds, hz', bound k' h cap _ (by omega) (by omega)]
  · rcases hy with ⟨rfl, rfl⟩ | ⟨z', k', rfl, hz'⟩
    · cases b <;> simp [Instr.sliceBounds, hz, bound k l len _ h0 (by omega)]
    · cases b <;> simp [Instr.sliceBounds, hz, hz', bound k' h cap _ (by omega) (by omega), bound k l h.toNat _ h0 (by omega)]

theorem sound_slice {t : TypeId} {x : Operand} {lo hi : Option Operand} (ho : o.op = .slice t x lo hi none) (hT : tabOk P T = true) (hs : Sit S st a w Z L) (hg : FinV P o a w Z L st K R) (h : opW T C G o st K) : R := by
  simp only [opW, ho] at h
  split at h
  · rename_i c hx
    have cx := ev_one hs hx
    have run : ∀ {e : Nat} {ee : TE} (ad : Option Addr) (len cap : Nat) (l hh : Int), slTy T t = some (e, ee) → a.eval x = .slice ad len cap → boundOf st lo 0 = some l → boundOf st hi (len : Int) = some hh →
        0 ≤ l → l ≤ hh → hh ≤ len → len ≤ cap → ∀ w, (execOp a.eval o).run P w = .ok (.value (.slice (if cap = l.toNat then ad else ad.map (·.add (l.toNat * ee.size))) (hh.toNat - l.toNat) (cap - l.toNat))) w := by
      intro e ee ad len cap l hh hsl hv hl hh' h0 h1 h2 h3 w
      obtain ⟨hu, i, d, z, f⟩ := slTy_facts hT hsl
      have hb := run_bounds (P := P) (a := a) w true (boundOf_val hs hl) (boundOf_val hs hh') h0 h1 h2 h3
      unfold execOp
      simp [ho, hv, Instr.sliceAt, Instr.slice, run_underlying hu, hb, run_sizeOf f]
    split at h
    · rename_i s
      split at h
      · rename_i te hte
        split at h
        · rename_i hk
          split at h
          · rename_i l hh hl hh'
            obtain ⟨⟨h0, h1, h2⟩, hk'⟩ := h
            obtain ⟨d, hd, hkd⟩ := under_of (d := .bool) hT hte
            rw [kind_str hkd hk] at hd
            have cx' : a.eval x = .string s := cx
            have hb := fun w => run_bounds (P := P) (a := a) w false (boundOf_val hs hl) (boundOf_val hs hh') h0 h1 h2 (Nat.le_refl _)
            refine hg.value (v := .string (s.extract l.toNat hh.toNat)) (e := .one (.str (s.extract l.toNat hh.toNat))) ?_ rfl hk'
            unfold execOp
            simp [ho, cx', Instr.sliceAt, Instr.slice, run_underlying hd, hb]
          · exact h.elim
        · exact h.elim
      · exact h.elim
    · rename_i u xs
      split at h
      · rename_i e ee l hh hsl hl hh'
        obtain ⟨hsz, ⟨h0, h1, h2⟩, hk⟩ := h
        have hsz := Nat.eq_of_beq_eq_true hsz
        obtain ⟨ad, n, cap, hv, rfl, hmc, hnone, hsome⟩ := cx
        simp only [List.cons.injEq, and_true] at hv
        refine hg.value (run ad xs.length cap l hh hsl hv hl hh' h0 h1 h2 hmc) (e := .one (.sl u ((xs.take hh.toNat).drop l.toNat))) ⟨_, _, _, rfl, by simp; omega, by omega, fun e => ?_, fun A hA i y hy => ?_⟩ hk
        · cases ad with
          | none => have := hnone rfl; omega
          | some A => split at e <;> simp at e
        · cases ad with
          | none => split at hA <;> simp at hA
          | some B =>
            rw [List.getElem?_drop] at hy
            have hlt : l.toNat + i < hh.toNat := by
              have := (List.getElem?_eq_some_iff.1 hy).1
              simp at this; omega
            rw [List.getElem?_take_of_lt hlt] at hy
            obtain ⟨p1, p2, es, e1, e2, e3⟩ := hsome B rfl _ y hy
            obtain ⟨g, q, sp⟩ := B
            simp only at p1 p2 e2
            subst p1
            split at hA
            · rename_i hcl
              have := (List.getElem?_eq_some_iff.1 hy).1
              omega
            · simp only [Option.map_some, Option.some.injEq, Addr.add_lit] at hA
              subst hA
              refine ⟨rfl, p2, es, e1, ?_, e3⟩
              rw [hsz, Nat.add_assoc, ← Nat.add_mul]
              exact e2
      · exact h.elim
    · rename_i r
      split at h
      · rename_i e' u xs hob
        split at h
        · rename_i e ee l hh hsl hl hh'
          obtain ⟨hsz, ⟨h0, h1, h2⟩, hk⟩ := h
          have hsz := Nat.eq_of_beq_eq_true hsz
          obtain ⟨v', es, q1, q2, q3, q4, q5⟩ := hs.row hob
          obtain ⟨_, sz, m, q6⟩ := cx
          rw [q2] at q6
          simp only [Option.some.injEq, Loc.row.injEq] at q6
          obtain ⟨hv, rfl, rfl⟩ := q6
          rcases q4.2 with ⟨hv2, hn⟩ | ⟨g, cap, cur, hv2, hb, hg', hnc, hcm, _⟩
          · rw [hv2] at hv q2
            have hl0 : l.toNat = 0 := by omega
            have hh0 : hh.toNat = 0 := by omega
            refine hg.value (run none 0 0 l hh hsl hv.symm hl (by rw [← hh', hn]) h0 h1 (by omega) (Nat.le_refl _)) (e := .one (.win r l.toNat hh.toNat)) ⟨_, _, _, q2, .inl ⟨rfl, ?_, hl0, hh0⟩⟩ hk
            rw [hl0, hh0]; rfl
          · rw [hv2] at hv q2
            refine hg.value (run _ _ cap l hh hsl hv.symm hl hh' h0 h1 h2 hnc) (e := .one (.win r l.toNat hh.toNat)) ⟨_, _, _, q2, .inr ⟨g, _, cap, rfl, by omega, by omega, hnc, ?_⟩⟩ hk
            congr 1
            split
            · rfl
            · simp [Addr.add_lit, hsz]
        · exact h.elim
      · exact h.elim
    · exact h.elim
  · exact h.elim

theorem sound_len {t : List Nat} {x : Operand} {c : Call} (ho : o.op = .call c) (hcl : c.callee = .builtin .len) (hca : c.args.toList = [x]) (hct : c.argTypes.toList = t) (hT : tabOk P T = true) (hs : Sit S st a w Z L) (hg : FinV P o a w Z L st K R)
    (h : builtinW T .len [x] t st o.dst K) : R := by
  have hca' : c.args = #[x] := by
    have := congrArg List.toArray hca
    simpa using this
  simp only [builtinW] at h
  split at h
  · rename_i t ts
    have hct' : c.argTypes[0]? = some t := by rw [← Array.getElem?_toList, hct]; rfl
    split at h
    · rename_i te hte
      obtain ⟨d, hd, hkd⟩ := under_of (d := .bool) hT hte
      have go : ∀ (n : Nat), (∀ w, (Builtin.len_ c.argTypes o.type #[a.eval x]).run P w = .ok (.int .i64 n) w) → K (st.putO o.dst (.one (.int .i64 n))) → R := by
        intro n hr hk
        refine hg.value (v := .int .i64 n) (e := .one (.int .i64 n)) ?_ rfl hk
        unfold execOp
        simp [ho, resolve, hcl, hca', invoke, builtin, hr]
      split at h
      · rename_i s hk hx
        rw [kind_str hkd hk] at hd
        have cx : a.eval x = .string s := ev_one hs hx
        exact go s.size (by simp [Builtin.len_, hct', run_underlying hd, cx, goInt]) h
      · rename_i hk hx
        rw [kind_slice hkd hk] at hd
        have cx : a.eval x = .slice none 0 0 := ev_one hs hx
        exact go 0 (by simp [Builtin.len_, hct', run_underlying hd, cx, goInt]) h
      · rename_i cc _ hk hx
        split at h
        · rename_i u xs hl
          rw [kind_slice hkd hk] at hd
          obtain ⟨ad, n, cap, cx, hn, _⟩ := listOf_len hs (ev_one hs hx) hl
          exact go xs.length (by simp [Builtin.len_, hct', run_underlying hd, cx, goInt, hn]) h
        · exact h.elim
      · exact h.elim
    · exact h.elim
  · exact h.elim
end
end Go.Ry
