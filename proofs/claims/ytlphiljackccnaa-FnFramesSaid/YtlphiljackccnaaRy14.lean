/- The evaluator is right: operations (4). No condition. -/
import Derived.Test.YtlphiljackccnaaRy13
set_option linter.unusedVariables false
set_option linter.unusedSimpArgs false
namespace Go.Ry

section
variable {P : Program} {S : Start} {st : St} {a : Act} {w w' : World} {Z Z' : Nat → Prop} {L L' : List Loc} {T : Tab} {C : Calls_} {G : List (Nat × Sig)} {o : Oper} {K : St → Prop} {next : Act → World → Prop} {Q : Exit → Act → World → Prop} {R : Prop}

theorem Sit.newAt (hs : Sit S st a w Z L) (l : Loc) : (L ++ [l])[st.objs.length]? = some l := by
  rw [← hs.sims.len, List.getElem?_append_right (Nat.le_refl _)]
  simp

/-- A new variable. -/
theorem Sit.newBox (hs : Sit S st a w Z L) {cs : List Cell} {vs : Array Value} (e : TypeId) (h : CsSim w Z L cs vs.toList) :
    Sit S (st.addOb (.box cs)) a (w.alloc (.cells vs e)) Z (L ++ [.box w.heap.size 0]) := by
  have hk : Keeps w (fun _ _ => False) (w.alloc (.cells vs e)) := Keeps.alloc w _ _
  refine hs.add hk ⟨w.heap.size, 0, vs.toList, rfl, CsSim.mono (fun b hb => hk.same (hs.sims.zin b hb) fun _ hx => hx) (fun _ hb => hb) (Grows.append _ _) h, vs, e, ?_, by simp, fun j v hj => by simpa using hj⟩ ?_
  · show (w.heap.push _)[w.heap.size]? = _
    simp
  · rintro b q ⟨rfl, _⟩
    exact Nat.le_refl _

theorem sound_alloc {t : TypeId} (ho : o.op = .alloc t) (hT : tabOk P T = true) (hs : Sit S st a w Z L) (hg : Goes S K next) (h : opW T C G o st K) : o.wp P a w next Q := by
  simp only [opW, ho] at h
  split at h
  · rename_i te hte
    obtain ⟨i, d, z, f⟩ := teFacts (tabOk_look hT hte)
    have hs' := hs.newBox (vs := z.cells) t (zeroEq_sim w Z L f.zeroEq)
    refine wp_value (v := .pointer (some ⟨w.heap.size, 0, none⟩)) (w' := w.alloc (.cells z.cells t)) ?_ (hg _ _ _ _ _ (hs'.put (e := .one (.ptrB st.objs.length 0)) ⟨w.heap.size, 0, hs.newAt _, rfl⟩ o.dst) h)
    unfold execOp
    simp [ho, Instr.alloc, zeroValue, typeInfo, f.info, f.zero, newVar, newRow]
  · exact h.elim

theorem sound_box {t : TypeId} {x : Operand} (ho : o.op = .box t x) (hs : Sit S st a w Z L) (hg : Goes S K next) (h : opW T C G o st K) : o.wp P a w next Q := by
  simp only [opW, ho] at h
  have hx := hs.ev x
  have fin : (∀ l, st.ev x ≠ .tup l) → st.ev x ≠ .undef → K ((st.addOb (.box (st.ev x).cells)).putO o.dst (.one (.ptrB st.objs.length 0))) → o.wp P a w next Q := by
    intro h1 h2 h
    have hs' := hs.newBox (vs := (a.eval x).cells) t (hx.cells h1 h2)
    refine wp_value (v := .pointer (some ⟨w.heap.size, 0, none⟩)) (w' := w.alloc (.cells (a.eval x).cells t)) ?_ (hg _ _ _ _ _ (hs'.put (e := .one (.ptrB st.objs.length 0)) ⟨w.heap.size, 0, hs.newAt _, rfl⟩ o.dst) h)
    unfold execOp
    simp [ho, Instr.box, newVar, newRow]
  split at h
  · exact h.elim
  · exact h.elim
  · rename_i n1 n2
    exact fin n1 n2 h

theorem fieldsEq_get : ∀ {ps : List (Nat × Nat)} {fs : List Field} {i : Nat} {p : Nat × Nat}, fieldsEq ps fs = true → ps[i]? = some p → ∃ f : Field, fs[i]? = some f ∧ f.offset = p.1 ∧ f.type = p.2
  | [], _, _, _, _, h => by simp at h
  | _ :: _, [], _, _, h, _ => by simp [fieldsEq] at h
  | q :: ps, g :: fs, i, p, h, hi => by
    simp only [fieldsEq, Bool.and_eq_true, beq_iff_eq] at h
    cases i with
    | zero =>
      simp only [List.getElem?_cons_zero, Option.some.injEq] at hi
      subst hi
      exact ⟨g, rfl, h.1.1.symm, h.1.2.symm⟩
    | succ i => simpa using fieldsEq_get h.2 (by simpa using hi)

theorem fldOf_facts {s k q : Nat} {fe : TE} (hT : tabOk P T = true) (h : fldOf T s k = some (q, fe)) :
    ∃ (fs : Array Field) (f : Field), P.underlying s = some (.struct fs) ∧ fs[k]? = some f ∧ f.offset = q ∧ ∃ i d z, TEFacts P f.type fe i d z := by
  unfold fldOf at h
  split at h
  · rename_i te hte
    split at h
    · rename_i hk
      split at h
      · rename_i q' t hn
        split at h
        · rename_i fe' hfe
          simp only [Option.some.injEq, Prod.mk.injEq] at h
          obtain ⟨rfl, rfl⟩ := h
          obtain ⟨d, hd, hkd⟩ := under_of (d := .bool) hT hte
          obtain ⟨fs, rfl, hfs, _⟩ := kind_struct hkd hk
          rw [nth_eq] at hn
          obtain ⟨f, h1, h2, h3⟩ := fieldsEq_get hfs hn
          exact ⟨fs, f, hd, by rw [← Array.getElem?_toList]; exact h1, h2, by rw [h3]; exact teFacts (tabOk_look hT hfe)⟩
        · simp at h
      · simp at h
    · simp at h
  · simp at h

theorem sound_fieldAddr {s : TypeId} {x : Operand} {k : Nat} (ho : o.op = .fieldAddr s x k) (hT : tabOk P T = true) (hs : Sit S st a w Z L) (hg : FinV P o a w Z L st K R) (h : opW T C G o st K) : R := by
  simp only [opW, ho] at h
  split at h
  · rename_i q fe c hf hx
    obtain ⟨fs, f, hu, hk, rfl, i, d, z, ff⟩ := fldOf_facts hT hf
    have cx := ev_one hs hx
    have run : Nat.beq fe.size 0 = false → ∀ ad, a.eval x = .pointer (some ad) → ∀ w, (execOp a.eval o).run P w = .ok (.value (.pointer (some (ad.add f.offset)))) w := by
      intro hnz ad hv w
      have hsz : fe.size ≠ 0 := by
        intro e
        rw [e] at hnz
        simp at hnz
      unfold execOp
      simp [ho, hv, Instr.fieldAt, run_underlying hu, hk, Instr.sureAddr, fieldPlace, run_sizeOf ff, hsz]
    cases hz0 : Nat.beq fe.size 0 with
    | true => rw [hz0] at h; exact h.elim
    | false =>
      rw [hz0] at h
      cases c with
      | ptrB i o' =>
        obtain ⟨g, p, hl, hv⟩ := cx
        exact hg.value (run hz0 _ hv) (e := .one (.ptrB i (o' + f.offset))) ⟨g, p, hl, by rw [Addr.add_lit, Nat.add_assoc]⟩ h
      | ptrE i k' o' =>
        obtain ⟨g, n, c, sz, m, hl, hkn, hv⟩ := cx
        exact hg.value (run hz0 _ hv) (e := .one (.ptrE i k' (o' + f.offset))) ⟨g, n, c, sz, m, hl, hkn, by rw [Addr.add_lit, Nat.add_assoc]⟩ h
      | ptrZ t y o' =>
        obtain ⟨g, p, es, hv, h1, h2, h3⟩ := cx
        exact hg.value (run hz0 _ hv) (e := .one (.ptrZ t y (o' + f.offset))) ⟨g, p, es, by rw [Addr.add_lit, Nat.add_assoc], h1, h2, h3⟩ h
      | _ => simp [addrField] at h
  · exact h.elim

theorem sound_field {s : TypeId} {x : Operand} {k : Nat} (ho : o.op = .field s x k) (hT : tabOk P T = true) (hs : Sit S st a w Z L) (hg : FinV P o a w Z L st K R) (h : opW T C G o st K) : R := by
  simp only [opW, ho] at h
  split at h
  · rename_i q fe cs hf hx
    split at h
    · rename_i hle
      have hle := Nat.le_of_ble_eq_true hle
      obtain ⟨fs, f, hu, hk, rfl, i, d, z, ff⟩ := fldOf_facts hT hf
      have cx := hs.ev x
      rw [hx] at cx
      obtain ⟨vs, hv, hcs⟩ := cx
      have hlen := CsSim.length hcs
      have hseg := CsSim.take (n := fe.size) (CsSim.drop (n := f.offset) hcs)
      by_cases hagg : fe.agg = true
      · refine hg.value (v := .agg (vs.extract f.offset (f.offset + fe.size))) ?_ ?_ h
        · unfold execOp
          simp [ho, hv, Instr.field, run_underlying hu, hk, asAgg, part, run_isAgg ff, hagg, run_sizeOf ff]
        · rw [hagg]
          refine ⟨_, rfl, ?_⟩
          have : (vs.extract f.offset (f.offset + fe.size)).toList = (vs.toList.drop f.offset).take fe.size := by
            simp [Array.toList_extract, List.extract_eq_take_drop]
          rw [this]; exact hseg
      · have h1 : fe.size = 1 := ff.one.resolve_left hagg
        have hagg' : fe.agg = false := by simpa using hagg
        have hlt : f.offset < vs.size := by rw [← Array.length_toList, hlen]; omega
        refine hg.value (v := vs[f.offset]) ?_ ?_ h
        · unfold execOp
          simp [ho, hv, Instr.field, run_underlying hu, hk, asAgg, part, run_isAgg ff, hagg', hlt]
        · rw [h1] at hseg ⊢
          have hd : vs.toList.drop f.offset = vs[f.offset] :: vs.toList.drop (f.offset + 1) := by
            rw [List.drop_eq_getElem_cons (by simpa using hlt)]
            simp
          rw [hd, List.take_succ_cons, List.take_zero] at hseg
          rw [hagg']
          match hm : (cs.drop f.offset).take 1, hseg with
          | [c], hh => exact hh.1
          | [], hh => exact hh.elim
          | _ :: _ :: _, hh => exact hh.2.elim
    · exact h.elim
  · exact h.elim

theorem sound_indexAddr {t : TypeId} {x y : Operand} (ho : o.op = .indexAddr t x y) (hT : tabOk P T = true) (hs : Sit S st a w Z L) (hg : FinV P o a w Z L st K R) (h : opW T C G o st K) : R := by
  simp only [opW, ho] at h
  split at h
  · rename_i e ee c kk n hsl hx hy
    obtain ⟨hu, i, d, z, f⟩ := slTy_facts hT hsl
    have cy : a.eval y = .int kk n := ev_one hs hy
    have cx := ev_one hs hx
    have run : ∀ (A : Addr) (len cap : Nat), a.eval x = .slice (some A) len cap → 0 ≤ n → n < len → ∀ w, (execOp a.eval o).run P w = .ok (.value (.pointer (some (A.add (n.toNat * ee.size))))) w := by
      intro A len cap hv h0 h1 w
      unfold execOp
      simp [ho, hv, cy, Instr.indexAt, asIntOf, run_underlying hu, h0, h1, run_sizeOf f]
    split at h
    · rename_i u xs
      split at h
      · rename_i hsz
        have hsz := Nat.eq_of_beq_eq_true hsz
        obtain ⟨⟨h0, h1⟩, hk⟩ := h
        obtain ⟨ad, m, cap, hv, hm, hmc, hnone, hsome⟩ := cx
        simp only [List.cons.injEq, and_true] at hv
        cases ad with
        | none => have := hnone rfl; omega
        | some A =>
          have hlt : n.toNat < xs.length := by omega
          obtain ⟨p1, p2, es, e1, e2, e3⟩ := hsome A rfl n.toNat _ (by rw [List.getElem?_eq_getElem hlt])
          obtain ⟨g, q, sp⟩ := A
          simp only at p1
          subst p1
          refine hg.value (run _ _ _ hv h0 (by omega)) (e := .one (.ptrZ u (xs.getD n.toNat u.dflt) 0)) ⟨g, q + n.toNat * u.size, es, by rw [Addr.add_lit, hsz, Nat.add_zero], p2, e2, ?_⟩ hk
          simpa [List.getD, List.getElem?_eq_getElem hlt] using e3
      · exact h.elim
    · rename_i r
      split at h
      · rename_i e' u xs hob
        split at h
        · rename_i hsz
          have hsz := Nat.eq_of_beq_eq_true hsz
          obtain ⟨⟨h0, h1⟩, hk⟩ := h
          obtain ⟨v', es, q1, q2, q3, q4, q5⟩ := hs.row hob
          obtain ⟨_, sz, m, q6⟩ := cx
          rw [q2] at q6
          simp only [Option.some.injEq, Loc.row.injEq] at q6
          obtain ⟨hv, rfl, rfl⟩ := q6
          rcases q4.2 with ⟨_, hn⟩ | ⟨g, cap, cur, hv2, _⟩
          · omega
          · rw [hv2] at hv q2
            refine hg.value (run _ _ _ hv.symm h0 (by omega)) (e := .one (.ptrE r n.toNat 0)) ⟨g, _, cap, _, _, q2, by omega, by rw [Addr.add_lit, hsz, Nat.zero_add, Nat.add_zero]⟩ hk
        · exact h.elim
      · exact h.elim
    · rename_i r lo hi
      split at h
      · rename_i e' u xs hob
        split at h
        · rename_i hsz
          have hsz := Nat.eq_of_beq_eq_true hsz
          obtain ⟨⟨h0, h1⟩, hk⟩ := h
          obtain ⟨v', es, q1, q2, q3, q4, q5⟩ := hs.row hob
          obtain ⟨u', sz, m, q6, q7⟩ := cx
          rw [q2] at q6
          simp only [Option.some.injEq, Loc.row.injEq] at q6
          obtain ⟨rfl, rfl, rfl⟩ := q6
          have hlen : ((xs.take hi).drop lo).length = min hi xs.length - lo := by simp
          rcases q7 with ⟨rfl, _, rfl, rfl⟩ | ⟨g, n', c', rfl, w1, w2, w3, hv⟩
          · simp at h1; omega
          · rcases q4.2 with ⟨hx', _⟩ | ⟨g', cap, cur, hx', _⟩
            · simp at hx'
            · simp only [Value.slice.injEq, Option.some.injEq, Addr.mk.injEq, and_true] at hx'
              obtain ⟨rfl, rfl, rfl⟩ := hx'
              have hlt : n < ((hi - lo : Nat) : Int) := by rw [hlen] at h1; omega
              refine hg.value (run _ _ _ hv h0 hlt) (e := .one (.ptrE r (lo + n.toNat) 0)) ⟨g, _, c', _, _, q2, by omega, ?_⟩ hk
              rw [Addr.add_lit, hsz, if_neg (by omega), Nat.add_mul, Nat.add_zero]
        · exact h.elim
      · exact h.elim
    · omega
    · exact h.elim
  · exact h.elim

theorem sound_makeFunc {fn : Fn} {fst caps : Array Operand} (ho : o.op = .makeFunc fn fst caps) (hs : Sit S st a w Z L) (hg : FinV P o a w Z L st K R) (h : opW T C G o st K) : R := by
  simp only [opW, ho] at h
  split at h
  rotate_left
  · exact h.elim
  rename_i f hfst
  have hfst' : fst = #[] := by simpa using hfst
  subst hfst'
  have run : ∀ w, (execOp a.eval o).run P w = .ok (.value (.func (.func f) #[] (caps.map a.eval))) w := by
    intro w
    unfold execOp
    simp [ho, Instr.makeFunc]
  have hev := hs.evs caps.toList
  have hl : (caps.map a.eval).toList = caps.toList.map a.eval := by simp
  split at h
  · rename_i hc
    rw [hc] at hev
    refine hg.value run (e := .one (.fn f [])) ⟨_, rfl, ?_⟩ h
    rw [hl]
    match hm : caps.toList.map a.eval, hev with
    | [], _ => trivial
    | _ :: _, hh => exact hh.elim
  · rename_i b hc
    rw [hc] at hev
    refine hg.value run (e := .one (.fn f [b])) ⟨_, rfl, ?_⟩ h
    rw [hl]
    match hm : caps.toList.map a.eval, hev with
    | [], hh => exact hh.elim
    | [v], hh =>
      obtain ⟨⟨g, q, h1, h2⟩, _⟩ := hh
      exact ⟨⟨g, q, h1, h2⟩, trivial⟩
    | _ :: _ :: _, hh => exact hh.2.elim
  · rename_i b c hc
    rw [hc] at hev
    refine hg.value run (e := .one (.fn f [b, c])) ⟨_, rfl, ?_⟩ h
    rw [hl]
    match hm : caps.toList.map a.eval, hev with
    | [], hh => exact hh.elim
    | [_], hh => exact hh.2.elim
    | [v, u], hh =>
      obtain ⟨⟨g, q, h1, h2⟩, ⟨g', q', h3, h4⟩, _⟩ := hh
      exact ⟨⟨g, q, h1, h2⟩, ⟨g', q', h3, h4⟩, trivial⟩
    | _ :: _ :: _ :: _, hh => exact hh.2.2.elim
  · exact h.elim
end
end Go.Ry
