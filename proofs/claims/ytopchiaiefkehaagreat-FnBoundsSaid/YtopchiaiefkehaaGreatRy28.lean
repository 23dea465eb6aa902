/- The evaluator, texts 25 to 28: The evaluator is right: objects under new numbers. The evaluator is right: getting ready for a cut. The evaluator is right: operations (8): literals. The evaluator is right: any operation. No condition. -/
import Derived.Test.YtopchiaiefkehaaGreatRy24
import Derived.Great.FillDense
import Derived.Laws.Tables
import Derived.MapKept
set_option linter.unusedVariables false
set_option linter.unusedSimpArgs false
namespace Go.Ry

section
variable {S : Start} {st : St} {a : Act} {w w' : World} {Z Z' : Nat → Prop} {L L' : List Loc}

theorem sameTo_get : ∀ {n : Nat} {l m : List Nat}, sameTo n l m = true → ∀ i, i < n → ∃ x, l[i]? = some x ∧ m[i]? = some x
  | 0, _, _, _, i, hi => by omega
  | n + 1, [], _, h, _, _ => by simp [sameTo] at h
  | n + 1, _ :: _, [], h, _, _ => by simp [sameTo] at h
  | n + 1, x :: l, y :: m, h, i, hi => by
    simp only [sameTo, Bool.and_eq_true] at h
    have hxy := Nat.eq_of_beq_eq_true h.1
    cases i with
    | zero => exact ⟨x, rfl, by simp [hxy]⟩
    | succ i => simpa using sameTo_get h.2 i (by omega)

theorem Sit.pick (hs : Sit S st a w Z L) {M : List Nat} {nl : Nat} (hn : M.Nodup) (hM : ∀ i ∈ M, i < st.objs.length) (hsame : sameTo nl M (rangeN nl 0) = true) (hnl : S.L.length = nl) :
    Sit S (st.pick M) a w Z (locs L M) := by
  have hls := lent_sims (extra := fun _ => False) hs hn hM (fun b hb => hb.elim) (fun b hb => hb.elim)
  have hren : ∀ c v, CSim w Z L c v → CSim w Z (locs L M) (renC (idx M) c) v := renC_sim fun i j l hij hl => locs_get (idx_get hij) hl
  have hfun : (fun b => Z b ∨ False) = Z := by funext b; simp
  rw [hfun] at hls
  refine ⟨by simp [St.pick, hs.tlen], fun d e he => ?_, hls, hs.keeps, hs.zup, hs.znew, fun k o l ho hl b q hq => ?_, fun i l hi => ?_, hs.defers⟩
  · simp only [St.pick, List.getElem?_map] at he
    cases hx : st.tmps[d]? with
    | none => rw [hx] at he; simp at he
    | some e' =>
      rw [hx] at he
      simp only [Option.map_some, Option.some.injEq] at he
      subst he
      exact ESim.map hren (hs.tmps d e' hx)
  · obtain ⟨i, o', h1, h2, h3, rfl⟩ := lent_get hs hM ho hl
    rw [foot_map] at hq
    exact hs.fnew i o' l h2 h3 b q hq
  · have hil := (List.getElem?_eq_some_iff.1 hi).1
    obtain ⟨x, h1, h2⟩ := sameTo_get hsame i (by omega)
    rw [rangeN_get, if_pos (by omega)] at h2
    simp only [Nat.zero_add, Option.some.injEq] at h2
    subst h2
    exact locs_get h1 (hs.lents i l hi)
end
end Go.Ry
set_option linter.unusedVariables false
set_option linter.unusedSimpArgs false
namespace Go.Ry

section
variable {S : Start} {st : St} {a : Act} {w w' : World} {Z Z' : Nat → Prop} {L L' : List Loc}

theorem CsSim.setNth {w : World} {Z : Nat → Prop} {L : List Loc} : ∀ {cs : List Cell} {vs : List Value} {j : Nat} {c : Cell}, CsSim w Z L cs vs → (∀ v, vs[j]? = some v → CSim w Z L c v) → CsSim w Z L (Ry.setNth cs j c) vs
  | [], [], _, _, _, _ => trivial
  | [], _ :: _, _, _, h, _ => h.elim
  | _ :: _, [], _, _, h, _ => h.elim
  | _ :: _, v :: _, 0, _, ⟨h1, h2⟩, hc => ⟨hc v rfl, h2⟩
  | _ :: _, _ :: _, j + 1, c, ⟨h1, h2⟩, hc => ⟨h1, CsSim.setNth (j := j) h2 fun v hv => hc v (by simpa using hv)⟩

theorem CsSim.get {w : World} {Z : Nat → Prop} {L : List Loc} : ∀ {cs : List Cell} {vs : List Value} {j : Nat} {c : Cell}, CsSim w Z L cs vs → cs[j]? = some c → ∃ v, vs[j]? = some v ∧ CSim w Z L c v
  | [], _, _, _, _, h => by simp at h
  | _ :: _, [], _, _, h, _ => h.elim
  | d :: _, v :: _, 0, c, ⟨h1, _⟩, h => ⟨v, rfl, by simp at h; subst h; exact h1⟩
  | _ :: _, _ :: _, j + 1, c, ⟨_, h2⟩, h => by simpa using CsSim.get (j := j) h2 (by simpa using h)
end
end Go.Ry
set_option linter.unusedVariables false
set_option linter.unusedSimpArgs false
namespace Go.Ry

section
variable {P : Program} {S : Start} {st : St} {a : Act} {w w' : World} {Z Z' : Nat → Prop} {L L' : List Loc} {T : Tab} {C : Calls_} {G : List (Nat × Sig)} {o : Oper} {K : St → Prop} {next : Act → World → Prop} {Q : Exit → Act → World → Prop} {R : Prop}

def PartsSim (w : World) (Z : Nat → Prop) (L : List Loc) : List (Nat × List Cell) → List (Nat × Value) → Prop
  | [], [] => True
  | p :: ps, q :: qs => (p.1 = q.1 ∧ CsSim w Z L p.2 q.2.cells.toList) ∧ PartsSim w Z L ps qs
  | _, _ => False

theorem partsOf_sim (hs : Sit S st a w Z L) : ∀ {ps : List (Nat × Operand)} {vs : List (Nat × List Cell)}, partsOf st ps = some vs → PartsSim w Z L vs (ps.map fun p => (p.1, a.eval p.2))
  | [], vs, h => by
    simp only [partsOf, Option.some.injEq] at h
    subst h
    trivial
  | p :: ps, vs, h => by
    simp only [partsOf] at h
    split at h
    · rename_i vs' hv
      have ih := partsOf_sim hs hv
      have hx := hs.ev p.2
      split at h
      · rename_i c hc
        simp only [Option.some.injEq] at h
        subst h
        refine ⟨⟨rfl, ?_⟩, ih⟩
        have := hx.cells (by rw [hc]; simp) (by rw [hc]; simp)
        rwa [hc] at this
      · rename_i cs hc
        simp only [Option.some.injEq] at h
        subst h
        refine ⟨⟨rfl, ?_⟩, ih⟩
        have := hx.cells (by rw [hc]; simp) (by rw [hc]; simp)
        rwa [hc] at this
      · simp at h
    · simp at h

theorem fill_put (off : Nat) (v cs : Array Value) (h : off + v.size ≤ cs.size) :
    (v.zipIdx.foldl (fun cs (x : Value × Nat) => cs.setIfInBounds (off + x.2) x.1) cs).toList = cs.toList.take off ++ v.toList ++ cs.toList.drop (off + v.toList.length) := by
  rw [← Array.foldl_toList, Array.toList_zipIdx]
  apply List.ext_getElem?
  intro k
  have hv : v.toList.length = v.size := Array.length_toList
  have hc : cs.toList.length = cs.size := Array.length_toList
  rw [splice_get _ _ _ _ (by omega), Array.getElem?_toList, (Great.foldl_set off v.toList 0 cs).2 k, Array.getElem?_toList]
  by_cases hk : off ≤ k ∧ k < off + v.toList.length
  · rw [if_pos ⟨by omega, by omega, by omega⟩, if_pos hk]; simp
  · rw [if_neg (by omega), if_neg hk, Array.getElem?_toList]

theorem fillW_sim {ps : List (Nat × Nat)} : ∀ {vs : List (Nat × List Cell)} {qs : List (Nat × Value)} {cs cs' : List Cell} {us : Array Value}, fillW ps cs vs = some cs' → CsSim w Z L cs us.toList →
    PartsSim w Z L vs qs → ∃ us', Instr.fill (fun x => ps.toArray[x]?) us qs = some us' ∧ CsSim w Z L cs' us'.toList
  | [], [], cs, cs', us, h, hc, _ => by
    simp only [fillW, Option.some.injEq] at h
    subst h
    exact ⟨us, rfl, hc⟩
  | [], _ :: _, _, _, _, _, _, hp => hp.elim
  | _ :: _, [], _, _, _, _, _, hp => hp.elim
  | p :: vs, (i, v) :: qs, cs, cs', us, h, hc, ⟨⟨hi, hv⟩, hp⟩ => by
    simp only [fillW] at h
    split at h
    · simp at h
    · rename_i off n hn
      split at h
      · rename_i hb
        simp only [Bool.and_eq_true] at hb
        have h1 := Nat.eq_of_beq_eq_true hb.1
        have h2 := Nat.le_of_ble_eq_true hb.2
        have l1 : v.cells.size = p.2.length := by simpa using CsSim.length hv
        have l2 : us.size = cs.length := by simpa using CsSim.length hc
        rw [nth_eq] at hn
        have hi' : p.1 = i := hi
        have hpl : (fun x => ps.toArray[x]?) i = some (off, n) := by simpa [← hi'] using hn
        have hput := fill_put off v.cells us (by omega)
        have hsim := CsSim.putAt hc hv h2
        rw [← hput] at hsim
        obtain ⟨us', e1, e2⟩ := fillW_sim h hsim hp
        refine ⟨us', ?_, e2⟩
        unfold Instr.fill
        simp only [hpl]
        rw [if_neg (by simp; omega)]
        exact e1
      · simp at h

theorem placesOf_map (hT : tabOk P T = true) : ∀ {flds : List (Nat × Nat)} {fs : List Field} {ps : List (Nat × Nat)}, placesOf T flds = some ps → fieldsEq flds fs = true →
    fs.mapM (fun f => (P.info? f.type).map fun i => (f.offset, i.size)) = some ps
  | [], [], ps, h, _ => by
    simp only [placesOf, Option.some.injEq] at h
    subst h
    rfl
  | [], _ :: _, _, _, h => by simp [fieldsEq] at h
  | _ :: _, [], _, _, h => by simp [fieldsEq] at h
  | p :: flds, f :: fs, ps, h, hf => by
    simp only [placesOf] at h
    simp only [fieldsEq, Bool.and_eq_true, beq_iff_eq] at hf
    split at h
    · rename_i fe ps' hfe hps
      simp only [Option.some.injEq] at h
      subst h
      obtain ⟨i, d, z, ff⟩ := teFacts (tabOk_look hT hfe)
      have hi := ff.info
      rw [hf.1.2] at hi
      simp [List.mapM_cons, hi, placesOf_map hT hps hf.2, ff.size, hf.1.1]
    · simp at h

theorem arrPlaces_get (sz : Nat) : ∀ (n o i : Nat) (p : Nat × Nat), (arrPlaces sz n o)[i]? = some p → p = (o + i * sz, sz)
  | 0, _, _, _, h => by simp [arrPlaces] at h
  | n + 1, o, 0, p, h => by
    simp only [arrPlaces, List.getElem?_cons_zero, Option.some.injEq] at h
    rw [← h]; simp
  | n + 1, o, i + 1, p, h => by
    simp only [arrPlaces, List.getElem?_cons_succ] at h
    rw [arrPlaces_get sz n (o + sz) i p h, Nat.add_mul, Nat.one_mul, Nat.add_assoc, Nat.add_comm sz]
theorem fill_mono {f g : Nat → Option (Nat × Nat)} (hfg : ∀ i p, f i = some p → g i = some p) : ∀ {qs : List (Nat × Value)} {us us' : Array Value}, Instr.fill f us qs = some us' → Instr.fill g us qs = some us'
  | [], us, us', h => h
  | (i, v) :: qs, us, us', h => by
    unfold Instr.fill at h ⊢
    cases hf : f i with
    | none => simp [hf] at h
    | some p =>
      obtain ⟨off, n⟩ := p
      simp only [hf] at h
      simp only [hfg i _ hf]
      split at h
      · simp at h
      · rename_i hc
        rw [if_neg hc]
        exact fill_mono hfg h

theorem sound_build {t : TypeId} {parts : Array (Nat × Operand)} (ho : o.op = .build t parts) (hT : tabOk P T = true) (hs : Sit S st a w Z L) (hg : FinV P o a w Z L st K R) (h : opW T C G o st K) : R := by
  simp only [opW, ho] at h
  split at h
  · rename_i te hte
    split at h
    · rename_i hk
      split at h
      · rename_i ps vs hps hvs
        split at h
        · rename_i cs hcs
          obtain ⟨i, d, z, f⟩ := teFacts (tabOk_look hT hte)
          obtain ⟨fs, rfl, hfs, _⟩ := kind_struct f.kind hk
          obtain ⟨us, e1, e2⟩ := fillW_sim hcs (zeroEq_sim w Z L f.zeroEq) (partsOf_sim hs hvs)
          have hb : P.built t (parts.map fun p => (p.1, a.eval p.2)).toList = some us := by
            unfold Program.built
            simp only [f.info, f.under, f.zero, placesOf_map hT hps hfs]
            rw [Array.toList_map]
            exact e1
          refine hg.value (v := .agg us) (e := .agg cs) ?_ ⟨us, rfl, e2⟩ h
          have hr := fun w => run_build (P := P) w t (parts.map fun p => (p.1, a.eval p.2)) us hb
          unfold execOp
          simp [ho, hr]
        · exact h.elim
      · exact h.elim
    · rename_i n hk
      split at h
      · rename_i ee vs hee hvs
        split at h
        · rename_i cs hcs
          obtain ⟨i, d, z, f⟩ := teFacts (tabOk_look hT hte)
          obtain ⟨rfl, _⟩ := kind_array f.kind hk
          obtain ⟨i2, d2, z2, f2⟩ := teFacts (tabOk_look hT hee)
          obtain ⟨us, e1, e2⟩ := fillW_sim hcs (zeroEq_sim w Z L f.zeroEq) (partsOf_sim hs hvs)
          have e1' := fill_mono (g := fun i => some (i * ee.size, ee.size)) (fun i p hp => by
            have := arrPlaces_get ee.size n 0 i p (by simpa using hp)
            rw [this, Nat.zero_add]) e1
          have hb : P.built t (parts.map fun p => (p.1, a.eval p.2)).toList = some us := by
            unfold Program.built
            simp only [f.info, f.under, f.zero, f2.info, f2.size]
            rw [Array.toList_map]
            exact e1'
          refine hg.value (v := .agg us) (e := .agg cs) ?_ ⟨us, rfl, e2⟩ h
          have hr := fun w => run_build (P := P) w t (parts.map fun p => (p.1, a.eval p.2)) us hb
          unfold execOp
          simp [ho, hr]
        · exact h.elim
      · exact h.elim
    · exact h.elim
  · exact h.elim

inductive All2 {α β : Type} (R : α → β → Prop) : List α → List β → Prop
  | nil : All2 R [] []
  | cons {a : α} {b : β} {l : List α} {m : List β} : R a b → All2 R l m → All2 R (a :: l) (b :: m)

theorem readAll_sim {u : Ty} : ∀ {css : List (List Cell)} {xs : List u.den} {vss : List (List Value)}, readAll u css = some xs → All2 (fun cs vs => CsSim w Z L cs vs) css vss →
    xs.length = vss.length ∧ (∀ vs ∈ vss, vs.length = u.size) ∧ RowRd w Z u xs vss.flatten
  | [], xs, vss, h, hf => by
    cases hf
    simp only [readAll, Option.some.injEq] at h
    subst h
    exact ⟨rfl, by simp, fun i x hi => by simp at hi⟩
  | cs :: css, xs, vss, h, hf => by
    cases hf with
    | cons h1 h2 =>
      rename_i vs vss
      simp only [readAll] at h
      split at h
      · rename_i x xs' hx hxs
        simp only [Option.some.injEq] at h
        subst h
        obtain ⟨a1, a2, a3⟩ := readAll_sim hxs h2
        have hr := readV_sim hx h1
        have hl := hr.length
        refine ⟨by simp [a1], fun v hv => ?_, fun i y hi => ?_⟩
        · rcases List.mem_cons.1 hv with rfl | hv
          · exact hl
          · exact a2 v hv
        · cases i with
          | zero =>
            simp only [List.getElem?_cons_zero, Option.some.injEq] at hi
            subst hi
            simpa [← hl] using hr
          | succ i =>
            have := a3 i y (by simpa using hi)
            rw [List.flatten_cons, Nat.add_mul, Nat.one_mul, Nat.add_comm, ← List.drop_drop, List.drop_left' hl]
            exact this
      · simp at h

theorem parts_range : ∀ {vs : List (Nat × List Cell)} {qs : List (Nat × Value)} {n s : Nat}, PartsSim w Z L vs qs → eqNats (vs.map Prod.fst) (rangeN n s) = true → qs = ((qs.map Prod.snd).zipIdx s).map (fun x => (x.2, x.1)) ∧ qs.length = n
  | [], [], 0, _, _, _ => ⟨rfl, rfl⟩
  | [], [], _ + 1, _, _, h => by simp [rangeN, eqNats] at h
  | [], _ :: _, _, _, h, _ => h.elim
  | _ :: _, [], _, _, h, _ => h.elim
  | _ :: _, _ :: _, 0, _, _, h => by simp [rangeN, eqNats] at h
  | p :: vs, (i, v) :: qs, n + 1, s, ⟨⟨h1, _⟩, h2⟩, h => by
    simp only [List.map_cons, rangeN, eqNats, Bool.and_eq_true] at h
    obtain ⟨e1, e2⟩ := parts_range h2 h.2
    have hp := Nat.eq_of_beq_eq_true h.1
    have h1' : p.1 = i := h1
    refine ⟨?_, by simp [e2]⟩
    rw [List.map_cons, List.zipIdx_cons, List.map_cons, ← e1, ← h1', hp]


theorem length_flatten_of {α : Type} {k : Nat} : ∀ {ls : List (List α)}, (∀ l ∈ ls, l.length = k) → ls.flatten.length = ls.length * k
  | [], _ => by simp
  | l :: ls, h => by
    rw [List.flatten_cons, List.length_append, h l List.mem_cons_self, length_flatten_of fun m hm => h m (List.mem_cons_of_mem _ hm), List.length_cons, Nat.add_mul, Nat.one_mul, Nat.add_comm]

theorem rowIds_append : ∀ (cs ds : List Cell), rowIds (cs ++ ds) = rowIds cs ++ rowIds ds
  | [], _ => rfl
  | c :: cs, ds => by cases c <;> simp [rowIds, rowIds_append cs ds]

theorem parts_shared (hs : Sit S st a w Z L) (hz : ∀ b, Z b → Z' b) : ∀ {vs : List (Nat × List Cell)} {qs : List (Nat × Value)},
    (∀ i, i ∈ rowIds (partCells vs) → ∀ l b, L[i]? = some l → rowB (st.ob i) l b → Z' b) →
    PartsSim w Z L vs qs → All2 (fun cs us => CsSim w Z' L cs us) (vs.map fun v => v.2.map (sharedC st)) (qs.map fun q => q.2.cells.toList)
  | [], [], _, _ => .nil
  | [], _ :: _, _, h => h.elim
  | _ :: _, [], _, h => h.elim
  | p :: vs, q :: qs, hb, ⟨⟨_, h1⟩, h2⟩ =>
    .cons (sharedCs_sim hs hz (fun i hi => hb i (by simp [partCells, rowIds_append, hi])) h1) (parts_shared hs hz (fun i hi => hb i (by simp [partCells, rowIds_append, hi])) h2)

theorem run_buildSlice_any (w : World) {t e n : Nat} {ee : TE} {i : TypeInfo} {d : TypeDesc} {z : Value} (hu : P.underlying t = some (.slice e)) (f : TEFacts P e ee i d z) (hn : n * ee.size ≤ 16777216)
    {parts : Array (Nat × Value)} {us : Array Value} (hf : ∀ cells : Array Value, cells.size = n * ee.size → Instr.fill (fun i => some (i * ee.size, ee.size)) cells parts.toList = some us) :
    (Instr.buildSlice t n parts).run P w = .ok (.slice (some ⟨w.heap.size, 0, none⟩) n n) (w.alloc (.cells us e)) := by
  have hsz : (sizeOf e).run P w = .ok ee.size w := run_sizeOf f w
  have h24 : ¬ (16777216 < n * ee.size) := by omega
  unfold Instr.buildSlice
  by_cases h0 : n * ee.size = 0
  · have h1 := hf ((Array.range (n * ee.size)).map ((#[] : Array Value)[· % (#[] : Array Value).size]!)) (by simp)
    simp [run_underlying hu, hsz, h24, h0, newRow] at h1 ⊢
    simp [h1]
  · have h1 := hf ((Array.range (n * ee.size)).map (z.cells[· % z.cells.size]!)) (by simp)
    simp [run_underlying hu, hsz, h24, h0, newRow, zeroValue, typeInfo, f.info, f.zero] at h1 ⊢
    simp [h1]

theorem buildN_sound {e : Nat} {ee : TE} {i : TypeInfo} {d : TypeDesc} {z : Value} {q : Inn} {v : List Cell} {us : List Value} (f : TEFacts P e ee i d z) (htold : ee.told = true) (ht : nestTy ee.ty q = true) (hs : Sit S st a w Z L)
    (hcs : CsSim w Z L v us) (h : buildN st e ee.ty q v o.dst K) : us.length = ee.size ∧ ∃ L' st', Sit S st' (a.put o.dst (.slice (some ⟨w.heap.size, 0, none⟩) 1 1)) (w.alloc (.cells us.toArray e)) Z L' ∧ K st' := by
  obtain ⟨t1, t2, t3⟩ := told_facts f htold
  obtain ⟨hfl, hs0, hqo⟩ := nest_flat ht
  have hpos : 0 < ee.ty.size := by omega
  have hkp : Keeps w (fun _ _ => False) (w.alloc (.cells us.toArray e)) := Keeps.alloc w _ _
  have hlen := CsSim.length hcs
  have own : us.length = ee.ty.size → (w.alloc (.cells us.toArray e)).ownsRow 0 e ee.ty.size (.slice (some ⟨w.heap.size, 0, none⟩) 1 1) 1 us := fun hl =>
    ⟨by rw [hl, Nat.one_mul], .inr ⟨w.heap.size, 1, us.toArray, rfl, Nat.zero_le _, by
      show (w.heap.push _)[w.heap.size]? = _
      simp, by omega, by simp [maxLen], by rw [List.size_toArray, hl, Nat.one_mul], by rw [← hl, Nat.one_mul, List.take_length]⟩⟩
  have nests : ∀ (vs : List Cell) (x : ee.ty.den) (u0 : Value), (∀ p, p ≠ q.o → vs[p]? = v[p]?) → readV ee.ty vs = some x → us[q.o]? = some u0 → (∃ a n c, u0 = .slice a n c) → (∀ b, u0.ownBlock = some b → b < w.heap.size) →
      (∃ fs, (w.alloc (.cells us.toArray e)).ownsRow 0 q.e q.s.size u0 (innerOf ee.ty q x).length fs ∧ RowRd (w.alloc (.cells us.toArray e)) none1 q.s (innerOf ee.ty q x) fs) →
      Nests (w.alloc (.cells us.toArray e)) ee.ty q [x] none (.slice (some ⟨w.heap.size, 0, none⟩) 1 1) us (fun k => if k = 0 then u0 else nilS) := by
    intro vs x u0 hvs hx hu0 hsl hb hin
    obtain ⟨e1, e2⟩ := readV_at hx
    have k0 : ∀ k y, [x][k]? = some y → k = 0 ∧ y = x := fun k y hy => by
      cases k with
      | zero => simp at hy; exact ⟨rfl, hy.symm⟩
      | succ k => simp at hy
    refine ⟨fun k y hy p c u hp hc hu => ?_, fun k hk => ?_, fun k y hy _ => ?_, fun k b hkb => ?_, fun k hk => if_neg (by simp at hk; omega)⟩
    · obtain ⟨rfl, rfl⟩ := k0 k y hy
      rw [Nat.zero_mul, Nat.zero_add] at hu
      have hcp := (nest_cell ht y).2 p c hp hc
      have hpp : p < vs.length := by rw [e1]; exact (List.getElem?_eq_some_iff.1 hc).1
      have hsame : vs[p]? = some c := by
        rw [List.getElem?_eq_getElem hpp]
        rcases e2 p _ (List.getElem?_eq_getElem hpp) with h1 | ⟨_, s, h1⟩
        · rw [hc] at h1; exact h1.symm
        · rw [hc] at h1
          simp only [Option.some.injEq] at h1
          rw [h1] at hcp
          simp [Cell.plain] at hcp
      rw [hvs p hp] at hsame
      exact plain_any hcp (CsSim.place hcs hsame hu)
    · have : k = 0 := by simp at hk; exact hk
      subst this
      exact ⟨by simpa using hu0, hsl⟩
    · obtain ⟨rfl, rfl⟩ := k0 k y hy
      exact hin
    · by_cases hk0 : k = 0
      · subst hk0
        simp only [if_true] at hkb
        have := hb b hkb
        refine ⟨fun hv => ?_, fun k' hk' => ?_⟩
        · simp [Value.ownBlock] at hv; omega
        · rw [if_neg hk']; simp [nilS, Value.ownBlock]
      · rw [if_neg hk0] at hkb
        simp [nilS, Value.ownBlock] at hkb
  unfold buildN at h
  split at h
  · rename_i j hj
    rw [nth_eq] at hj
    split at h
    · rename_i g s ys hoj
      split at h
      · rename_i x hcnd hx
        simp only [Bool.and_eq_true] at hcnd
        have hg := Nat.eq_of_beq_eq_true hcnd.1
        have hsq := Ty.eqb_eq hcnd.2
        subst hg hsq
        obtain ⟨e1, e2⟩ := readV_at hx
        have hjlt := (List.getElem?_eq_some_iff.1 hj).1
        have hat : (setNth v q.o (.sl q.s ys))[q.o]? = some (.sl q.s ys) := by rw [setNth_eq, List.getElem?_set_self hjlt]
        have hin : innerOf ee.ty q x = ys := by
          rcases e2 q.o _ hat with h1 | ⟨h1, _⟩
          · rw [(nest_cell ht x).1] at h1
            simp only [Option.some.injEq, Cell.sl.injEq, heq_eq_eq, true_and] at h1
            exact h1
          · simp at h1
        obtain ⟨vj, ej, j1, j2, j3, j4, j5⟩ := hs.row hoj
        have hul : us.length = ee.ty.size := by
          rw [hlen, ← Ty.cells_length ee.ty x, ← e1, setNth_eq, List.length_set]
        obtain ⟨u0, hu0⟩ : ∃ u0, us[q.o]? = some u0 := ⟨_, List.getElem?_eq_getElem (by omega)⟩
        obtain ⟨hsl, sz', n', hj2⟩ := CsSim.place hcs hj hu0
        rw [j2] at hj2
        simp only [Option.some.injEq, Loc.row.injEq] at hj2
        obtain ⟨rfl, _, _⟩ := hj2
        have hblk : ∀ b, vj.ownBlock = some b → b < w.heap.size := fun b hb => (j4.lt b hb).2
        have hN := nests _ x vj (fun p hp => by rw [setNth_eq, List.getElem?_set_ne (by omega)]) hx hu0 hsl hblk (by rw [hin]; exact ⟨ej, ownsRow_kept hkp (fun _ _ _ h => h) j4, fun i x hi => Rd.mono (fun _ h => h.elim) (fun _ h => h) (Rd.flat' (Z' := none1) hfl (j5 i x hi))⟩)
        have hS := hs.turn (o' := .nest e ee.ty q [x] none) (l' := .row (.slice (some ⟨w.heap.size, 0, none⟩) 1 1) ee.ty.size ⟨1, fun k => if k = 0 then vj else nilS⟩) j1 j2 (hkp.mono fun _ _ _ h => h.elim)
          ⟨_, us, _, rfl, hpos, ht, own hul, hN⟩ (fun b y hy => by
            rcases hy with hy | ⟨k, _, hy⟩
            · simp [Value.ownBlock] at hy; exact .inl (by omega)
            · by_cases hk0 : k = 0
              · simp only [if_pos hk0] at hy; exact .inr hy
              · simp only [if_neg hk0] at hy; simp [nilS, Value.ownBlock] at hy)
        exact ⟨by omega, _, _, hS.put (e := .one (.row st.objs.length)) ⟨⟨_, _, _, rfl⟩, _, _, hs.newAt _⟩ o.dst, h⟩
      · exact h.elim
    · exact h.elim
  · rename_i hj
    rw [nth_eq] at hj
    split at h
    · rename_i x hx
      obtain ⟨e1, e2⟩ := readV_at hx
      have hul : us.length = ee.ty.size := by rw [hlen, ← Ty.cells_length ee.ty x, ← e1]
      obtain ⟨u0, hu0⟩ : ∃ u0, us[q.o]? = some u0 := ⟨_, List.getElem?_eq_getElem (by omega)⟩
      have hu0' : u0 = nilS := CsSim.place hcs hj hu0
      have hin : innerOf ee.ty q x = [] := by
        rcases e2 q.o _ hj with h1 | ⟨_, s, h1⟩
        · rw [(nest_cell ht x).1] at h1
          simp at h1
        · rw [(nest_cell ht x).1] at h1
          simp only [Option.some.injEq, Cell.sl.injEq] at h1
          obtain ⟨h2, h3⟩ := h1
          subst h2
          exact eq_of_heq h3
      subst hu0'
      have hN := nests v x nilS (fun p hp => rfl) hx hu0 ⟨_, _, _, rfl⟩ (fun b hb => by simp [nilS, Value.ownBlock] at hb) (by rw [hin]; exact ⟨[], World.ownsRow_nil _ 0 q.e q.s.size, fun i x hi => by simp at hi⟩)
      have hS := hs.add (o := .nest e ee.ty q [x] none) (l := .row (.slice (some ⟨w.heap.size, 0, none⟩) 1 1) ee.ty.size ⟨1, fun k => if k = 0 then nilS else nilS⟩) hkp
        ⟨_, us, _, rfl, hpos, ht, own hul, hN⟩ (fun b y hy => by
          rcases hy with hy | ⟨k, _, hy⟩
          · simp [Value.ownBlock] at hy; omega
          · simp [nilS, Value.ownBlock] at hy)
      exact ⟨by omega, _, _, hS.put (e := .one (.row st.objs.length)) ⟨⟨_, _, _, rfl⟩, _, _, hs.newAt _⟩ o.dst, h⟩
    · exact h.elim
  · exact h.elim

theorem nestPart_some {u : Ty} {inn : Option Inn} {vs : List (Nat × List Cell)} {q : Inn} {v : List Cell} (h : nestPart st u inn vs = some (q, v)) : ((v = [] ∧ vs = []) ∨ (v ≠ [] ∧ ∃ n, vs = [(n, v)])) ∧ nestTy u q = true := by
  unfold nestPart at h
  split at h
  · rename_i q' p
    split at h
    · rename_i hc
      simp only [Bool.and_eq_true] at hc
      simp only [Option.some.injEq, Prod.mk.injEq] at h
      obtain ⟨rfl, rfl⟩ := h
      refine ⟨.inr ⟨fun e => ?_, p.1, rfl⟩, hc.1⟩
      have := hc.2
      rw [e] at this
      simp [movesIn, nth] at this
    · simp at h
  · split at h
    · rename_i hc
      simp only [Option.some.injEq, Prod.mk.injEq] at h
      obtain ⟨rfl, rfl⟩ := h
      exact ⟨.inl ⟨rfl, rfl⟩, hc⟩
    · simp at h
  · simp at h

theorem sound_buildSlice {t : TypeId} {n : Nat} {parts : Array (Nat × Operand)} (ho : o.op = .buildSlice t n parts) (hT : tabOk P T = true) (hs : Sit S st a w Z L) (hg : Goes S K next) (h : opW T C G o st K) : o.wp P a w next Q := by
  simp only [opW, ho] at h
  split at h
  · rename_i e ee hsl
    split at h
    · rename_i vs hvs
      split at h
      · rename_i hc
        simp only [Bool.and_eq_true] at hc
        obtain ⟨⟨ht, hp⟩, hn, hr⟩ := hc
        have hpos : 0 < ee.size := Nat.le_of_ble_eq_true hp
        have hn := Nat.le_of_ble_eq_true hn
        split at h
        · rename_i q hnp
          obtain ⟨hv, hty⟩ := nestPart_some hnp
          obtain ⟨_, rfl⟩ : ([] : List Cell) = [] ∧ vs = [] := hv.resolve_right fun h => h.1 rfl
          obtain ⟨hu, i, d, z, f⟩ := slTy_facts hT hsl
          obtain ⟨t1, t2, t3⟩ := told_facts f ht
          have hps := partsOf_sim hs hvs
          obtain ⟨c1, c2⟩ := parts_range hps hr
          have hn0 : n = 0 := by
            cases n with
            | zero => rfl
            | succ n => simp [rangeN, eqNats] at hr
          subst hn0
          have hpl : parts.toList = [] := by
            cases hx : parts.toList with
            | nil => rfl
            | cons p r => rw [hx] at hps; exact hps.elim
          have hrun := run_buildSlice_any (P := P) w (parts := parts.map fun p => (p.1, a.eval p.2)) (us := #[]) hu f hn (fun cells hcs => by
            rw [Array.toList_map, hpl]
            simp [Instr.fill]
            exact Array.eq_empty_of_size_eq_zero (by simpa using hcs))
          have hS := hs.add (o := .nest e ee.ty q [] none) (l := .row (.slice (some ⟨w.heap.size, 0, none⟩) 0 0) ee.ty.size ⟨0, fun _ => nilS⟩) (Keeps.alloc w _ (.cells #[] e))
            ⟨_, [], fun _ => nilS, rfl, by omega, hty, ⟨by simp, .inr ⟨w.heap.size, 0, #[], rfl, Nat.zero_le _, by
                show (w.heap.push _)[w.heap.size]? = _
                simp, by simp, by simp [maxLen], by simp, by simp⟩⟩, ⟨fun k x hx => by simp at hx, fun k hk => by simp at hk, fun k x hx => by simp at hx, fun k b hb => by simp [nilS, Value.ownBlock] at hb, fun _ _ => rfl⟩⟩
            (fun b y hy => by
              rcases hy with hy | ⟨k, _, hy⟩
              · simp [Value.ownBlock] at hy; omega
              · simp [nilS, Value.ownBlock] at hy)
          refine wp_value (v := .slice (some ⟨w.heap.size, 0, none⟩) 0 0) (w' := w.alloc (.cells #[] e)) ?_ (hg _ _ _ _ _ (hS.put (e := .one (.row st.objs.length)) ⟨⟨_, _, _, rfl⟩, _, _, hs.newAt _⟩ o.dst) h)
          unfold execOp
          simp [ho, hrun]
        · rename_i q v hne hnp
          obtain ⟨hv, hty⟩ := nestPart_some hnp
          obtain ⟨_, n0, rfl⟩ : v ≠ [] ∧ ∃ n, vs = [(n, v)] := hv.resolve_left fun h => hne h.1
          obtain ⟨hu, i, d, z, f⟩ := slTy_facts hT hsl
          have hps := partsOf_sim hs hvs
          obtain ⟨c1, c2⟩ := parts_range hps hr
          have hn1 : n = 1 := by
            have h1 : (rangeN n 0).length = 1 := by
              have := hr
              cases n with
              | zero => simp [rangeN, eqNats] at this
              | succ n => cases n with
                | zero => rfl
                | succ n => simp [rangeN, eqNats] at this
            rwa [rangeN_length] at h1
          subst hn1
          cases hpl : parts.toList with
          | nil => rw [hpl] at hps; exact hps.elim
          | cons p rest =>
            cases rest with
            | cons _ _ => rw [hpl] at hps; exact hps.2.elim
            | nil =>
              rw [hpl] at hps c1
              obtain ⟨⟨hp1, hpc⟩, _⟩ := hps
              obtain ⟨hl, L', st', hS, hK⟩ := buildN_sound f ht hty hs hpc h
              have hrun := run_buildSlice_any (P := P) w (parts := parts.map fun p => (p.1, a.eval p.2)) (us := (a.eval p.2).cells) hu f hn (fun cells hcs => by
                rw [Array.toList_map, hpl, c1]
                refine (Great.fill_whole hpos _ cells (fun v hv => ?_) (by simp [hcs])).trans ?_
                · simp at hv
                  subst hv
                  rw [Array.length_toList] at hl
                  exact hl
                · simp)
              refine wp_value (v := .slice (some ⟨w.heap.size, 0, none⟩) 1 1) (w' := w.alloc (.cells (a.eval p.2).cells e)) ?_ (hg _ _ _ _ _ (by simpa using hS) hK)
              unfold execOp
              simp [ho, hrun]
        split at h
        · rename_i xs hxs
          obtain ⟨hu, i, d, z, f⟩ := slTy_facts hT hsl
          obtain ⟨t1, t2, t3⟩ := told_facts f ht
          have hps := partsOf_sim hs hvs
          obtain ⟨Z', hz', hs', hsh⟩ := Sit.shareAll (partCells vs) hs
          obtain ⟨b1, b2, b3⟩ := readAll_sim hxs (parts_shared hs hz' hsh hps)
          obtain ⟨c1, c2⟩ := parts_range hps hr
          have hlen : xs.length = n := by rw [b1, List.length_map, c2]
          subst hlen
          have hflat : ∀ l : List (Nat × Value), (l.map fun q => q.2.cells.toList).flatten = (l.map Prod.snd).flatMap fun v => v.cells.toList := by
            intro l
            rw [List.flatMap_def, List.map_map]
            rfl
          rw [hflat] at b3
          have hrun := run_buildSlice_any (P := P) w (parts := parts.map fun p => (p.1, a.eval p.2)) (us := (((parts.toList.map fun p => (p.1, a.eval p.2)).map Prod.snd).flatMap fun v => v.cells.toList).toArray) hu f hn (fun cells hcs => by
            rw [Array.toList_map, c1]
            refine (Great.fill_whole hpos _ cells (fun v hv => ?_) (by rw [List.length_map, c2, hcs])).trans ?_
            · obtain ⟨q, hq, rfl⟩ := List.mem_map.1 hv
              have := b2 _ (List.mem_map.2 ⟨q, hq, rfl⟩)
              rw [Array.length_toList] at this
              omega
            · rw [← c1])
          generalize hU : (((parts.toList.map fun p => (p.1, a.eval p.2)).map Prod.snd).flatMap fun v => v.cells.toList) = U at *
          have hkp : Keeps w (fun _ _ => False) (w.alloc (.cells U.toArray e)) := Keeps.alloc w _ _
          have hful : (U).length = xs.length * ee.size := by
            rw [← hU, ← hflat, length_flatten_of (k := ee.size)]
            · rw [List.length_map, c2]
            · intro l hl
              rw [b2 l hl, t1]
          have hs2 := hs'.add (o := .row e ee.ty xs) (l := .row (.slice (some ⟨w.heap.size, 0, none⟩) xs.length xs.length) ee.ty.size xs.length) hkp
            ⟨.slice (some ⟨w.heap.size, 0, none⟩) xs.length xs.length, _, rfl, by omega, ⟨by rw [t1]; exact hful, .inr ⟨w.heap.size, xs.length, U.toArray, rfl, Nat.zero_le _, by
                show (w.heap.push _)[w.heap.size]? = _
                simp, by omega, by
                have := Nat.le_mul_of_pos_right xs.length hpos
                simp only [maxLen]; omega, by rw [List.size_toArray, t1]; exact hful, by rw [t1, ← hful, List.take_length]⟩⟩,
              RowRd.mono (fun b hb => hkp.same (hs'.sims.zin b hb) fun _ hx => hx) (fun _ hb => hb) b3⟩ (fun b q hq => by simp [foot, Value.ownBlock] at hq; omega)
          refine wp_value (v := .slice (some ⟨w.heap.size, 0, none⟩) xs.length xs.length) ?_ (hg _ _ _ _ _ (hs2.put (e := .one (.row _)) ⟨⟨_, _, _, rfl⟩, _, _, hs'.newAt _⟩ o.dst) h)
          unfold execOp
          simp [ho, hrun]
        · exact h.elim
      · exact h.elim
    · exact h.elim
  · exact h.elim
end
end Go.Ry
set_option linter.unusedVariables false
set_option linter.unusedSimpArgs false
namespace Go.Ry

section
variable {P : Program} {S : Start} {st : St} {a : Act} {w w' : World} {Z Z' : Nat → Prop} {L L' : List Loc} {T : Tab} {C : Calls_} {G : List (Nat × Sig)} {o : Oper} {K : St → Prop} {next : Act → World → Prop} {Q : Exit → Act → World → Prop}

theorem kind_map {te : TE} {d : TypeDesc} {k e : Nat} (h : kindOk te d = true) (hk : te.kind = .map k e) : d = .map k e := by
  cases d <;> simp only [kindOk, hk] at h <;> simp_all
theorem kind_zint {P : Program} {t : Nat} {te : TE} {i : TypeInfo} {d : TypeDesc} {z : Value} {k : IntKind} (f : TEFacts P t te i d z) (hk : te.kind = .int k) : z = .int k 0 := by
  have h := f.zint
  rw [hk] at h
  unfold zintOk at h
  split at h <;> simp_all
theorem find_rel {k v : IntKind} : ∀ {arr : List MapEntry} {es : List (Int × Int)} {n : Int} {i : Nat}, arr.map (fun e => (e.key, e.val)) = es.map (fun p => (Value.int k p.1, Value.int v p.2)) →
    Instr.findNow (.int k) (.int k n) arr i = some ((mfind es n i).map fun p => (p.1, Value.int v p.2))
  | [], [], n, i, _ => rfl
  | [], _ :: _, _, _, h => by simp at h
  | _ :: _, [], _, _, h => by simp at h
  | e :: arr, p :: es, n, i, h => by
    simp only [List.map_cons, List.cons.injEq, Prod.mk.injEq] at h
    obtain ⟨⟨h1, h2⟩, h3⟩ := h
    simp only [Instr.findNow, h1, Instr.sameNow, if_true, mfind]
    by_cases hn : n = p.1
    · subst hn
      simp [h2]
    · rw [if_neg hn]
      have hb : (n == p.1) = false := by simpa using hn
      simp only [hb]
      exact find_rel h3
theorem mfind_at : ∀ {es : List (Int × Int)} {n : Int} {i j : Nat} {y : Int}, mfind es n i = some (j, y) → i ≤ j ∧ es[j - i]? = some (n, y)
  | [], _, _, _, _, h => by simp [mfind] at h
  | p :: es, n, i, j, y, h => by
    simp only [mfind] at h
    split at h
    · rename_i hn
      simp only [Option.some.injEq, Prod.mk.injEq] at h
      obtain ⟨rfl, rfl⟩ := h
      exact ⟨Nat.le_refl _, by simp [hn]⟩
    · obtain ⟨h1, h2⟩ := mfind_at h
      refine ⟨by omega, ?_⟩
      rw [show j - i = (j - (i + 1)) + 1 by omega, List.getElem?_cons_succ]
      exact h2

theorem sound_makeMap {t : TypeId} {r : Option Operand} (ho : o.op = .makeMap t r) (hT : tabOk P T = true) (hs : Sit S st a w Z L) (hg : Goes S K next) (h : opW T C G o st K) : o.wp P a w next Q := by
  simp only [opW, ho] at h
  split at h
  · rename_i te hte
    split at h
    · rename_i ka eb hk
      split at h
      · rename_i ta tb hta htb
        split at h
        · rename_i k v hka hkb
          have hs' := hs.add (o := .imap k v []) (l := .box w.heap.size 0 (0, 0)) (w' := w.alloc (.map #[] 0)) (Keeps.alloc w _ _) ⟨w.heap.size, rfl, #[], 0, by
            show (w.heap.push _)[w.heap.size]? = _
            simp, rfl⟩ (fun b q hq => by
            have hb : b = w.heap.size := hq
            omega)
          refine wp_value (v := .map (some w.heap.size)) (w' := w.alloc (.map #[] 0)) ?_ (hg _ _ _ _ _ (hs'.put (e := .one (.mapP st.objs.length)) ⟨_, hs.newAt _, rfl⟩ o.dst) h)
          unfold execOp
          simp [ho, Instr.makeMap]
        · exact h.elim
      · exact h.elim
    · exact h.elim
  · exact h.elim

theorem Sit.imap (h : Sit S st a w Z L) {i : Nat} {k v : IntKind} {es : List (Int × Int)} (hi : st.ob i = .imap k v es) :
    ∃ g, st.objs[i]? = some (.imap k v es) ∧ L[i]? = some (.box g 0 (0, 0)) ∧ MapAt w g k v es := by
  have h1 : st.objs[i]? = some (.imap k v es) := hi ▸ St.ob_some (by rw [hi]; simp)
  obtain ⟨l, hl, g, rfl, h2⟩ := h.loc h1
  exact ⟨g, h1, hl, h2⟩

theorem sound_lookup {t : TypeId} {x y : Operand} {ok : Bool} (ho : o.op = .lookup t x y ok) (hT : tabOk P T = true) (hs : Sit S st a w Z L) (hg : Goes S K next) (h : opW T C G o st K) : o.wp P a w next Q := by
  simp only [opW, ho] at h
  split at h
  · rename_i te i l n hte hx hy
    split at h
    · rename_i ka eb k v es hk hob
      split at h
      · rename_i ta tb hta htb
        split at h
        · rename_i k' v' hka hkb
          split at h
          · rename_i hc
            obtain ⟨rfl, rfl, rfl⟩ := hc
            obtain ⟨d, hd, hkd⟩ := under_of (d := .bool) hT hte
            rw [kind_map hkd hk] at hd
            obtain ⟨da, hda, hkda⟩ := under_of (d := .bool) hT hta
            rw [kind_int hkda hka] at hda
            obtain ⟨ii, dd, zz, ff⟩ := teFacts (tabOk_look hT htb)
            have hz := kind_zint ff hkb
            obtain ⟨g, q1, q2, arr, clock, q3, q4⟩ := hs.imap hob
            obtain ⟨g', q5, q6⟩ := ev_one hs hx
            rw [q2] at q5
            simp only [Option.some.injEq, Loc.box.injEq] at q5
            obtain ⟨rfl, _⟩ := q5
            have cy : a.eval y = .int k n := ev_one hs hy
            have hfind := find_rel (k := k) (v := v') (n := n) (i := 0) q4
            have hkey : (Instr.findKey ka (.int k n) arr.toList).run P w = .ok ((mfind es n 0).map fun p => (p.1, Value.int v' p.2)) w := MapKept.run_findKey hda hfind
            have hchk : ∀ b, (Instr.checkKey b 10000 ka (.int k n)).run P w = .ok () w := fun b => MapKept.run_checkKey hda (by simp [MapKept.IsKey]) b 9999
            have hzero : (zeroValue eb).run P w = .ok (.int v' 0) w := by simp [zeroValue, typeInfo, ff.info, ff.zero, hz]
            have hrun : (Instr.lookup t (a.eval x) (a.eval y) ok).run P w = .ok (if ok then .tuple #[.int v' ((lkup es n).getD 0), .bool (lkup es n).isSome] else .int v' ((lkup es n).getD 0)) w := by
              rw [q6, cy]
              unfold lkup
              cases hm : mfind es n 0 with
              | none =>
                rw [hm] at hkey
                simp [Instr.lookup, run_underlying hd, MapKept.run_getObj_map q3, hchk, hkey, hzero, Result.andThen]
              | some p =>
                rw [hm] at hkey
                simp [Instr.lookup, run_underlying hd, MapKept.run_getObj_map q3, hchk, hkey, Result.andThen]
            cases ok
            · exact wp_value (v := .int v' ((lkup es n).getD 0)) (w' := w) (by unfold execOp; simp [ho, hrun]) (hg _ _ _ _ _ (hs.put (e := .one (.int v' ((lkup es n).getD 0))) rfl o.dst) h)
            · exact wp_value (v := .tuple #[.int v' ((lkup es n).getD 0), .bool (lkup es n).isSome]) (w' := w) (by unfold execOp; simp [ho, hrun]) (hg _ _ _ _ _ (hs.put (e := .tup [(false, [.int v' ((lkup es n).getD 0)]), (false, [.bool (lkup es n).isSome])]) ⟨#[.int v' ((lkup es n).getD 0), .bool (lkup es n).isSome], rfl, ⟨rfl, trivial⟩, ⟨rfl, trivial⟩, trivial⟩ o.dst) h)
          · exact h.elim
        · exact h.elim
      · exact h.elim
    · exact h.elim
  · exact h.elim

theorem sound_mapUpdate {t : TypeId} {m x y : Operand} (ho : o.op = .mapUpdate t m x y) (hT : tabOk P T = true) (hs : Sit S st a w Z L) (hg : Goes S K next) (h : opW T C G o st K) : o.wp P a w next Q := by
  simp only [opW, ho] at h
  split at h
  · rename_i te i l n u z hte hm hx hy
    split at h
    · rename_i ka eb k v es hk hob
      split at h
      · rename_i ta hta
        split at h
        · rename_i k' hka
          split at h
          · rename_i hc
            obtain ⟨rfl, rfl, rfl⟩ := hc
            obtain ⟨d, hd, hkd⟩ := under_of (d := .bool) hT hte
            rw [kind_map hkd hk] at hd
            obtain ⟨da, hda, hkda⟩ := under_of (d := .bool) hT hta
            rw [kind_int hkda hka] at hda
            obtain ⟨g, q1, q2, arr, clock, q3, q4⟩ := hs.imap hob
            obtain ⟨g', q5, q6⟩ := ev_one hs hm
            rw [q2] at q5
            simp only [Option.some.injEq, Loc.box.injEq] at q5
            obtain ⟨rfl, _⟩ := q5
            have cx : a.eval x = .int k n := ev_one hs hx
            have cy : a.eval y = .int u z := ev_one hs hy
            have hfind := find_rel (k := k) (v := u) (n := n) (i := 0) q4
            have hkey : (Instr.findKey ka (.int k n) arr.toList).run P w = .ok ((mfind es n 0).map fun p => (p.1, Value.int u p.2)) w := MapKept.run_findKey hda hfind
            have hchk : ∀ b, (Instr.checkKey b 10000 ka (.int k n)).run P w = .ok () w := fun b => MapKept.run_checkKey hda (by simp [MapKept.IsKey]) b 9999
            have hlen : arr.size = es.length := by
              have := congrArg List.length q4
              simpa using this
            -- what the block is from now on
            have main : ∃ arr' clock', (Instr.mapUpdate t (a.eval m) (a.eval x) (a.eval y)).run P w = .ok () { w with heap := w.heap.setIfInBounds g (.map arr' clock') } ∧
                arr'.toList.map (fun e => (e.key, e.val)) = (mput es n z).map fun p => (Value.int k p.1, Value.int u p.2) := by
              rw [q6, cx, cy]
              unfold mput
              cases hf : mfind es n 0 with
              | none =>
                rw [hf] at hkey
                refine ⟨arr.push { key := .int k n, val := .int u z, born := clock }, clock + 1, by simp [Instr.mapUpdate, run_underlying hd, MapKept.run_getObj_map q3, hchk, hkey, MapKept.run_setObj_map _ q3, Result.andThen], ?_⟩
                simp [q4]
              | some p =>
                obtain ⟨j, y0⟩ := p
                rw [hf] at hkey
                obtain ⟨_, hj⟩ := mfind_at hf
                simp only [Nat.sub_zero] at hj
                have hjl := (List.getElem?_eq_some_iff.1 hj).1
                have hold : ((arr[j]?).map (·.key)).getD (.int k n) = .int k n := by
                  have h1 : (arr.toList.map (fun e => (e.key, e.val)))[j]? = some (Value.int k n, Value.int u y0) := by rw [q4, List.getElem?_map, hj]; rfl
                  rw [List.getElem?_map, Array.getElem?_toList] at h1
                  cases ha : arr[j]? with
                  | none => rfl
                  | some e => rw [ha] at h1; simp at h1; simp [h1.1]
                have hstay : (Instr.keyThatStays (.int k n) (.int k n)).run P w = .ok (.int k n) w := by
                  simp [Instr.keyThatStays, Instr.sameBits]
                refine ⟨arr.modify j (fun e => { e with key := .int k n, val := .int u z }), clock, ?_, ?_⟩
                · simp [Instr.mapUpdate, run_underlying hd, MapKept.run_getObj_map q3, hchk, hkey, hold, hstay, MapKept.run_setObj_map _ q3, Result.andThen]
                · apply List.ext_getElem?
                  intro c
                  rw [List.getElem?_map, List.getElem?_map, Array.getElem?_toList, Array.getElem?_modify]
                  have h1 : (arr.toList.map (fun e => (e.key, e.val)))[c]? = (es.map fun p => (Value.int k p.1, Value.int u p.2))[c]? := by rw [q4]
                  rw [List.getElem?_map, List.getElem?_map, Array.getElem?_toList] at h1
                  by_cases hcj : j = c
                  · subst hcj
                    rw [if_pos rfl, List.getElem?_set_self hjl]
                    cases ha : arr[j]? with
                    | none =>
                      have : arr.size ≤ j := by simpa using ha
                      omega
                    | some e => simp
                  · rw [if_neg hcj, List.getElem?_set_ne hcj]
                    exact h1
            obtain ⟨arr', clock', hrun, hrel⟩ := main
            have hglt := (Array.getElem?_eq_some_iff.1 q3).1
            have hkp : Keeps w (foot (.imap k u es) (.box g 0 (0, 0))) { w with heap := w.heap.setIfInBounds g (.map arr' clock') } := by
              refine ⟨rfl, rfl, rfl, by simp, fun b hb => ?_⟩
              by_cases hbg : b = g
              · exact .inr (.inr fun _ => hbg)
              · refine .inl ?_
                show (w.heap.setIfInBounds g _)[b]? = _
                rw [Array.getElem?_setIfInBounds_ne (by omega)]
            have hs' := hs.set (o' := .imap k u (mput es n z)) q1 q2 hkp ⟨g, rfl, arr', clock', by
              show (w.heap.setIfInBounds g _)[g]? = _
              rw [Array.getElem?_setIfInBounds_self_of_lt hglt], hrel⟩ (fun b q hq => hq)
            refine wp_skip (w' := { w with heap := w.heap.setIfInBounds g (.map arr' clock') }) ?_ (hg _ _ _ _ _ (hs'.put (e := .tup []) (v := undef) ⟨#[], rfl, trivial⟩ o.dst) h)
            unfold execOp
            simp [ho, hrun]
          · exact h.elim
        · exact h.elim
      · exact h.elim
    · exact h.elim
  · exact h.elim

theorem opW_sound (hT : tabOk P T = true) (hC : Told P C) (hs : Sit S st a w Z L) (hg : Goes S K next) (h : opW T C G o st K) : o.wp P a w next Q := by
  cases ho : o.op with
  | move x => exact sound_move (.inl ho) hs (by simpa only [opW, ho] using h) (hs.finV hg)
  | assign x => exact sound_move (.inr ho) hs (by simpa only [opW, ho] using h) (hs.finV hg)
  | pick c x y => exact sound_pick ho hs (hs.finV hg) (by simp only [opW, ho] at h; exact h)
  | alloc t => exact sound_alloc ho hT hs hg h
  | box t x => exact sound_box ho hs hg h
  | build t ps => exact sound_build ho hT hs (hs.finV hg) h
  | buildSlice t n ps => exact sound_buildSlice ho hT hs hg h
  | load t x => exact sound_load ho hT hs hg h
  | store t x y => exact sound_store ho hT hs hg h
  | nilCheck x => exact sound_nilCheck ho hs (hs.finV hg) h
  | binOp op t x y z => exact sound_binOp ho hT hs (hs.finV hg) h
  | unOp op t x => exact sound_unOp ho hs (hs.finV hg) h
  | convert s d x => exact sound_convert ho hT hs hg h
  | makeFunc f x y => exact sound_makeFunc ho hs (hs.finV hg) h
  | makeSlice t x y => exact sound_makeSlice ho hT hs hg h
  | fieldAddr s x k => exact sound_fieldAddr ho hT hs (hs.finV hg) h
  | field s x k => exact sound_field ho hT hs (hs.finV hg) h
  | indexAddr t x y => exact sound_indexAddr ho hT hs (hs.finV hg) h
  | index t x y => exact sound_index ho hT hs (hs.finV hg) h
  | makeMap t r => exact sound_makeMap ho hT hs hg h
  | lookup t x y ok => exact sound_lookup ho hT hs hg h
  | mapUpdate t m x y => exact sound_mapUpdate ho hT hs hg h
  | extract x i => exact sound_extract ho hs (hs.finV hg) h
  | slice t x lo hi m =>
    cases m with
    | none => exact sound_slice ho hT hs (hs.finV hg) h
    | some m => simp [opW, ho] at h
  | call c =>
    cases hcl : c.callee with
    | builtin b =>
      have h' : builtinW T b c.args.toList c.argTypes.toList st o.dst K := by
        rcases c with ⟨ce, ar, at_⟩
        simp only at hcl
        subst hcl
        simpa only [opW, ho] using h
      cases b
      case len =>
        cases har : c.args.toList with
        | nil => rw [har] at h'; simp [builtinW] at h'
        | cons x l =>
          cases l with
          | nil => rw [har] at h'; exact sound_len ho hcl har rfl hT hs (hs.finV hg) h'
          | cons y l => rw [har] at h'; simp [builtinW] at h'
      case min => exact sound_min ho hcl hs (hs.finV hg) h'
      case max => exact sound_max ho hcl hs (hs.finV hg) h'
      case append =>
        cases har : c.args.toList with
        | nil => rw [har] at h'; simp [builtinW] at h'
        | cons x l =>
          cases l with
          | nil => rw [har] at h'; simp [builtinW] at h'
          | cons y l =>
            cases l with
            | nil => rw [har] at h'; exact sound_append ho hcl har rfl hT hs hg h'
            | cons _ _ => rw [har] at h'; simp [builtinW] at h'
      case copy =>
        cases har : c.args.toList with
        | nil => rw [har] at h'; simp [builtinW] at h'
        | cons x l =>
          cases l with
          | nil => rw [har] at h'; simp [builtinW] at h'
          | cons y l =>
            cases l with
            | nil => rw [har] at h'; exact sound_copy ho hcl har rfl hT hs hg h'
            | cons _ _ => rw [har] at h'; simp [builtinW] at h'
      all_goals simp [builtinW] at h'
    | value f =>
      refine sound_call (G := G) ho hcl hC hs hg ?_
      rcases c with ⟨ce, ar, at_⟩
      simp only at hcl
      subst hcl
      simp only [opW, ho] at h
      exact h
    | _ => exfalso; rcases c with ⟨ce, ar, at_⟩; simp only at hcl; subst hcl; simp [opW, ho] at h
  | _ => simp [opW, ho] at h
end
end Go.Ry
