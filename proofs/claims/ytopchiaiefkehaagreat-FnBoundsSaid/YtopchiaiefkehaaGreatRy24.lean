/- The evaluator, texts 21 to 24: The evaluator is right: calls (5). The evaluator is right: calls (6). The evaluator is right: operations (7): make. The evaluator is right: operations (8): conversions. No condition. -/
import Derived.Test.YtopchiaiefkehaaGreatRy20
set_option linter.unusedVariables false
set_option linter.unusedSimpArgs false
namespace Go.Ry

section
variable {P : Program} {S : Start} {st : St} {a : Act} {w w' : World} {Z Z' : Nat → Prop} {L L' : List Loc} {T : Tab} {C : Calls_} {G : List (Nat × Sig)} {o : Oper} {K : St → Prop} {next : Act → World → Prop} {Q : Exit → Act → World → Prop}

theorem CsSim.mapMem {f : Cell → Cell} : ∀ {cs : List Cell} {vs : List Value}, (∀ c ∈ cs, ∀ v, CSim w Z L c v → CSim w Z' L' (f c) v) → CsSim w Z L cs vs → CsSim w Z' L' (cs.map f) vs
  | [], [], _, _ => trivial
  | [], _ :: _, _, h => h.elim
  | _ :: _, [], _, h => h.elim
  | _ :: _, _ :: _, hf, ⟨h1, h2⟩ => ⟨hf _ List.mem_cons_self _ h1, CsSim.mapMem (fun c hc => hf c (List.mem_cons_of_mem _ hc)) h2⟩
theorem EsSim.mapA {f : Cell → Cell} : ∀ {es : List Ent} {vs : List Value}, (∀ c ∈ entCells es, ∀ v, CSim w Z L c v → CSim w Z' L' (f c) v) → EsSim w Z L es vs → EsSim w Z' L' (es.map (Ry.mapA f)) vs
  | [], [], _, _ => trivial
  | [], _ :: _, _, h => h.elim
  | _ :: _, [], _, h => h.elim
  | e :: es, v :: vs, hf, ⟨h1, h2⟩ => by
    refine ⟨?_, EsSim.mapA (fun c hc => hf c (List.mem_append_right _ hc)) h2⟩
    cases e with
    | undef => trivial
    | tup l => trivial
    | one c => exact hf c (List.mem_append_left _ (by simp [Ent.cells])) _ h1
    | agg cs =>
      obtain ⟨us, e1, e2⟩ := h1
      exact ⟨us, e1, CsSim.mapMem (fun c hc => hf c (List.mem_append_left _ (by simpa [Ent.cells] using hc))) e2⟩

theorem disj_not : ∀ {l M : List Nat}, disj l M = true → ∀ i ∈ l, i ∉ M
  | [], M, _, i, h => by simp at h
  | n :: l, M, h, i, hi => by
    simp only [disj, cond_eq_ite] at h
    split at h
    · simp at h
    · rename_i hn
      rcases List.mem_cons.1 hi with rfl | hi
      · exact fun hm => hn (memN_iff.2 hm)
      · exact disj_not h i hi

theorem callW_sound {g : Nat} {es : List Ent} {vs : Array Value} (hC : Told P C) (hs : Sit S st a w Z L) (hg : Goes S K next) (h : callW C G g es st o.dst K)
    (has : EsSim w Z L es vs.toList) (hrun : (execOp a.eval o).run P w = (callFunc g vs).run P w) : o.wp P a w next Q := by
  unfold callW at h
  split at h
  · rename_i s hsg
    split at h
    · cases hoe : openEs st es with
      | mk st1 p =>
        obtain ⟨es1, ps⟩ := p
        rw [hoe] at h
        simp only at h
        obtain ⟨L1, a1, a2, a3, a4⟩ := openEs_sound hs has hoe
        split at h
        · rename_i hc
          simp only [Bool.and_eq_true] at hc
          exact callM_sound (extra := fun _ => False) hC a1 a4 hg h (nodupN_nodup hc.1) (allLt_lt hc.2) (fun b hb => hb.elim) (fun b hb => hb.elim) (.inl fun _ h => h)
            (EsSim.mono (fun _ _ => rfl) (fun _ hb => .inl hb) (Grows.refl _) a3) hrun
        · exact h.elim
    · split at h
      · dsimp only at h
        split at h
        · rename_i hc
          simp only [Bool.and_eq_true, Bool.or_eq_true] at hc
          obtain ⟨c1, c2, c3, c4, c5⟩ := hc
          let extra : Nat → Prop := fun b => ∃ i ∈ rowIds (entCells es), ∃ l, L[i]? = some l ∧ rowB (st.ob i) l b
          have hob : ∀ i l b, rowB (st.ob i) l b → st.objs[i]? = some (st.ob i) := fun i l b h => St.ob_some fun e => by rw [e] at h; exact h.elim
          have hM := allLt_lt c2
          refine callM_sound (extra := extra) hC hs (fun p hp => by simp at hp) hg h (nodupN_nodup c1) hM ?_ ?_ (.inr ⟨c4, fun ha => ?_⟩) (EsSim.mapA (fun c hc v hv => ?_) has) hrun
          · rintro b ⟨i, _, l, h1, h2⟩
            exact foot_lt (hs.sims.ob i _ l (hob i l b h2) h1) (rowB_foot h2 0)
          · rintro b ⟨i, hi, l, h1, h2⟩ j hj o' l' ho' hl' q hq
            have hij : i ≠ j := fun e => disj_not c3 i hi (e ▸ hj)
            exact hs.sims.sep i j _ _ o' l' (hob i l b h2) h1 ho' hl' hij b q (rowB_foot h2 q) hq
          · rcases c5 with c5 | c5
            · rw [ha] at c5; simp [isNone] at c5
            · exact c5
          · refine sharedC_sim hs (fun b hb => .inl hb) (fun i hi l b hl hb => .inr ⟨i, mem_rowIds hc hi, l, hl, hb⟩) hv
        · exact h.elim
      · dsimp only at h
        split at h
        · rename_i hc
          simp only [Bool.and_eq_true] at hc
          obtain ⟨Z', hz', hs', hsh⟩ := Sit.shareAll (entCells es) hs
          refine callM_sound (extra := fun _ => False) hC hs' (fun p hp => by simp at hp) hg h (nodupN_nodup hc.1) (allLt_lt hc.2) (fun b hb => hb.elim) (fun b hb => hb.elim) (.inl fun _ h => h) ?_ hrun
          refine EsSim.mono (fun _ _ => rfl) (fun _ hb => .inl hb) (Grows.refl _) (EsSim.mapA (Z' := Z') (fun c hc v hv => ?_) has)
          exact sharedC_sim hs hz' (fun i hi => hsh i (mem_rowIds hc hi)) hv
        · exact h.elim
  · exact h.elim
end
end Go.Ry
set_option linter.unusedVariables false
set_option linter.unusedSimpArgs false
namespace Go.Ry

section
variable {P : Program} {S : Start} {st : St} {a : Act} {w w' : World} {Z Z' : Nat → Prop} {L L' : List Loc} {T : Tab} {C : Calls_} {G : List (Nat × Sig)} {o : Oper} {K : St → Prop} {next : Act → World → Prop} {Q : Exit → Act → World → Prop} {R : Prop}

theorem EsSim.append : ∀ {es fs : List Ent} {vs us : List Value}, EsSim w Z L es vs → EsSim w Z L fs us → EsSim w Z L (es ++ fs) (vs ++ us)
  | [], _, [], _, _, h => h
  | [], _, _ :: _, _, h, _ => h.elim
  | _ :: _, _, [], _, h, _ => h.elim
  | _ :: _, _, _ :: _, _, ⟨h1, h2⟩, h => ⟨h1, EsSim.append h2 h⟩

theorem boxes_ents : ∀ {bs : List Nat} {vs : List Value}, areBoxes L bs vs → EsSim w Z L (bs.map fun b => .one (.ptrB b 0)) vs
  | [], [], _ => trivial
  | [], _ :: _, h => h.elim
  | _ :: _, [], h => h.elim
  | b :: bs, v :: vs, ⟨⟨g, q, h1, h2⟩, h3⟩ => ⟨⟨g, q, h1, h2⟩, boxes_ents h3⟩

theorem sound_call {c : Call} {f : Operand} (ho : o.op = .call c) (hcl : c.callee = .value f) (hC : Told P C) (hs : Sit S st a w Z L) (hg : Goes S K next)
    (h : match st.ev f with
      | .one (.fn g bs) => callW C G g (c.args.toList.map st.ev ++ bs.map fun b => .one (.ptrB b 0)) st o.dst K
      | _ => False) : o.wp P a w next Q := by
  split at h
  · rename_i g bs hf
    obtain ⟨caps, hv, hb⟩ := ev_one hs hf
    refine callW_sound (vs := c.args.map a.eval ++ caps) hC hs hg h ?_ ?_
    · have : (c.args.map a.eval ++ caps).toList = c.args.toList.map a.eval ++ caps.toList := by simp
      rw [this]
      exact EsSim.append (hs.evs _) (boxes_ents hb)
    · unfold execOp
      simp [ho, resolve, hcl, hv, Deferred.ofValue, invoke]
  · exact h.elim

theorem chunks_length (sz : Nat) : ∀ (n : Nat) (cs : List Cell), (chunks sz n cs).length = n
  | 0, _ => rfl
  | n + 1, cs => by simp [chunks, chunks_length sz n]
theorem chunks_get (sz : Nat) : ∀ (n : Nat) (cs : List Cell) (k : Nat), k < n → (chunks sz n cs)[k]? = some ((cs.drop (k * sz)).take sz)
  | 0, _, _, h => by omega
  | n + 1, cs, 0, _ => by simp [chunks]
  | n + 1, cs, k + 1, h => by
    simp only [chunks, List.getElem?_cons_succ]
    rw [chunks_get sz n _ k (by omega), List.drop_drop]
    congr 3
    rw [Nat.add_mul, Nat.one_mul, Nat.add_comm]
theorem pickA_at {agg : Bool} {i : Int} {K : Ent → Prop} : ∀ {l : List (List Cell)} {k : Nat}, pickA agg i l k K → (k : Int) ≤ i → i < k + l.length → ∃ cs, l[(i - k).toNat]? = some cs ∧ K (entOf agg cs)
  | [], k, h, _, _ => h.elim
  | cs :: l, k, h, h0, h1 => by
    simp only [pickA] at h
    split at h
    · simp only [List.length_cons, List.length_nil] at h1
      exact ⟨cs, by rw [show (i - k).toNat = 0 by omega]; rfl, h⟩
    · by_cases hk : i = k
      · subst hk
        simp only [beq_self_eq_true, ifB] at h
        exact ⟨cs, by simp, h⟩
      · have : (i == (k : Int)) = false := by simpa using hk
        rw [this] at h
        simp only [List.length_cons] at h1
        obtain ⟨ds, e1, e2⟩ := pickA_at h (by omega) (by omega)
        refine ⟨ds, ?_, e2⟩
        rw [show (i - k).toNat = (i - ((k + 1 : Nat) : Int)).toNat + 1 by omega, List.getElem?_cons_succ]
        exact e1
theorem readAll_at {u : Ty} : ∀ {css : List (List Cell)} {xs : List u.den}, readAll u css = some xs → ∀ (i : Nat) (cs : List Cell), css[i]? = some cs → ∃ x, xs[i]? = some x ∧ readV u cs = some x
  | [], xs, h, i, cs, hc => by simp at hc
  | c :: css, xs, h, i, cs, hc => by
    simp only [readAll] at h
    split at h
    · rename_i x xs' h1 h2
      simp only [Option.some.injEq] at h
      subst h
      cases i with
      | zero =>
        simp only [List.getElem?_cons_zero, Option.some.injEq] at hc
        subst hc
        exact ⟨x, rfl, h1⟩
      | succ i => simpa using readAll_at h2 i cs (by simpa using hc)
    · simp at h

theorem sound_part {t : TypeId} {ee : TE} {v : Value} {vs : Array Value} {off : Nat} {cs : List Cell} (hT : tabOk P T = true) (he : look T t = some ee) (hcs : CsSim w Z L cs vs.toList) (hle : off + ee.size ≤ cs.length) :
    ∃ v, (∀ w, (part t vs off).run P w = .ok v w) ∧ ESim w Z L (entOf ee.agg ((cs.drop off).take ee.size)) v ∧ (∀ ds, CsSim w Z L ds ((vs.toList.drop off).take ee.size) → ESim w Z L (entOf ee.agg ds) v) := by
  obtain ⟨i, d, z, ff⟩ := teFacts (tabOk_look hT he)
  have hlen := CsSim.length hcs
  have hseg := CsSim.take (n := ee.size) (CsSim.drop (n := off) hcs)
  by_cases hagg : ee.agg = true
  · have hx : (vs.extract off (off + ee.size)).toList = (vs.toList.drop off).take ee.size := by simp [Array.toList_extract, List.extract_eq_take_drop]
    have key : ∀ ds, CsSim w Z L ds ((vs.toList.drop off).take ee.size) → ESim w Z L (entOf ee.agg ds) (.agg (vs.extract off (off + ee.size))) := fun ds hd => by
      rw [hagg]
      exact ⟨_, rfl, by rw [hx]; exact hd⟩
    exact ⟨.agg (vs.extract off (off + ee.size)), fun w => by simp [part, run_isAgg ff, hagg, run_sizeOf ff], key _ hseg, key⟩
  · have h1 : ee.size = 1 := ff.one.resolve_left hagg
    have hagg' : ee.agg = false := by simpa using hagg
    have hlt : off < vs.size := by rw [← Array.length_toList, hlen]; omega
    have hd : vs.toList.drop off = vs[off] :: vs.toList.drop (off + 1) := by
      rw [List.drop_eq_getElem_cons (by simpa using hlt)]
      simp
    have key : ∀ ds, CsSim w Z L ds ((vs.toList.drop off).take ee.size) → ESim w Z L (entOf ee.agg ds) vs[off] := fun ds hh => by
      rw [h1, hd, List.take_succ_cons, List.take_zero] at hh
      rw [hagg']
      match ds, hh with
      | [c], hh => exact hh.1
      | [], hh => exact hh.elim
      | _ :: _ :: _, hh => exact hh.2.elim
    exact ⟨vs[off], fun w => by simp [part, run_isAgg ff, hagg', hlt], key _ hseg, key⟩

theorem sound_index {t : TypeId} {x y : Operand} (ho : o.op = .index t x y) (hT : tabOk P T = true) (hs : Sit S st a w Z L) (hg : FinV P o a w Z L st K R) (h : opW T C G o st K) : R := by
  simp only [opW, ho] at h
  split at h
  · rename_i te s k i hte hx hy
    split at h
    · rename_i hk
      obtain ⟨⟨h0, h1⟩, h⟩ := h
      obtain ⟨d, hd, hkd⟩ := under_of (d := .bool) hT hte
      rw [kind_str hkd hk] at hd
      have cx : a.eval x = .string s := ev_one hs hx
      have cy : a.eval y = .int k i := ev_one hs hy
      have hlt : i.toNat < s.size := by omega
      have hb : (bytesL s).getD i.toNat 0 = (s[i.toNat].toNat : Int) := by
        have : i.toNat < s.data.toList.length := by rw [Array.length_toList]; exact hlt
        simp only [bytesL, List.getD_eq_getElem?_getD, List.getElem?_map]
        rw [List.getElem?_eq_getElem this]
        simp only [Option.map_some, Option.getD_some]
        rfl
      refine hg.value (v := .int .u8 (s[i.toNat].toNat : Int)) (e := .one (.int .u8 ((bytesL s).getD i.toNat 0))) ?_ (by rw [hb]; rfl) h
      unfold execOp
      simp [ho, cx, cy, Instr.index, asIntOf, run_underlying hd, h0, hlt]
    · exact h.elim
  · rename_i te cs k i hte hx hy
    split at h
    · rename_i n ee hk hee
      split at h
      · rename_i hlen
        have hlen := Nat.eq_of_beq_eq_true hlen
        obtain ⟨⟨h0, h1⟩, h⟩ := h
        obtain ⟨d, hd, hkd⟩ := under_of (d := .bool) hT hte
        obtain ⟨rfl, _⟩ := kind_array hkd hk
        have cx := hs.ev x
        rw [hx] at cx
        obtain ⟨vs, hv, hcs⟩ := cx
        have cy : a.eval y = .int k i := ev_one hs hy
        obtain ⟨ii, dd, zz, ff⟩ := teFacts (tabOk_look hT hee)
        have hin : i.toNat < n := by omega
        have hle : i.toNat * ee.size + ee.size ≤ cs.length := by
          have := Nat.mul_le_mul_right ee.size (show i.toNat + 1 ≤ n by omega)
          rw [Nat.add_mul, Nat.one_mul] at this
          omega
        obtain ⟨v, hp, hq, hr⟩ := sound_part (v := undef) hT hee hcs hle
        have run : ∀ w, (execOp a.eval o).run P w = .ok (.value v) w := fun w => by
          unfold execOp
          simp [ho, hv, cy, Instr.index, asIntOf, run_underlying hd, h0, h1, run_sizeOf ff, hp]
        have viaPick : pickA ee.agg i (chunks ee.size n cs) 0 (fun e => K (st.putO o.dst e)) → R := fun h => by
          obtain ⟨ds, e1, e2⟩ := pickA_at h (by omega) (by rw [chunks_length]; omega)
          rw [show (i - ((0 : Nat) : Int)).toNat = i.toNat by omega, chunks_get _ _ _ _ hin] at e1
          simp only [Option.some.injEq] at e1
          subst e1
          exact hg.value run hq e2
        unfold arrW at h
        split at h
        · split at h
          · rename_i xs hxs
            obtain ⟨y, y1, y2⟩ := readAll_at hxs i.toNat _ (chunks_get _ _ _ _ hin)
            have hsim := CsSim.take (n := ee.size) (CsSim.drop (n := i.toNat * ee.size) hcs)
            have hrd := readV_sim y2 hsim
            have hy : xs.getD i.toNat ee.ty.dflt = y := by rw [List.getD_eq_getElem?_getD, y1]; rfl
            rw [hy] at h
            exact hg.value run (hr _ (Rd.cells hrd)) h
          · exact viaPick h
        · exact viaPick h
      · exact h.elim
    · exact h.elim
  · exact h.elim
end
end Go.Ry
set_option linter.unusedVariables false
set_option linter.unusedSimpArgs false
namespace Go.Ry

section
variable {P : Program} {S : Start} {st : St} {a : Act} {w w' : World} {Z Z' : Nat → Prop} {L L' : List Loc} {T : Tab} {C : Calls_} {G : List (Nat × Sig)} {o : Oper} {K : St → Prop} {next : Act → World → Prop} {Q : Exit → Act → World → Prop}

theorem made_seg (z : Array Value) (n sz i : Nat) (hz : z.size = sz) (hs : 0 < sz) (hi : i < n) : ((madeCells z (n * sz)).toList.drop (i * sz)).take sz = z.toList := by
  have hks := Nat.mul_le_mul_right sz (show i + 1 ≤ n by omega)
  rw [Nat.add_mul, Nat.one_mul] at hks
  apply List.ext_getElem?
  intro j
  by_cases hj : j < sz
  · rw [seg_get _ _ _ _ hj]
    have h1 : i * sz + j < n * sz := by omega
    have h2 : (i * sz + j) % sz = j := by rw [Nat.mul_comm, Nat.mul_add_mod, Nat.mod_eq_of_lt hj]
    have h3 : j < z.size := by omega
    simp [madeCells, h1, hz, h2, h3]
    rw [Array.getElem?_eq_getElem h3, getElem!_pos z j h3]
  · rw [List.getElem?_take_eq_none (by omega), List.getElem?_eq_none (by simp; omega)]

theorem zeroIs_at : ∀ {t : Ty} {cs r : List Cell}, zeroIs t cs = some r → ∃ as, cs = as ++ r ∧ as.length = t.size ∧ ∀ (p : Nat) (s : Ty) (ys : List s.den), (t.cells t.dflt)[p]? = some (.sl s ys) → as[p]? = some .nils
  | .unit, cs, r, h => by
    simp only [zeroIs, Option.some.injEq] at h
    subst h
    exact ⟨[], rfl, rfl, fun p s ys hp => by simp [Ty.cells] at hp⟩
  | .int k, cs, r, h => by
    unfold zeroIs at h
    split at h <;> simp_all
    rename_i k' l cs' _
    exact ⟨[_], by rw [← h.2]; rfl, rfl, fun p s ys hp => by cases p <;> simp [Ty.cells] at hp⟩
  | .bool, cs, r, h => by
    unfold zeroIs at h
    split at h <;> simp_all
    exact ⟨[_], rfl, rfl, fun p s ys hp => by cases p <;> simp [Ty.cells] at hp⟩
  | .str, cs, r, h => by
    unfold zeroIs at h
    split at h <;> simp_all
    rename_i s cs' _
    exact ⟨[_], by rw [← h.2]; rfl, rfl, fun p s ys hp => by cases p <;> simp [Ty.cells] at hp⟩
  | .slice t, cs, r, h => by
    unfold zeroIs at h
    split at h <;> simp_all
    refine ⟨[.nils], rfl, rfl, fun p s ys hp => ?_⟩
    cases p with
    | zero => rfl
    | succ p => simp [Ty.cells] at hp
  | .pair a b, cs, r, h => by
    simp only [zeroIs] at h
    split at h
    · rename_i cs1 h1
      obtain ⟨as, rfl, l1, e1⟩ := zeroIs_at h1
      obtain ⟨bs, rfl, l2, e2⟩ := zeroIs_at h
      refine ⟨as ++ bs, by simp, by simp [Ty.size, l1, l2], fun p s ys hp => ?_⟩
      simp only [Ty.cells, Ty.dflt] at hp
      by_cases hlt : p < as.length
      · rw [List.getElem?_append_left (by rw [Ty.cells_length]; omega)] at hp
        rw [List.getElem?_append_left hlt]
        exact e1 p s ys hp
      · rw [List.getElem?_append_right (by rw [Ty.cells_length]; omega), Ty.cells_length] at hp
        rw [List.getElem?_append_right (by omega), l1]
        exact e2 _ s ys hp
    · simp at h
theorem zeroSl {e : Nat} {ee : TE} {i : TypeInfo} {d : TypeDesc} {z : Value} (f : TEFacts P e ee i d z) (ht : ee.told = true) {p : Nat} {s : Ty} {ys : List s.den} (hp : (ee.ty.cells ee.ty.dflt)[p]? = some (.sl s ys)) {u : Value} (hu : z.cells.toList[p]? = some u) : u = nilS := by
  obtain ⟨h1, h2⟩ := f.told ht
  obtain ⟨as, e1, e2, e3⟩ := zeroIs_at h2
  rw [List.append_nil] at e1
  have := e3 p s ys hp
  rw [← e1] at this
  exact CsSim.place (zeroEq_sim (default : World) (fun _ => False) [] f.zeroEq) this hu

theorem sound_makeSlice {t : TypeId} {x y : Operand} (ho : o.op = .makeSlice t x y) (hT : tabOk P T = true) (hs : Sit S st a w Z L) (hg : Goes S K next) (h : opW T C G o st K) : o.wp P a w next Q := by
  simp only [opW, ho] at h
  split at h
  · rename_i e ee k1 n k2 m hsl hx hy
    split at h
    · rename_i htp
      simp only [Bool.and_eq_true] at htp
      have hpos : 0 < ee.size := Nat.le_of_ble_eq_true htp.2
      obtain ⟨rfl, ⟨h0, hb⟩, hk⟩ := h
      obtain ⟨hu, i, d, z, f⟩ := slTy_facts hT hsl
      obtain ⟨t1, t2, t3⟩ := told_facts f htp.1
      have hby : 0 < ee.bytes := f.pos.resolve_left (by omega)
      obtain ⟨N, rfl⟩ : ∃ N : Nat, n = (N : Int) := ⟨n.toNat, by omega⟩
      have hb' : N * ee.bytes ≤ 140737488355328 := by
        have : ((N * ee.bytes : Nat) : Int) ≤ 140737488355328 := by rw [Int.natCast_mul]; exact hb
        omega
      have h63 : N ≤ maxLen := by
        have := Nat.le_trans (Nat.le_mul_of_pos_right N hby) hb'
        simp only [maxLen]; omega
      obtain ⟨w', r1, r2, r3⟩ := run_make_full (P := P) w 0 t e i z ee.size hu f.info f.zero f.size k1 k2 N (by rw [f.bytes, Nat.mul_comm]; omega) h63 (Nat.zero_le _)
      have hkp : Keeps w (fun _ _ => False) w' := ⟨r3.os, r3.tape, r3.output, r3.size, fun b hb => .inl (r3.block b hb (by simp))⟩
      have cx : a.eval x = .int k1 (N : Int) := ev_one hs hx
      have cy : a.eval y = .int k2 (N : Int) := ev_one hs hy
      have hs' := hs.add (o := .row e ee.ty (List.replicate N ee.ty.dflt)) (l := .row (.slice (some ⟨w.heap.size, 0, none⟩) N N) ee.ty.size N) hkp
        ⟨.slice (some ⟨w.heap.size, 0, none⟩) N N, (madeCells z.cells (N * ee.size)).toList, by simp, by omega, by rw [t1]; simpa using r2, fun j y hj => by
          have hjN : j < N := by
            have := (List.getElem?_eq_some_iff.1 hj).1
            simpa using this
          have : y = ee.ty.dflt := by
            rw [List.getElem?_replicate, if_pos hjN] at hj
            simpa using hj.symm
          subst this
          rw [t1, made_seg z.cells N ee.size j t2 hpos hjN]
          exact t3 _ _⟩ (fun b q hq => by simp [foot, Value.ownBlock] at hq; omega)
      have hrun : (execOp a.eval o).run P w = .ok (.value (.slice (some ⟨w.heap.size, 0, none⟩) N N)) w' := by
        unfold execOp
        simp [ho, cx, cy, r1]
      split at hk
      case h_2 =>
        rename_i q _
        obtain ⟨ht, hk⟩ := ifT_iff.1 hk
        obtain ⟨hfl, hs0, hqo⟩ := nest_flat ht
        have es_at : ∀ k p, k < N → p < ee.ty.size → (madeCells z.cells (N * ee.size)).toList[k * ee.ty.size + p]? = z.cells.toList[p]? := fun k p hkN hp => by
          have := made_seg z.cells N ee.size k t2 hpos hkN
          rw [← this, seg_get _ _ _ _ (by omega), t1]
        have hsim := Rd.cells (L := []) (t3 w (fun _ : Nat => False))
        have hcell : ∀ p c u, (ee.ty.cells ee.ty.dflt)[p]? = some c → z.cells.toList[p]? = some u → CSim w (fun _ => False) [] c u := fun p c u hc hu => CsSim.place hsim hc hu
        have hdf : ∀ k x, (List.replicate N ee.ty.dflt)[k]? = some x → k < N ∧ x = ee.ty.dflt := fun k x hx => by
          have hkN : k < N := by
            have := (List.getElem?_eq_some_iff.1 hx).1
            simpa using this
          rw [List.getElem?_replicate, if_pos hkN] at hx
          exact ⟨hkN, by simpa using hx.symm⟩
        have hnil : z.cells.toList[q.o]? = some nilS := by
          have h1 := (nest_cell ht ee.ty.dflt).1
          have h2 : q.o < z.cells.toList.length := by rw [Array.length_toList]; omega
          have h3 := hcell q.o _ _ h1 (List.getElem?_eq_getElem h2)
          rw [innerOf_dflt ht] at h3
          rw [List.getElem?_eq_getElem h2]
          exact congrArg some (zeroSl f htp.1 h1 (List.getElem?_eq_getElem h2))
        have hs' := hs.add (o := .nest e ee.ty q (List.replicate N ee.ty.dflt) none) (l := .row (.slice (some ⟨w.heap.size, 0, none⟩) N N) ee.ty.size ⟨N, fun _ => nilS⟩) hkp
          ⟨.slice (some ⟨w.heap.size, 0, none⟩) N N, (madeCells z.cells (N * ee.size)).toList, fun _ => nilS, by simp, by omega, ht, by rw [t1]; simpa using r2,
            ⟨fun k x hx p c u hp hc hu => by
                obtain ⟨hkN, rfl⟩ := hdf k x hx
                have hpt : p < ee.ty.size := by rw [← Ty.cells_length ee.ty ee.ty.dflt]; exact (List.getElem?_eq_some_iff.1 hc).1
                rw [es_at k p hkN hpt] at hu
                exact plain_any ((nest_cell ht _).2 p c hp hc) (hcell p c u hc hu),
              fun k hk => ⟨by rw [es_at k q.o (by simpa using hk) hqo]; exact hnil, _, _, _, rfl⟩,
              fun k x hx _ => by
                obtain ⟨hkN, rfl⟩ := hdf k x hx
                rw [innerOf_dflt ht]
                exact ⟨[], World.ownsRow_nil w' 0 q.e q.s.size, fun i x hi => by simp at hi⟩,
              fun k b hb => by simp [nilS, Value.ownBlock] at hb, fun _ _ => rfl⟩⟩
          (fun b q hq => by
            rcases hq with hq | ⟨k, _, hq⟩
            · simp [Value.ownBlock] at hq; omega
            · simp [nilS, Value.ownBlock] at hq)
        exact wp_value hrun (hg _ _ _ _ _ (hs'.put (e := .one (.row st.objs.length)) ⟨⟨_, _, _, rfl⟩, _, _, hs.newAt _⟩ o.dst) (by simpa using hk))
      refine wp_value (v := .slice (some ⟨w.heap.size, 0, none⟩) N N) (w' := w') ?_ (hg _ _ _ _ _ (hs'.put (e := .one (.row st.objs.length)) ⟨⟨_, _, _, rfl⟩, _, _, hs.newAt _⟩ o.dst) (by simpa using hk))
      unfold execOp
      simp [ho, cx, cy, r1]
    · exact h.elim
  · exact h.elim
end
end Go.Ry
set_option linter.unusedVariables false
set_option linter.unusedSimpArgs false
namespace Go.Ry

section
variable {P : Program} {S : Start} {st : St} {a : Act} {w w' : World} {Z Z' : Nat → Prop} {L L' : List Loc} {T : Tab} {C : Calls_} {G : List (Nat × Sig)} {o : Oper} {K : St → Prop} {next : Act → World → Prop} {Q : Exit → Act → World → Prop}

theorem Sit.fresh (hs : Sit S st a w Z L) (hk : Keeps w (fun _ _ => False) w') (hlt : w.heap.size < w'.heap.size) : Sit S st a w' (fun b => Z b ∨ b = w.heap.size) L := by
  have := hs.update (w' := w') (Z' := fun b => Z b ∨ b = w.heap.size) (L' := L) (os' := st.objs) (fun _ _ => False) (fun _ => False) hk (fun _ _ h => h.elim) (fun _ hb => .inl hb) (Grows.refl _) hs.sims.len
    (fun _ _ _ => rfl) (fun _ _ _ _ _ _ _ _ _ h => h) (fun _ _ _ h => h.elim) (fun _ _ _ h => h.elim) (fun _ _ _ _ _ _ h => h.elim) (fun _ _ _ h => h.elim)
    (fun b hb => hb.elim .inl fun e => .inr (.inl (by omega))) (fun b hb => hb.elim (fun h => Nat.lt_of_lt_of_le (hs.sims.zin b h) hk.size) (fun e => by omega)) (fun _ _ h => h.elim)
  exact this

theorem strL_eq (xs : List Int) : strL xs = strOfNums xs := rfl

theorem run_convert_bytes_any (w : World) (src e : TypeId) (hs : P.underlying src = some (.slice e)) (he : P.underlying e = some (.int .u8)) (A : Addr) (len cap : Nat) (xs : List Int) (hlen : xs.length = len)
    (hcell : ∀ i, i < len → w.cell? (A.add i) = some (.int .u8 (xs.getD i 0))) :
    ∀ dst, P.underlying dst = some .string → (convert src dst (.slice (some A) len cap)).run P w = .ok (.string (strOfNums xs)) w := by
  intro dst hd
  have hl : (loadCells A len).run P w = .ok (xs.map (Value.int .u8)).toArray w := by
    have := run_loadCells_list (P := P) w A (xs.map (Value.int .u8)) (fun j v hj => by
      have hjl : j < xs.length := by
        rcases Nat.lt_or_ge j xs.length with h | h
        · exact h
        · simp [List.getElem?_eq_none (show (xs.map (Value.int .u8)).length ≤ j by simpa using h)] at hj
      rw [hcell j (by omega)]
      simp [List.getElem?_eq_getElem hjl] at hj
      subst hj
      simp [List.getD, List.getElem?_eq_getElem hjl])
    simpa [hlen] using this
  rw [run_convert_bytes_string w src dst e _ len cap hs he hd, run_bytesToString w _ len cap xs hl, foldl_push_bytes]
  simp [strOfNums, ByteArray.empty, ByteArray.emptyWithCapacity]
  rfl

theorem sound_convert {src dst : TypeId} {x : Operand} (ho : o.op = .convert src dst x) (hT : tabOk P T = true) (hs : Sit S st a w Z L) (hg : Goes S K next) (h : opW T C G o st K) : o.wp P a w next Q := by
  simp only [opW, ho] at h
  have run : ∀ {v : Value} {w' : World}, (convert src dst (a.eval x)).run P w = .ok v w' → (execOp a.eval o).run P w = .ok (.value v) w' := by
    intro v w' hr
    unfold execOp
    simp [ho, hr]
  split at h
  · rename_i te ts hte hts
    obtain ⟨d, hd, hkd⟩ := under_of (d := .bool) hT hte
    obtain ⟨d', hd', hkd'⟩ := under_of (d := .bool) hT hts
    split at h
    · rename_i k n k' hx hk
      rw [kind_int hkd hk] at hd
      have cx : a.eval x = .int k n := ev_one hs hx
      refine hs.value hg (v := .int k' (k'.wrap n)) (e := .one (.int k' (k'.wrap n))) (run ?_) rfl h
      rw [cx]
      simp [convert, run_underlying hd, run_underlying hd', Conv.intToInt]
    · rename_i s hx hk
      rw [kind_str hkd hk] at hd
      have cx : a.eval x = .string s := ev_one hs hx
      refine hs.value hg (v := .string s) (e := .one (.str s)) (run ?_) rfl h
      rw [cx]
      simp [convert, run_underlying hd, run_underlying hd']
    · rename_i s hx hk
      rw [kind_slice hkd hk] at hd
      have cx : a.eval x = .string s := ev_one hs hx
      split at h
      · rename_i ee hsrc hee
        split at h
        · rename_i hk3
          obtain ⟨hb, h⟩ := h
          obtain ⟨de, hde, hkde⟩ := under_of (d := .bool) hT hee
          rw [kind_int hkde hk3] at hde
          rw [kind_str hkd' hsrc] at hd'
          have hr := run_bytes_of_string (P := P) w src dst te.elem s hd' hd hde
          have hkp : Keeps w (fun _ _ => False) (w.drew.alloc (.cells (bytesRow s (grownCap w s.size 0 te.elem)) te.elem ((bytesRow s (grownCap w s.size 0 te.elem)).size, (bytesRow s (grownCap w s.size 0 te.elem)).size + 1))) :=
            (Keeps.drew w _).trans (Keeps.alloc w.drew _ _)
          have hs' := hs.fresh hkp (by show w.heap.size < (w.heap.push _).size; simp)
          have hge := grownCap_ge w s.size 0 te.elem
          refine wp_value (run (by rw [cx]; exact hr)) (hg _ _ _ _ _ (hs'.put (e := .one (.sl (.int .u8) (bytesL s))) ?_ o.dst) h)
          refine ⟨some ⟨w.heap.size, 0, none⟩, s.size, grownCap w s.size 0 te.elem, rfl, (bytesL_length s).symm, hge, fun e => by simp at e, fun A hA i y hy => ?_⟩
          simp only [Option.some.injEq] at hA
          subst hA
          refine ⟨rfl, .inr rfl, [.int .u8 y], rfl, fun j u hj => ?_, rfl⟩
          have hj0 : j = 0 := by
            have := (List.getElem?_eq_some_iff.1 hj).1
            simp at this; omega
          subst hj0
          simp only [List.getElem?_cons_zero, Option.some.injEq] at hj
          subst hj
          have hi : i < s.data.size := by
            have := (List.getElem?_eq_some_iff.1 hy).1
            simpa [bytesL] using this
          have hat := bytesRow_at s (grownCap w s.size 0 te.elem) i hi
          have hcell := World.cell?_alloc_mark w.drew (bytesRow s (grownCap w s.size 0 te.elem)) te.elem ((bytesRow s (grownCap w s.size 0 te.elem)).size, (bytesRow s (grownCap w s.size 0 te.elem)).size + 1) i
          have hyv : y = (s.data[i].toNat : Int) := by
            simp only [bytesL, List.getElem?_map] at hy
            rw [List.getElem?_eq_getElem (by simpa using hi)] at hy
            simpa using hy.symm
          simp only [Ty.size, Nat.mul_one, Nat.zero_add, Nat.add_zero]
          rw [hyv]
          exact hcell.trans hat
        · exact h.elim
      · exact h.elim
    · rename_i c _ hx hk
      rw [kind_str hkd hk] at hd
      split at h
      · rename_i ee hk2 hee
        rw [kind_slice hkd' hk2] at hd'
        split at h
        · rename_i xs hk3 hl
          obtain ⟨de, hde, hkde⟩ := under_of (d := .bool) hT hee
          rw [kind_int hkde hk3] at hde
          obtain ⟨ad, cap, news, hv, hnl, hrd, hnone, hsome⟩ := listOf_rd hs (ev_one hs hx) hl
          refine hs.value hg (v := .string (strL xs)) (e := .one (.str (strL xs))) (run ?_) rfl h
          rw [hv, strL_eq]
          cases ad with
          | none =>
            have h0 : xs = [] := List.eq_nil_of_length_eq_zero (hnone rfl)
            subst h0
            exact run_convert_bytes_nil w src ts.elem hd' hde _ _ dst hd
          | some A =>
            obtain ⟨h1, h2⟩ := hsome _ rfl
            refine run_convert_bytes_any w src ts.elem hd' hde A xs.length cap xs rfl (fun i hi => ?_) dst hd
            have hr := hrd i _ (List.getElem?_eq_getElem hi)
            simp only [Ty.size, Nat.mul_one] at hr hnl
            have hi' : i < news.length := by omega
            rw [List.drop_eq_getElem_cons hi', List.take_succ_cons, List.take_zero] at hr
            simp only [Rd, List.cons.injEq, and_true] at hr
            have h3 := h2 i _ (List.getElem?_eq_getElem hi')
            obtain ⟨g, q, sp⟩ := A
            have h1 := h1 (by omega)
            simp only at h1 h3
            subst h1
            rw [Addr.add_lit, h3, hr]
            simp [List.getD, List.getElem?_eq_getElem hi]
        · exact h.elim
      · exact h.elim
    · exact h.elim
  · exact h.elim
end
end Go.Ry
