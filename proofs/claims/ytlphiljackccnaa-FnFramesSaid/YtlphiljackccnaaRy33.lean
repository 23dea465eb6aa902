/- The evaluator is right: regions that draw their order (2). No condition. -/
import Derived.Test.YtlphiljackccnaaRy32
set_option linter.unusedVariables false
set_option linter.unusedSimpArgs false
namespace Go.Ry

section
variable {P : Program} {S : Start} {st st' : St} {a a' : Act} {w w' : World} {Z Z' : Nat → Prop} {L L' : List Loc} {T : Tab} {C : Calls_} {G : List (Nat × Sig)} {o : Oper} {K : St → Prop} {Q : Exit → Act → World → Prop} {R : Prop} {X : List Nat}

theorem Sit.behindX (h : Sit S st a w Z L) {c : Cell} {v : Value} {cs : List Cell} (hc : CSim w Z L c v) (hb : st.behind c = some cs)
    (hX : (∃ t x o, c = .ptrZ t x o) ∨ (∃ i o, c = .ptrB i o ∧ i ∈ X) ∨ ∃ i k o, c = .ptrE i k o ∧ i ∈ X) :
    ∃ g q vs, v = .pointer (some ⟨g, q, none⟩) ∧ CsSim w Z L cs vs ∧ ∀ w', Alike w Z (prot X st.objs L) w' → CellsAt w' g q vs := by
  rcases hX with ⟨t, x, o, rfl⟩ | ⟨i, o, rfl, hi⟩ | ⟨i, k, o, rfl, hi⟩
  · obtain ⟨g, q, es, rfl, hz, h2, h3⟩ := hc
    simp only [St.behind, Option.some.injEq] at hb
    subst hb
    refine ⟨g, q + o, es.drop o, rfl, CsSim.drop (Rd.cells h3), fun w' hal j u hj => ?_⟩
    rw [← h2.drop j u hj]
    exact World.cell?_of_block (w := w) (w' := w') (hal.1 g hz)
  · obtain ⟨g, q, hl, rfl⟩ := hc
    simp only [St.behind] at hb
    cases hbx : st.box i with
    | none => rw [hbx] at hb; simp at hb
    | some cs0 =>
      rw [hbx] at hb
      simp only [Option.map_some, Option.some.injEq] at hb
      subst hb
      obtain ⟨g', q', vs, h1, h2, h3, h4⟩ := h.boxAt hbx
      rw [hl] at h2
      simp only [Option.some.injEq, Loc.box.injEq] at h2
      obtain ⟨rfl, rfl⟩ := h2
      refine ⟨g, q + o, vs.drop o, rfl, CsSim.drop h3, fun w' hal j u hj => ?_⟩
      rw [← h4.cells.drop j u hj]
      have hlen := h3.length
      have hjl : j < (vs.drop o).length := (List.getElem?_eq_some_iff.1 hj).1
      rw [List.length_drop] at hjl
      exact hal.2 g _ ⟨i, hi, _, _, h1, hl, rfl, by omega, by omega⟩
  · have hc0 := hc
    have hb0 := hb
    obtain ⟨g, n, c, sz, m, hl, hk, rfl⟩ := hc
    simp only [St.behind] at hb
    split at hb
    · rename_i e u xs hob
      obtain ⟨v, es, h1, _⟩ := h.row hob
      obtain ⟨g', q', vs, e1, e2, e3⟩ := h.behind hc0 hb0
      simp only [Value.pointer.injEq, Option.some.injEq, Addr.mk.injEq, and_true] at e1
      obtain ⟨rfl, rfl⟩ := e1
      refine ⟨_, _, vs, rfl, e2, fun w' hal j u hj => ?_⟩
      rw [← e3 j u hj]
      exact hal.2 g _ ⟨i, hi, _, _, h1, hl, rfl⟩
    · simp at hb

/-- What a value operation in a region that draws comes to. -/
def Floats (P : Program) (o : Oper) (a : Act) (w : World) (Z : Nat → Prop) (L : List Loc) (st : St) (X : List Nat) (K : St → Prop) : Prop :=
  ∃ v e, (∀ w', Alike w Z (prot X st.objs L) w' → (execOp a.eval o).run P w' = .ok (.value v) w') ∧ ESim w Z L e v ∧ K (st.putO o.dst e)

theorem Floats.fin : FinV P o a w Z L st K (Floats P o a w Z L st X K) := fun v e hr he hk => ⟨v, e, fun w' _ => hr w', he, hk⟩

theorem float_load {t : TypeId} {x : Operand} (ho : o.op = .load t x) (hT : tabOk P T = true) (hs : Sit S st a w Z L) (hX : loadIn X st o = true) (h : opW T C G o st K) : Floats P o a w Z L st X K := by
  simp only [opW, ho] at h
  split at h
  · rename_i te c hte hx
    split at h
    · rename_i cs hb
      split at h
      · rename_i hle
        obtain ⟨i, d, z, f⟩ := teFacts (tabOk_look hT hte)
        have hx' : (∃ t x o, c = .ptrZ t x o) ∨ (∃ i o, c = .ptrB i o ∧ i ∈ X) ∨ ∃ i k o, c = .ptrE i k o ∧ i ∈ X := by
          simp only [loadIn, ho, hx] at hX
          split at hX
          · rename_i e1; simp only [Ent.one.injEq] at e1; exact .inl ⟨_, _, _, e1⟩
          · rename_i e1; simp only [Ent.one.injEq] at e1; exact .inr (.inl ⟨_, _, e1, memN_iff.1 hX⟩)
          · rename_i e1; simp only [Ent.one.injEq] at e1; exact .inr (.inr ⟨_, _, _, e1, memN_iff.1 hX⟩)
          · simp at hX
        obtain ⟨g, q, vs, hv, h1, h2⟩ := hs.behindX (ev_one hs hx) hb hx'
        obtain ⟨v, hr, he⟩ := run_loadVar_at (P := P) (g := g) (q := q) f h1 (Nat.le_of_ble_eq_true hle)
        refine ⟨v, _, fun w' hal => ?_, he, h⟩
        unfold execOp
        simp [ho, hv, Instr.loadAt, Instr.sureAddr, hr w' (h2 w' hal)]
      · exact h.elim
    · exact h.elim
  · exact h.elim

theorem float_convert {src dst : TypeId} {x : Operand} {te : TE} {k : IntKind} (ho : o.op = .convert src dst x) (hT : tabOk P T = true) (hte : look T dst = some te) (hk : te.kind = .int k) (hs : Sit S st a w Z L)
    (hg : FinV P o a w Z L st K R) (h : opW T C G o st K) : R := by
  simp only [opW, ho, hte] at h
  split at h
  · rename_i te' ts e1 hts
    simp only [Option.some.injEq] at e1
    subst e1
    obtain ⟨d, hd, hkd⟩ := under_of (d := .bool) hT hte
    obtain ⟨d', hd', hkd'⟩ := under_of (d := .bool) hT hts
    rw [hk] at h
    split at h
    · rename_i k0 n k' hx hk'
      simp only [TK.int.injEq] at hk'
      subst hk'
      rw [kind_int hkd hk] at hd
      have cx : a.eval x = .int k0 n := ev_one hs hx
      refine hg.value (v := .int k (k.wrap n)) (e := .one (.int k (k.wrap n))) (fun w => ?_) rfl h
      unfold execOp
      simp [ho, cx, convert, run_underlying hd, run_underlying hd', Conv.intToInt]
    all_goals first
      | (rename_i hk'; simp at hk'; done)
      | exact h.elim
  · exact h.elim

theorem float_any (hf : floats T o = true) (hT : tabOk P T = true) (hs : Sit S st a w Z L) (hX : loadIn X st o = true) (h : opW T C G o st K) : Floats P o a w Z L st X K := by
  cases ho : o.op with
  | move x => exact sound_move (.inl ho) hs (by simpa only [opW, ho] using h) Floats.fin
  | assign x => exact sound_move (.inr ho) hs (by simpa only [opW, ho] using h) Floats.fin
  | pick c x y => exact sound_pick ho hs Floats.fin (by simp only [opW, ho] at h; exact h)
  | build t ps => exact sound_build ho hT hs Floats.fin h
  | load t x => exact float_load ho hT hs hX h
  | nilCheck x => exact sound_nilCheck ho hs Floats.fin h
  | binOp op t x y z => exact sound_binOp ho hT hs Floats.fin h
  | unOp op t x => exact sound_unOp ho hs Floats.fin h
  | convert s d x =>
    simp only [floats, ho] at hf
    split at hf
    · rename_i te hte
      split at hf
      · rename_i k hk
        exact float_convert ho hT hte hk hs Floats.fin h
      · simp at hf
    · simp at hf
  | makeFunc f x y => exact sound_makeFunc ho hs Floats.fin h
  | fieldAddr s x k => exact sound_fieldAddr ho hT hs Floats.fin h
  | field s x k => exact sound_field ho hT hs Floats.fin h
  | indexAddr t x y => exact sound_indexAddr ho hT hs Floats.fin h
  | index t x y =>
    simp only [opW, ho] at h
    split at h
    · rename_i te s k i hte hx hy
      split at h
      · rename_i hk
        exact sound_index ho hT hs Floats.fin hte hx hy hk h
      · exact h.elim
    · exact h.elim
  | extract x i => exact sound_extract ho hs Floats.fin h
  | slice t x lo hi m =>
    cases m with
    | none => exact sound_slice ho hT hs Floats.fin h
    | some m => simp [opW, ho] at h
  | call c =>
    simp only [floats, ho] at hf
    split at hf
    all_goals first
      | (simp at hf; done)
      | skip
    · rename_i hcl
      have h' : builtinW T .len c.args.toList c.argTypes.toList st o.dst K := by
        rcases c with ⟨ce, ar, at_⟩
        simp only at hcl
        subst hcl
        simpa only [opW, ho] using h
      cases har : c.args.toList with
      | nil => rw [har] at h'; simp [builtinW] at h'
      | cons x l =>
        cases l with
        | nil => rw [har] at h'; exact sound_len ho hcl har rfl hT hs Floats.fin h'
        | cons y l => rw [har] at h'; simp [builtinW] at h'
    · rename_i hcl
      refine sound_min (T := T) ho hcl hs Floats.fin (t := c.argTypes.toList) ?_
      rcases c with ⟨ce, ar, at_⟩
      simp only at hcl
      subst hcl
      simpa only [opW, ho] using h
    · rename_i hcl
      refine sound_max (T := T) ho hcl hs Floats.fin (t := c.argTypes.toList) ?_
      rcases c with ⟨ce, ar, at_⟩
      simp only at hcl
      subst hcl
      simpa only [opW, ho] using h
  | _ => simp [floats, ho] at hf

/-! ### objects that are set aside -/
theorem killAll_length : ∀ {X : List Nat} {os : List Ob}, (killAll os X).length = os.length
  | [], _ => rfl
  | i :: X, os => by simp only [killAll]; rw [killAll_length, setNth_length]
theorem killAll_get : ∀ {X : List Nat} {os : List Ob} {i : Nat} {o : Ob}, (killAll os X)[i]? = some o → (i ∈ X ∧ o = .dead) ∨ (i ∉ X ∧ os[i]? = some o) ∨ o = .dead
  | [], os, i, o, h => .inr (.inl ⟨by simp, h⟩)
  | j :: X, os, i, o, h => by
    simp only [killAll] at h
    rcases killAll_get h with ⟨_, h2⟩ | ⟨h1, h2⟩ | h2
    · exact .inr (.inr h2)
    · rw [setNth_eq] at h2
      by_cases hij : j = i
      · subst hij
        have hlt : j < os.length := by
          have := (List.getElem?_eq_some_iff.1 h2).1
          simpa using this
        rw [List.getElem?_set_self hlt] at h2
        simp only [Option.some.injEq] at h2
        exact .inr (.inr h2.symm)
      · rw [List.getElem?_set_ne hij] at h2
        exact .inr (.inl ⟨fun hm => by
          rcases List.mem_cons.1 hm with e | e
          · exact hij e.symm
          · exact h1 e, h2⟩)
    · exact .inr (.inr h2)
theorem backAll_length : ∀ {X : List Nat} {os : List Ob}, (backAll st os X).length = os.length
  | [], _ => rfl
  | i :: X, os => by simp only [backAll]; rw [backAll_length, setNth_length]
theorem backAll_not : ∀ {X : List Nat} {os : List Ob} {i : Nat}, i ∉ X → (backAll st os X)[i]? = os[i]?
  | [], _, _, _ => rfl
  | j :: X, os, i, h => by
    simp only [backAll]
    rw [backAll_not (fun hm => h (List.mem_cons_of_mem _ hm)), setNth_eq, List.getElem?_set_ne (fun e => h (by rw [e]; exact List.mem_cons_self))]
theorem backAll_mem : ∀ {X : List Nat} {os : List Ob} {i : Nat}, i ∈ X → i < os.length → (backAll st os X)[i]? = some (st.ob i)
  | [], _, _, h, _ => by simp at h
  | j :: X, os, i, h, hlt => by
    simp only [backAll]
    by_cases hi : i ∈ X
    · exact backAll_mem hi (by rw [setNth_length]; exact hlt)
    · have hij : i = j := by
        rcases List.mem_cons.1 h with e | e
        · exact e
        · exact absurd e hi
      subst hij
      rw [backAll_not hi, setNth_eq, List.getElem?_set_self hlt]

/-- The memory of the objects that are not set aside. -/
def others (X : List Nat) (os : List Ob) (L : List Loc) (g q : Nat) : Prop := ∃ (i : Nat) (ob : Ob) (l : Loc), i ∉ X ∧ os[i]? = some ob ∧ L[i]? = some l ∧ foot ob l g q

theorem Sit.hide (h : Sit S st a w Z L) (X : List Nat) : Sit ⟨w, others X st.objs L, Z, L⟩ (st.hide X) a w Z L := by
  have get : ∀ (i : Nat) (o : Ob), (killAll st.objs X)[i]? = some o → o = .dead ∨ (i ∉ X ∧ st.objs[i]? = some o) := by
    intro i o ho
    rcases killAll_get ho with ⟨_, h2⟩ | h2 | h2
    · exact .inl h2
    · exact .inr h2
    · exact .inl h2
  refine ⟨h.tlen, h.tmps, ⟨by simp [St.hide, killAll_length, h.sims.len], fun i o l ho hl => ?_, fun i j o l o' l' ho hl ho' hl' hij b q q1 q2 => ?_, fun i o l ho hl b q hq hz => ?_, h.sims.zin⟩,
    Keeps.refl _ _, fun _ hb => hb, fun _ hb => .inl hb, fun i o l ho hl b q hq => ?_, Grows.refl _, h.defers⟩
  · rcases get i o ho with rfl | ⟨_, h2⟩
    · trivial
    · exact h.sims.ob i o l h2 hl
  · rcases get i o ho with rfl | ⟨_, h2⟩
    · exact q1.elim
    · rcases get j o' ho' with rfl | ⟨_, h3⟩
      · exact q2.elim
      · exact h.sims.sep i j o l o' l' h2 hl h3 hl' hij b q q1 q2
  · rcases get i o ho with rfl | ⟨_, h2⟩
    · exact hq.elim
    · exact h.sims.zap i o l h2 hl b q hq hz
  · rcases get i o ho with rfl | ⟨h1, h2⟩
    · exact hq.elim
    · exact .inr ⟨i, o, l, h1, h2, hl, hq⟩

theorem Sit.back (h : Sit S st a w Z L) (h' : Sit ⟨w, others X st.objs L, Z, L⟩ st' a' w' Z' L') :
    Sit S (st.unhide X st') a' w' Z' L' ∧ ∀ w'', Alike w' Z' (prot X (st.unhide X st').objs L') w'' → Alike w Z (prot X st.objs L) w'' := by
  have hk : Keeps w (others X st.objs L) w' := h'.keeps
  have hgl : Grows L L' := h'.lents
  have hgz : ∀ b, Z b → Z' b := h'.zup
  have hle : L.length ≤ L'.length := by
    rcases Nat.eq_zero_or_pos L.length with e | e
    · omega
    · have := hgl (L.length - 1) _ (List.getElem?_eq_getElem (by omega))
      have := (List.getElem?_eq_some_iff.1 this).1
      omega
  have hsep : ∀ (i : Nat) (o : Ob) (l : Loc), i ∈ X → st.objs[i]? = some o → L[i]? = some l → ∀ b q, foot o l b q → ¬ others X st.objs L b q := by
    rintro i o l hi ho hl b q hq ⟨j, ob, l', hj, h1, h2, h3⟩
    exact h.sims.sep i j o l ob l' ho hl h1 h2 (fun e => hj (e ▸ hi)) b q hq h3
  have hzsep : ∀ b, Z b → ∀ q, ¬ others X st.objs L b q := by
    rintro b hb q ⟨j, ob, l', hj, h1, h2, h3⟩
    exact h.sims.zap j ob l' h1 h2 b q h3 hb
  have hw : ∀ b, Z b → w'.heap[b]? = w.heap[b]? := fun b hb => hk.same (h.sims.zin b hb) fun q => hzsep b hb q
  have get : ∀ (i : Nat) (o : Ob) (l : Loc), (backAll st st'.objs X)[i]? = some o → L'[i]? = some l → (i ∈ X ∧ (o = .dead ∨ (st.objs[i]? = some o ∧ L[i]? = some l))) ∨ (i ∉ X ∧ st'.objs[i]? = some o) := by
    intro i o l ho hl
    by_cases hi : i ∈ X
    · refine .inl ⟨hi, ?_⟩
      have hlt : i < st'.objs.length := by
        have := (List.getElem?_eq_some_iff.1 ho).1
        rwa [backAll_length] at this
      rw [backAll_mem hi hlt] at ho
      simp only [Option.some.injEq] at ho
      by_cases hd : st.ob i = .dead
      · exact .inl (ho ▸ hd)
      · have h1 := St.ob_some hd
        refine .inr ⟨ho ▸ h1, ?_⟩
        have hiL : i < L.length := by rw [h.sims.len]; exact (List.getElem?_eq_some_iff.1 h1).1
        have := hgl i _ (List.getElem?_eq_getElem hiL)
        rw [hl] at this
        rw [List.getElem?_eq_getElem hiL, this]
    · rw [backAll_not hi] at ho
      exact .inr ⟨hi, ho⟩
  have newOr : ∀ (j : Nat) (o : Ob) (l : Loc), st'.objs[j]? = some o → L'[j]? = some l → ∀ b q, foot o l b q → w.heap.size ≤ b ∨ others X st.objs L b q := h'.fnew
  refine ⟨⟨h'.tlen, h'.tmps, ⟨by simp [St.unhide, backAll_length, h'.sims.len], fun i o l ho hl => ?_, fun i j o l o' l' ho hl ho' hl' hij b q q1 q2 => ?_, fun i o l ho hl b q hq hz => ?_, h'.sims.zin⟩,
    ?_, fun b hb => hgz b (h.zup b hb), fun b hb => ?_, fun i o l ho hl b q hq => ?_, h.lents.trans hgl, h'.defers⟩, fun w'' hal => ⟨fun b hb => ?_, fun g q hp => ?_⟩⟩
  · rcases get i o l ho hl with ⟨hi, rfl | ⟨h1, h2⟩⟩ | ⟨hi, h1⟩
    · trivial
    · exact OSim.kept hw hgz hgl hk (hsep i o l hi h1 h2) (h.sims.ob i o l h1 h2)
    · exact h'.sims.ob i o l h1 hl
  · rcases get i o l ho hl with ⟨hi, rfl | ⟨h1, h2⟩⟩ | ⟨hi, h1⟩
    · exact q1.elim
    · rcases get j o' l' ho' hl' with ⟨hj, rfl | ⟨k1, k2⟩⟩ | ⟨hj, k1⟩
      · exact q2.elim
      · exact h.sims.sep i j o l o' l' h1 h2 k1 k2 hij b q q1 q2
      · rcases newOr j o' l' k1 hl' b q q2 with hx | hx
        · have := foot_lt (h.sims.ob i o l h1 h2) q1; omega
        · exact hsep i o l hi h1 h2 b q q1 hx
    · rcases get j o' l' ho' hl' with ⟨hj, rfl | ⟨k1, k2⟩⟩ | ⟨hj, k1⟩
      · exact q2.elim
      · rcases newOr i o l h1 hl b q q1 with hx | hx
        · have := foot_lt (h.sims.ob j o' l' k1 k2) q2; omega
        · exact hsep j o' l' hj k1 k2 b q q2 hx
      · exact h'.sims.sep i j o l o' l' h1 hl k1 hl' hij b q q1 q2
  · rcases get i o l ho hl with ⟨hi, rfl | ⟨h1, h2⟩⟩ | ⟨hi, h1⟩
    · exact hq.elim
    · rcases h'.znew b hz with hx | hx | hx
      · exact h.sims.zap i o l h1 h2 b q hq hx
      · have := foot_lt (h.sims.ob i o l h1 h2) hq
        have hx : w.heap.size ≤ b := hx
        omega
      · exact hsep i o l hi h1 h2 b q hq (hx q)
    · exact h'.sims.zap i o l h1 hl b q hq hz
  · refine h.keeps.trans' hk fun b q hb hf => ?_
    obtain ⟨j, ob, l, _, h1, h2, h3⟩ := hf
    exact (h.fnew j ob l h1 h2 b q h3).resolve_left (by omega)
  · rcases h'.znew b hb with hx | hx | hx
    · exact h.znew b hx
    · exact .inr (.inl (Nat.le_trans h.keeps.size hx))
    · by_cases hbS : S.W.heap.size ≤ b
      · exact .inr (.inl hbS)
      · refine .inr (.inr fun q => ?_)
        obtain ⟨j, ob, l, _, h1, h2, h3⟩ := hx q
        exact (h.fnew j ob l h1 h2 b q h3).resolve_left hbS
  · rcases get i o l ho hl with ⟨hi, rfl | ⟨h1, h2⟩⟩ | ⟨hi, h1⟩
    · exact hq.elim
    · exact h.fnew i o l h1 h2 b q hq
    · rcases newOr i o l h1 hl b q hq with hx | ⟨j, ob, l', _, k1, k2, k3⟩
      · exact .inl (Nat.le_trans h.keeps.size hx)
      · exact h.fnew j ob l' k1 k2 b q k3
  · rw [hal.1 b (hgz b hb), hw b hb]
  · have hp0 := hp
    obtain ⟨i, hi, ob, l, h1, h2, h3⟩ := hp
    have hob : st.ob i = ob := by
      unfold St.ob
      rw [nth_eq, h1]
      rfl
    have hlt : i < st'.objs.length := by
      have e1 : i < L.length := (List.getElem?_eq_some_iff.1 h2).1
      have e2 := h'.sims.len
      omega
    rw [hal.2 g q ⟨i, hi, ob, l, by rw [show (st.unhide X st').objs = backAll st st'.objs X from rfl, backAll_mem hi hlt, hob], hgl i l h2, h3⟩]
    have hlt' := foot_lt (h.sims.ob i ob l h1 h2) h3
    rcases hk.block g hlt' with hx | ⟨c, c', e, z, k1, k2, k3, k4⟩
    · exact World.cell?_of_block (w := w) (w' := w') (a := ⟨g, q, none⟩) hx
    · rw [cell_of_row w' g q c' e z k2, cell_of_row w g q c e z k1]
      exact k4 q (hsep i ob l hi h1 h2 g q h3)

theorem St.putO_objs (st : St) (d : Option Nat) (e : Ent) : (st.putO d e).objs = st.objs := by cases d <;> rfl

theorem guardW_use {ops : Array Oper} {run skip : St → Prop} (hs : Sit S st a w Z L) (h : guardW ops.toList o st run skip) :
    ∃ st' : St, st'.objs = st.objs ∧ Sit S st' a w Z L ∧ ((Region.wanted o (yielded ops a.tmps) = true ∧ run st') ∨ (Region.wanted o (yielded ops a.tmps) = false ∧ skip st')) := by
  unfold guardW at h
  split at h
  · rename_i hgd
    exact ⟨st, rfl, hs, .inl ⟨by simp [Region.wanted, hgd], h⟩⟩
  · rename_i j want hgd
    split at h
    · rename_i d hd
      rw [nth_eq, Array.getElem?_toList] at hd
      have htmp := hs.tmp d
      have hy : ∀ v, a.tmps.getD d undef = v → yielded ops a.tmps j = match v with
          | .bool b => some b
          | _ => none := by
        rintro v rfl
        unfold yielded
        rw [hd, Option.bind_some, Array.getD_eq_getD_getElem?]
        cases a.tmps[d]? with
        | none => rfl
        | some v => cases v <;> rfl
      have hwant : Region.wanted o (yielded ops a.tmps) = (yielded ops a.tmps j == some want) := by simp [Region.wanted, hgd]
      split at h
      · rename_i ht
        rw [ht] at htmp
        obtain ⟨vs, e1, e2⟩ := htmp
        exact ⟨st, rfl, hs, .inr ⟨by rw [hwant, hy _ e1]; rfl, h⟩⟩
      · rename_i b ht
        rw [ht] at htmp
        have hb : a.tmps.getD d undef = .bool b := htmp
        have hs' : Sit S ⟨setNth st.tmps d (.one (.bool b)), st.objs⟩ a w Z L := hs.setTmp htmp
        split at h
        · cases b
          · exact ⟨⟨setNth st.tmps d (.one (.bool false)), st.objs⟩, rfl, hs', .inr ⟨by rw [hwant, hy _ hb]; rfl, h⟩⟩
          · exact ⟨⟨setNth st.tmps d (.one (.bool true)), st.objs⟩, rfl, hs', .inl ⟨by rw [hwant, hy _ hb]; rfl, h⟩⟩
        · cases b
          · exact ⟨⟨setNth st.tmps d (.one (.bool false)), st.objs⟩, rfl, hs', .inl ⟨by rw [hwant, hy _ hb]; rfl, h⟩⟩
          · exact ⟨⟨setNth st.tmps d (.one (.bool true)), st.objs⟩, rfl, hs', .inr ⟨by rw [hwant, hy _ hb]; rfl, h⟩⟩
      · exact h.elim
    · exact h.elim

theorem firstOf_spec {f : Nat → Bool} : ∀ {l : List Nat} {j : Nat}, firstOf f l = some j → j ∈ l ∧ f j = true
  | [], _, h => by simp [firstOf] at h
  | i :: l, j, h => by
    simp only [firstOf] at h
    split at h
    · rename_i hf
      simp only [Option.some.injEq] at h
      subst h
      exact ⟨List.mem_cons_self, hf⟩
    · obtain ⟨h1, h2⟩ := firstOf_spec h
      exact ⟨List.mem_cons_of_mem _ h1, h2⟩

theorem allOf_mem {f : Nat → Prop} : ∀ {l : List Nat}, allOf f l → ∀ i ∈ l, f i
  | [], _, i, hi => by simp at hi
  | [j], h, i, hi => by
    have : i = j := by simpa using hi
    subst this
    exact h
  | j :: k :: l, h, i, hi => by
    rcases List.mem_cons.1 hi with rfl | hi
    · exact h.1
    · exact allOf_mem h.2 i hi

theorem allB_mem {f : Nat → Bool} : ∀ {l : List Nat}, allB f l = true → ∀ i ∈ l, f i = true
  | [], _, i, hi => by simp at hi
  | j :: l, h, i, hi => by
    simp only [allB] at h
    split at h
    · rename_i hf
      rcases List.mem_cons.1 hi with rfl | hi
      · exact hf
      · exact allB_mem h i hi
    · simp at h
theorem addNew_mem : ∀ {l M : List Nat} {i : Nat}, i ∈ addNew M l → i ∈ M ∨ i ∈ l
  | [], _, _, h => .inl h
  | n :: l, M, i, h => by
    simp only [addNew] at h
    rcases addNew_mem h with h | h
    · simp only [cond_eq_ite] at h
      split at h
      · exact .inl h
      · rcases List.mem_append.1 h with h | h
        · exact .inl h
        · exact .inr (by simp at h; simp [h])
    · exact .inr (List.mem_cons_of_mem _ h)
theorem upsW_listed {ops : Array Oper} {listed : Array Bool} (hd : Down ops listed) : ∀ (n k : Nat) {M : List Nat}, (∀ i ∈ M, listed.getD i false = true) → ∀ i ∈ upsW ops n k M, listed.getD i false = true
  | 0, _, _, h, i, hi => h i hi
  | n + 1, k, M, h, i, hi => by
    simp only [upsW] at hi
    split at hi
    · exact h i hi
    · rename_i j hj
      rw [nth_eq] at hj
      refine upsW_listed hd n (k + 1) (fun i hi => ?_) i hi
      rcases addNew_mem hi with hi | hi
      · exact h i hi
      · unfold edgesOf at hi
        split at hi
        · rename_i o ho
          obtain ⟨e, he, rfl⟩ := List.mem_map.1 hi
          obtain ⟨he1, he2⟩ := List.mem_filter.1 he
          exact hd j o (h j (List.mem_of_getElem? hj)) ho e (by simpa using he1) he2
        · simp at hi
theorem inNone_not : ∀ {j : Nat} {X : List (Nat × List Nat)}, inNone j X = true → ∀ p ∈ X, j ∉ p.2
  | j, [], _, p, hp => by simp at hp
  | j, q :: X, h, p, hp => by
    simp only [inNone] at h
    split at h
    · simp at h
    · rename_i hm
      rcases List.mem_cons.1 hp with rfl | hp
      · intro hc
        rw [memN_iff.2 hc] at hm
        simp at hm
      · exact inNone_not h p hp
theorem look_mem {α : Type} : ∀ {X : List (Nat × α)} {x : Nat} {r : α}, look X x = some r → (x, r) ∈ X
  | [], _, _, h => by simp [look] at h
  | (y, s) :: X, x, r, h => by
    simp only [look, cond_eq_ite] at h
    split at h
    · rename_i hy
      have : y = x := by simpa using hy
      subst this
      simp only [Option.some.injEq] at h
      subst h
      exact List.mem_cons_self
    · exact List.mem_cons_of_mem _ (look_mem h)
theorem stillOn_mem {listed : Array Bool} : ∀ {X : List (Nat × List Nat)} {p : Nat × List Nat}, p ∈ X → (∀ r ∈ p.2, listed.getD r false = false) → p.1 ∈ stillOn listed X
  | [], p, h, _ => by simp at h
  | q :: X, p, h, hr => by
    simp only [stillOn]
    rcases List.mem_cons.1 h with rfl | h
    · have : allB (fun r => !listed.getD r false) p.2 = true := by
        have : ∀ l : List Nat, (∀ r ∈ l, listed.getD r false = false) → allB (fun r => !listed.getD r false) l = true := by
          intro l
          induction l with
          | nil => intro _; rfl
          | cons a l ih =>
            intro h
            simp only [allB, h a List.mem_cons_self, Bool.not_false]
            exact ih fun r hr => h r (List.mem_cons_of_mem _ hr)
        exact this _ hr
      rw [this]
      exact List.mem_cons_self
    · split
      · exact List.mem_cons_of_mem _ (stillOn_mem h hr)
      · exact stillOn_mem h hr

/-- The cells of the objects that are still read. -/
def protL (X : List (Nat × List Nat)) (listed : Array Bool) (os : List Ob) (L : List Loc) (g q : Nat) : Prop :=
  ∃ x rs, look X x = some rs ∧ (∀ r ∈ rs, listed.getD r false = false) ∧ prot [x] os L g q

theorem loadOk_in {ops : Array Oper} {X : List (Nat × List Nat)} {j : Nat} (h : loadOk ops X j st o = true) :
    ∃ xs : List Nat, loadIn xs st o = true ∧ ∀ x ∈ xs, ∃ rs, look X x = some rs ∧ ∀ r ∈ rs, j ∈ upsW ops ops.size 0 [r] := by
  cases ho : o.op with
  | load t a =>
    simp only [loadOk, ho] at h
    split at h
    · rename_i e1; exact ⟨[], by simp [loadIn, ho, e1], fun x hx => by simp at hx⟩
    · rename_i i q e1
      split at h
      · rename_i rs hrs
        exact ⟨[i], by simp [loadIn, ho, e1, memN], fun x hx => by
          obtain rfl : x = i := by simpa using hx
          exact ⟨rs, hrs, fun r hr => memN_iff.1 (allB_mem h r hr)⟩⟩
      · simp at h
    · rename_i i k q e1
      split at h
      · rename_i rs hrs
        exact ⟨[i], by simp [loadIn, ho, e1, memN], fun x hx => by
          obtain rfl : x = i := by simpa using hx
          exact ⟨rs, hrs, fun r hr => memN_iff.1 (allB_mem h r hr)⟩⟩
      · simp at h
    · simp at h
  | _ => exact ⟨[], by simp [loadIn, ho], fun x hx => by simp at hx⟩

theorem drawW_sound {ops : Array Oper} {X : List (Nat × List Nat)} (hT : tabOk P T = true) (hC : Told P C) (hsel : Region.noSelect ops = true) (hQ : ∀ c a w, ¬ Q (.panic c) a w) (hg : Goes S K fun a w => Q .normal a w) :
    ∀ (n : Nat) {listed : Array Bool} {st : St} {a : Act} {w : World} {Z : Nat → Prop} {L : List Loc}, Down ops listed → Sit S st a w Z L → drawW T C G ops X n listed st K →
      wpAnyC P ops Q (fun l => Alike w Z (protL X l st.objs L)) n listed a w
  | 0, listed, st, a, w, Z, L, hd, hs, h => by
    simp only [drawW] at h
    split at h
    · rename_i hr
      exact ⟨Alike.refl _ _ _, hr, hg _ _ _ _ _ hs h⟩
    · exact h.elim
  | n + 1, listed, st, a, w, Z, L, hd, hs, h => by
    simp only [drawW] at h
    split at h
    · rename_i hr
      exact ⟨Alike.refl _ _ _, fun _ => hg _ _ _ _ _ hs h, fun i hi => by rw [hr] at hi; simp at hi⟩
    · rename_i i rd hr
      split at h
      · rename_i j hj
        obtain ⟨j1, j2⟩ := firstOf_spec hj
        split at h
        · rename_i o ho
          simp only [canFloat, ho, Bool.and_eq_true] at j2
          have hjr : j ∈ Region.ready .any ops listed := by rw [hr]; exact j1
          have first : ∀ v, YieldsC P ops (fun l => Alike w Z (protL X l st.objs L)) j o v a → wpAnyC P ops Q (fun l => Alike w Z (protL X l st.objs L)) n (listed.setIfInBounds j true) (a.put o.dst v) w →
              wpAnyC P ops Q (fun l => Alike w Z (protL X l st.objs L)) (n + 1) listed a w := fun v hy hw =>
            wpAnyC_first ho (Region.noSelect_spec hsel) (fun c a w hp => absurd hp (hQ _ _ _)) (fun l w' hal => ⟨hal.1, fun g q hp => hal.2 g q (by
              obtain ⟨x, rs, h1, h2, h3⟩ := hp
              refine ⟨x, rs, h1, fun r hr => ?_, h3⟩
              have hne : j ≠ r := fun e => inNone_not j2.2.1 _ (look_mem h1) (by rw [e]; exact hr)
              rw [getD_set_ne false hne]
              exact h2 r hr)⟩) n listed a w hd (Region.free_spec ho j2.2.2) hjr hy hw
          obtain ⟨st', e1, hs', ⟨hw, hk⟩ | ⟨hw, hk⟩⟩ := guardW_use hs h
          · split at hk
            · rename_i hl
              obtain ⟨xs, x1, x2⟩ := loadOk_in hl
              obtain ⟨v, e, f1, f2, f3⟩ := float_any j2.1 hT hs' x1 hk
              rw [e1] at f1
              have := drawW_sound hT hC hsel hQ hg n (hd.set hjr) (hs'.put f2 o.dst) f3
              simp only [St.putO_objs, e1] at this
              refine first v (.inl ⟨hw, fun l w' hdl hjl hal => f1 w' ⟨hal.1, fun g q hp => hal.2 g q ?_⟩⟩) this
              obtain ⟨x, hx, ob, lo, p1, p2, p3⟩ := hp
              obtain ⟨rs, r1, r2⟩ := x2 x hx
              refine ⟨x, rs, r1, fun r hr => ?_, x, by simp, ob, lo, p1, p2, p3⟩
              cases hlr : l.getD r false with
              | false => rfl
              | true =>
                have := upsW_listed hdl ops.size 0 (M := [r]) (fun i hi => by
                  obtain rfl : i = r := by simpa using hi
                  exact hlr) j (r2 r hr)
                rw [hjl] at this
                simp at this
            · exact hk.elim
          · have := drawW_sound hT hC hsel hQ hg n (hd.set hjr) (hs'.put (undef_sim w Z L) o.dst) hk
            simp only [St.putO_objs, e1] at this
            exact first undef (.inr ⟨hw, rfl⟩) this
        · exact h.elim
      · refine ⟨Alike.refl _ _ _, fun h0 => (by rw [h0] at hr; simp at hr), fun k hk => ?_⟩
        have hkr := hk
        rw [hr] at hk
        have h := allOf_mem h k hk
        split at h
        · rename_i o ho
          unfold wpOp
          simp only [ho]
          obtain ⟨st', e1, hs', ⟨hw, hk⟩ | ⟨hw, hk⟩⟩ := guardW_use hs h
          · rw [if_pos hw]
            refine .inl (opW_sound hT hC (hs'.hide (stillOn (listed.setIfInBounds k true) X)) (fun st2 a2 w2 Z2 L2 hs2 hk2 => ?_) hk)
            obtain ⟨b1, b2⟩ := hs'.back hs2
            rw [e1] at b2
            refine (drawW_sound hT hC hsel hQ hg n (hd.set hkr) b1 hk2).mono (l0 := listed.setIfInBounds k true) (fun l w' hsup hal => ?_) (fun _ h => h)
            have hz : Alike w Z (prot (stillOn (listed.setIfInBounds k true) X) st.objs L) w2 := b2 w2 (Alike.refl _ _ _)
            refine ⟨fun b hb => ?_, fun g q hp => ?_⟩
            · rw [hal.1 b (hs2.zup b hb)]
              exact hz.1 b hb
            · obtain ⟨x, rs, p1, p2, y, hy, ob, lo, q1, q2, q3⟩ := hp
              obtain rfl : y = x := by simpa using hy
              have hmem : y ∈ stillOn (listed.setIfInBounds k true) X := stillOn_mem (look_mem p1) fun r hr => by
                cases hlr : (listed.setIfInBounds k true).getD r false with
                | false => rfl
                | true =>
                  have := hsup r hlr
                  rw [p2 r hr] at this
                  simp at this
              rw [hal.2 g q ?_]
              · exact hz.2 g q ⟨y, hmem, ob, lo, q1, q2, q3⟩
              · refine ⟨y, rs, p1, p2, y, by simp, ob, lo, ?_, hs2.lents y lo q2, q3⟩
                have hlt : y < st2.objs.length := by
                  have e3 : y < L.length := (List.getElem?_eq_some_iff.1 q2).1
                  have e4 := hs2.sims.len
                  have e5 := (List.getElem?_eq_some_iff.1 (hs2.lents y lo q2)).1
                  omega
                have hob : st'.ob y = ob := by
                  unfold St.ob
                  rw [nth_eq, e1, q1]
                  rfl
                rw [show (st'.unhide (stillOn (listed.setIfInBounds k true) X) st2).objs = backAll st' st2.objs (stillOn (listed.setIfInBounds k true) X) from rfl, backAll_mem hmem hlt, hob]
          · rw [if_neg (by rw [hw]; simp)]
            have := drawW_sound hT hC hsel hQ hg n (hd.set hkr) (hs'.put (undef_sim w Z L) o.dst) hk
            simp only [St.putO_objs, e1] at this
            exact this
        · exact h.elim

theorem Sit.drew (h : Sit S st a w Z L) : Sit S st a w.drew Z L := by
  have := h.update (w' := w.drew) (Z' := Z) (L' := L) (os' := st.objs) (fun _ _ => False) (fun _ => False) (Keeps.drew w _) (fun _ _ h => h.elim) (fun _ hb => hb) (Grows.refl _) h.sims.len
    (fun _ _ _ => rfl) (fun _ _ _ _ _ _ _ _ _ h => h) (fun _ _ _ h => h.elim) (fun _ _ _ h => h.elim) (fun _ _ _ _ _ _ h => h.elim) (fun _ _ _ h => h.elim)
    (fun b hb => .inl hb) (fun b hb => h.sims.zin b hb) (fun _ _ h => h.elim)
  exact this

/-- A region that draws its order. -/
theorem draw_sound {ops : Array Oper} {id : Nat} {X : List (Nat × List Nat)} (hm : P.follows .mixedOrders = true) (hT : tabOk P T = true) (hC : Told P C) (hsel : Region.noSelect ops = true) (hg : Goes S K fun a w => Q .normal a w)
    (hs : Sit S st a w Z L) (h : drawW T C G ops X ops.size (Array.replicate ops.size false) st K) : (Code.region id ops true).wp P Q a w := by
  refine wp_mono (Q := fun e a w => match e with
    | .normal => Q .normal a w
    | _ => False) (wp_region_any hm ?_) fun e a w he => ?_
  · exact (drawW_sound (Q := fun e a w => match e with
      | .normal => Q .normal a w
      | _ => False) hT hC hsel (fun _ _ _ h => h) hg ops.size (fun j o hj => by
        rw [Array.getD_eq_getD_getElem?] at hj
        by_cases hlt : j < (Array.replicate ops.size false).size
        · rw [Array.getElem?_eq_getElem hlt] at hj
          simp at hj
        · rw [Array.getElem?_eq_none (by omega)] at hj
          simp at hj) hs.drew h).any
  · cases e <;> first | exact he | exact he.elim
end
end Go.Ry
