/- The evaluator, texts 33 to 36: The evaluator is right: regions that draw their order (2). The evaluator is right: code. The evaluator is right: functions. What is handed in reads as plain values. No condition. -/
import Derived.Test.YtopchiaiefkehaaGreatRy32
import Derived.ProofKit
import Derived.OpenShut
import Derived.ShutString
import Derived.ChangeOld
import Derived.Below
import Derived.SizedLaws
import Derived.ChangeArms
import Derived.ChangeAt
import Derived.Carry
set_option linter.unusedVariables false
set_option linter.unusedSimpArgs false
namespace Go.Ry

section
variable {P : Program} {S : Start} {st st' : St} {a a' : Act} {w w' : World} {Z Z' : Nat → Prop} {L L' : List Loc} {T : Tab} {C : Calls_} {G : List (Nat × Sig)} {o : Oper} {K : St → Prop} {Q : Exit → Act → World → Prop} {R : Prop} {X : List Nat}

theorem Sit.behindX (h : Sit S st a w Z L) {c : Cell} {v : Value} {cs : List Cell} (hc : CSim w Z L c v) (hb : st.behind c = some cs)
    (hX : (∃ t x o, c = .ptrZ t x o) ∨ (∃ i o, c = .ptrB i o ∧ i ∈ X) ∨ ∃ i k o, c = .ptrE i k o ∧ i ∈ X) :
    ∃ g q vs, v = .pointer (some ⟨g, q, none⟩) ∧ CsSim w Z L cs vs ∧ ∀ w', Alike w Z (prot X st.objs L) w' → CellsAt w' g q vs := by
  rcases hX with ⟨t, x, o, rfl⟩ | ⟨i, o, rfl, hi⟩ | ⟨i, k, o, rfl, hi⟩
  · obtain ⟨g, q, es, rfl, hz, h2, h3⟩ := hc
    simp only [St.behind, Option.some.injEq] at hb
    subst hb
    refine ⟨g, q + o, es.drop o, rfl, CsSim.drop (Rd.cells h3), fun w' hal j u hj => ?_⟩
    rw [← h2.drop j u hj]
    exact World.cell?_of_block (w := w) (w' := w') (hal.1 g hz)
  · obtain ⟨g, q, s, hl, rfl⟩ := hc
    simp only [St.behind] at hb
    cases hbx : st.box i with
    | none => rw [hbx] at hb; simp at hb
    | some cs0 =>
      rw [hbx] at hb
      simp only [Option.map_some, Option.some.injEq] at hb
      subst hb
      obtain ⟨g', q', s', vs, h1, h2, h3, h4⟩ := h.boxAt hbx
      rw [hl] at h2
      simp only [Option.some.injEq, Loc.box.injEq] at h2
      obtain ⟨rfl, rfl, rfl⟩ := h2
      refine ⟨g, q + o, vs.drop o, rfl, CsSim.drop h3, fun w' hal j u hj => ?_⟩
      rw [← h4.cells.drop j u hj]
      have hlen := h3.length
      have hjl : j < (vs.drop o).length := (List.getElem?_eq_some_iff.1 hj).1
      rw [List.length_drop] at hjl
      exact hal.2 g _ ⟨i, hi, _, _, h1, hl, rfl, .inr ⟨by omega, by omega⟩⟩
  · have hc0 := hc
    have hb0 := hb
    obtain ⟨g, n, c, sz, m, hl, hk, rfl⟩ := hc
    simp only [St.behind] at hb
    split at hb
    · rename_i e u xs hob
      obtain ⟨v, es, h1, _⟩ := h.row hob
      obtain ⟨g', q', vs, e1, e2, e3⟩ := h.behind hc0 hb0
      simp only [Value.pointer.injEq, Option.some.injEq, Addr.mk.injEq, and_true] at e1
      obtain ⟨rfl, rfl⟩ := e1
      refine ⟨_, _, vs, rfl, e2, fun w' hal j u hj => ?_⟩
      rw [← e3 j u hj]
      exact hal.2 g _ ⟨i, hi, _, _, h1, hl, rfl⟩
    · rename_i e u qq xs hob
      obtain ⟨v, es, hd, h1, _⟩ := h.nest hob
      obtain ⟨g', q', vs, e1, e2, e3⟩ := h.behind hc0 hb0
      simp only [Value.pointer.injEq, Option.some.injEq, Addr.mk.injEq, and_true] at e1
      obtain ⟨rfl, rfl⟩ := e1
      refine ⟨_, _, vs, rfl, e2, fun w' hal j u hj => ?_⟩
      rw [← e3 j u hj]
      exact hal.2 g _ ⟨i, hi, _, _, h1, hl, .inl rfl⟩
    · simp at hb

def Floats (P : Program) (o : Oper) (a : Act) (w : World) (Z : Nat → Prop) (L : List Loc) (st : St) (X : List Nat) (K : St → Prop) : Prop :=
  ∃ v e, (∀ w', Alike w Z (prot X st.objs L) w' → (execOp a.eval o).run P w' = .ok (.value v) w') ∧ ESim w Z L e v ∧ K (st.putO o.dst e)

theorem Floats.fin : FinV P o a w Z L st K (Floats P o a w Z L st X K) := fun v e hr he hk => ⟨v, e, fun w' _ => hr w', he, hk⟩

theorem float_load {t : TypeId} {x : Operand} (ho : o.op = .load t x) (hT : tabOk P T = true) (hs : Sit S st a w Z L) (hX : loadIn X st o = true) (h : opW T C G o st K) : Floats P o a w Z L st X K := by
  simp only [opW, ho] at h
  split at h
  · rename_i te c hte hx
    split at h
    · rename_i cs hb
      split at h
      · rename_i hle
        obtain ⟨i, d, z, f⟩ := teFacts (tabOk_look hT hte)
        have hx' : (∃ t x o, c = .ptrZ t x o) ∨ (∃ i o, c = .ptrB i o ∧ i ∈ X) ∨ ∃ i k o, c = .ptrE i k o ∧ i ∈ X := by
          simp only [loadIn, ho, hx] at hX
          split at hX
          · rename_i e1; simp only [Ent.one.injEq] at e1; exact .inl ⟨_, _, _, e1⟩
          · rename_i e1; simp only [Ent.one.injEq] at e1; exact .inr (.inl ⟨_, _, e1, memN_iff.1 hX⟩)
          · rename_i e1; simp only [Ent.one.injEq] at e1; exact .inr (.inr ⟨_, _, _, e1, memN_iff.1 hX⟩)
          · simp at hX
        obtain ⟨g, q, vs, hv, h1, h2⟩ := hs.behindX (ev_one hs hx) hb hx'
        obtain ⟨v, hr, he⟩ := run_loadVar_at (P := P) (g := g) (q := q) f h1 (Nat.le_of_ble_eq_true hle)
        refine ⟨v, _, fun w' hal => ?_, he, h⟩
        unfold execOp
        simp [ho, hv, Instr.loadAt, Instr.sureAddr, hr w' (h2 w' hal)]
      · exact h.elim
    · exact h.elim
  · exact h.elim

theorem float_convert {src dst : TypeId} {x : Operand} {te : TE} {k : IntKind} (ho : o.op = .convert src dst x) (hT : tabOk P T = true) (hte : look T dst = some te) (hk : te.kind = .int k) (hs : Sit S st a w Z L)
    (hg : FinV P o a w Z L st K R) (h : opW T C G o st K) : R := by
  simp only [opW, ho, hte] at h
  split at h
  · rename_i te' ts e1 hts
    simp only [Option.some.injEq] at e1
    subst e1
    obtain ⟨d, hd, hkd⟩ := under_of (d := .bool) hT hte
    obtain ⟨d', hd', hkd'⟩ := under_of (d := .bool) hT hts
    rw [hk] at h
    split at h
    · rename_i k0 n k' hx hk'
      simp only [TK.int.injEq] at hk'
      subst hk'
      rw [kind_int hkd hk] at hd
      have cx : a.eval x = .int k0 n := ev_one hs hx
      refine hg.value (v := .int k (k.wrap n)) (e := .one (.int k (k.wrap n))) (fun w => ?_) rfl h
      unfold execOp
      simp [ho, cx, convert, run_underlying hd, run_underlying hd', Conv.intToInt]
    all_goals first
      | (rename_i hk'; simp at hk'; done)
      | exact h.elim
  · exact h.elim

theorem float_any (hf : floats T o = true) (hT : tabOk P T = true) (hs : Sit S st a w Z L) (hX : loadIn X st o = true) (h : opW T C G o st K) : Floats P o a w Z L st X K := by
  cases ho : o.op with
  | move x => exact sound_move (.inl ho) hs (by simpa only [opW, ho] using h) Floats.fin
  | assign x => exact sound_move (.inr ho) hs (by simpa only [opW, ho] using h) Floats.fin
  | pick c x y => exact sound_pick ho hs Floats.fin (by simp only [opW, ho] at h; exact h)
  | build t ps => exact sound_build ho hT hs Floats.fin h
  | load t x => exact float_load ho hT hs hX h
  | nilCheck x => exact sound_nilCheck ho hs Floats.fin h
  | binOp op t x y z => exact sound_binOp ho hT hs Floats.fin h
  | unOp op t x => exact sound_unOp ho hs Floats.fin h
  | convert s d x =>
    simp only [floats, ho] at hf
    split at hf
    · rename_i te hte
      split at hf
      · rename_i k hk
        exact float_convert ho hT hte hk hs Floats.fin h
      · simp at hf
    · simp at hf
  | makeFunc f x y => exact sound_makeFunc ho hs Floats.fin h
  | fieldAddr s x k => exact sound_fieldAddr ho hT hs Floats.fin h
  | field s x k => exact sound_field ho hT hs Floats.fin h
  | indexAddr t x y => exact sound_indexAddr ho hT hs Floats.fin h
  | index t x y => exact sound_index ho hT hs Floats.fin h
  | extract x i => exact sound_extract ho hs Floats.fin h
  | slice t x lo hi m =>
    cases m with
    | none => exact sound_slice ho hT hs Floats.fin h
    | some m => simp [opW, ho] at h
  | call c =>
    simp only [floats, ho] at hf
    split at hf
    all_goals first
      | (simp at hf; done)
      | skip
    · rename_i hcl
      have h' : builtinW T .len c.args.toList c.argTypes.toList st o.dst K := by
        rcases c with ⟨ce, ar, at_⟩
        simp only at hcl
        subst hcl
        simpa only [opW, ho] using h
      cases har : c.args.toList with
      | nil => rw [har] at h'; simp [builtinW] at h'
      | cons x l =>
        cases l with
        | nil => rw [har] at h'; exact sound_len ho hcl har rfl hT hs Floats.fin h'
        | cons y l => rw [har] at h'; simp [builtinW] at h'
    · rename_i hcl
      refine sound_min (T := T) ho hcl hs Floats.fin (t := c.argTypes.toList) ?_
      rcases c with ⟨ce, ar, at_⟩
      simp only at hcl
      subst hcl
      simpa only [opW, ho] using h
    · rename_i hcl
      refine sound_max (T := T) ho hcl hs Floats.fin (t := c.argTypes.toList) ?_
      rcases c with ⟨ce, ar, at_⟩
      simp only at hcl
      subst hcl
      simpa only [opW, ho] using h
  | _ => simp [floats, ho] at hf

/-! ### objects that are set aside -/
theorem killAll_length : ∀ {X : List Nat} {os : List Ob}, (killAll os X).length = os.length
  | [], _ => rfl
  | i :: X, os => by simp only [killAll]; rw [killAll_length, setNth_length]
theorem killAll_get : ∀ {X : List Nat} {os : List Ob} {i : Nat} {o : Ob}, (killAll os X)[i]? = some o → (i ∈ X ∧ o = .dead) ∨ (i ∉ X ∧ os[i]? = some o) ∨ o = .dead
  | [], os, i, o, h => .inr (.inl ⟨by simp, h⟩)
  | j :: X, os, i, o, h => by
    simp only [killAll] at h
    rcases killAll_get h with ⟨_, h2⟩ | ⟨h1, h2⟩ | h2
    · exact .inr (.inr h2)
    · rw [setNth_eq] at h2
      by_cases hij : j = i
      · subst hij
        have hlt : j < os.length := by
          have := (List.getElem?_eq_some_iff.1 h2).1
          simpa using this
        rw [List.getElem?_set_self hlt] at h2
        simp only [Option.some.injEq] at h2
        exact .inr (.inr h2.symm)
      · rw [List.getElem?_set_ne hij] at h2
        exact .inr (.inl ⟨fun hm => by
          rcases List.mem_cons.1 hm with e | e
          · exact hij e.symm
          · exact h1 e, h2⟩)
    · exact .inr (.inr h2)
theorem backAll_length : ∀ {X : List Nat} {os : List Ob}, (backAll st os X).length = os.length
  | [], _ => rfl
  | i :: X, os => by simp only [backAll]; rw [backAll_length, setNth_length]
theorem backAll_not : ∀ {X : List Nat} {os : List Ob} {i : Nat}, i ∉ X → (backAll st os X)[i]? = os[i]?
  | [], _, _, _ => rfl
  | j :: X, os, i, h => by
    simp only [backAll]
    rw [backAll_not (fun hm => h (List.mem_cons_of_mem _ hm)), setNth_eq, List.getElem?_set_ne (fun e => h (by rw [e]; exact List.mem_cons_self))]
theorem backAll_mem : ∀ {X : List Nat} {os : List Ob} {i : Nat}, i ∈ X → i < os.length → (backAll st os X)[i]? = some (st.ob i)
  | [], _, _, h, _ => by simp at h
  | j :: X, os, i, h, hlt => by
    simp only [backAll]
    by_cases hi : i ∈ X
    · exact backAll_mem hi (by rw [setNth_length]; exact hlt)
    · have hij : i = j := by
        rcases List.mem_cons.1 h with e | e
        · exact e
        · exact absurd e hi
      subst hij
      rw [backAll_not hi, setNth_eq, List.getElem?_set_self hlt]

def others (X : List Nat) (os : List Ob) (L : List Loc) (g q : Nat) : Prop := ∃ (i : Nat) (ob : Ob) (l : Loc), i ∉ X ∧ os[i]? = some ob ∧ L[i]? = some l ∧ foot ob l g q

theorem Sit.hide (h : Sit S st a w Z L) (X : List Nat) : Sit ⟨w, others X st.objs L, Z, L⟩ (st.hide X) a w Z L := by
  have get : ∀ (i : Nat) (o : Ob), (killAll st.objs X)[i]? = some o → o = .dead ∨ (i ∉ X ∧ st.objs[i]? = some o) := by
    intro i o ho
    rcases killAll_get ho with ⟨_, h2⟩ | h2 | h2
    · exact .inl h2
    · exact .inr h2
    · exact .inl h2
  refine ⟨h.tlen, h.tmps, ⟨by simp [St.hide, killAll_length, h.sims.len], fun i o l ho hl => ?_, fun i j o l o' l' ho hl ho' hl' hij b q q1 q2 => ?_, fun i o l ho hl b q hq hz => ?_, h.sims.zin, h.sims.tab⟩,
    Keeps.refl _ _, fun _ hb => hb, fun _ hb => .inl hb, fun i o l ho hl b q hq => ?_, Grows.refl _, h.defers⟩
  · rcases get i o ho with rfl | ⟨_, h2⟩
    · trivial
    · exact h.sims.ob i o l h2 hl
  · rcases get i o ho with rfl | ⟨_, h2⟩
    · exact q1.elim
    · rcases get j o' ho' with rfl | ⟨_, h3⟩
      · exact q2.elim
      · exact h.sims.sep i j o l o' l' h2 hl h3 hl' hij b q q1 q2
  · rcases get i o ho with rfl | ⟨_, h2⟩
    · exact hq.elim
    · exact h.sims.zap i o l h2 hl b q hq hz
  · rcases get i o ho with rfl | ⟨h1, h2⟩
    · exact hq.elim
    · exact .inr ⟨i, o, l, h1, h2, hl, hq⟩

theorem Sit.back (h : Sit S st a w Z L) (h' : Sit ⟨w, others X st.objs L, Z, L⟩ st' a' w' Z' L') :
    Sit S (st.unhide X st') a' w' Z' L' ∧ ∀ w'', Alike w' Z' (prot X (st.unhide X st').objs L') w'' → Alike w Z (prot X st.objs L) w'' := by
  have hk : Keeps w (others X st.objs L) w' := h'.keeps
  have hgl : Grows L L' := h'.lents
  have hgz : ∀ b, Z b → Z' b := h'.zup
  have hle : L.length ≤ L'.length := by
    rcases Nat.eq_zero_or_pos L.length with e | e
    · omega
    · have := hgl (L.length - 1) _ (List.getElem?_eq_getElem (by omega))
      have := (List.getElem?_eq_some_iff.1 this).1
      omega
  have hsep : ∀ (i : Nat) (o : Ob) (l : Loc), i ∈ X → st.objs[i]? = some o → L[i]? = some l → ∀ b q, foot o l b q → ¬ others X st.objs L b q := by
    rintro i o l hi ho hl b q hq ⟨j, ob, l', hj, h1, h2, h3⟩
    exact h.sims.sep i j o l ob l' ho hl h1 h2 (fun e => hj (e ▸ hi)) b q hq h3
  have hzsep : ∀ b, Z b → ∀ q, ¬ others X st.objs L b q := by
    rintro b hb q ⟨j, ob, l', hj, h1, h2, h3⟩
    exact h.sims.zap j ob l' h1 h2 b q h3 hb
  have hw : ∀ b, Z b → w'.heap[b]? = w.heap[b]? := fun b hb => hk.same (h.sims.zin b hb) fun q => hzsep b hb q
  have get : ∀ (i : Nat) (o : Ob) (l : Loc), (backAll st st'.objs X)[i]? = some o → L'[i]? = some l → (i ∈ X ∧ (o = .dead ∨ (st.objs[i]? = some o ∧ L[i]? = some l))) ∨ (i ∉ X ∧ st'.objs[i]? = some o) := by
    intro i o l ho hl
    by_cases hi : i ∈ X
    · refine .inl ⟨hi, ?_⟩
      have hlt : i < st'.objs.length := by
        have := (List.getElem?_eq_some_iff.1 ho).1
        rwa [backAll_length] at this
      rw [backAll_mem hi hlt] at ho
      simp only [Option.some.injEq] at ho
      by_cases hd : st.ob i = .dead
      · exact .inl (ho ▸ hd)
      · have h1 := St.ob_some hd
        refine .inr ⟨ho ▸ h1, ?_⟩
        have hiL : i < L.length := by rw [h.sims.len]; exact (List.getElem?_eq_some_iff.1 h1).1
        have := hgl i _ (List.getElem?_eq_getElem hiL)
        rw [hl] at this
        rw [List.getElem?_eq_getElem hiL, this]
    · rw [backAll_not hi] at ho
      exact .inr ⟨hi, ho⟩
  have newOr : ∀ (j : Nat) (o : Ob) (l : Loc), st'.objs[j]? = some o → L'[j]? = some l → ∀ b q, foot o l b q → w.heap.size ≤ b ∨ others X st.objs L b q := h'.fnew
  refine ⟨⟨h'.tlen, h'.tmps, ⟨by simp [St.unhide, backAll_length, h'.sims.len], fun i o l ho hl => ?_, fun i j o l o' l' ho hl ho' hl' hij b q q1 q2 => ?_, fun i o l ho hl b q hq hz => ?_, h'.sims.zin, h'.sims.tab⟩,
    ?_, fun b hb => hgz b (h.zup b hb), fun b hb => ?_, fun i o l ho hl b q hq => ?_, h.lents.trans hgl, h'.defers⟩, fun w'' hal => ⟨fun b hb => ?_, fun g q hp => ?_⟩⟩
  · rcases get i o l ho hl with ⟨hi, rfl | ⟨h1, h2⟩⟩ | ⟨hi, h1⟩
    · trivial
    · exact OSim.kept hw hgz hgl hk (hsep i o l hi h1 h2) (h.sims.ob i o l h1 h2)
    · exact h'.sims.ob i o l h1 hl
  · rcases get i o l ho hl with ⟨hi, rfl | ⟨h1, h2⟩⟩ | ⟨hi, h1⟩
    · exact q1.elim
    · rcases get j o' l' ho' hl' with ⟨hj, rfl | ⟨k1, k2⟩⟩ | ⟨hj, k1⟩
      · exact q2.elim
      · exact h.sims.sep i j o l o' l' h1 h2 k1 k2 hij b q q1 q2
      · rcases newOr j o' l' k1 hl' b q q2 with hx | hx
        · have := foot_lt (h.sims.ob i o l h1 h2) q1; omega
        · exact hsep i o l hi h1 h2 b q q1 hx
    · rcases get j o' l' ho' hl' with ⟨hj, rfl | ⟨k1, k2⟩⟩ | ⟨hj, k1⟩
      · exact q2.elim
      · rcases newOr i o l h1 hl b q q1 with hx | hx
        · have := foot_lt (h.sims.ob j o' l' k1 k2) q2; omega
        · exact hsep j o' l' hj k1 k2 b q q2 hx
      · exact h'.sims.sep i j o l o' l' h1 hl k1 hl' hij b q q1 q2
  · rcases get i o l ho hl with ⟨hi, rfl | ⟨h1, h2⟩⟩ | ⟨hi, h1⟩
    · exact hq.elim
    · rcases h'.znew b hz with hx | hx | hx
      · exact h.sims.zap i o l h1 h2 b q hq hx
      · have := foot_lt (h.sims.ob i o l h1 h2) hq
        have hx : w.heap.size ≤ b := hx
        omega
      · exact hsep i o l hi h1 h2 b q hq (hx q)
    · exact h'.sims.zap i o l h1 hl b q hq hz
  · refine h.keeps.trans' hk fun b q hb hf => ?_
    obtain ⟨j, ob, l, _, h1, h2, h3⟩ := hf
    exact (h.fnew j ob l h1 h2 b q h3).resolve_left (by omega)
  · rcases h'.znew b hb with hx | hx | hx
    · exact h.znew b hx
    · exact .inr (.inl (Nat.le_trans h.keeps.size hx))
    · by_cases hbS : S.W.heap.size ≤ b
      · exact .inr (.inl hbS)
      · refine .inr (.inr fun q => ?_)
        obtain ⟨j, ob, l, _, h1, h2, h3⟩ := hx q
        exact (h.fnew j ob l h1 h2 b q h3).resolve_left hbS
  · rcases get i o l ho hl with ⟨hi, rfl | ⟨h1, h2⟩⟩ | ⟨hi, h1⟩
    · exact hq.elim
    · exact h.fnew i o l h1 h2 b q hq
    · rcases newOr i o l h1 hl b q hq with hx | ⟨j, ob, l', _, k1, k2, k3⟩
      · exact .inl (Nat.le_trans h.keeps.size hx)
      · exact h.fnew j ob l' k1 k2 b q k3
  · rw [hal.1 b (hgz b hb), hw b hb]
  · have hp0 := hp
    obtain ⟨i, hi, ob, l, h1, h2, h3⟩ := hp
    have hob : st.ob i = ob := by
      unfold St.ob
      rw [nth_eq, h1]
      rfl
    have hlt : i < st'.objs.length := by
      have e1 : i < L.length := (List.getElem?_eq_some_iff.1 h2).1
      have e2 := h'.sims.len
      omega
    rw [hal.2 g q ⟨i, hi, ob, l, by rw [show (st.unhide X st').objs = backAll st st'.objs X from rfl, backAll_mem hi hlt, hob], hgl i l h2, h3⟩]
    have hlt' := foot_lt (h.sims.ob i ob l h1 h2) h3
    rcases hk.block g hlt' with hx | ⟨c, c', e, z, z2, k1, k2, k3, k4, _⟩ | k6
    rotate_right
    · exact (hsep i ob l hi h1 h2 g q h3 (k6 q)).elim
    · exact World.cell?_of_block (w := w) (w' := w') (a := ⟨g, q, none⟩) hx
    · rw [cell_of_row w' g q c' e z2 k2, cell_of_row w g q c e z k1]
      exact k4 q (hsep i ob l hi h1 h2 g q h3)

theorem St.putO_objs (st : St) (d : Option Nat) (e : Ent) : (st.putO d e).objs = st.objs := by cases d <;> rfl

theorem guardW_use {ops : Array Oper} {run skip : St → Prop} (hs : Sit S st a w Z L) (h : guardW ops.toList o st run skip) :
    ∃ st' : St, st'.objs = st.objs ∧ Sit S st' a w Z L ∧ ((Region.wanted o (yielded ops a.tmps) = true ∧ run st') ∨ (Region.wanted o (yielded ops a.tmps) = false ∧ skip st')) := by
  unfold guardW at h
  split at h
  · rename_i hgd
    exact ⟨st, rfl, hs, .inl ⟨by simp [Region.wanted, hgd], h⟩⟩
  · rename_i j want hgd
    split at h
    · rename_i d hd
      rw [nth_eq, Array.getElem?_toList] at hd
      have htmp := hs.tmp d
      have hy : ∀ v, a.tmps.getD d undef = v → yielded ops a.tmps j = match v with
          | .bool b => some b
          | _ => none := by
        rintro v rfl
        unfold yielded
        rw [hd, Option.bind_some, Array.getD_eq_getD_getElem?]
        cases a.tmps[d]? with
        | none => rfl
        | some v => cases v <;> rfl
      have hwant : Region.wanted o (yielded ops a.tmps) = (yielded ops a.tmps j == some want) := by simp [Region.wanted, hgd]
      split at h
      · rename_i ht
        rw [ht] at htmp
        obtain ⟨vs, e1, e2⟩ := htmp
        exact ⟨st, rfl, hs, .inr ⟨by rw [hwant, hy _ e1]; rfl, h⟩⟩
      · rename_i b ht
        rw [ht] at htmp
        have hb : a.tmps.getD d undef = .bool b := htmp
        have hs' : Sit S ⟨setNth st.tmps d (.one (.bool b)), st.objs⟩ a w Z L := hs.setTmp htmp
        split at h
        · cases b
          · exact ⟨⟨setNth st.tmps d (.one (.bool false)), st.objs⟩, rfl, hs', .inr ⟨by rw [hwant, hy _ hb]; rfl, h⟩⟩
          · exact ⟨⟨setNth st.tmps d (.one (.bool true)), st.objs⟩, rfl, hs', .inl ⟨by rw [hwant, hy _ hb]; rfl, h⟩⟩
        · cases b
          · exact ⟨⟨setNth st.tmps d (.one (.bool false)), st.objs⟩, rfl, hs', .inl ⟨by rw [hwant, hy _ hb]; rfl, h⟩⟩
          · exact ⟨⟨setNth st.tmps d (.one (.bool true)), st.objs⟩, rfl, hs', .inr ⟨by rw [hwant, hy _ hb]; rfl, h⟩⟩
      · exact h.elim
    · exact h.elim

theorem firstOf_spec {f : Nat → Bool} : ∀ {l : List Nat} {j : Nat}, firstOf f l = some j → j ∈ l ∧ f j = true
  | [], _, h => by simp [firstOf] at h
  | i :: l, j, h => by
    simp only [firstOf] at h
    split at h
    · rename_i hf
      simp only [Option.some.injEq] at h
      subst h
      exact ⟨List.mem_cons_self, hf⟩
    · obtain ⟨h1, h2⟩ := firstOf_spec h
      exact ⟨List.mem_cons_of_mem _ h1, h2⟩

theorem allOf_mem {f : Nat → Prop} : ∀ {l : List Nat}, allOf f l → ∀ i ∈ l, f i
  | [], _, i, hi => by simp at hi
  | [j], h, i, hi => by
    have : i = j := by simpa using hi
    subst this
    exact h
  | j :: k :: l, h, i, hi => by
    rcases List.mem_cons.1 hi with rfl | hi
    · exact h.1
    · exact allOf_mem h.2 i hi

theorem allB_mem {f : Nat → Bool} : ∀ {l : List Nat}, allB f l = true → ∀ i ∈ l, f i = true
  | [], _, i, hi => by simp at hi
  | j :: l, h, i, hi => by
    simp only [allB] at h
    split at h
    · rename_i hf
      rcases List.mem_cons.1 hi with rfl | hi
      · exact hf
      · exact allB_mem h i hi
    · simp at h
theorem addNew_mem : ∀ {l M : List Nat} {i : Nat}, i ∈ addNew M l → i ∈ M ∨ i ∈ l
  | [], _, _, h => .inl h
  | n :: l, M, i, h => by
    simp only [addNew] at h
    rcases addNew_mem h with h | h
    · simp only [cond_eq_ite] at h
      split at h
      · exact .inl h
      · rcases List.mem_append.1 h with h | h
        · exact .inl h
        · exact .inr (by simp at h; simp [h])
    · exact .inr (List.mem_cons_of_mem _ h)
theorem upsW_listed {ops : Array Oper} {listed : Array Bool} (hd : Down ops listed) : ∀ (n k : Nat) {M : List Nat}, (∀ i ∈ M, listed.getD i false = true) → ∀ i ∈ upsW ops n k M, listed.getD i false = true
  | 0, _, _, h, i, hi => h i hi
  | n + 1, k, M, h, i, hi => by
    simp only [upsW] at hi
    split at hi
    · exact h i hi
    · rename_i j hj
      rw [nth_eq] at hj
      refine upsW_listed hd n (k + 1) (fun i hi => ?_) i hi
      rcases addNew_mem hi with hi | hi
      · exact h i hi
      · unfold edgesOf at hi
        split at hi
        · rename_i o ho
          obtain ⟨e, he, rfl⟩ := List.mem_map.1 hi
          obtain ⟨he1, he2⟩ := List.mem_filter.1 he
          exact hd j o (h j (List.mem_of_getElem? hj)) ho e (by simpa using he1) he2
        · simp at hi
theorem inNone_not : ∀ {j : Nat} {X : List (Nat × List Nat)}, inNone j X = true → ∀ p ∈ X, j ∉ p.2
  | j, [], _, p, hp => by simp at hp
  | j, q :: X, h, p, hp => by
    simp only [inNone] at h
    split at h
    · simp at h
    · rename_i hm
      rcases List.mem_cons.1 hp with rfl | hp
      · intro hc
        rw [memN_iff.2 hc] at hm
        simp at hm
      · exact inNone_not h p hp
theorem look_mem {α : Type} : ∀ {X : List (Nat × α)} {x : Nat} {r : α}, look X x = some r → (x, r) ∈ X
  | [], _, _, h => by simp [look] at h
  | (y, s) :: X, x, r, h => by
    simp only [look, cond_eq_ite] at h
    split at h
    · rename_i hy
      have : y = x := by simpa using hy
      subst this
      simp only [Option.some.injEq] at h
      subst h
      exact List.mem_cons_self
    · exact List.mem_cons_of_mem _ (look_mem h)
theorem stillOn_mem {listed : Array Bool} : ∀ {X : List (Nat × List Nat)} {p : Nat × List Nat}, p ∈ X → (∀ r ∈ p.2, listed.getD r false = false) → p.1 ∈ stillOn listed X
  | [], p, h, _ => by simp at h
  | q :: X, p, h, hr => by
    simp only [stillOn]
    rcases List.mem_cons.1 h with rfl | h
    · have : allB (fun r => !listed.getD r false) p.2 = true := by
        have : ∀ l : List Nat, (∀ r ∈ l, listed.getD r false = false) → allB (fun r => !listed.getD r false) l = true := by
          intro l
          induction l with
          | nil => intro _; rfl
          | cons a l ih =>
            intro h
            simp only [allB, h a List.mem_cons_self, Bool.not_false]
            exact ih fun r hr => h r (List.mem_cons_of_mem _ hr)
        exact this _ hr
      rw [this]
      exact List.mem_cons_self
    · split
      · exact List.mem_cons_of_mem _ (stillOn_mem h hr)
      · exact stillOn_mem h hr

def protL (X : List (Nat × List Nat)) (listed : Array Bool) (os : List Ob) (L : List Loc) (g q : Nat) : Prop :=
  ∃ x rs, look X x = some rs ∧ (∀ r ∈ rs, listed.getD r false = false) ∧ prot [x] os L g q

theorem loadOk_in {ops : Array Oper} {X : List (Nat × List Nat)} {j : Nat} (h : loadOk ops X j st o = true) :
    ∃ xs : List Nat, loadIn xs st o = true ∧ ∀ x ∈ xs, ∃ rs, look X x = some rs ∧ ∀ r ∈ rs, j ∈ upsW ops ops.size 0 [r] := by
  cases ho : o.op with
  | load t a =>
    simp only [loadOk, ho] at h
    split at h
    · rename_i e1; exact ⟨[], by simp [loadIn, ho, e1], fun x hx => by simp at hx⟩
    · rename_i i q e1
      split at h
      · rename_i rs hrs
        exact ⟨[i], by simp [loadIn, ho, e1, memN], fun x hx => by
          obtain rfl : x = i := by simpa using hx
          exact ⟨rs, hrs, fun r hr => memN_iff.1 (allB_mem h r hr)⟩⟩
      · simp at h
    · rename_i i k q e1
      split at h
      · rename_i rs hrs
        exact ⟨[i], by simp [loadIn, ho, e1, memN], fun x hx => by
          obtain rfl : x = i := by simpa using hx
          exact ⟨rs, hrs, fun r hr => memN_iff.1 (allB_mem h r hr)⟩⟩
      · simp at h
    · simp at h
  | _ => exact ⟨[], by simp [loadIn, ho], fun x hx => by simp at hx⟩

theorem drawW_sound {ops : Array Oper} {X : List (Nat × List Nat)} (hT : tabOk P T = true) (hC : Told P C) (hsel : Region.noSelect ops = true) (hQ : ∀ c a w, ¬ Q (.panic c) a w) (hg : Goes S K fun a w => Q .normal a w) :
    ∀ (n : Nat) {listed : Array Bool} {st : St} {a : Act} {w : World} {Z : Nat → Prop} {L : List Loc}, Down ops listed → Sit S st a w Z L → drawW T C G ops X n listed st K →
      wpAnyC P ops Q (fun l => Alike w Z (protL X l st.objs L)) n listed a w
  | 0, listed, st, a, w, Z, L, hd, hs, h => by
    simp only [drawW] at h
    split at h
    · rename_i hr
      exact ⟨Alike.refl _ _ _, hr, hg _ _ _ _ _ hs h⟩
    · exact h.elim
  | n + 1, listed, st, a, w, Z, L, hd, hs, h => by
    simp only [drawW] at h
    split at h
    · rename_i hr
      exact ⟨Alike.refl _ _ _, fun _ => hg _ _ _ _ _ hs h, fun i hi => by rw [hr] at hi; simp at hi⟩
    · rename_i i rd hr
      split at h
      · rename_i j hj
        obtain ⟨j1, j2⟩ := firstOf_spec hj
        split at h
        · rename_i o ho
          simp only [canFloat, ho, Bool.and_eq_true] at j2
          have hjr : j ∈ Region.ready .any ops listed := by rw [hr]; exact j1
          have first : ∀ v, YieldsC P ops (fun l => Alike w Z (protL X l st.objs L)) j o v a → wpAnyC P ops Q (fun l => Alike w Z (protL X l st.objs L)) n (listed.setIfInBounds j true) (a.put o.dst v) w →
              wpAnyC P ops Q (fun l => Alike w Z (protL X l st.objs L)) (n + 1) listed a w := fun v hy hw =>
            wpAnyC_first ho (Region.noSelect_spec hsel) (fun c a w hp => absurd hp (hQ _ _ _)) (fun l w' hal => ⟨hal.1, fun g q hp => hal.2 g q (by
              obtain ⟨x, rs, h1, h2, h3⟩ := hp
              refine ⟨x, rs, h1, fun r hr => ?_, h3⟩
              have hne : j ≠ r := fun e => inNone_not j2.2.1 _ (look_mem h1) (by rw [e]; exact hr)
              rw [getD_set_ne false hne]
              exact h2 r hr)⟩) n listed a w hd (Region.free_spec ho j2.2.2) hjr hy hw
          obtain ⟨st', e1, hs', ⟨hw, hk⟩ | ⟨hw, hk⟩⟩ := guardW_use hs h
          · split at hk
            · rename_i hl
              obtain ⟨xs, x1, x2⟩ := loadOk_in hl
              obtain ⟨v, e, f1, f2, f3⟩ := float_any j2.1 hT hs' x1 hk
              rw [e1] at f1
              have := drawW_sound hT hC hsel hQ hg n (hd.set hjr) (hs'.put f2 o.dst) f3
              simp only [St.putO_objs, e1] at this
              refine first v (.inl ⟨hw, fun l w' hdl hjl hal => f1 w' ⟨hal.1, fun g q hp => hal.2 g q ?_⟩⟩) this
              obtain ⟨x, hx, ob, lo, p1, p2, p3⟩ := hp
              obtain ⟨rs, r1, r2⟩ := x2 x hx
              refine ⟨x, rs, r1, fun r hr => ?_, x, by simp, ob, lo, p1, p2, p3⟩
              cases hlr : l.getD r false with
              | false => rfl
              | true =>
                have := upsW_listed hdl ops.size 0 (M := [r]) (fun i hi => by
                  obtain rfl : i = r := by simpa using hi
                  exact hlr) j (r2 r hr)
                rw [hjl] at this
                simp at this
            · exact hk.elim
          · have := drawW_sound hT hC hsel hQ hg n (hd.set hjr) (hs'.put (undef_sim w Z L) o.dst) hk
            simp only [St.putO_objs, e1] at this
            exact first undef (.inr ⟨hw, rfl⟩) this
        · exact h.elim
      · refine ⟨Alike.refl _ _ _, fun h0 => (by rw [h0] at hr; simp at hr), fun k hk => ?_⟩
        have hkr := hk
        rw [hr] at hk
        have h := allOf_mem h k hk
        split at h
        · rename_i o ho
          unfold wpOp
          simp only [ho]
          obtain ⟨st', e1, hs', ⟨hw, hk⟩ | ⟨hw, hk⟩⟩ := guardW_use hs h
          · rw [if_pos hw]
            refine .inl (opW_sound hT hC (hs'.hide (stillOn (listed.setIfInBounds k true) X)) (fun st2 a2 w2 Z2 L2 hs2 hk2 => ?_) hk)
            obtain ⟨b1, b2⟩ := hs'.back hs2
            rw [e1] at b2
            refine (drawW_sound hT hC hsel hQ hg n (hd.set hkr) b1 hk2).mono (l0 := listed.setIfInBounds k true) (fun l w' hsup hal => ?_) (fun _ h => h)
            have hz : Alike w Z (prot (stillOn (listed.setIfInBounds k true) X) st.objs L) w2 := b2 w2 (Alike.refl _ _ _)
            refine ⟨fun b hb => ?_, fun g q hp => ?_⟩
            · rw [hal.1 b (hs2.zup b hb)]
              exact hz.1 b hb
            · obtain ⟨x, rs, p1, p2, y, hy, ob, lo, q1, q2, q3⟩ := hp
              obtain rfl : y = x := by simpa using hy
              have hmem : y ∈ stillOn (listed.setIfInBounds k true) X := stillOn_mem (look_mem p1) fun r hr => by
                cases hlr : (listed.setIfInBounds k true).getD r false with
                | false => rfl
                | true =>
                  have := hsup r hlr
                  rw [p2 r hr] at this
                  simp at this
              rw [hal.2 g q ?_]
              · exact hz.2 g q ⟨y, hmem, ob, lo, q1, q2, q3⟩
              · refine ⟨y, rs, p1, p2, y, by simp, ob, lo, ?_, hs2.lents y lo q2, q3⟩
                have hlt : y < st2.objs.length := by
                  have e3 : y < L.length := (List.getElem?_eq_some_iff.1 q2).1
                  have e4 := hs2.sims.len
                  have e5 := (List.getElem?_eq_some_iff.1 (hs2.lents y lo q2)).1
                  omega
                have hob : st'.ob y = ob := by
                  unfold St.ob
                  rw [nth_eq, e1, q1]
                  rfl
                rw [show (st'.unhide (stillOn (listed.setIfInBounds k true) X) st2).objs = backAll st' st2.objs (stillOn (listed.setIfInBounds k true) X) from rfl, backAll_mem hmem hlt, hob]
          · rw [if_neg (by rw [hw]; simp)]
            have := drawW_sound hT hC hsel hQ hg n (hd.set hkr) (hs'.put (undef_sim w Z L) o.dst) hk
            simp only [St.putO_objs, e1] at this
            exact this
        · exact h.elim

theorem Sit.drew (h : Sit S st a w Z L) : Sit S st a w.drew Z L := by
  have := h.update (w' := w.drew) (Z' := Z) (L' := L) (os' := st.objs) (fun _ _ => False) (fun _ => False) (Keeps.drew w _) (fun _ _ h => h.elim) (fun _ hb => hb) (Grows.refl _) h.sims.len
    (fun _ _ _ => rfl) (fun _ _ _ _ _ _ _ _ _ h => h) (fun _ _ _ h => h.elim) (fun _ _ _ h => h.elim) (fun _ _ _ _ _ _ h => h.elim) (fun _ _ _ h => h.elim)
    (fun b hb => .inl hb) (fun b hb => h.sims.zin b hb) (fun _ _ h => h.elim)
  exact this

theorem draw_sound {ops : Array Oper} {id : Nat} {X : List (Nat × List Nat)} (hm : P.follows .mixedOrders = true) (hT : tabOk P T = true) (hC : Told P C) (hsel : Region.noSelect ops = true) (hg : Goes S K fun a w => Q .normal a w)
    (hs : Sit S st a w Z L) (h : drawW T C G ops X ops.size (Array.replicate ops.size false) st K) : (Code.region id ops true).wp P Q a w := by
  refine wp_mono (Q := fun e a w => match e with
    | .normal => Q .normal a w
    | _ => False) (wp_region_any hm ?_) fun e a w he => ?_
  · exact (drawW_sound (Q := fun e a w => match e with
      | .normal => Q .normal a w
      | _ => False) hT hC hsel (fun _ _ _ h => h) hg ops.size (fun j o hj => by
        rw [Array.getD_eq_getD_getElem?] at hj
        by_cases hlt : j < (Array.replicate ops.size false).size
        · rw [Array.getElem?_eq_getElem hlt] at hj
          simp at hj
        · rw [Array.getElem?_eq_none (by omega)] at hj
          simp at hj) hs.drew h).any
  · cases e <;> first | exact he | exact he.elim
end
end Go.Ry
set_option linter.unusedVariables false
set_option linter.unusedSimpArgs false
namespace Go.Ry

def Out.toExit : Out → Exit
  | .norm => .normal
  | .exit id => .exit id
  | .ret => .ret

section
variable {P : Program} {S : Start} {st : St} {a : Act} {w w' : World} {Z Z' : Nat → Prop} {L L' : List Loc} {T : Tab} {C : Calls_} {G : List (Nat × Sig)} {H : Hints} {Q : Exit → Act → World → Prop}

def GoesC (S : Start) (K : Out → St → Prop) (Q : Exit → Act → World → Prop) : Prop :=
  ∀ x st a w Z L, Sit S st a w Z L → K x st → Q x.toExit a w

theorem least {p : Nat → Prop} : ∀ (n : Nat), p n → ∃ m, p m ∧ ∀ k, p k → m ≤ k := by
  intro n
  induction n using Nat.strongRecOn with
  | _ n ih =>
    intro hp
    by_cases h : ∃ k, k < n ∧ p k
    · obtain ⟨k, h1, h2⟩ := h
      exact ih k h1 h2
    · refine ⟨n, hp, fun k hk => ?_⟩
      rcases Nat.lt_or_ge k n with hlt | hge
      · exact absurd ⟨k, hlt, hk⟩ h
      · exact hge

theorem wp_loop_n {c : Code} (I : Nat → Act → World → Prop) (m0 : Nat) (h0 : I m0 a w)
    (round : ∀ m a w, I m a w → c.wp P (Exit.then (fun a' w' => ∃ m', m' < m ∧ I m' a' w') Q) a w) : (Code.loop c).wp P Q a w := by
  have hμ : ∀ x : Act × World, ∃ m, (∃ n, I n x.1 x.2) → I m x.1 x.2 ∧ ∀ k, I k x.1 x.2 → m ≤ k := by
    intro x
    by_cases h : ∃ n, I n x.1 x.2
    · obtain ⟨n, hn⟩ := h
      obtain ⟨m, h1, h2⟩ := least (p := fun n => I n x.1 x.2) n hn
      exact ⟨m, fun _ => ⟨h1, h2⟩⟩
    · exact ⟨0, fun h' => absurd h' h⟩
  obtain ⟨μ, hμ⟩ := Classical.skolem.1 hμ
  refine wp_loop (fun a w => ∃ m, I m a w) (fun a w => μ (a, w)) ⟨m0, h0⟩ fun a w hI => ?_
  obtain ⟨h1, _⟩ := hμ (a, w) hI
  refine wp_mono (round _ a w h1) fun e a' w' he => ?_
  cases e with
  | normal =>
    obtain ⟨m', hlt, hm'⟩ := he
    obtain ⟨_, h4⟩ := hμ (a', w') ⟨m', hm'⟩
    exact ⟨⟨m', hm'⟩, Nat.lt_of_le_of_lt (h4 m' hm') hlt⟩
  | _ => exact he

theorem codeW_sound (hm : P.follows .mixedOrders = true) (hT : tabOk P T = true) (hC : Told P C) {n nl : Nat} (hnl : S.L.length = nl) : ∀ (c : Code) {st : St} {a : Act} {w : World} {Z : Nat → Prop} {L : List Loc} {K : Out → St → Prop} {Q : Exit → Act → World → Prop},
    Sit S st a w Z L → codeW T C G H n nl c st K → GoesC S K Q → c.wp P Q a w := by
  intro c
  induction c with
  | skip =>
    intro st a w Z L K Q hs h hg
    simp only [codeW] at h
    exact Go.wp_skip (hg .norm _ _ _ _ _ hs h)
  | label l =>
    intro st a w Z L K Q hs h hg
    simp only [codeW] at h
    exact wp_label (hg .norm _ _ _ _ _ hs h)
  | region id ops draw =>
    intro st a w Z L K Q hs h hg
    simp only [codeW] at h
    cases draw with
    | false =>
      refine wp_region ?_
      have := opsW_sound (Q := Q) hT hC (fun st a w Z L hs hk => hg .norm st a w Z L hs hk) ops.toList 0 rfl hs h
      rwa [Array.length_toList, ← List.range_eq_range'] at this
    | true =>
      dsimp only at h
      split at h
      · rename_i hsel
        exact draw_sound hm hT hC hsel (fun st a w Z L hs hk => hg .norm st a w Z L hs hk) hs h
      · exact h.elim
  | seq x y ihx ihy =>
    intro st a w Z L K Q hs h hg
    simp only [codeW] at h
    split at h
    · refine wp_seq (ihx hs h fun o st a w Z L hs hk => ?_)
      cases o with
      | norm => exact ihy hs hk hg
      | exit i => exact hg (.exit i) _ _ _ _ _ hs hk
      | ret => exact hg .ret _ _ _ _ _ hs hk
    · rename_i k hk
      obtain ⟨J, h1, h2⟩ := h
      refine wp_seq (ihx hs h1 fun o st a w Z L hs hk => ?_)
      cases o with
      | norm =>
        obtain ⟨es, os, hJ, ⟨Z', L', hs'⟩, hu⟩ := arrive_sound hs hnl hk
        exact ihy hs' (hu (fun es os => appJ k J es os → codeW T C G H n nl y (mkSt n k es os) K) h2 hJ) hg
      | exit i => exact hg (.exit i) _ _ _ _ _ hs hk
      | ret => exact hg .ret _ _ _ _ _ hs hk
  | cond c x y ihx ihy =>
    intro st a w Z L K Q hs h hg
    simp only [codeW] at h
    split at h
    · rename_i t hc
      have hv : a.eval c = .bool t := ev_one hs hc
      refine wp_cond hv ?_
      cases t with
      | true => exact ihx hs h hg
      | false => exact ihy hs h hg
    · exact h.elim
  | block id c ih =>
    intro st a w Z L K Q hs h hg
    simp only [codeW] at h
    refine wp_block (ih hs h fun o st a w Z L hs hk => ?_)
    cases o with
    | norm => exact hg .norm _ _ _ _ _ hs hk
    | ret => exact hg .ret _ _ _ _ _ hs hk
    | exit j =>
      simp only [cond_eq_ite] at hk
      simp only [Out.toExit, Exit.inBlock]
      split at hk
      · rename_i he
        rw [if_pos (Nat.eq_of_beq_eq_true he)]
        exact hg .norm _ _ _ _ _ hs hk
      · rename_i he
        rw [if_neg (fun e => he (by rw [e]; exact Nat.beq_refl _))]
        exact hg (.exit j) _ _ _ _ _ hs hk
  | exit id =>
    intro st a w Z L K Q hs h hg
    simp only [codeW] at h
    exact wp_exit (hg (.exit id) _ _ _ _ _ hs h)
  | ret =>
    intro st a w Z L K Q hs h hg
    simp only [codeW] at h
    exact wp_ret (hg .ret _ _ _ _ _ hs h)
  | loop c ih =>
    intro st a w Z L K Q hs h hg
    simp only [codeW] at h
    split at h
    · rename_i k hk
      obtain ⟨I, ⟨m0, h0⟩, hr⟩ := h
      have ent : ∀ {m : Nat} {st : St} {a : Act} {w : World} {Z : Nat → Prop} {L : List Loc}, Sit S st a w Z L → arrive n nl k st (appJ k (I m)) →
          ∃ es os, appJ k (I m) es os ∧ (∃ Z' L', Sit S (mkSt n k es os) a w Z' L') ∧ ∀ R : List Ent → List Ob → Prop, (allE k.slots fun es => allO k.objs fun os => R es os) → R es os :=
        fun hs h => arrive_sound hs hnl h
      refine wp_loop_n (fun m a w => ∃ es os, appJ k (I m) es os ∧ (∃ Z' L', Sit S (mkSt n k es os) a w Z' L') ∧ ∀ R : List Ent → List Ob → Prop, (allE k.slots fun es => allO k.objs fun os => R es os) → R es os)
        m0 (ent hs h0) fun m a w hI => ?_
      obtain ⟨es, os, hJ, ⟨Z', L', hs'⟩, hu⟩ := hI
      refine ih hs' (hu (fun es os => appJ k (I m) es os → codeW T C G H n nl c (mkSt n k es os) fun x st => match x with
        | .norm => ∃ m', m' < m ∧ arrive n nl k st (appJ k (I m'))
        | x => K x st) (hr m) hJ) fun o st a w Z L hs hk => ?_
      cases o with
      | norm =>
        obtain ⟨m', hlt, hm'⟩ := hk
        exact ⟨m', hlt, ent hs hm'⟩
      | exit i => exact hg (.exit i) _ _ _ _ _ hs hk
      | ret => exact hg .ret _ _ _ _ _ hs hk
    · exact h.elim
  | _ => intro st a w Z L K Q hs h hg; simp [codeW] at h
end
end Go.Ry
set_option linter.unusedVariables false
set_option linter.unusedSimpArgs false
namespace Go.Ry

section
variable {P : Program} {S : Start} {st : St} {a : Act} {w w' : World} {Z Z' : Nat → Prop} {L L' : List Loc} {T : Tab} {C : Calls_} {G : List (Nat × Sig)} {H : Hints} {Q : Exit → Act → World → Prop}

theorem PSim.of_ent {ag : Bool} {cs : List Cell} {v : Value} (h : ESim w Z L (entOf ag cs) v) (h1 : ag = true ∨ cs.length = 1) : PSim w Z L (ag, cs) v := by
  cases ag with
  | true => exact h
  | false =>
    have h1 : cs.length = 1 := by simpa using h1
    match cs, h1 with
    | [c], _ => exact ⟨h, trivial⟩
theorem PSim.ent {ag : Bool} {cs : List Cell} {v : Value} (h : PSim w Z L (ag, cs) v) : ESim w Z L (entOf ag cs) v := by
  cases ag with
  | true => exact h
  | false =>
    have h : CsSim w Z L cs [v] := h
    match cs, h with
    | [c], h => exact h.1
    | [], h => exact h.elim
    | _ :: _ :: _, h => exact h.2.elim

def resOf (a : Act) : ResultVar → Sem Value
  | .tmp t => pure (a.tmps.getD t undef)
  | .cell x t => do loadVar t (← asAddr (a.tmps.getD x undef))

theorem resC_sim (hT : tabOk P T = true) (hs : Sit S st a w Z L) {r : ResultVar} {e : Bool × List Cell} (h : resC T st r = some e) :
    ∃ v, (resOf a r).run P w = .ok v w ∧ PSim w Z L e v := by
  cases r with
  | tmp t =>
    have ht := hs.tmp t
    simp only [resC] at h
    split at h
    · rename_i c hc
      simp only [Option.some.injEq] at h
      subst h
      rw [hc] at ht
      exact ⟨_, rfl, ⟨ht, trivial⟩⟩
    · rename_i cs hc
      simp only [Option.some.injEq] at h
      subst h
      rw [hc] at ht
      exact ⟨_, rfl, ht⟩
    · simp at h
  | cell x t =>
    have ht := hs.tmp x
    simp only [resC] at h
    split at h
    · rename_i c te hc hte
      rw [hc] at ht
      split at h
      · rename_i cs hb
        split at h
        · rename_i hle
          have hle := Nat.le_of_ble_eq_true hle
          simp only [Option.some.injEq] at h
          subst h
          obtain ⟨g, q, vs, hv, h1, h2⟩ := hs.behind ht hb
          obtain ⟨i, d, z, f⟩ := teFacts (tabOk_look hT hte)
          obtain ⟨v, r1, r2⟩ := run_loadVar_at (g := g) (q := q) f h1 hle
          have r1 := r1 w h2
          refine ⟨v, ?_, PSim.of_ent r2 (f.one.imp id fun e => by rw [List.length_take]; omega)⟩
          simp [resOf, hv, asAddr, r1]
        · simp at h
      · simp at h
    · simp at h

theorem resCs_sim (hT : tabOk P T = true) (hs : Sit S st a w Z L) : ∀ {rs : List ResultVar} {es : List (Bool × List Cell)}, resCs T st rs = some es →
    ∃ vs, (rs.mapM (resOf a)).run P w = .ok vs w ∧ PsSim w Z L es vs
  | [], es, h => by
    simp only [resCs, Option.some.injEq] at h
    subst h
    exact ⟨[], by simp, trivial⟩
  | r :: rs, es, h => by
    simp only [resCs] at h
    split at h
    · rename_i e es' h1 h2
      simp only [Option.some.injEq] at h
      subst h
      obtain ⟨v, r1, r2⟩ := resC_sim hT hs h1
      obtain ⟨vs, r3, r4⟩ := resCs_sim hT hs h2
      exact ⟨v :: vs, by simp [List.mapM_cons, r1, r3], r2, r4⟩
    · simp at h

theorem retup_sim : ∀ {es : List (Bool × List Cell)} {vs : List Value}, PsSim w Z L es vs → ∃ us, CsSim w Z L (tupCells es) us ∧
    ∀ (w' : World) (Z' : Nat → Prop) (L' : List Loc) (cs : List Cell), CsSim w' Z' L' cs us → PsSim w' Z' L' (retup es cs) vs
  | [], [], _ => ⟨[], trivial, fun _ _ _ _ _ => trivial⟩
  | [], _ :: _, h => h.elim
  | _ :: _, [], h => h.elim
  | (ag, ds) :: es, v :: vs, ⟨h1, h2⟩ => by
    obtain ⟨us, k1, k2⟩ := retup_sim h2
    have key : ∀ vs0 : List Value, CsSim w Z L ds vs0 → (∀ (w' : World) (Z' : Nat → Prop) (L' : List Loc) (cs : List Cell), CsSim w' Z' L' cs vs0 → PSim w' Z' L' (ag, cs) v) →
        ∃ us, CsSim w Z L (tupCells ((ag, ds) :: es)) us ∧ ∀ (w' : World) (Z' : Nat → Prop) (L' : List Loc) (cs : List Cell), CsSim w' Z' L' cs us → PsSim w' Z' L' (retup ((ag, ds) :: es) cs) (v :: vs) := by
      intro vs0 h3 h4
      refine ⟨vs0 ++ us, h3.append k1, fun w' Z' L' cs hcs => ⟨?_, ?_⟩⟩
      · refine h4 _ _ _ _ ?_
        have := hcs.take (n := ds.length)
        rwa [List.take_left' h3.length] at this
      · refine k2 _ _ _ _ ?_
        have := hcs.drop (n := ds.length)
        rwa [List.drop_left' h3.length] at this
    cases ag with
    | true =>
      obtain ⟨vs0, rfl, h3⟩ := h1
      exact key vs0.toList h3 fun w' Z' L' cs hcs => ⟨vs0, rfl, hcs⟩
    | false => exact key [v] h1 fun w' Z' L' cs hcs => hcs

theorem retup_shape : ∀ {es : List (Bool × List Cell)} {cs : List Cell}, (retup es cs).length = es.length
  | [], _ => rfl
  | _ :: es, cs => by simp [retup, retup_shape (es := es)]

theorem tupE_sim {es : List (Bool × List Cell)} {vs : List Value} (h : PsSim w Z L es vs) : ESim w Z L (tupE es) (if h : vs.toArray.size = 1 then vs.toArray[0] else .tuple vs.toArray) := by
  match es, vs, h with
  | [], [], _ => exact ⟨#[], rfl, trivial⟩
  | [(ag, cs)], [v], h => simpa [tupE] using PSim.ent h.1
  | x :: y :: es, u :: v :: vs, h => exact ⟨(u :: v :: vs).toArray, by simp, by simpa using h⟩
  | [], _ :: _, h => exact h.elim
  | _ :: _, [], h => exact h.elim
  | [_], _ :: _ :: _, h => exact h.2.elim
  | _ :: _ :: _, [_], h => exact h.2.elim

theorem fin_sound (hT : tabOk P T = true) {fn : Func} {nl : Nat} {k : Cut} (hnl : S.L.length = nl) (hs : Sit S st a w Z L) {K : Ent → List Ob → Prop} (h : finW T fn nl k st K) :
    ∃ v r os Z' L', (results fn a.tmps).run P w = .ok v w ∧ K r os ∧ ESim w Z' L' r v ∧ ∃ st' a', st'.objs = os ∧ Sit S st' a' w Z' L' := by
  unfold finW at h
  split at h
  · rename_i es hes
    obtain ⟨vs, r1, r2⟩ := resCs_sim hT hs hes
    obtain ⟨us, u1, u2⟩ := retup_sim r2
    split at h
    · rename_i sh hk
      have hs' : Sit S ⟨[.agg (tupCells es)], st.objs⟩ ⟨#[.agg us.toArray], []⟩ w Z L := by
        refine ⟨rfl, fun d e hd => ?_, hs.sims, hs.keeps, hs.zup, hs.znew, hs.fnew, hs.lents, rfl⟩
        cases d with
        | zero =>
          simp only [List.getElem?_cons_zero, Option.some.injEq] at hd
          subst hd
          exact ⟨us.toArray, rfl, by simpa using u1⟩
        | succ d => simp at hd
      obtain ⟨es', os, hJ, ⟨Z', L', hs2⟩, hu⟩ := arrive_sound hs' hnl h
      split at hJ
      · clear hu
        rename_i _ cs
        have he : ESim w Z' L' (.agg cs) (.agg us.toArray) := hs2.tmps 0 _ (by simp [mkSt, hk, setSlots, undefs, setNth])
        obtain ⟨us', e1, e2⟩ := he
        simp only [Value.agg.injEq] at e1
        subst e1
        have hp := u2 w Z' L' cs (by simpa using e2)
        refine ⟨_, _, os, Z', L', ?_, hJ, tupE_sim hp, _, _, rfl, hs2⟩
        have hr : ((fn.results.mapM fun x => resOf a x).run P w) = .ok vs.toArray w := by
          rw [Array.mapM_eq_mapM_toList]
          simp [r1]
        unfold results
        have hfun : (fun x => resOf a x) = fun (x : ResultVar) => (match x with
          | .tmp t => pure (a.tmps.getD t undef)
          | .cell x t => do loadVar t (← asAddr (a.tmps.getD x undef)) : Sem Value) := by
          funext x
          cases x <;> rfl
        rw [hfun] at hr
        simp only [Sem.run_bind]
        erw [hr]
        rfl
      · exact hJ.elim
    · exact h.elim
  · exact h.elim

theorem esSim_get : ∀ {as : List Ent} {vs : List Value}, EsSim w Z L as vs → vs.length = as.length ∧ ∀ (d : Nat) (e : Ent), as[d]? = some e → ∃ v, vs[d]? = some v ∧ ESim w Z L e v
  | [], [], _ => ⟨rfl, fun d e h => by simp at h⟩
  | [], _ :: _, h => h.elim
  | _ :: _, [], h => h.elim
  | x :: as, v :: vs, ⟨h1, h2⟩ => by
    obtain ⟨k1, k2⟩ := esSim_get h2
    refine ⟨by simp [k1], fun d e he => ?_⟩
    cases d with
    | zero =>
      simp only [List.getElem?_cons_zero, Option.some.injEq] at he
      subst he
      exact ⟨v, rfl, h1⟩
    | succ d => simpa using k2 d e (by simpa using he)

theorem fun_sound (hm : P.follows .mixedOrders = true) (hT : tabOk P T = true) (hC : Told P C) {g : Nat} {fn : Func} {c : Code} (hf : P.funcs[g]? = some fn) (hb : fn.body = some c) (hn : (fn.name == "runtime.NumGoroutine") = false)
    {as : List Ent} {os : List Ob} {r : Ent} {os' : List Ob} (h : funW T C G H fn c as os fun r' ps => r' = r ∧ ps = os') : Triple P g as os r os' := by
  intro w Z L vs hsim has
  refine .inr ⟨?_, ?_⟩
  · have hn' : ¬ fn.name = "runtime.NumGoroutine" := fun e => by simp [e] at hn
    unfold callFunc
    simp [hf, hn', hb]
  · refine calls_of_wp hf hb ?_
    obtain ⟨l1, l2⟩ := esSim_get has
    have hs : Sit ⟨w, feet os L, Z, L⟩ ⟨as ++ undefs (fn.ntmps - as.length), os⟩ ⟨vs ++ Array.replicate (fn.ntmps - vs.size) undef, []⟩ w Z L := by
      have hlen : as.length = vs.size := by rw [← l1, Array.length_toList]
      refine ⟨by simp [undefs_length, hlen], fun d e hd => ?_, hsim, Keeps.refl _ _, fun _ hb => hb, fun _ hb => .inl hb, fun i o l h1 h2 b q hq => .inr ⟨i, o, l, h1, h2, hq⟩, Grows.refl _, rfl⟩
      by_cases hlt : d < as.length
      · rw [List.getElem?_append_left hlt] at hd
        obtain ⟨v, v1, v2⟩ := l2 d e hd
        have : (vs ++ Array.replicate (fn.ntmps - vs.size) undef).getD d undef = v := by
          rw [Array.getD_eq_getD_getElem?, Array.getElem?_append_left (by omega), ← Array.getElem?_toList, v1]
          rfl
        rw [this]
        exact v2
      · rw [List.getElem?_append_right (by omega)] at hd
        rw [undefs_get hd]
        trivial
    refine codeW_sound (S := ⟨w, feet os L, Z, L⟩) (nl := os.length) hm hT hC hsim.len c hs h fun x st a w' Z' L' hs' hk => ?_
    have fin : finW T fn os.length H.fin st (fun r' ps => r' = r ∧ ps = os') → bodyPost P fn (fun e w' => match e with
        | .returned v => ∃ Z' L', Sims w' Z' L' os' ∧ ESim w' Z' L' r v ∧ Grows L L' ∧ Keeps w (feet os L) w' ∧ (∀ b, Z b → Z' b) ∧
          (∀ b, Z' b → Z b ∨ w.heap.size ≤ b ∨ ∀ q, feet os L b q) ∧
          (∀ (i : Nat) (o : Ob) (l : Loc), os'[i]? = some o → L'[i]? = some l → ∀ b q, foot o l b q → w.heap.size ≤ b ∨ feet os L b q)
        | _ => False) .normal a w' := by
      intro hk
      obtain ⟨v, r', ps, Z2, L2, h1, ⟨rfl, rfl⟩, h3, st', a', rfl, h5⟩ := fin_sound (S := ⟨w, feet os L, Z, L⟩) hT hsim.len hs' hk
      exact ⟨hs'.defers, v, h1, Z2, L2, h5.sims, h3, h5.lents, h5.keeps, h5.zup, h5.znew, h5.fnew⟩
    cases x with
    | norm => exact fin hk
    | ret => exact fin hk
    | exit i => exact hk.elim
end
end Go.Ry
set_option linter.unusedVariables false
set_option linter.unusedSimpArgs false
namespace Go.Ry
open Go.ChangeShapes Go.WideShapes Go.ChangeAt Go.RowKit

def tyIs (P : Program) : Ty → Sum TypeId (List Field × Nat) → Bool
  | .int k, .inl t => match P.underlying t with
    | some (.int l) => k == l
    | _ => false
  | .bool, .inl t => match P.underlying t with
    | some .bool => true
    | _ => false
  | .str, .inl t => match P.underlying t with
    | some .string => true
    | _ => false
  | .slice u, .inl t => match P.underlying t with
    | some (.slice e) => P.cellsOf e == u.size && (Nat.blt 0 u.size && tyIs P u (.inl e))
    | _ => false
  | .pair a b, .inl t => match P.underlying t with
    | some (.struct fs) => match fs.toList with
      | f :: fs => P.cellsOf t == a.size + b.size && (f.offset == 0 && (P.cellsOf f.type == a.size && (tyIs P a (.inl f.type) && tyIs P b (.inr (fs, a.size)))))
      | [] => false
    | _ => false
  | .pair a b, .inr (f :: fs, off) => f.offset == off && (P.cellsOf f.type == a.size && (tyIs P a (.inl f.type) && tyIs P b (.inr (fs, off + a.size))))
  | .unit, .inr ([], _) => true
  | _, _ => false

def Ty.wf : (t : Ty) → t.den → Prop
  | .unit, _ => True
  | .int k, n => (Lit.int k n).wf = true
  | .bool, _ => True
  | .str, s => s.size ≤ maxLen
  | .slice t, xs => xs.length ≤ maxLen ∧ ∀ x, x ∈ xs → t.wf x
  | .pair a b, x => a.wf x.1 ∧ b.wf x.2

section
variable {H : Type} {enc : TypeId × Value → H} {P : Program} {w : World} {sp : Nat → Bool} {held : Bool}

theorem list_of {α : Type} {R : Nat → α → Prop} : ∀ (n : Nat), (∀ i, i < n → ∃ x, R i x) → ∃ xs : List α, xs.length = n ∧ ∀ (i : Nat) (x : α), xs[i]? = some x → R i x
  | 0, _ => ⟨[], rfl, fun i x h => by simp at h⟩
  | n + 1, h => by
    obtain ⟨xs, h1, h2⟩ := list_of n fun i hi => h i (by omega)
    obtain ⟨y, hy⟩ := h n (by omega)
    refine ⟨xs ++ [y], by simp [h1], fun i x hx => ?_⟩
    by_cases hi : i < n
    · rw [List.getElem?_append_left (by omega)] at hx
      exact h2 i x hx
    · have hin : i = n := by
        have := (List.getElem?_eq_some_iff.1 hx).1
        simp at this; omega
      subst hin
      rw [List.getElem?_append_right (by omega), h1, Nat.sub_self] at hx
      simp only [List.getElem?_cons_zero, Option.some.injEq] at hx
      exact hx ▸ hy

theorem trod_rd : ∀ (ty : Ty),
    (∀ (t fuel : Nat) (cs : List Value) (x : DataW H × List MemPlace), tyIs P ty (.inl t) = true → DataW.trod enc P w 0 sp held fuel t cs = some x → ∃ v : ty.den, Rd w (fun b => b < w.heap.size) ty v cs ∧ ty.wf v) ∧
    (∀ (fs : List Field) (off n : Nat) (cs : List Value), tyIs P ty (.inr (fs, off)) = true → (∀ (i : Nat) (f : Field), fs[i]? = some f → ∃ x : DataW H × List MemPlace, DataW.trod enc P w 0 sp held n f.type ((cs.drop f.offset).take (P.cellsOf f.type)) = some x) →
      off + ty.size = cs.length → ∃ v : ty.den, Rd w (fun b => b < w.heap.size) ty v (cs.drop off) ∧ ty.wf v)
  | .unit => by
    refine ⟨fun t fuel cs x h _ => by simp [tyIs] at h, fun fs off n cs h _ hl => ⟨(), ?_, trivial⟩⟩
    simp only [Ty.size, Nat.add_zero] at hl
    exact List.drop_eq_nil_of_le (by omega)
  | .int k => by
    refine ⟨fun t fuel cs x h hx => ?_, fun fs off n cs h => by simp [tyIs] at h⟩
    simp only [tyIs] at h
    split at h
    · rename_i l hu
      have : k = l := by simpa using h
      subst this
      obtain ⟨n, rfl, _, hw⟩ := DataW.trod_int hu hx
      exact ⟨n, rfl, hw⟩
    · simp at h
  | .bool => by
    refine ⟨fun t fuel cs x h hx => ?_, fun fs off n cs h => by simp [tyIs] at h⟩
    simp only [tyIs] at h
    split at h
    · rename_i hu
      obtain ⟨n, rfl, _⟩ := DataW.trod_bool hu hx
      exact ⟨n, rfl, trivial⟩
    · simp at h
  | .str => by
    refine ⟨fun t fuel cs x h hx => ?_, fun fs off n cs h => by simp [tyIs] at h⟩
    simp only [tyIs] at h
    split at h
    · rename_i hu
      obtain ⟨n, rfl, _, hw⟩ := DataW.trod_string hu hx
      exact ⟨n, rfl, hw⟩
    · simp at h
  | .slice u => by
    refine ⟨fun t fuel cs x h hx => ?_, fun fs off n cs h => by simp [tyIs] at h⟩
    simp only [tyIs] at h
    split at h
    · rename_i e hu
      simp only [Bool.and_eq_true, beq_iff_eq] at h
      obtain ⟨hc, hp, h⟩ := h
      have hp : 0 < u.size := Nat.le_of_ble_eq_true hp
      rcases DataW.trod_slice hu hx with ⟨rfl, _⟩ | ⟨a, len, cap, elems, rest, n, _, rfl, _, _, hl, hm, hlen, hel, _⟩
      · exact ⟨[], ⟨none, 0, 0, rfl, rfl, Nat.le_refl _, fun _ => rfl, fun ad h => by simp at h⟩, by simp [Ty.wf]⟩
      · have each : ∀ i, i < len → ∃ es y, w.cells? 0 (a.add (i * P.cellsOf e)) (P.cellsOf e) = some es ∧ DataW.trod enc P w 0 sp held n e es = some y := by
          intro i hi
          have he := hel i hi
          rw [List.getElem?_eq_getElem (by omega)] at he
          simp only [Option.bind_eq_some_iff] at he
          obtain ⟨es, e1, e2⟩ := he
          exact ⟨es, _, e1, e2⟩
        have hspot : 0 < len → a.spot = none := by
          intro h0
          obtain ⟨es, y, e1, _⟩ := each 0 h0
          obtain ⟨_, l1, l2⟩ := World.cells?_some e1
          have g0 := l2 0 (by omega)
          rw [List.getElem?_eq_getElem (by omega)] at g0
          have := World.cell?_spot g0
          simpa [Addr.add] using this
        obtain ⟨xs, h1, h2⟩ := list_of (R := fun i (x : u.den) => (a.spot = none ∧ a.block < w.heap.size ∧ ∃ es : List Value, es.length = u.size ∧ CellsAt w a.block (a.off + i * u.size) es ∧ Rd w (fun b => b < w.heap.size) u x es) ∧ u.wf x) len (fun i hi => by
          obtain ⟨es, y, e1, e2⟩ := each i hi
          obtain ⟨v, v1, v2⟩ := (trod_rd u).1 e n es _ h e2
          obtain ⟨_, l1, l2⟩ := World.cells?_some e1
          have hblk := World.cells?_block e1 (by omega)
          have hs := hspot (by omega)
          obtain ⟨b, off, spot⟩ := a
          simp only at hs
          subst hs
          refine ⟨v, ⟨rfl, by simpa [Addr.add_lit] using hblk, es, by omega, fun j y hj => ?_, v1⟩, v2⟩
          have hjl := (List.getElem?_eq_some_iff.1 hj).1
          have := l2 j (by omega)
          rw [Addr.add_lit, Addr.add_lit, hj, hc] at this
          exact this)
        exact ⟨xs, ⟨some a, len, cap, rfl, h1.symm, hl, fun h => by simp at h, fun ad had i x hi => by
          simp only [Option.some.injEq] at had
          subst had
          exact (h2 i x hi).1⟩, by
            refine ⟨by omega, fun x hx => ?_⟩
            obtain ⟨i, hi⟩ := List.getElem?_of_mem hx
            exact (h2 i x hi).2⟩
    · simp at h
  | .pair a b => by
    have step : ∀ (f : Field) (fs : List Field) (off n : Nat) (cs : List Value), f.offset = off → P.cellsOf f.type = a.size → tyIs P a (.inl f.type) = true → tyIs P b (.inr (fs, off + a.size)) = true →
        (∀ (i : Nat) (g : Field), (f :: fs)[i]? = some g → ∃ x : DataW H × List MemPlace, DataW.trod enc P w 0 sp held n g.type ((cs.drop g.offset).take (P.cellsOf g.type)) = some x) → off + (a.size + b.size) = cs.length →
        ∃ v : a.den × b.den, Rd w (fun b => b < w.heap.size) (.pair a b) v (cs.drop off) ∧ (Ty.pair a b).wf v := by
      intro f fs off n cs h1 h2 h3 h4 h5 h6
      obtain ⟨x, hx⟩ := h5 0 f rfl
      obtain ⟨v1, r1, w1⟩ := (trod_rd a).1 _ _ _ _ h3 hx
      obtain ⟨v2, r2, w2⟩ := (trod_rd b).2 fs (off + a.size) n cs h4 (fun i g hg => h5 (i + 1) g (by simpa using hg)) (by omega)
      refine ⟨(v1, v2), ⟨_, _, ?_, r1, r2⟩, w1, w2⟩
      rw [h1, h2, ← List.drop_drop, List.take_append_drop]
    refine ⟨fun t fuel cs x h hx => ?_, fun fs off n cs h h5 h6 => ?_⟩
    · simp only [tyIs] at h
      split at h
      · rename_i fs hu
        obtain ⟨xs, n, rfl, _, hl, hlen, hf⟩ := DataW.trod_struct hu hx
        split at h
        · rename_i f fs' hfs
          simp only [Bool.and_eq_true, beq_iff_eq] at h
          obtain ⟨h1, h2, h3, h4, h5⟩ := h
          have := step f fs' 0 n cs h2 h3 h4 (by simpa using h5) (fun i g hg => by
            have hg' : fs[i]? = some g := by rw [← Array.getElem?_toList, hfs]; exact hg
            have hi := (Array.getElem?_eq_some_iff.1 hg').1
            have := hf i g hg'
            rw [List.getElem?_eq_getElem (by omega)] at this
            exact ⟨_, this⟩) (by omega)
          simpa using this
        · simp at h
      · simp at h
    · cases fs with
      | nil => simp [tyIs] at h
      | cons f fs =>
        simp only [tyIs, Bool.and_eq_true, beq_iff_eq] at h
        obtain ⟨h1, h2, h3, h4⟩ := h
        exact step f fs off n cs h1 h2 h3 h4 h5 (by simpa [Ty.size] using h6)

def tyEnt : (t : Ty) → t.den → Ent
  | .unit, x => .agg []
  | .pair a b, x => .agg ((Ty.pair a b).cells x)
  | .int k, x => .one (.int k x)
  | .bool, x => .one (.bool x)
  | .str, x => .one (.str x)
  | .slice t, x => .one (.sl t x)

theorem open_arg {r : Reach} {b0 : Nat} {ty : Ty} {t : TypeId} {v : Value} {d : DataW H} {ps : List MemPlace} (hty : tyIs P ty (.inl t) = true) (hval : Value.okWide P w r b0 t v) (hd : DataW.Trod enc P w 0 sp held t v d ps) :
    ∃ x : ty.den, ty.wf x ∧ ∀ L, ESim w (fun b => b < w.heap.size) L (tyEnt ty x) v := by
  obtain ⟨fuel, hf⟩ := hd
  obtain ⟨x, h1, h2⟩ := (trod_rd ty).1 _ _ _ _ hty hf
  refine ⟨x, h2, fun L => ?_⟩
  have hc := h1.cells (L := L)
  unfold Value.okWide at hval
  cases ty with
  | unit => simp [tyIs] at hty
  | pair a b =>
    simp only [tyIs] at hty
    split at hty
    · rename_i fs hu
      simp only [hu] at hval
      obtain ⟨cs, rfl, _⟩ := hval
      exact ⟨cs, rfl, hc⟩
    · simp at hty
  | int k =>
    simp only [tyIs] at hty
    split at hty
    · rename_i l hu
      simp only [hu, Cell.okWide, Cell.ok] at hval
      cases v <;> simp_all [Value.cells, Rd, tyEnt, ESim, CSim]
    · simp at hty
  | bool =>
    simp only [tyIs] at hty
    split at hty
    · rename_i hu
      simp only [hu, Cell.okWide, Cell.ok] at hval
      cases v <;> simp_all [Value.cells, Rd, tyEnt, ESim, CSim]
    · simp at hty
  | str =>
    simp only [tyIs] at hty
    split at hty
    · rename_i hu
      simp only [hu, Cell.okWide, Cell.ok] at hval
      cases v <;> simp_all [Value.cells, Rd, tyEnt, ESim, CSim]
    · simp at hty
  | slice u =>
    simp only [tyIs] at hty
    split at hty
    · rename_i e hu
      simp only [hu, Cell.okWide, Cell.ok] at hval
      cases v with
      | slice a n c => exact h1
      | _ => simp at hval
    · simp at hty

/-! ### all arguments -/
def Vals : List Ty → Type
  | [] => Unit
  | t :: ts => t.den × Vals ts
def Vals.wf : (ts : List Ty) → Vals ts → Prop
  | [], _ => True
  | t :: ts, x => t.wf x.1 ∧ Vals.wf ts x.2
def Vals.ents : (ts : List Ty) → Vals ts → List Ent
  | [], _ => []
  | t :: ts, x => tyEnt t x.1 :: Vals.ents ts x.2
def tysIs (P : Program) : List Ty → List TypeId → Bool
  | [], [] => true
  | y :: ys, t :: ts => tyIs P y (.inl t) && (P.readableRec t && (Nat.blt t P.types.size && tysIs P ys ts))
  | _, _ => false

theorem open_all {r : Reach} {b0 : Nat} : ∀ {ys : List Ty} {ts : List TypeId} {vs : List Value} {ds : List (DataW H)} {ps : List MemPlace}, tysIs P ys ts = true →
    (∀ (j : Nat) t v, ts[j]? = some t → vs[j]? = some v → Value.okWide P w r b0 t v) → DataW.TrodAll enc P w 0 sp held ts vs ds ps →
    ∃ x : Vals ys, Vals.wf ys x ∧ ∀ L, EsSim w (fun b => b < w.heap.size) L (Vals.ents ys x) vs
  | [], [], vs, ds, ps, _, _, h => by
    obtain ⟨rfl, rfl, rfl⟩ := trodAll_nil h
    exact ⟨(), trivial, fun _ => trivial⟩
  | [], _ :: _, _, _, _, h, _, _ => by simp [tysIs] at h
  | _ :: _, [], _, _, _, h, _, _ => by simp [tysIs] at h
  | y :: ys, t :: ts, vs, ds, ps, hty, hval, h => by
    simp only [tysIs, Bool.and_eq_true] at hty
    match vs, ds, h with
    | v :: vs, d :: ds, ⟨p, q, h1, h2, h3⟩ =>
      obtain ⟨x, x1, x2⟩ := open_arg hty.1 (hval 0 t v rfl rfl) h1
      obtain ⟨xs, y1, y2⟩ := open_all hty.2.2.2 (fun j t v h4 h5 => hval (j + 1) t v (by simpa using h4) (by simpa using h5)) h2
      exact ⟨(x, xs), ⟨x1, y1⟩, fun L => ⟨x2 L, y2 L⟩⟩

theorem all_length : ∀ {ts : List TypeId} {vs : List Value} {ds : List (DataW H)} {ps : List MemPlace}, DataW.TrodAll enc P w 0 sp held ts vs ds ps → ds.length = ts.length
  | [], vs, ds, ps, h => by
    obtain ⟨rfl, rfl, rfl⟩ := trodAll_nil h
    rfl
  | t :: ts, vs, ds, ps, h => by
    match vs, ds, h with
    | v :: vs, d :: ds, ⟨p, q, h1, h2, h3⟩ => simp [all_length h2]

theorem below_all (hl : laidOutB P = true) {w' : World} (hb : Below w.heap.size w w') : ∀ {ys : List Ty} {ts : List TypeId} {vs : List Value} {ds : List (DataW H)} {ps : List MemPlace}, tysIs P ys ts = true →
    (∀ x ∈ ps, x.block < w.heap.size) → DataW.TrodAll enc P w 0 (fun _ => true) true ts vs ds ps → DataW.TrodAll enc P w' 0 (fun b => decide (b < w.heap.size)) true ts vs ds ps
  | [], [], vs, ds, ps, _, _, h => by
    obtain ⟨rfl, rfl, rfl⟩ := trodAll_nil h
    rfl
  | [], _ :: _, _, _, _, h, _, _ => by simp [tysIs] at h
  | _ :: _, [], _, _, _, h, _, _ => by simp [tysIs] at h
  | y :: ys, t :: ts, vs, ds, ps, hty, hlt, h => by
    simp only [tysIs, Bool.and_eq_true] at hty
    match vs, ds, h with
    | v :: vs, d :: ds, ⟨p, q, h1, h2, h3⟩ =>
      subst h3
      exact ⟨p, q, Below.trod hl hty.2.1 (Nat.le_of_ble_eq_true hty.2.2.1) h1 hb (fun x hx => hlt x (List.mem_append_left _ hx)), below_all hl hb hty.2.2.2 (fun x hx => hlt x (List.mem_append_right _ hx)) h2, rfl⟩

theorem law_calls {fn : Func} {c : Code} {f : Nat} {s : ChangeSpec} {tb : TypeId} {ys : List Ty} (hl : laidOutB P = true) (hf : P.funcs[f]? = some fn) (hb : fn.body = some c) (hn : (fn.name == "runtime.NumGoroutine") = false)
    (hty : tysIs P ys fn.params.toList = true) (hr : fn.resultTypes = #[tb]) (htb : P.underlying tb = some .bool) (hv : s.vars = [])
    (hfn : ∀ ds : List (DataW H), ds.length = fn.params.size → (s.fn H ds).results = [.lit (.bool true)] ∧ (s.fn H ds).args = ds ∧ (s.fn H ds).vars = [])
    (h : ∀ x : Vals ys, Vals.wf ys x → Triple P f (Vals.ents ys x) [] (.one (.bool true)) [])
    (W : World) (base : Nat) (args : Array Value) (ds gs : List (DataW H)) (before : List MemPlace)
    (ht : Tabbed W fun b => b < W.heap.size)
    (hval : ∀ (j : Nat) t v, fn.params[j]? = some t → args[j]? = some v → Value.okWide P W .any base t v)
    (hW : DataW.Whole enc P fn.params.toList s.vars false W args.toList ds gs before) :
    Calls P f args W fun e W' => ∃ v, e = .returned v ∧ s.post enc P fn false true false false W args v W' := by
  have hW' := hW
  have hlt : ∀ x ∈ before, x.block < W.heap.size := fun x hx => by simpa using hW'.lt x hx
  obtain ⟨p, q, hA0, hV, rfl, hfz, hnd⟩ := hW
  have hA : DataW.TrodAll enc P W 0 (fun _ => true) true fn.params.toList args.toList ds p := hA0
  rw [hv] at hV
  obtain ⟨rfl, rfl⟩ := trodVars_none hV
  obtain ⟨x, x1, x2⟩ := open_all hty (fun j t v h1 h2 => hval j t v (by simpa using h1) (by simpa using h2)) hA
  have hlen : ds.length = fn.params.size := by
    have := all_length hA
    simpa using this
  obtain ⟨f1, f2, f3⟩ := hfn ds hlen
  rcases h x x1 W (fun b => b < W.heap.size) [] args ⟨rfl, fun i o l h => by simp at h, fun i j o l o' l' h => by simp at h, fun i o l h => by simp at h, fun b hb => hb, ht⟩ (x2 []) with ⟨v, w', h1, _⟩ | ⟨_, h2⟩
  · have hn' : ¬ fn.name = "runtime.NumGoroutine" := fun e => by simp [e] at hn
    unfold callFunc at h1
    simp [hf, hn', hb] at h1
  · refine h2.mono fun e W' he => ?_
    cases e with
    | returned v =>
      obtain ⟨Z', L', _, hv', _, hk, _, _, _⟩ := he
      have hvb : v = .bool true := hv'
      subst hvb
      have bel : Below W.heap.size W W' := ⟨hk.os, hk.tape, hk.output, hk.size, fun b hb => hk.same hb fun o hfo => by
        obtain ⟨i, ob, l, h1, _⟩ := hfo
        simp at h1⟩
      refine ⟨_, rfl, ds, [], p ++ [], [], p, [], by rw [hv] at hW' ⊢; exact hW', ?_, ?_, ?_, bel.frame _, fun h => by cases h⟩
      · rw [List.append_nil, f1, hr]
        exact trodAll_mk1 (shut_bool htb _)
      · rw [List.append_nil, f2]
        exact below_all hl bel hty (fun x hx => hlt x (by simpa using hx)) hA
      · rw [List.append_nil, f3, hv]
        rfl
    | panicked _ => exact he.elim
    | outgrown => exact he.elim
end
end Go.Ry
