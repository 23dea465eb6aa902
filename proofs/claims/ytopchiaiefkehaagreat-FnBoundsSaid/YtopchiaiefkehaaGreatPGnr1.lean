/- Code put together of expressions and statements is taken by the verifier: the plain law. No condition. -/
import Derived.Test.YtopchiaiefkehaaGreatPVer5
set_option linter.unusedVariables false
set_option linter.unusedSimpArgs false
namespace Go.Ry

theorem ext_left (s p : ByteArray) : (s ++ p).extract 0 s.size = s := bytesL_inj (by
  rw [bytesL_extract _ (by rw [size_append]; omega), bytesL_append, List.drop_zero, ← bytesL_size, List.take_left])
theorem ext_right (s p : ByteArray) : (s ++ p).extract s.size (s ++ p).size = p := bytesL_inj (by
  rw [bytesL_extract _ (Nat.le_refl _), ← bytesL_size (s ++ p), List.take_length, bytesL_append, ← bytesL_size s, List.drop_left])
theorem app_e0 (s : ByteArray) : s ++ e0 = s := bytesL_inj (by rw [bytesL_append]; exact List.append_nil _)
theorem e0_app (s : ByteArray) : e0 ++ s = s := bytesL_inj (by rw [bytesL_append]; rfl)
theorem take_app (s p : ByteArray) (f : Int) (hf : f ≤ s.size) : takeS (s ++ p) p f = (s, 0) := by
  unfold takeS
  have e : (s ++ p).size - p.size = s.size := by rw [size_append]; omega
  rw [if_neg (by rw [size_append]; omega), e, ext_right, if_neg (fun h => h rfl), ext_left]
/-- One instruction that is no structure. -/
theorem st_op {at_ op a : Int} {ks : List Int} {n : Int} {s p q : ByteArray} {o : List OS} (he : effect op a ks = (p, q)) (h1 : ¬ ((op = 19 ∨ op = 20) ∧ (ks.length : Int) ≤ a)) (h2 : ¬ (op = 26 ∧ n ≤ a))
    (hf : floorS o ≤ s.size) (hq : s.size + q.size ≤ 8) (hn : ¬ (21 ≤ op ∧ op ≤ 24)) : stepS at_ op a ks n (s ++ p) o = (0, s ++ q, o) := by
  have ht := take_app s p (floorS o) hf
  unfold stepS
  rw [if_neg h1, if_neg h2, he]
  simp only
  rw [ht, if_neg (fun h => h rfl), if_neg (by simp only; omega), if_neg (fun h => hn (within_iff.1 h))]
theorem st_open {at_ op a : Int} {ks : List Int} {n : Int} {s p : ByteArray} {o : List OS} (he : effect op a ks = (p, e0)) (hop : op = 21 ∨ op = 24) (hf : floorS o ≤ s.size) (hq : s.size ≤ 8) (ho : o.length < 4) :
    stepS at_ op a ks n (s ++ p) o = (0, s, o ++ [(at_, (op, (s, ())))]) := by
  have ht := take_app s p (floorS o) hf
  have z : e0.size = 0 := rfl
  unfold stepS
  rw [if_neg (by omega), if_neg (by omega), he]
  simp only
  rw [ht, if_neg (fun h => h rfl), if_neg (by simp only; omega), if_pos (within_iff.2 (by omega))]
  simp only [app_e0]
  unfold nestS
  rw [if_pos hop, if_neg (by omega)]
theorem last_app (o : List OS) (x : OS) : lastS (o ++ [x]) = x := by
  unfold lastS
  rw [List.getD_eq_getElem?_getD, List.length_append, List.length_singleton, Nat.add_sub_cancel, List.getElem?_append_right (Nat.le_refl _), Nat.sub_self]
  rfl
theorem floor_app (o : List OS) (x : OS) : floorS (o ++ [x]) = (x.2.2.1.size : Int) := by
  unfold floorS
  rw [if_neg (by simp), last_app]
theorem st_else {at_ a k : Int} {ks : List Int} {n : Int} {s : ByteArray} {o : List OS} (hq : s.size ≤ 8) :
    stepS at_ 22 a ks n s (o ++ [(k, (21, (s, ())))]) = (0, s, o ++ [(k, (22, (s, ())))]) := by
  have he : effect 22 a ks = (e0, e0) := rfl
  have ht := take_app s e0 (floorS (o ++ [(k, ((21 : Int), (s, ())))])) (by rw [floor_app]; exact Int.le_refl _)
  rw [app_e0] at ht
  have z : e0.size = 0 := rfl
  unfold stepS
  rw [if_neg (by omega), if_neg (by omega), he]
  simp only
  rw [ht, if_neg (fun h => h rfl), if_neg (by simp only; omega), if_pos (within_iff.2 (by omega))]
  simp only [app_e0]
  unfold nestS
  rw [if_neg (by omega), last_app, if_neg (by simp), if_neg (fun h => h rfl), if_pos rfl]
  simp
theorem st_end {at_ a k m : Int} {ks : List Int} {n : Int} {s : ByteArray} {o : List OS} (hq : s.size ≤ 8) :
    stepS at_ 23 a ks n s (o ++ [(k, (m, (s, ())))]) = (0, s, o) := by
  have he : effect 23 a ks = (e0, e0) := rfl
  have ht := take_app s e0 (floorS (o ++ [(k, (m, (s, ())))])) (by rw [floor_app]; exact Int.le_refl _)
  rw [app_e0] at ht
  have z : e0.size = 0 := rfl
  unfold stepS
  rw [if_neg (by omega), if_neg (by omega), he]
  simp only
  rw [ht, if_neg (fun h => h rfl), if_neg (by simp only; omega), if_pos (within_iff.2 (by omega))]
  simp only [app_e0]
  unfold nestS
  rw [if_neg (by omega), last_app, if_neg (by simp), if_neg (fun h => h rfl), if_neg (by omega)]
  simp
theorem verS_step {ks : List Int} {n i op a : Int} {l : List Ins} {s s' : ByteArray} {o o' : List OS} (h : stepS i op a ks n s o = (0, s', o')) : verS ks n ((op, (a, ())) :: l) i s o = verS ks n l (i + 1) s' o' := by
  rw [verS_cons]
  simp only [h]
  rw [if_neg (fun h => h rfl)]

/-- Code that leaves the stack longer by t; at most h higher and d deeper meanwhile. -/
def Ran (ks : List Int) (n : Int) (t : ByteArray) (h d : Nat) (l : List Ins) : Prop :=
  ∀ (r : List Ins) (i : Int) (s : ByteArray) (o : List OS), floorS o ≤ s.size → s.size + h ≤ 8 → o.length + d ≤ 4 → verS ks n (l ++ r) i s o = verS ks n r (i + l.length) (s ++ t) o
theorem Ran.app {ks : List Int} {n : Int} {t u : ByteArray} {h h1 h2 d d1 d2 : Nat} {l m : List Ins} (k1 : Ran ks n t h1 d1 l) (k2 : Ran ks n u h2 d2 m) (e1 : h1 ≤ h) (e2 : t.size + h2 ≤ h) (e3 : d1 ≤ d) (e4 : d2 ≤ d) : Ran ks n (t ++ u) h d (l ++ m) := by
  intro r i s o hf hs hd
  rw [List.append_assoc, k1 (m ++ r) i s o hf (by omega) (by omega), k2 r _ (s ++ t) o (by rw [size_append]; omega) (by rw [size_append]; omega) (by omega), append_assoc', List.length_append]
  congr 1
  omega
theorem Ran.mono {ks : List Int} {n : Int} {t : ByteArray} {h h' d d' : Nat} {l : List Ins} (k : Ran ks n t h d l) (e1 : h ≤ h') (e2 : d ≤ d') : Ran ks n t h' d' l := fun r i s o hf hs hd => k r i s o hf (by omega) (by omega)
theorem Ran.nil {ks : List Int} {n : Int} : Ran ks n e0 0 0 [] := fun r i s o _ _ _ => by rw [app_e0]; simp
/-- Operands, then an operation. -/
theorem Ran.op {ks : List Int} {n : Int} {p q : ByteArray} {h d : Nat} {l : List Ins} {op a : Int} (k : Ran ks n p h d l) (he : effect op a ks = (p, q)) (h1 : (op = 19 ∨ op = 20) → a < ks.length) (h2 : op = 26 → a < n) (hq : q.size ≤ h) (hn : ¬ (21 ≤ op ∧ op ≤ 24)) :
    Ran ks n q h d (l ++ [(op, (a, ()))]) := by
  intro r i s o hf hs hd
  rw [List.append_assoc, k _ i s o hf hs hd, List.singleton_append, verS_step (st_op he (fun hc => by have := h1 hc.1; omega) (fun hc => by have := h2 hc.1; omega) hf (by omega) hn), List.length_append]
  congr 1
  simp only [List.length_singleton]
  omega
theorem Ran.one {ks : List Int} {n : Int} {q : ByteArray} {op a : Int} (he : effect op a ks = (e0, q)) (h1 : (op = 19 ∨ op = 20) → a < ks.length) (h2 : op = 26 → a < n) (hq : q.size ≤ 1) (hn : ¬ (21 ≤ op ∧ op ≤ 24)) : Ran ks n q 1 0 [(op, (a, ()))] :=
  (Ran.nil.mono (h' := 1) (d' := 0) (by omega) (by omega)).op he h1 h2 hq hn
/-- A branch. -/
theorem Ran.branch {ks : List Int} {n : Int} {h d : Nat} {c b : List Ins} {a1 a2 : Int} (kc : Ran ks n bB h d c) (kb : Ran ks n e0 h d b) : Ran ks n e0 h (d + 1) (c ++ [(21, (a1, ()))] ++ b ++ [(23, (a2, ()))]) := by
  intro r i s o hf hs hd
  have he : effect 21 a1 ks = (bB, e0) := rfl
  rw [List.append_assoc, List.append_assoc, List.append_assoc, kc _ i s o hf hs (by omega), List.singleton_append, verS_step (st_open he (.inl rfl) hf (by omega) (by omega)),
    kb _ _ s _ (by rw [floor_app]; exact Int.le_refl _) hs (by simp only [List.length_append, List.length_singleton]; omega), app_e0, List.singleton_append, verS_step (st_end (by omega))]
  congr 1
  simp only [List.length_append, List.length_singleton]
  omega
theorem Ran.branch2 {ks : List Int} {n : Int} {h d : Nat} {c b e : List Ins} {a1 a2 a3 : Int} (kc : Ran ks n bB h d c) (kb : Ran ks n e0 h d b) (ke : Ran ks n e0 h d e) : Ran ks n e0 h (d + 1) (c ++ [(21, (a1, ()))] ++ b ++ [(22, (a3, ()))] ++ e ++ [(23, (a2, ()))]) := by
  intro r i s o hf hs hd
  have he : effect 21 a1 ks = (bB, e0) := rfl
  rw [List.append_assoc, List.append_assoc, List.append_assoc, List.append_assoc, List.append_assoc, kc _ i s o hf hs (by omega), List.singleton_append, verS_step (st_open he (.inl rfl) hf (by omega) (by omega)),
    kb _ _ s _ (by rw [floor_app]; exact Int.le_refl _) hs (by simp only [List.length_append, List.length_singleton]; omega), app_e0, List.singleton_append, verS_step (st_else (by omega)),
    ke _ _ s _ (by rw [floor_app]; exact Int.le_refl _) hs (by simp only [List.length_append, List.length_singleton]; omega), app_e0, List.singleton_append, verS_step (st_end (by omega))]
  congr 1
  simp only [List.length_append, List.length_singleton]
  omega
/-- A loop. -/
theorem Ran.loop {ks : List Int} {n : Int} {h d : Nat} {b : List Ins} {a1 a2 : Int} (kb : Ran ks n e0 h d b) : Ran ks n e0 h (d + 1) ([(24, (a1, ()))] ++ b ++ [(23, (a2, ()))]) := by
  intro r i s o hf hs hd
  have he : effect 24 a1 ks = (e0, e0) := rfl
  have hs1 : verS ks n ((24, (a1, ())) :: (b ++ ([(23, (a2, ()))] ++ r))) i s o = verS ks n (b ++ ([(23, (a2, ()))] ++ r)) (i + 1) s (o ++ [(i, (24, (s, ())))]) :=
    verS_step (by rw [← app_e0 s]; rw [app_e0 s]; have := st_open (at_ := i) (op := 24) (n := n) he (.inr rfl) hf (by omega) (by omega); rw [app_e0] at this; exact this)
  rw [List.append_assoc, List.append_assoc, List.singleton_append, hs1,
    kb _ _ s _ (by rw [floor_app]; exact Int.le_refl _) (by omega) (by simp only [List.length_append, List.length_singleton]; omega), app_e0, List.singleton_append, verS_step (st_end (by omega))]
  congr 1
  simp only [List.length_append, List.length_singleton]
  omega
/-- Such code is taken. -/
theorem Ran.taken {ks : List Int} {n : Int} {h d : Nat} {l : List Ins} (k : Ran ks n e0 h d l) (hh : h ≤ 8) (hd : d ≤ 4) : verM ks n l = (0, 0) := by
  have := k [] 0 e0 [] (by decide) (by have : e0.size = 0 := rfl; omega) (by simpa using hd)
  rw [List.append_nil] at this
  unfold verM
  rw [this, verS_nil, if_neg (by simp), app_e0, if_neg (fun h => h rfl)]

/-- Code that is made: it runs, its instructions are right, it is no longer than m. -/
structure Made (ks : List Int) (n : Int) (t : ByteArray) (h d m : Nat) (l : List Ins) : Prop where
  runs : Ran ks n t h d l
  ok : ∀ x ∈ l, insOK x = true
  len : l.length ≤ m
theorem Made.mono {ks : List Int} {n : Int} {t : ByteArray} {h h' d d' m m' : Nat} {l : List Ins} (k : Made ks n t h d m l) (e1 : h ≤ h') (e2 : d ≤ d') (e3 : m ≤ m') : Made ks n t h' d' m' l := ⟨k.runs.mono e1 e2, k.ok, Nat.le_trans k.len e3⟩
theorem Made.app {ks : List Int} {n : Int} {t u : ByteArray} {h h1 h2 d d1 d2 m1 m2 : Nat} {l m : List Ins} (k1 : Made ks n t h1 d1 m1 l) (k2 : Made ks n u h2 d2 m2 m) (e1 : h1 ≤ h) (e2 : t.size + h2 ≤ h) (e3 : d1 ≤ d) (e4 : d2 ≤ d) : Made ks n (t ++ u) h d (m1 + m2) (l ++ m) := by
  refine ⟨k1.runs.app k2.runs e1 e2 e3 e4, fun x hx => ?_, ?_⟩
  · rcases List.mem_append.1 hx with hx | hx
    · exact k1.ok x hx
    · exact k2.ok x hx
  · have := k1.len; have := k2.len; rw [List.length_append]; omega
theorem Made.op {ks : List Int} {n : Int} {p q : ByteArray} {h d m : Nat} {l : List Ins} {op a : Int} (k : Made ks n p h d m l) (he : effect op a ks = (p, q)) (hi : instrOK op a = true) (h1 : (op = 19 ∨ op = 20) → a < ks.length) (h2 : op = 26 → a < n) (hq : q.size ≤ h) (hn : ¬ (21 ≤ op ∧ op ≤ 24)) :
    Made ks n q h d (m + 1) (l ++ [(op, (a, ()))]) := by
  refine ⟨k.runs.op he h1 h2 hq hn, fun x hx => ?_, by have := k.len; rw [List.length_append]; simp only [List.length_singleton]; omega⟩
  rcases List.mem_append.1 hx with hx | hx
  · exact k.ok x hx
  · simp only [List.mem_singleton] at hx; subst hx; exact hi
theorem Made.nil {ks : List Int} {n : Int} : Made ks n e0 0 0 0 [] := ⟨Ran.nil, by simp, by simp⟩
theorem Made.one {ks : List Int} {n : Int} {q : ByteArray} {op a : Int} (he : effect op a ks = (e0, q)) (hi : instrOK op a = true) (h1 : (op = 19 ∨ op = 20) → a < ks.length) (h2 : op = 26 → a < n) (hq : q.size ≤ 1) (hn : ¬ (21 ≤ op ∧ op ≤ 24)) : Made ks n q 1 0 1 [(op, (a, ()))] :=
  ⟨Ran.one he h1 h2 hq hn, fun x hx => by simp only [List.mem_singleton] at hx; subst hx; exact hi, by simp⟩
theorem insOK_21 : insOK ((21 : Int), ((0 : Int), ())) = true := by decide
theorem insOK_22 : insOK ((22 : Int), ((0 : Int), ())) = true := by decide
theorem insOK_23 : insOK ((23 : Int), ((0 : Int), ())) = true := by decide
theorem Made.branch {ks : List Int} {n : Int} {h d m1 m2 : Nat} {c b : List Ins} (kc : Made ks n bB h d m1 c) (kb : Made ks n e0 h d m2 b) : Made ks n e0 h (d + 1) (m1 + m2 + 2) (c ++ [(21, (0, ()))] ++ b ++ [(23, (0, ()))]) := by
  refine ⟨kc.runs.branch kb.runs, fun x hx => ?_, by have := kc.len; have := kb.len; simp only [List.length_append, List.length_singleton]; omega⟩
  simp only [List.mem_append, List.mem_singleton] at hx
  rcases hx with ((hx | rfl) | hx) | rfl
  · exact kc.ok x hx
  · exact insOK_21
  · exact kb.ok x hx
  · exact insOK_23
theorem Made.branch2 {ks : List Int} {n : Int} {h d m1 m2 m3 : Nat} {c b e : List Ins} (kc : Made ks n bB h d m1 c) (kb : Made ks n e0 h d m2 b) (ke : Made ks n e0 h d m3 e) : Made ks n e0 h (d + 1) (m1 + m2 + m3 + 3) (c ++ [(21, (0, ()))] ++ b ++ [(22, (0, ()))] ++ e ++ [(23, (0, ()))]) := by
  refine ⟨kc.runs.branch2 kb.runs ke.runs, fun x hx => ?_, by have := kc.len; have := kb.len; have := ke.len; simp only [List.length_append, List.length_singleton]; omega⟩
  simp only [List.mem_append, List.mem_singleton] at hx
  rcases hx with ((((hx | rfl) | hx) | rfl) | hx) | rfl
  · exact kc.ok x hx
  · exact insOK_21
  · exact kb.ok x hx
  · exact insOK_22
  · exact ke.ok x hx
  · exact insOK_23
theorem Made.loop {ks : List Int} {n : Int} {h d m : Nat} {b : List Ins} {a : Int} (ha : instrOK 24 a = true) (kb : Made ks n e0 h d m b) : Made ks n e0 h (d + 1) (m + 2) ([(24, (a, ()))] ++ b ++ [(23, (0, ()))]) := by
  refine ⟨kb.runs.loop, fun x hx => ?_, by have := kb.len; simp only [List.length_append, List.length_singleton]; omega⟩
  simp only [List.mem_append, List.mem_singleton] at hx
  rcases hx with (rfl | hx) | rfl
  · exact ha
  · exact kb.ok x hx
  · exact insOK_23
theorem Made.code {ks : List Int} {n : Int} {h d m : Nat} {l : List Ins} (k : Made ks n e0 h d m l) (hh : h ≤ 8) (hd : d ≤ 4) (hm : m ≤ 40) : codeOK l = true ∧ verM ks n l = (0, 0) := by
  refine ⟨?_, k.runs.taken hh hd⟩
  simp only [codeOK, Bool.and_eq_true, decide_eq_true_eq, List.all_eq_true]
  exact ⟨Nat.le_trans k.len hm, fun x hx => k.ok x hx⟩
end Go.Ry
