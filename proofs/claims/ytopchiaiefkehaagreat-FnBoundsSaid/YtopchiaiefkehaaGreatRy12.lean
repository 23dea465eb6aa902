/- The evaluator, texts 9 to 12: The evaluator is right: storeW, appendW. The evaluator is right: storeW, appendW (2). The evaluator is right: operations (1). The evaluator is right: operations (2). No condition. -/
import Derived.Test.YtopchiaiefkehaaGreatRy8
import Derived.Laws.StructEq
set_option linter.unusedVariables false
set_option linter.unusedSimpArgs false
namespace Go.Ry

section
variable {P : Program} {w : World}

theorem alloc_new (w : World) (o : Obj) : (w.drew.alloc o).heap[w.heap.size]? = some o := by
  show (w.heap.push o)[w.heap.size]? = some o
  simp

theorem run_append_any (t tx ty e : TypeId) (i : TypeInfo) (z : Value) (size bytes : Nat) (ht : P.underlying t = some (.slice e)) (dx : TypeDesc) (htx : P.underlying tx = some dx) (hdx : (∃ e', dx = .slice e') ∨ dx = .string) (hi : P.info? e = some i) (hz : i.zero = some z)
    (hsize : i.size = size) (hby : i.bytes = bytes) (hzs : z.cells.size = size) (hsz : 0 < size)
    (v : Value) (n : Nat) (xs : List Value) (hown : w.ownsRow 0 e size v n xs)
    (x : Value) (m : Nat) (news : List Value) (hlx : ∀ w, (Builtin.lenOf x).run P w = .ok m w) (hfx : ∀ w', w'.heap = w.heap → (Builtin.firstCells size m x).run P w' = .ok news.toArray w')
    (hl : news.length = m * size) (h1 : ∀ u ∈ news, u.oneCell' = true) (h63 : n + m ≤ maxLen) (hbytes : (n + m) * bytes ≤ 140737488355328) :
    ∃ v' w', (Builtin.append_ #[t, tx] ty #[v, x]).run P w = .ok v' w' ∧ w'.ownsRow 0 e size v' (n + m) (xs ++ news) ∧ Keeps w (fun b _ => v.ownBlock = some b) w' ∧ ∀ b, v'.ownBlock = some b → w.heap.size ≤ b ∨ v.ownBlock = some b := by
  subst hsize
  subst hby
  have hlen : (xs ++ news).length = (n + m) * i.size := by rw [List.length_append, hown.1, hl, Nat.add_mul]
  have h63' : ¬ (9223372036854775807 < ((n : Int) + (m : Int))) := by simp only [maxLen] at h63; omega
  have hfd := hfx w.drew rfl
  have hfw := hfx w rfl
  have grown : ∀ (old : Nat), old < n + m → ∀ (row : Option Nat),
      (w.drew.alloc (.cells (xs.toArray ++ news.toArray ++ Builtin.zeroCells z.cells (grownCap w (n + m) old e - (n + m))) e)).ownsRow 0 e i.size
        (.slice (some ⟨w.heap.size, 0, none⟩) (n + m) (grownCap w (n + m) old e)) (n + m) (xs ++ news) ∧
      Keeps w (fun b _ => row = some b) (w.drew.alloc (.cells (xs.toArray ++ news.toArray ++ Builtin.zeroCells z.cells (grownCap w (n + m) old e - (n + m))) e)) := by
    intro old ho row
    have hge := grownCap_ge w (n + m) old e
    have hcm : grownCap w (n + m) old e ≤ maxLen := grownCap_le_maxLen w (n + m) old e h63
    refine ⟨⟨hlen, .inr ⟨w.heap.size, _, _, rfl, Nat.zero_le _, alloc_new w _, hge, hcm, ?_, ?_⟩⟩, (Keeps.drew w _).trans (Keeps.alloc w.drew _ _)⟩
    · simp only [Array.size_append, List.size_toArray, size_zeroCells, hzs, hown.1, hl, ← Nat.add_mul]
      congr 1
      omega
    · simp only [Array.toList_append, List.append_assoc]
      rw [← List.append_assoc, ← hlen]
      exact List.take_left
  rcases hown.2 with ⟨rfl, rfl⟩ | ⟨g, cap, cur, rfl, hbg, hg, hnc, hcm, hcs, htake⟩
  · have hx : xs = [] := List.eq_nil_of_length_eq_zero (by simpa using hown.1)
    subst hx
    by_cases hm : m = 0
    · subst hm
      have hn : news = [] := List.eq_nil_of_length_eq_zero (by simpa using hl)
      subst hn
      refine ⟨.slice none 0 0, w, ?_, World.ownsRow_nil w 0 e i.size, Keeps.refl _ _, fun b hb => .inr hb⟩
      rcases hdx with ⟨e', rfl⟩ | rfl <;> simp [Builtin.append_, run_underlying ht, run_underlying htx, sizeOf, typeInfo, hi, hlx, hfw]
    · have hgr := grown 0 (by omega) (Value.ownBlock (.slice none 0 0))
      have h48 : ¬ (281474976710656 < Builtin.nextslicecap m 0 * i.bytes) := by rw [nextslicecap_zero (by omega)]; simp at hbytes; omega
      simp only [Nat.zero_add, List.nil_append, Array.empty_append] at hgr h63' ⊢
      refine ⟨_, _, ?_, hgr.1, hgr.2, fun b hb => .inl (by simp only [Value.ownBlock, Option.some.injEq] at hb; omega)⟩
      have h63'' : ¬ (9223372036854775807 < (m : Int)) := by simpa using h63'
      rcases hdx with ⟨e', rfl⟩ | rfl <;> simp [Builtin.append_, run_underlying ht, run_underlying htx, sizeOf, typeInfo, zeroValue, hi, hz, hlx, hm, h63'', h48, Question.forced, run_firstCells_none, hfd, newRow, grownCap]
  · by_cases hroom : n + m ≤ cap
    · have hfit : n * i.size + news.length ≤ cur.size := by rw [hl, hcs, ← Nat.add_mul]; exact Nat.mul_le_mul_right _ hroom
      have hst := run_storeCells_at P g (n * i.size) e news 0 cur w hg (by simpa using hfit) h1
      simp only [Nat.add_zero] at hst
      refine ⟨.slice (some ⟨g, 0, none⟩) (n + m) cap, w.setRow g (cur.toList.take (n * i.size) ++ news ++ cur.toList.drop (n * i.size + news.length)).toArray, ?_, ⟨hlen, .inr ⟨g, cap, _, rfl, hbg, setRow_heap w g cur _ e _ hg, hroom, hcm, ?_, ?_⟩⟩, ⟨rfl, rfl, rfl, by simp, fun k _ => ?_⟩, fun b hb => .inr hb⟩
      · rcases hdx with ⟨e', rfl⟩ | rfl <;> simp [Builtin.append_, run_underlying ht, run_underlying htx, sizeOf, typeInfo, hi, hlx, hroom, hfw, Addr.add_lit, hst]
      · simp only [List.size_toArray, List.length_append, List.length_take, List.length_drop, Array.length_toList]
        omega
      · rw [htake, ← hlen]
        exact List.take_left
      · by_cases hk : k = g
        · subst hk
          refine .inr (.inl ⟨cur, _, e, (0, 0), (0, 0), hg, setRow_heap w k cur _ e _ hg, ?_, fun o ho => absurd (by simp [Value.ownBlock]) ho, .inl rfl⟩)
          simp only [List.size_toArray, List.length_append, List.length_take, List.length_drop, Array.length_toList]
          omega
        · exact .inl (setRow_other w g k _ hk)
    · have holds : ∀ j u, xs[j]? = some u → w.cell? ((⟨g, 0, none⟩ : Addr).add j) = some u := hown.cells (g := g) rfl
      have hgr := grown cap (by omega) (Value.ownBlock (.slice (some ⟨g, 0, none⟩) n cap))
      have h48 : ¬ (281474976710656 < Builtin.nextslicecap (n + m) cap * i.bytes) := Nat.not_lt.2 (growslice_fits (by omega) hbytes)
      have hfo := run_firstCells_some (P := P) w.drew i.size n ⟨g, 0, none⟩ n cap xs hown.1 (by simpa using holds)
      refine ⟨_, _, ?_, hgr.1, hgr.2, fun b hb => .inl (by simp only [Value.ownBlock, Option.some.injEq] at hb; omega)⟩
      rcases hdx with ⟨e', rfl⟩ | rfl <;> simp [Builtin.append_, run_underlying ht, run_underlying htx, sizeOf, typeInfo, zeroValue, hi, hz, hlx, hroom, h63', h48, Question.forced, hfd, hfo, newRow, grownCap, Array.append_assoc]
      all_goals
        congr 2
        apply Array.ext'
        simp
end
end Go.Ry
set_option linter.unusedVariables false
set_option linter.unusedSimpArgs false
namespace Go.Ry

section
variable {P : Program} {S : Start} {st : St} {a : Act} {w w' : World} {Z Z' : Nat → Prop} {L L' : List Loc}

theorem ownsRow_slice {e : TypeId} {sz n : Nat} {v : Value} {es : List Value} (h : w.ownsRow 0 e sz v n es) : ∃ a n c, v = .slice a n c := by
  rcases h.2 with ⟨rfl, _⟩ | ⟨g, cap, cur, rfl, _⟩
  · exact ⟨_, _, _, rfl⟩
  · exact ⟨_, _, _, rfl⟩

theorem RowRd.append {t : Ty} {xs ys : List t.den} {es us : List Value} (h : RowRd w Z t xs es) (k : RowRd w Z t ys us) (hl : es.length = xs.length * t.size) :
    RowRd w Z t (xs ++ ys) (es ++ us) := by
  intro i x hi
  by_cases hlt : i < xs.length
  · rw [List.getElem?_append_left hlt] at hi
    have hr := h i x hi
    have hks := Nat.mul_le_mul_right t.size (show i + 1 ≤ xs.length by omega)
    rw [Nat.add_mul, Nat.one_mul] at hks
    have : ((es ++ us).drop (i * t.size)).take t.size = (es.drop (i * t.size)).take t.size := by
      rw [List.drop_append_of_le_length (by omega), List.take_append_of_le_length (by simp; omega)]
    rw [this]; exact hr
  · rw [List.getElem?_append_right (by omega)] at hi
    have hr := k (i - xs.length) x hi
    have : ((es ++ us).drop (i * t.size)).take t.size = (us.drop ((i - xs.length) * t.size)).take t.size := by
      have e1 : i * t.size = es.length + (i - xs.length) * t.size := by
        rw [hl, ← Nat.add_mul]
        congr 1
        omega
      rw [e1, ← List.drop_drop, List.drop_left]
    rw [this]; exact hr

theorem RowRd.take {t : Ty} {xs : List t.den} {es : List Value} {n : Nat} (h : RowRd w Z t xs es) (hl : es.length = xs.length * t.size) (hn : n ≤ xs.length) : RowRd w Z t (xs.take n) (es.take (n * t.size)) := by
  intro i x hi
  have hin : i < n := by
    have := (List.getElem?_eq_some_iff.1 hi).1
    simp at this; omega
  rw [List.getElem?_take_of_lt hin] at hi
  have hr := h i x hi
  have his := Nat.mul_le_mul_right t.size (show i + 1 ≤ n by omega)
  rw [Nat.add_mul, Nat.one_mul] at his
  have : ((es.take (n * t.size)).drop (i * t.size)).take t.size = (es.drop (i * t.size)).take t.size := by
    rw [List.drop_take, List.take_take, Nat.min_eq_left (by omega)]
  rw [this]; exact hr

theorem ownsRow_take {e : TypeId} {sz hi : Nat} {v u : Value} {n : Nat} {es : List Value} (h : w.ownsRow 0 e sz v n es) (hw : isWin v sz 0 hi u) :
    w.ownsRow 0 e sz u hi (es.take (hi * sz)) ∧ u.ownBlock = v.ownBlock ∧ hi ≤ n := by
  rcases hw with ⟨rfl, rfl, _, rfl⟩ | ⟨g, m, c, rfl, _, h2, h3, rfl⟩
  · exact ⟨by simpa using World.ownsRow_nil w 0 e sz, rfl, Nat.zero_le _⟩
  · rcases h.2 with ⟨hx, _⟩ | ⟨g', cap, cur, hx, hb, hg, hn, hm, hcs, htk⟩
    · simp at hx
    · simp only [Value.slice.injEq, Option.some.injEq, Addr.mk.injEq, and_true] at hx
      obtain ⟨rfl, rfl, rfl⟩ := hx
      have hms := Nat.mul_le_mul_right sz h2
      have e1 : (.slice (some ⟨g, if c = 0 then 0 else 0 * sz, none⟩) (hi - 0) (c - 0) : Value) = .slice (some ⟨g, 0, none⟩) hi c := by simp
      rw [e1]
      refine ⟨⟨?_, .inr ⟨g, c, cur, rfl, hb, hg, by omega, hm, hcs, ?_⟩⟩, rfl, h2⟩
      · rw [List.length_take, h.1]; omega
      · rw [← htk, List.take_take, Nat.min_eq_left hms]

structure AppTy (P : Program) (t tx e : TypeId) (u : Ty) (bytes : Nat) : Prop where
  ht : P.underlying t = some (.slice e)
  htx : ∃ dx, P.underlying tx = some dx ∧ ((∃ e', dx = .slice e') ∨ dx = .string)
  hi : ∃ i z, P.info? e = some i ∧ i.zero = some z ∧ i.size = u.size ∧ i.bytes = bytes ∧ z.cells.size = u.size
  hsz : 0 < u.size
  hby : 0 < bytes

theorem Sit.zfoot (h : Sit S st a w Z L) {i e : Nat} {t : Ty} {xs : List t.den} {v : Value} {sz n : Nat} (h1 : st.objs[i]? = some (.row e t xs)) (hl : L[i]? = some (.row v sz n)) :
    ∀ b, Z b → v.ownBlock ≠ some b := fun b hz hb => h.sims.zap i _ _ h1 hl b 0 hb hz

theorem appendW_sound {e bytes : Nat} {u : Ty} {s : Cell} {sv xv : Value} {ys : List u.den} {d : Option Nat} {K : St → Prop} {t tx ty : TypeId} {news : List Value}
    (h : appendW st e bytes u s ys d K) (hs : Sit S st a w Z L) (hc : CSim w Z L s sv) (at_ : AppTy P t tx e u bytes)
    (hlx : ∀ w, (Builtin.lenOf xv).run P w = .ok ys.length w) (hfx : ∀ w', w'.heap = w.heap → (Builtin.firstCells u.size ys.length xv).run P w' = .ok news.toArray w')
    (hl : news.length = ys.length * u.size) (h1 : ∀ x ∈ news, x.oneCell' = true) (hrd : RowRd w Z u ys news) :
    ∃ v' w' L' st', (Builtin.append_ #[t, tx] ty #[sv, xv]).run P w = .ok v' w' ∧ Sit S st' (a.put d v') w' Z L' ∧ K st' := by
  obtain ⟨dx, htx, hdx⟩ := at_.htx
  obtain ⟨i, z, hi, hz, hsize, hby, hzs⟩ := at_.hi
  have bound : ∀ n, (n + ys.length) * bytes ≤ 140737488355328 → n + ys.length ≤ maxLen := by
    intro n hn
    have := Nat.le_trans (Nat.le_mul_of_pos_right (n + ys.length) at_.hby) hn
    simp only [maxLen]; omega
  -- an owned row, of which v is the value
  have own : ∀ (v : Value) (n : Nat) (xs : List u.den) (es : List Value), w.ownsRow 0 e u.size v n es → n = xs.length → RowRd w Z u xs es → (n + ys.length) * bytes ≤ 140737488355328 →
      (∀ b, Z b → v.ownBlock ≠ some b) →
      ∃ v' w', (Builtin.append_ #[t, tx] ty #[v, xv]).run P w = .ok v' w' ∧ OSim w' Z (L ++ [.row v' u.size (LN.of (n + ys.length))]) (.row e u (xs ++ ys)) (.row v' u.size (LN.of (n + ys.length))) ∧ Keeps w (fun b _ => v.ownBlock = some b) w' ∧
        (∀ b, v'.ownBlock = some b → w.heap.size ≤ b ∨ v.ownBlock = some b) ∧ (∃ a n c, v' = .slice a n c) := by
    intro v n xs es ho hn hr hb hzv
    obtain ⟨v', w', r1, r2, r3, r4⟩ := run_append_any t tx ty e i z u.size bytes at_.ht dx htx hdx hi hz hsize hby hzs at_.hsz v n es ho xv ys.length news hlx hfx hl h1 (bound n hb) hb
    have hzz : ∀ b, Z b → w'.heap[b]? = w.heap[b]? := fun b hb => r3.same (hs.sims.zin b hb) fun _ hx => hzv b hb hx
    refine ⟨v', w', r1, ⟨v', es ++ news, by simp [hn], at_.hsz, ?_, ?_⟩, r3, r4, ownsRow_slice r2⟩
    · simpa [hn] using r2
    · exact (RowRd.append (RowRd.mono hzz (fun _ hb => hb) hr) (RowRd.mono hzz (fun _ hb => hb) hrd) (by rw [ho.1, hn]))
  have newAt : ∀ l : Loc, (L ++ [l])[st.objs.length]? = some l := by
    intro l
    rw [← hs.sims.len, List.getElem?_append_right (Nat.le_refl _)]
    simp
  unfold appendW at h
  split at h
  · obtain ⟨hb, hk⟩ := h
    rw [show sv = .slice none 0 0 from hc] at *
    obtain ⟨v', w', r1, r2, r3, r4, r5⟩ := own (.slice none 0 0) 0 [] [] (World.ownsRow_nil w 0 e u.size) rfl (fun i x hx => by simp at hx) (by simpa using hb) (fun b _ hx => by simp [Value.ownBlock] at hx)
    have hs' := hs.add (o := .row e u ys) (l := .row v' u.size (LN.of (0 + ys.length))) (r3.mono fun _ _ _ hx => by simp [Value.ownBlock] at hx) (by simpa using r2) (fun b q hq => (r4 b hq).resolve_right (by simp [Value.ownBlock]))
    exact ⟨v', w', _, _, r1, hs'.put (e := .one (.row st.objs.length)) ⟨r5, _, _, newAt _⟩ d, hk⟩
  · rename_i k
    split at h
    · rename_i f t' xs hob
      split at h
      · rename_i xs' hf hx
        obtain ⟨hb, hk⟩ := h
        obtain ⟨rfl, rfl⟩ := castL_some hx
        simp only [beq_iff_eq] at hf
        subst hf
        obtain ⟨v, es, q1, q2, q3, q4, q5⟩ := hs.row hob
        obtain ⟨_, sz, n, q6⟩ := hc
        rw [q2] at q6
        simp only [Option.some.injEq, Loc.row.injEq] at q6
        obtain ⟨rfl, rfl, rfl⟩ := q6
        obtain ⟨v', w', r1, r2, r3, r4, r5⟩ := own v xs.length xs es q4 rfl q5 hb (hs.zfoot q1 q2)
        have hs' := hs.turn (o' := .row f t' (xs ++ ys)) (l' := .row v' t'.size (LN.of (xs.length + ys.length))) q1 q2 r3 r2 (fun b q hq => r4 b hq)
        exact ⟨v', w', _, _, r1, hs'.put (e := .one (.row st.objs.length)) ⟨r5, _, _, newAt _⟩ d, hk⟩
      · exact h.elim
    · exact h.elim
  · rename_i k lo hN
    split at h
    · rename_i f t' xs hob
      split at h
      · rename_i xs' hf hx
        obtain ⟨hb, hk⟩ := h
        obtain ⟨rfl, rfl⟩ := castL_some hx
        simp only [beq_iff_eq] at hf
        subst hf
        obtain ⟨v, es, q1, q2, q3, q4, q5⟩ := hs.row hob
        obtain ⟨u', sz, n, q6, q7⟩ := hc
        rw [q2] at q6
        simp only [Option.some.injEq, Loc.row.injEq] at q6
        obtain ⟨rfl, rfl, rfl⟩ := q6
        obtain ⟨p1, p2, p3⟩ := ownsRow_take q4 q7
        have hlen : (xs.take hN).length = hN := by simp; omega
        obtain ⟨v', w', r1, r2, r3, r4, r5⟩ := own sv hN (xs.take hN) (es.take (hN * t'.size)) p1 hlen.symm (q5.take q4.1 p3) (by simpa [hlen] using hb) (fun b hz hx => hs.zfoot q1 q2 b hz (p2 ▸ hx))
        have hs' := hs.turn (o' := .row f t' (xs.take hN ++ ys)) (l' := .row v' t'.size (LN.of (hN + ys.length))) q1 q2 (r3.mono fun b _ _ hx => by rw [p2] at hx; exact hx) r2 (fun b q hq => by have := r4 b hq; rw [p2] at this; exact this)
        exact ⟨v', w', _, _, r1, hs'.put (e := .one (.row st.objs.length)) ⟨r5, _, _, newAt _⟩ d, hk⟩
      · exact h.elim
    · exact h.elim
  · exact h.elim

theorem putAt_get : ∀ {o : Nat} {cs ds : List Cell} (p : Nat), o + ds.length ≤ cs.length → (putAt cs o ds)[p]? = if o ≤ p ∧ p < o + ds.length then ds[p - o]? else cs[p]?
  | 0, cs, ds, p, h => by
    simp only [Ry.putAt, Nat.zero_le, true_and, Nat.zero_add, Nat.sub_zero]
    by_cases hp : p < ds.length
    · rw [if_pos hp, List.getElem?_append_left hp]
    · rw [if_neg hp, List.getElem?_append_right (by omega), List.getElem?_drop]
      congr 1
      omega
  | o + 1, [], ds, p, h => by simp at h
  | o + 1, c :: cs, ds, 0, h => by simp [Ry.putAt]
  | o + 1, c :: cs, ds, p + 1, h => by
    simp only [Ry.putAt, List.getElem?_cons_succ]
    rw [putAt_get (o := o) (cs := cs) (ds := ds) p (by simp at h; omega)]
    by_cases hp : o ≤ p ∧ p < o + ds.length
    · rw [if_pos hp, if_pos (by omega)]
      congr 1
      omega
    · rw [if_neg hp, if_neg (by omega)]

theorem Nests.store {e : TypeId} {t : Ty} {q : Inn} {xs : List t.den} {v : Value} {es us : List Value} {hd hd' : Nat → Value} {k o : Nat} {x' : t.den} {F : Nat → Nat → Prop} (ht : nestTy t q = true) (ho : w.ownsRow 0 e t.size v xs.length es) (hn : Nests w t q xs none v es hd)
    (hk : k < xs.length) (hou : o + us.length ≤ t.size) (hkp : Keeps w (fun b _ => v.ownBlock = some b) w') (hh : ∀ k', k' ≠ k → hd' k' = hd k')
    (hpl : ∀ (p : Nat) (c : Cell) (u : Value), p ≠ q.o → (t.cells x')[p]? = some c → (if o ≤ p ∧ p < o + us.length then us[p - o]? else es[k * t.size + p]?) = some u → CSim w none1 [] c u)
    (hhd : (if o ≤ q.o ∧ q.o < o + us.length then us[q.o - o]? else es[k * t.size + q.o]?) = some (hd' k) ∧ ∃ a n c, hd' k = .slice a n c)
    (hin : ∃ fs, w'.ownsRow 0 q.e q.s.size (hd' k) (innerOf t q x').length fs ∧ RowRd w none1 q.s (innerOf t q x') fs)
    (hsep : ∀ b, (hd' k).ownBlock = some b → v.ownBlock ≠ some b ∧ ∀ k', k' ≠ k → (hd k').ownBlock ≠ some b) :
    Nests w' t q (xs.set k x') none v (es.take (k * t.size + o) ++ us ++ es.drop (k * t.size + o + us.length)) hd' := by
  have hks := Nat.mul_le_mul_right t.size (show k + 1 ≤ xs.length by omega)
  rw [Nat.add_mul, Nat.one_mul] at hks
  have hel := ho.1
  have hget : ∀ i p, i < xs.length → p < t.size → (es.take (k * t.size + o) ++ us ++ es.drop (k * t.size + o + us.length))[i * t.size + p]? = if i = k then (if o ≤ p ∧ p < o + us.length then us[p - o]? else es[k * t.size + p]?) else es[i * t.size + p]? := by
    intro i p hi hp
    rw [splice_get es us _ _ (by omega)]
    by_cases hik : i = k
    · subst hik
      rw [if_pos rfl]
      by_cases hc : o ≤ p ∧ p < o + us.length
      · rw [if_pos (by omega), if_pos hc]
        congr 1
        omega
      · rw [if_neg (by omega), if_neg hc]
    · rw [if_neg hik, if_neg]
      intro hc
      rcases Nat.lt_or_gt_of_ne hik with hlt | hgt
      · have := Nat.mul_le_mul_right t.size (show i + 1 ≤ k by omega)
        rw [Nat.add_mul, Nat.one_mul] at this
        omega
      · have := Nat.mul_le_mul_right t.size (show k + 1 ≤ i by omega)
        rw [Nat.add_mul, Nat.one_mul] at this
        omega
  obtain ⟨hf, hs0, hqo⟩ := nest_flat ht
  refine ⟨fun i x hx p c u hp hc hu => ?_, fun i hi => ?_, fun i x hx _ => ?_, fun i b hb => ?_, fun i hi => ?_⟩
  · have hi : i < xs.length := by have := (List.getElem?_eq_some_iff.1 hx).1; simpa using this
    have hpt : p < t.size := by rw [← Ty.cells_length t x]; exact (List.getElem?_eq_some_iff.1 hc).1
    rw [hget i p hi hpt] at hu
    by_cases hik : i = k
    · subst hik
      rw [if_pos rfl] at hu
      rw [List.getElem?_set_self hi] at hx
      simp only [Option.some.injEq] at hx
      subst hx
      exact CSim.mono (w := w) (w' := w') (Z := none1) (Z' := none1) (fun _ h => h.elim) (fun _ h => h) (Grows.refl _) (hpl p c u hp hc hu)
    · rw [if_neg hik] at hu
      rw [List.getElem?_set_ne (by omega)] at hx
      exact CSim.mono (w := w) (w' := w') (Z := none1) (Z' := none1) (fun _ h => h.elim) (fun _ h => h) (Grows.refl _) (hn.plain i x hx p c u hp hc hu)
  · rw [List.length_set] at hi
    rw [hget i q.o hi hqo]
    by_cases hik : i = k
    · subst hik
      rw [if_pos rfl]
      exact hhd
    · rw [if_neg hik, hh i hik]
      exact hn.head i hi
  · have hi : i < xs.length := by have := (List.getElem?_eq_some_iff.1 hx).1; simpa using this
    by_cases hik : i = k
    · subst hik
      rw [List.getElem?_set_self hi] at hx
      simp only [Option.some.injEq] at hx
      subst hx
      obtain ⟨fs, a1, a2⟩ := hin
      exact ⟨fs, a1, RowRd.mono (fun _ h => h.elim) (fun _ h => h) a2⟩
    · rw [List.getElem?_set_ne (by omega)] at hx
      obtain ⟨fs, a1, a2⟩ := hn.inner i x hx (by simp)
      rw [hh i hik]
      exact ⟨fs, ownsRow_kept hkp (fun b hb _ hv => (hn.sep i b hb).1 hv) a1, RowRd.mono (fun _ h => h.elim) (fun _ h => h) a2⟩
  · by_cases hik : i = k
    · subst hik
      obtain ⟨s1, s2⟩ := hsep b hb
      exact ⟨s1, fun k' hk' => by rw [hh k' hk']; exact s2 k' hk'⟩
    · rw [hh i hik] at hb
      refine ⟨(hn.sep i b hb).1, fun k' hk' hb' => ?_⟩
      by_cases hkk : k' = k
      · subst hkk
        exact (hsep b hb').2 i hik hb
      · rw [hh k' hkk] at hb'
        exact (hn.sep i b hb).2 k' hk' hb'
  · rw [List.length_set] at hi
    rw [hh i (by omega)]
    exact hn.out i hi

theorem nestC_sim {i j : Nat} {v : Value} {sz n : Nat} {hd hd' : Nat → Value} (hi : L[i]? = some (.row v sz ⟨n, hd⟩)) (hj : L[j]? = some (.row v sz ⟨n, hd'⟩)) (c : Cell) (u : Value) (h : CSim w Z L c u) : CSim w Z L (nestC i j c) u := by
  unfold nestC
  split
  · rename_i m
    simp only [cond_eq_ite]
    split
    · rename_i hm
      have hm := Nat.eq_of_beq_eq_true hm
      subst hm
      obtain ⟨h0, sz', n', h1⟩ := h
      rw [hi] at h1
      simp only [Option.some.injEq, Loc.row.injEq] at h1
      obtain ⟨rfl, rfl, rfl⟩ := h1
      exact ⟨h0, _, _, hj⟩
    · exact h
  · rename_i m lo hi'
    simp only [cond_eq_ite]
    split
    · rename_i hm
      have hm := Nat.eq_of_beq_eq_true hm
      subst hm
      obtain ⟨u', sz', n', h1, h2⟩ := h
      rw [hi] at h1
      simp only [Option.some.injEq, Loc.row.injEq] at h1
      obtain ⟨rfl, rfl, rfl⟩ := h1
      exact ⟨_, _, _, hj, h2⟩
    · exact h
  · rename_i m k' o
    simp only [cond_eq_ite]
    split
    · rename_i hm
      have hm := Nat.eq_of_beq_eq_true hm
      subst hm
      obtain ⟨g, n', c', sz', m', h1, h2⟩ := h
      rw [hi] at h1
      simp only [Option.some.injEq, Loc.row.injEq] at h1
      obtain ⟨rfl, rfl, rfl⟩ := h1
      exact ⟨g, n', c', _, _, hj, h2⟩
    · exact h
  · rename_i m
    simp only [cond_eq_ite]
    split
    · rename_i hm
      have hm := Nat.eq_of_beq_eq_true hm
      subst hm
      obtain ⟨u', sz', n', h1, h2⟩ := h
      rw [hi] at h1
      simp only [Option.some.injEq, Loc.row.injEq] at h1
      obtain ⟨rfl, rfl, rfl⟩ := h1
      exact ⟨_, _, _, hj, h2⟩
    · exact h
  · rename_i m k'
    simp only [cond_eq_ite]
    split
    · rename_i hm
      have hm := Nat.eq_of_beq_eq_true hm
      subst hm
      exact h.oneCell
    · exact h
  · exact h

theorem Sit.mergeN (h : Sit S st a w Z L) {i j : Nat} {o p o' : Ob} {l m l' : Loc} (hij : j ≠ i) (hio : st.objs[i]? = some o) (hil : L[i]? = some l) (hjo : st.objs[j]? = some p) (hjl : L[j]? = some m) (hk : Keeps w (foot o l) w')
    (ho : OSim w' Z (L ++ [l']) o' l') (hf : ∀ b q, foot o' l' b q → w.heap.size ≤ b ∨ foot o l b q ∨ foot p m b q) : Sit S (((st.setOb i .dead).setOb j .dead).addOb o') a w' Z (L ++ [l']) := by
  have hlt := (List.getElem?_eq_some_iff.1 hio).1
  have hltj := (List.getElem?_eq_some_iff.1 hjo).1
  have hlen := h.sims.len
  have hL : (L ++ [l'])[i]? = some l := Grows.append _ _ i l hil
  unfold St.setOb St.addOb
  simp only [setNth_eq]
  have cases_ : ∀ (n : Nat) (o1 : Ob) (l1 : Loc), (n = i ∨ n = j ∨ ¬ n < st.objs.length) → ((st.objs.set i .dead).set j .dead ++ [o'])[n]? = some o1 → (L ++ [l'])[n]? = some l1 →
      o1 = .dead ∨ (n = st.objs.length ∧ o1 = o' ∧ l1 = l') := by
    intro n o1 l1 hn h1 h2
    by_cases hnl : n < st.objs.length
    · rw [List.getElem?_append_left (by simpa using hnl)] at h1
      by_cases hnj : n = j
      · subst hnj
        rw [List.getElem?_set_self (by simpa using hnl)] at h1
        simp only [Option.some.injEq] at h1
        exact .inl h1.symm
      · have hni : n = i := by omega
        subst hni
        rw [List.getElem?_set_ne (by omega), List.getElem?_set_self hnl] at h1
        simp only [Option.some.injEq] at h1
        exact .inl h1.symm
    · have hn' : n = st.objs.length := by
        have := (List.getElem?_eq_some_iff.1 h1).1
        simp at this; omega
      subst hn'
      rw [List.getElem?_append_right (by simp)] at h1
      rw [← hlen, List.getElem?_append_right (Nat.le_refl _)] at h2
      simp at h1 h2
      exact .inr ⟨rfl, h1.symm, h2.symm⟩
  refine h.update (fun b q => foot o l b q ∨ foot p m b q) (fun n => n = i ∨ n = j ∨ ¬ n < st.objs.length) (hk.mono fun _ _ _ hx => .inl hx)
    (fun b q hx hz => hx.elim (fun hx => h.sims.zap i o l hio hil b q hx hz) (fun hx => h.sims.zap j p m hjo hjl b q hx hz)) (fun _ hb => hb) (Grows.append _ _) (by simp [hlen]) ?_ ?_ ?_ ?_ ?_ ?_ ?_ ?_ ?_
  · intro n hn hnl
    have hn2 : n < st.objs.length := by
      rcases Nat.lt_or_ge n st.objs.length with hx | hx
      · exact hx
      · exact absurd (.inr (.inr (by omega))) hn
    have hn0 : n ≠ i := fun e => hn (.inl e)
    have hn1 : n ≠ j := fun e => hn (.inr (.inl e))
    rw [List.getElem?_append_left (by simpa using hn2), List.getElem?_set_ne (by omega), List.getElem?_set_ne (by omega)]
  · intro n o1 l1 hn h1 h2 b q hq hx
    rcases hx with hx | hx
    · exact h.sims.sep n i o1 l1 o l h1 h2 hio hil (fun e => hn (.inl e)) b q hq hx
    · exact h.sims.sep n j o1 l1 p m h1 h2 hjo hjl (fun e => hn (.inr (.inl e))) b q hq hx
  · intro n o1 l1 hn h1 h2
    rcases cases_ n o1 l1 hn h1 h2 with rfl | ⟨_, rfl, rfl⟩
    · trivial
    · exact ho
  · intro n o1 l1 hn h1 h2 b q hq
    rcases cases_ n o1 l1 hn h1 h2 with rfl | ⟨_, rfl, rfl⟩
    · exact hq.elim
    · exact hf b q hq
  · intro n n' o1 l1 o2 l2 hn hn' h1 h2 h3 h4 hnn b q f1 f2
    rcases cases_ n o1 l1 hn h1 h2 with rfl | ⟨hn1, rfl, rfl⟩
    · exact f1.elim
    · rcases cases_ n' o2 l2 hn' h3 h4 with rfl | ⟨hk1, rfl, rfl⟩
      · exact f2.elim
      · omega
  · intro n o1 l1 hn h1 h2 b q hq hz
    rcases cases_ n o1 l1 hn h1 h2 with rfl | ⟨_, rfl, rfl⟩
    · exact hq.elim
    · rcases hf b q hq with hx | hx | hx
      · have := h.sims.zin b hz
        omega
      · exact h.sims.zap i o l hio hil b q hx hz
      · exact h.sims.zap j p m hjo hjl b q hx hz
  · exact fun b hb => .inl hb
  · exact fun b hb => Nat.lt_of_lt_of_le (h.sims.zin b hb) hk.size
  · exact fun b q hx => hx.elim (fun hx => h.fnew i o l hio hil b q hx) (fun hx => h.fnew j p m hjo hjl b q hx)

theorem Sit.merge (h : Sit S st a w Z L) {i j : Nat} {o p o' : Ob} {l m l' : Loc} (hij : j ≠ i) (hio : st.objs[i]? = some o) (hil : L[i]? = some l) (hjo : st.objs[j]? = some p) (hjl : L[j]? = some m) (hk : Keeps w (foot o l) w')
    (ho : OSim w' Z (L ++ [l']) o' l') (hf : ∀ b q, foot o' l' b q → foot o l b q ∨ foot p m b q) : Sit S (((st.setOb i .dead).setOb j .dead).addOb o') a w' Z (L ++ [l']) :=
  h.mergeN hij hio hil hjo hjl hk ho fun b q hb => .inr (hf b q hb)

theorem storeN_sound {i k o e : Nat} {cs : List Cell} {us : List Value} {t : Ty} {q : Inn} {xs : List t.den} {g n c sz : Nat} {m : LN} {K : St → Prop} (h : storeN st i k o cs e t q xs K) (hs : Sit S st a w Z L) (hob : st.ob i = .nest e t q xs none)
    (hl : L[i]? = some (.row (.slice (some ⟨g, 0, none⟩) n c) sz m)) (hkn : k < n) (hle : o + cs.length ≤ t.size) (hcs : CsSim w Z L cs us) :
    ∃ w' L' st', (storeCells ⟨g, k * sz + o, none⟩ us).run P w = .ok () w' ∧ Sit S st' a w' Z L' ∧ K st' := by
  obtain ⟨v, es, hd, q1, q2, q3, ht, q4, q5⟩ := hs.nest hob
  have hlen := CsSim.length hcs
  rw [hl] at q2
  simp only [Option.some.injEq, Loc.row.injEq] at q2
  obtain ⟨rfl, rfl, rfl⟩ := q2
  obtain ⟨hfl, hs0, hqo⟩ := nest_flat ht
  rcases q4.2 with ⟨hx', _⟩ | ⟨g', cap, cur, hx', hb, hg, hn, hm, hcs', htk⟩
  · simp at hx'
  simp only [Value.slice.injEq, Option.some.injEq, Addr.mk.injEq, and_true] at hx'
  obtain ⟨rfl, rfl, rfl⟩ := hx'
  have hks := Nat.mul_le_mul_right t.size (show k + 1 ≤ xs.length by omega)
  rw [Nat.add_mul, Nat.one_mul] at hks
  obtain ⟨w', r1, r2, r3⟩ := ownsRow_store (P := P) (p := k * t.size + o) (us := us) q4 (by omega) (CsSim.oneCell hcs)
  have hkx : xs[k]? = some (xs.getD k t.dflt) := by simp [List.getD, List.getElem?_eq_getElem hkn]
  generalize hX : xs.getD k t.dflt = X at *
  have hXl := Ty.cells_length t X
  have hkp : Keeps w (fun b _ => (Value.slice (some ⟨g, 0, none⟩) xs.length c).ownBlock = some b) w' := r3.mono fun b _ _ hx => by simp [Value.ownBlock, hx]
  have hkf : ∀ hd', Keeps w (foot (.nest e t q xs none) (.row (.slice (some ⟨g, 0, none⟩) xs.length c) t.size ⟨xs.length, hd'⟩)) w' := fun _ => hkp.mono fun b _ _ hx => .inl hx
  -- the plain cells of the element as it is from now on
  have hpl : ∀ (vs : List Cell) (x' : t.den), vs.length = us.length → (∀ p, p ≠ q.o - o ∨ q.o < o → vs[p]? = cs[p]?) → readV t (putAt (t.cells X) o vs) = some x' →
      ∀ (p : Nat) (c : Cell) (u : Value), p ≠ q.o → (t.cells x')[p]? = some c → (if o ≤ p ∧ p < o + us.length then us[p - o]? else es[k * t.size + p]?) = some u → CSim w none1 [] c u := by
    intro vs x' hvl hvs hx p c u hp hc hu
    obtain ⟨e1, e2⟩ := readV_at hx
    have hcp := (nest_cell ht x').2 p c hp hc
    have hpp : p < (putAt (t.cells X) o vs).length := by rw [e1]; exact (List.getElem?_eq_some_iff.1 hc).1
    have hat := putAt_get (o := o) (cs := t.cells X) (ds := vs) p (by omega)
    have hsame : (putAt (t.cells X) o vs)[p]? = some c := by
      rw [List.getElem?_eq_getElem hpp]
      rcases e2 p _ (List.getElem?_eq_getElem hpp) with h1 | ⟨_, s, h1⟩
      · rw [hc] at h1; exact h1.symm
      · rw [hc] at h1
        simp only [Option.some.injEq] at h1
        rw [h1] at hcp
        simp [Cell.plain] at hcp
    rw [hat] at hsame
    by_cases hin : o ≤ p ∧ p < o + us.length
    · rw [if_pos (by omega), hvs _ (by omega)] at hsame
      rw [if_pos hin] at hu
      exact plain_any hcp (CsSim.place hcs hsame hu)
    · rw [if_neg (by omega)] at hsame
      rw [if_neg hin] at hu
      exact q5.plain k X hkx p c u hp hsame hu
  have innerAt : ∀ (vs : List Cell) (x' : t.den) (ys : List q.s.den), vs.length = us.length → readV t (putAt (t.cells X) o vs) = some x' → (if o ≤ q.o ∧ q.o < o + us.length then vs[q.o - o]? else (t.cells X)[q.o]?) = some (.sl q.s ys) → innerOf t q x' = ys := by
    intro vs x' ys hvl hx hy
    obtain ⟨e1, e2⟩ := readV_at hx
    have hat := putAt_get (o := o) (cs := t.cells X) (ds := vs) q.o (by omega)
    rw [hvl, hy] at hat
    rcases e2 q.o _ hat with h1 | ⟨h1, _⟩
    · rw [(nest_cell ht x').1] at h1
      simp only [Option.some.injEq, Cell.sl.injEq, heq_eq_eq, true_and] at h1
      exact h1
    · simp at h1
  have hsepK : ∀ b, (hd k).ownBlock = some b → (Value.slice (some ⟨g, 0, none⟩) xs.length c).ownBlock ≠ some b ∧ ∀ k', k' ≠ k → (hd k').ownBlock ≠ some b := q5.sep k
  have oldIn : ∃ fs, w'.ownsRow 0 q.e q.s.size (hd k) (innerOf t q X).length fs ∧ RowRd w none1 q.s (innerOf t q X) fs := by
    obtain ⟨fs, a1, a2⟩ := q5.inner k X hkx (by simp)
    exact ⟨fs, ownsRow_kept hkp (fun b hb _ hv => (q5.sep k b hb).1 hv) a1, a2⟩
  have newAt : ∀ l : Loc, (L ++ [l])[st.objs.length]? = some l := by
    intro l
    rw [← hs.sims.len, List.getElem?_append_right (Nat.le_refl _)]
    simp
  unfold storeN at h
  rw [hX] at h
  split at h
  · -- the inner slice is not touched
    rename_i hno
    have hno' : ¬ (o ≤ q.o ∧ q.o < o + us.length) := by
      intro hc
      have h1 : Nat.ble o q.o = true := Nat.ble_eq_true_of_le hc.1
      have h2 : Nat.blt q.o (o + cs.length) = true := Nat.ble_eq_true_of_le (by omega)
      rw [h1, h2] at hno
      simp at hno
    split at h
    · rename_i x' hx
      have hin := innerAt cs x' (innerOf t q X) hlen.symm hx (by rw [if_neg hno']; exact (nest_cell ht X).1)
      have hN := q5.store (us := us) (hd' := hd) (o := o) (x' := x') (F := fun _ _ => False) ht q4 hkn (by omega) hkp (fun _ _ => rfl) (hpl cs x' hlen.symm (fun _ _ => rfl) hx) (by rw [if_neg hno']; exact q5.head k hkn) (by rw [hin]; exact oldIn) hsepK
      exact ⟨w', L, _, r1, hs.set (o' := .nest e t q (xs.set k x') none) q1 hl (hkf hd) ⟨_, _, hd, by simp, q3, ht, by simpa using r2, hN⟩ (fun b y hy => hy), namedL_use h⟩
    · exact h.elim
  · rename_i hyes
    simp only [Bool.and_eq_true] at hyes
    have hc1 := Nat.le_of_ble_eq_true hyes.1
    have hc2 : q.o < o + cs.length := Nat.le_of_ble_eq_true hyes.2
    have hc : o ≤ q.o ∧ q.o < o + us.length := ⟨hc1, by omega⟩
    have hui : ∃ u0, us[q.o - o]? = some u0 := ⟨_, List.getElem?_eq_getElem (by omega)⟩
    obtain ⟨u0, hu0⟩ := hui
    split at h
    · -- a row moves in
      rename_i j hj
      rw [nth_eq] at hj
      have hcj := CsSim.place hcs hj hu0
      split at h
      · rename_i f s ys hoj
        split at h
        · rename_i x' hcnd hx
          simp only [Bool.and_eq_true, Bool.not_eq_true'] at hcnd
          obtain ⟨hf, hsu, hji⟩ := hcnd
          have hf := Nat.eq_of_beq_eq_true hf
          have hsu := Ty.eqb_eq hsu
          subst hf
          have hji : j ≠ i := fun e => by subst e; simp at hji
          obtain ⟨vj, ej, j1, j2, j3, j4, j5⟩ := hs.row hoj
          obtain ⟨hsl, sz', n', hj2⟩ := hcj
          rw [j2] at hj2
          simp only [Option.some.injEq, Loc.row.injEq] at hj2
          obtain ⟨rfl, _, _⟩ := hj2
          have hlc : cs.length = (setNth cs (q.o - o) (.sl s ys)).length := by rw [setNth_eq, List.length_set]
          subst hsu
          have hin := innerAt (setNth cs (q.o - o) (.sl q.s ys)) x' ys (by rw [← hlc, hlen]) hx (by rw [if_pos hc, setNth_eq, List.getElem?_set_self (by omega)])
          have hsj : ∀ b, vj.ownBlock = some b → (Value.slice (some ⟨g, 0, none⟩) xs.length c).ownBlock ≠ some b ∧ ∀ k', k' ≠ k → (hd k').ownBlock ≠ some b := by
            intro b hb
            refine ⟨fun hv => hs.sims.sep j i _ _ _ _ j1 j2 q1 hl hji b 0 hb (.inl hv), fun k' _ hv => hs.sims.sep j i _ _ _ _ j1 j2 q1 hl hji b 0 hb (.inr ⟨k', by simp, hv⟩)⟩
          let hd' : Nat → Value := fun k' => if k' = k then vj else hd k'
          have hdk : hd' k = vj := if_pos rfl
          have hdo : ∀ k', k' ≠ k → hd' k' = hd k' := fun k' hk' => if_neg hk'
          have hN := q5.store (us := us) (hd' := hd') (o := o) (x' := x') (F := fun _ _ => False) ht q4 hkn (by omega) hkp hdo
            (hpl _ x' (by rw [← hlc, hlen]) (fun p hp => by rw [setNth_eq, List.getElem?_set_ne (by omega)]) hx) (by rw [if_pos hc, hdk]; exact ⟨hu0, hsl⟩)
            (by rw [hdk, hin]; exact ⟨ej, ownsRow_kept hkp (fun b hb _ hv => (hsj b hb).1 hv) j4, fun i x hi => Rd.flat' hfl (j5 i x hi)⟩) (by rw [hdk]; exact hsj)
          have hS := hs.merge (o' := .nest e t q (xs.set k x') none) (l' := .row (.slice (some ⟨g, 0, none⟩) xs.length c) t.size ⟨xs.length, hd'⟩) hji q1 hl j1 j2 (hkf hd)
            ⟨_, _, hd', by simp, q3, ht, by simpa using r2, hN⟩ (fun b y hy => by
              rcases hy with hy | ⟨k', _, hy⟩
              · exact .inl (.inl hy)
              · by_cases hk' : k' = k
                · simp only [hk', hdk] at hy
                  exact .inr hy
                · simp only [hdo k' hk'] at hy
                  exact .inl (.inr ⟨k', by simp, hy⟩))
          exact ⟨w', _, _, r1, hS.map (nestC_sim (i := i) (j := st.objs.length) (Grows.append _ _ _ _ hl) (newAt _)), h⟩
        · exact h.elim
      · exact h.elim
    · -- nil moves in
      rename_i hj
      rw [nth_eq] at hj
      have hcj := CsSim.place hcs hj hu0
      split at h
      · rename_i x' hx
        have hu0' : u0 = nilS := hcj
        have hin : innerOf t q x' = [] := by
          obtain ⟨e1, e2⟩ := readV_at hx
          have hat := putAt_get (o := o) (cs := t.cells X) (ds := cs) q.o (by omega)
          rw [hlen.symm] at hat
          rw [if_pos hc, hj] at hat
          rcases e2 q.o _ hat with h1 | ⟨_, s, h1⟩
          · rw [(nest_cell ht x').1] at h1
            simp at h1
          · rw [(nest_cell ht x').1] at h1
            simp only [Option.some.injEq, Cell.sl.injEq] at h1
            obtain ⟨h2, h3⟩ := h1
            subst h2
            exact eq_of_heq h3
        let hd' : Nat → Value := fun k' => if k' = k then nilS else hd k'
        have hdk : hd' k = nilS := if_pos rfl
        have hdo : ∀ k', k' ≠ k → hd' k' = hd k' := fun k' hk' => if_neg hk'
        have hN := q5.store (us := us) (hd' := hd') (o := o) (x' := x') (F := fun _ _ => False) ht q4 hkn (by omega) hkp hdo
          (hpl _ x' hlen.symm (fun p hp => rfl) hx) (by rw [if_pos hc, hdk]; exact ⟨hu0' ▸ hu0, _, _, _, rfl⟩)
          (by rw [hdk, hin]; exact ⟨[], World.ownsRow_nil w' 0 q.e q.s.size, fun i x hi => by simp at hi⟩) (by rw [hdk]; intro b hb; simp [nilS, Value.ownBlock] at hb)
        have hS := hs.turn (o' := .nest e t q (xs.set k x') none) (l' := .row (.slice (some ⟨g, 0, none⟩) xs.length c) t.size ⟨xs.length, hd'⟩) q1 hl (hkf hd)
          ⟨_, _, hd', by simp, q3, ht, by simpa using r2, hN⟩ (fun b y hy => by
            rcases hy with hy | ⟨k', _, hy⟩
            · exact .inr (.inl hy)
            · by_cases hk' : k' = k
              · simp only [hk', hdk] at hy
                simp [nilS, Value.ownBlock] at hy
              · simp only [hdo k' hk'] at hy
                exact .inr (.inr ⟨k', by simp, hy⟩))
        exact ⟨w', _, _, r1, hS.map (nestC_sim (i := i) (j := st.objs.length) (Grows.append _ _ _ _ hl) (newAt _)), h⟩
      · exact h.elim
    · -- it stays
      rename_i j m' hj
      rw [nth_eq] at hj
      have hcj := CsSim.place hcs hj hu0
      split at h
      · rename_i x' hcnd hx
        have h1 := Nat.eq_of_beq_eq_true hcnd
        obtain ⟨h2, h⟩ := h
        subst h1 h2
        obtain ⟨hsl, u', sz', n', hj2, hj3⟩ := hcj
        rw [hl] at hj2
        simp only [Option.some.injEq, Loc.row.injEq] at hj2
        obtain ⟨rfl, rfl, rfl⟩ := hj2
        have hlc : cs.length = (setNth cs (q.o - o) (.sl q.s (innerOf t q X))).length := by rw [setNth_eq, List.length_set]
        have hin := innerAt _ x' (innerOf t q X) (by rw [← hlc, hlen]) hx (by rw [if_pos hc, setNth_eq, List.getElem?_set_self (by omega)])
        have hN := q5.store (us := us) (hd' := hd) (o := o) (x' := x') (F := fun _ _ => False) ht q4 hkn (by omega) hkp (fun _ _ => rfl) (hpl _ x' (by rw [← hlc, hlen]) (fun p hp => by rw [setNth_eq, List.getElem?_set_ne (by omega)]) hx)
          (by rw [if_pos hc]; exact ⟨by rw [hu0, hj3], (q5.head _ hkn).2⟩) (by rw [hin]; exact oldIn) hsepK
        exact ⟨w', L, _, r1, hs.set (o' := .nest e t q (xs.set _ x') none) q1 hl (hkf hd) ⟨_, _, hd, by simp, q3, ht, by simpa using r2, hN⟩ (fun b y hy => hy), h⟩
      · exact h.elim
    · exact h.elim

theorem CsSim.mend {cs ds : List Cell} {us vs : List Value} (h : CsSim w Z L cs us) (k : CsSim w Z L ds vs) : CsSim w Z L (mendSelf cs ds) vs := by
  unfold mendSelf
  split
  · rename_i i t n _ l
    cases us with
    | nil => exact h.elim
    | cons u us =>
      cases vs with
      | nil => exact k.elim
      | cons v vs =>
        obtain ⟨⟨g, h1, _⟩, _⟩ := h
        exact ⟨⟨g, h1, .inl k.1⟩, k.2⟩
  · exact k

theorem storeW_sound {c : Cell} {cv : Value} {cs : List Cell} {us : List Value} {K : St → Prop} (h : storeW st c cs K) (hs : Sit S st a w Z L) (hc : CSim w Z L c cv) (hcs : CsSim w Z L cs us) :
    ∃ ad w' Z' L' st', cv = .pointer (some ad) ∧ (storeCells ad us).run P w = .ok () w' ∧ Sit S st' a w' Z' L' ∧ K st' := by
  have hlen := CsSim.length hcs
  unfold storeW at h
  split at h
  · rename_i i o
    obtain ⟨g, q, s, hl, rfl⟩ := hc
    split at h
    · rename_i bs hb
      obtain ⟨hble, hk⟩ := ifT_iff.1 h
      obtain ⟨g', q', s', vs, h1, h2, h3, h4⟩ := hs.boxAt hb
      rw [hl] at h2
      simp only [Option.some.injEq, Loc.box.injEq] at h2
      obtain ⟨rfl, rfl, rfl⟩ := h2
      have hvl := CsSim.length h3
      have hle := Nat.le_of_ble_eq_true hble
      obtain ⟨w', r1, r2, r3⟩ := h4.store (P := P) (o := o) (us := us) (by omega) (CsSim.oneCell hcs)
      have hfoot : Keeps w (foot (.box bs) (.box g q s)) w' := r3.mono fun b x _ hx => ⟨hx.1, .inr ⟨hx.2.1, by omega⟩⟩
      have hzz : ∀ b, Z b → w'.heap[b]? = w.heap[b]? := fun b hbz => hfoot.same (hs.sims.zin b hbz) fun o ho => hs.sims.zap i _ _ h1 hl b o ho hbz
      refine ⟨_, w', Z, L, _, rfl, r1, hs.set (o' := .box (mendSelf bs (putAt bs o cs))) h1 hl hfoot ⟨g, q, s, _, rfl, CsSim.mono hzz (fun _ h => h) (Grows.refl _) (CsSim.mend h3 (CsSim.putAt h3 hcs hle)), r2⟩ (fun b x hx => ?_), hk⟩
      simpa [foot, mendSelf_length, putAt_length hle] using hx
    · exact h.elim
  · rename_i i k o
    obtain ⟨g, n, c, sz, m, hl, hkn, rfl⟩ := hc
    split at h
    · rename_i e u q xs hob
      obtain ⟨hble, hk⟩ := ifT_iff.1 h
      obtain ⟨w', L', st', r1, r2, r3⟩ := storeN_sound (P := P) hk hs hob hl hkn (Nat.le_of_ble_eq_true hble) hcs
      exact ⟨_, w', Z, L', st', rfl, r1, r2, r3⟩
    split at h
    · rename_i e u xs hob
      split at h
      · rename_i x hble hx
        have hle := Nat.le_of_ble_eq_true hble
        obtain ⟨Z', hz', hs', hsh⟩ := Sit.shareAll cs hs
        obtain ⟨v, es, q1, q2, q3, q4, q5⟩ := hs'.row hob
        rw [hl] at q2
        simp only [Option.some.injEq, Loc.row.injEq] at q2
        obtain ⟨rfl, rfl, rfl⟩ := q2
        rcases q4.2 with ⟨hx', _⟩ | ⟨g', cap, cur, hx', hb, hg, hn, hm, hcs', htk⟩
        · simp at hx'
        · simp only [Value.slice.injEq, Option.some.injEq, Addr.mk.injEq, and_true] at hx'
          obtain ⟨rfl, rfl, rfl⟩ := hx'
          have hks := Nat.mul_le_mul_right u.size (show k + 1 ≤ xs.length by omega)
          rw [Nat.add_mul, Nat.one_mul] at hks
          obtain ⟨w', r1, r2, r3⟩ := ownsRow_store (P := P) (p := k * u.size + o) (us := us) q4 (by omega) (CsSim.oneCell hcs)
          have hkx : xs[k]? = some (xs.getD k u.dflt) := by simp [List.getD, List.getElem?_eq_getElem hkn]
          have hput := CsSim.putAt (o := o) (Rd.cells (L := L) (q5 k _ hkx)) (sharedCs_sim hs hz' hsh hcs) (by
            have := CsSim.length (Rd.cells (L := L) (q5 k _ hkx))
            have h2 := Rd.length (q5 k _ hkx)
            rw [List.length_map]; omega)
          have hrd := readV_sim hx hput
          have hfoot : Keeps w (foot (.row e u xs) (.row (.slice (some ⟨g, 0, none⟩) xs.length c) u.size xs.length)) w' := r3.mono fun b _ _ hx => by simp [foot, Value.ownBlock, hx]
          have hzz : ∀ b, Z' b → w'.heap[b]? = w.heap[b]? := fun b hbz => hfoot.same (hs'.sims.zin b hbz) fun o ho => hs'.sims.zap i _ _ q1 hl b o ho hbz
          have hset := RowRd.set (us := us) (o := o) (x := x) q5 q4.1 hkn (by omega) (by simpa using hrd)
          refine ⟨_, w', Z', L, _, rfl, r1, hs'.set (o' := .row e u (xs.set k x)) q1 hl hfoot ⟨.slice (some ⟨g, 0, none⟩) xs.length c, _, by simp, q3, by simpa using r2, RowRd.mono hzz (fun _ h => h) hset⟩ (fun b y hy => hy), namedL_use h⟩
      · exact h.elim
    · exact h.elim
  · exact h.elim
end
end Go.Ry
set_option linter.unusedVariables false
set_option linter.unusedSimpArgs false
namespace Go.Ry

section
variable {P : Program} {S : Start} {st : St} {a : Act} {w w' : World} {Z Z' : Nat → Prop} {L L' : List Loc} {T : Tab} {o : Oper} {K : St → Prop} {next : Act → World → Prop} {Q : Exit → Act → World → Prop} {R : Prop}

theorem eqGuard_run (op : BinOp) (t : TypeId) (x y : Operand) (v u : Value) (h : (∀ cs, v ≠ .agg cs) ∧ (v ≠ .nilIface ∨ u ≠ .nilIface ∨ ∃ c, y = .const c)) : (eqGuard op t x y v u).run P w = .ok () w := by
  obtain ⟨h1, h2⟩ := h
  have key : ∀ op : BinOp, op = .eql ∨ op = .neq → (eqGuard op t x y v u).run P w = .ok () w := by
    intro op hop
    cases v with
    | agg cs => exact absurd rfl (h1 cs)
    | nilIface =>
      cases u with
      | nilIface =>
        rcases h2 with h | h | ⟨c, rfl⟩
        · exact absurd rfl h
        · exact absurd rfl h
        · rcases hop with rfl | rfl <;> simp [eqGuard]
      | _ => rcases hop with rfl | rfl <;> rfl
    | _ => rcases hop with rfl | rfl <;> rfl
  cases op <;> first
    | exact key _ (.inl rfl)
    | exact key _ (.inr rfl)
    | rfl

theorem exec_binOp {op : BinOp} {t : TypeId} {x y : Operand} {sh : TypeId} {v : Value} (ho : o.op = .binOp op t x y sh)
    (hg : (∀ cs, a.eval x ≠ .agg cs) ∧ (a.eval x ≠ .nilIface ∨ a.eval y ≠ .nilIface ∨ ∃ c, y = .const c))
    (hr : (binOp op t (a.eval x) (a.eval y)).run P w = .ok v w) : (execOp a.eval o).run P w = .ok (.value v) w := by
  unfold execOp
  simp only [ho, Sem.run_bind, eqGuard_run op t x y _ _ hg, Result.andThen_ok, hr, Sem.run_pure]

theorem listOf_len (hs : Sit S st a w Z L) {c : Cell} {v : Value} {u : Ty} {xs : List u.den} (hc : CSim w Z L c v) (hl : st.listOf c = some ⟨u, xs⟩) :
    ∃ ad n cap, v = .slice ad n cap ∧ n = xs.length ∧ (ad = none → xs.length = 0) := by
  unfold St.listOf at hl
  split at hl
  · simp only [Option.some.injEq, Sigma.mk.injEq] at hl
    obtain ⟨rfl, hl⟩ := hl
    simp only [heq_eq_eq] at hl
    subst hl
    obtain ⟨ad, n, cap, h1, h2, h3, h4, _⟩ := hc
    simp only [List.cons.injEq, and_true] at h1
    exact ⟨ad, n, cap, h1, h2, fun e => by rw [← h2]; exact h4 e⟩
  · split at hl
    · rename_i e u' xs' hob
      simp only [Option.some.injEq, Sigma.mk.injEq] at hl
      obtain ⟨rfl, hl⟩ := hl
      simp only [heq_eq_eq] at hl
      subst hl
      obtain ⟨v', es, q1, q2, q3, q4, q5⟩ := hs.row hob
      obtain ⟨_, sz, n, q6⟩ := hc
      rw [q2] at q6
      simp only [Option.some.injEq, Loc.row.injEq] at q6
      obtain ⟨rfl, rfl, rfl⟩ := q6
      rcases q4.2 with ⟨rfl, hn⟩ | ⟨g, cap, cur, rfl, _⟩
      · exact ⟨none, 0, 0, rfl, hn.symm, fun _ => hn⟩
      · exact ⟨_, _, _, rfl, rfl, fun e => by simp at e⟩
    · simp at hl
  · split at hl
    · rename_i lo hi e u' xs' hob
      simp only [Option.some.injEq, Sigma.mk.injEq] at hl
      obtain ⟨rfl, hl⟩ := hl
      simp only [heq_eq_eq] at hl
      subst hl
      obtain ⟨v', es, q1, q2, q3, q4, q5⟩ := hs.row hob
      obtain ⟨u, sz, n, q6, q7⟩ := hc
      rw [q2] at q6
      simp only [Option.some.injEq, Loc.row.injEq] at q6
      obtain ⟨rfl, rfl, rfl⟩ := q6
      rcases q7 with ⟨rfl, rfl, rfl, rfl⟩ | ⟨g, n, c, rfl, h1, h2, h3, rfl⟩
      · exact ⟨none, 0, 0, rfl, by simp, fun _ => by simp⟩
      · rcases q4.2 with ⟨hx, _⟩ | ⟨g', cap, cur, hx, _⟩
        · simp at hx
        · simp only [Value.slice.injEq] at hx
          exact ⟨_, _, _, rfl, by simp; omega, fun e => by simp at e⟩
    · simp at hl
  · simp at hl

theorem ownsRow_len {e : TypeId} {sz n : Nat} {v : Value} {es : List Value} (h : w.ownsRow 0 e sz v n es) : ∃ ad cap, v = .slice ad n cap ∧ (ad = none → n = 0) := by
  rcases h.2 with ⟨rfl, hn⟩ | ⟨g, cap, cur, rfl, _⟩
  · exact ⟨none, 0, by rw [hn], fun _ => hn⟩
  · exact ⟨_, _, rfl, fun e => by simp at e⟩
theorem lenOf_len (hs : Sit S st a w Z L) {c : Cell} {v : Value} {m : Nat} (hc : CSim w Z L c v) (hl : st.lenOf c = some m) :
    ∃ ad n cap, v = .slice ad n cap ∧ n = m ∧ (ad = none → m = 0) := by
  have plain : (match st.listOf c with
      | some ⟨_, xs⟩ => some xs.length
      | none => none) = some m → ∃ ad n cap, v = .slice ad n cap ∧ n = m ∧ (ad = none → m = 0) := fun h => by
    split at h
    · rename_i u xs hx
      simp only [Option.some.injEq] at h
      subst h
      exact listOf_len hs hc hx
    · simp at h
  unfold St.lenOf at hl
  split at hl
  · rename_i i
    split at hl
    · rename_i e u xs hob
      simp only [Option.some.injEq] at hl
      subst hl
      exact listOf_len (u := u) (xs := xs) hs hc (by simp [St.listOf, hob])
    · rename_i e t q xs hob
      simp only [Option.some.injEq] at hl
      subst hl
      obtain ⟨v', es, hd, q1, q2, q3, ht, q4, q5⟩ := hs.nest hob
      obtain ⟨_, sz, n, q6⟩ := hc
      rw [q2] at q6
      simp only [Option.some.injEq, Loc.row.injEq] at q6
      obtain ⟨rfl, rfl, rfl⟩ := q6
      obtain ⟨ad, cap, e1, e2⟩ := ownsRow_len q4
      exact ⟨ad, _, cap, e1, rfl, e2⟩
    · simp at hl
  · rename_i i k
    split at hl
    · rename_i e t q xs hob
      simp only [Option.some.injEq] at hl
      subst hl
      obtain ⟨v', es, hd, q1, q2, q3, ht, q4, q5⟩ := hs.nest hob
      obtain ⟨_, u, sz, n, q6, q7⟩ := hc
      rw [q2] at q6
      simp only [Option.some.injEq, Loc.row.injEq] at q6
      obtain ⟨rfl, rfl, rfl⟩ := q6
      subst q7
      rcases Nat.lt_or_ge k xs.length with hk | hk
      · have hkx : xs[k]? = some (xs.getD k t.dflt) := by simp [List.getD, List.getElem?_eq_getElem hk]
        obtain ⟨fs, a1, _⟩ := q5.inner k _ hkx (by simp)
        obtain ⟨ad, cap, e1, e2⟩ := ownsRow_len a1
        exact ⟨ad, _, cap, e1, rfl, e2⟩
      · have hx : xs.getD k t.dflt = t.dflt := by simp [List.getD, List.getElem?_eq_none hk]
        rw [hx, innerOf_dflt ht]
        have := q5.out k hk
        exact ⟨none, 0, 0, this, rfl, fun _ => rfl⟩
    · simp at hl
  · exact plain hl

theorem sound_move {x : Operand} (ho : o.op = .move x ∨ o.op = .assign x) (hs : Sit S st a w Z L) (h : K (st.putO o.dst (st.ev x))) (hg : FinV P o a w Z L st K R) : R :=
  hg.value (by intro w; unfold execOp; rcases ho with ho | ho <;> simp only [ho] <;> rfl) (hs.ev x) h

theorem ev_one {x : Operand} {c : Cell} (hs : Sit S st a w Z L) (hx : st.ev x = .one c) : CSim w Z L c (a.eval x) := by
  have := hs.ev x
  rw [hx] at this
  exact this

theorem sound_pick {c x y : Operand} (ho : o.op = .pick c x y) (hs : Sit S st a w Z L) (hg : FinV P o a w Z L st K R)
    (h : match st.ev c with
      | .one (.bool t) => match t with
        | true => K (st.putO o.dst (st.ev x))
        | false => K (st.putO o.dst (st.ev y))
      | _ => False) : R := by
  split at h
  · rename_i t hc
    have hb : a.eval c = .bool t := ev_one hs hc
    cases t
    · exact hg.value (by intro w; unfold execOp; simp only [ho, hb, asBool]; rfl) (hs.ev y) h
    · exact hg.value (by intro w; unfold execOp; simp only [ho, hb, asBool]; rfl) (hs.ev x) h
  · exact h.elim
end
end Go.Ry
set_option linter.unusedVariables false
set_option linter.unusedSimpArgs false
namespace Go.Ry

section
variable {P : Program} {S : Start} {st : St} {a : Act} {w w' : World} {Z Z' : Nat → Prop} {L L' : List Loc} {T : Tab} {C : Calls_} {G : List (Nat × Sig)} {o : Oper} {K : St → Prop} {next : Act → World → Prop} {Q : Exit → Act → World → Prop} {R : Prop}

theorem kind_slice {te : TE} {d : TypeDesc} (h : kindOk te d = true) (hk : te.kind = .slice) : d = .slice te.elem := by
  cases d <;> simp only [kindOk, hk] at h <;> simp_all
theorem kind_bool {te : TE} {d : TypeDesc} (h : kindOk te d = true) (hk : te.kind = .bool) : d = .bool := by
  cases d <;> simp only [kindOk, hk] at h <;> simp_all
theorem kind_str {te : TE} {d : TypeDesc} (h : kindOk te d = true) (hk : te.kind = .str) : d = .string := by
  cases d <;> simp only [kindOk, hk] at h <;> simp_all
theorem kind_int {te : TE} {d : TypeDesc} {k : IntKind} (h : kindOk te d = true) (hk : te.kind = .int k) : d = .int k := by
  cases d <;> simp only [kindOk, hk] at h <;> simp_all
theorem kind_iface {te : TE} {d : TypeDesc} {b : Bool} (h : kindOk te d = true) (hk : te.kind = .iface b) : ∃ ms, d = .interface ms := by
  cases d <;> simp only [kindOk, hk] at h <;> simp_all
theorem equalIn_pointer_nil {P : Program} (w : World) (t e : TypeId) (n : Nat) (hd : P.underlying t = some (.pointer e)) :
    (Op.equalIn (n + 1) t (.pointer none) (.pointer none)).run P w = .ok true w := by
  simp [Op.equalIn, run_underlying hd]
theorem kind_pointer {te : TE} {d : TypeDesc} (h : kindOk te d = true) (hk : te.kind = .pointer) : ∃ e, d = .pointer e := by
  cases d <;> simp_all [kindOk]
theorem kind_struct {te : TE} {d : TypeDesc} (h : kindOk te d = true) (hk : te.kind = .struct) : ∃ fs, d = .struct fs ∧ fieldsEq te.flds fs.toList = true ∧ te.agg = true := by
  cases d <;> simp only [kindOk, hk] at h <;> simp_all
theorem kind_array {te : TE} {d : TypeDesc} {n : Nat} (h : kindOk te d = true) (hk : te.kind = .array n) : d = .array n te.elem ∧ te.agg = true := by
  cases d <;> simp only [kindOk, hk] at h <;> simp_all

theorem under_of {t : Nat} {te : TE} {d : TypeDesc} (hT : tabOk P T = true) (hl : look T t = some te) : ∃ d, P.underlying t = some d ∧ kindOk te d = true := by
  obtain ⟨i, d, z, f⟩ := teFacts (tabOk_look hT hl)
  exact ⟨d, f.under, f.kind⟩

theorem run_eql_iface_nil (w : World) (d : Nat) (t : TypeId) (ms : Array (String × TypeId)) (v : Value) (b : Bool) (h : P.underlying t = some (.interface ms)) (h1 : b = true → v = .nilIface) (h2 : b = false → ∃ t x, v = .iface t x) :
    (Op.equalIn (d + 1) t v .nilIface).run P w = .ok b w := by
  cases b
  · obtain ⟨u, x, rfl⟩ := h2 rfl
    simp [Op.equalIn, run_underlying h]
  · rw [h1 rfl]
    simp [Op.equalIn, run_underlying h]

theorem equalIn_slice_nil (w : World) (d : Nat) (t e : TypeId) (ad : Option Addr) (l c : Nat) (h : P.underlying t = some (.slice e)) : (Op.equalIn (d + 1) t (.slice ad l c) (.slice none 0 0)).run P w = .ok ad.isNone w := by
  cases ad <;> simp [Op.equalIn, run_underlying h]
theorem equal_slice_nil (w : World) (t e : TypeId) (ad : Option Addr) (l c : Nat) (h : P.underlying t = some (.slice e)) : (Op.equal t (.slice ad l c) (.slice none 0 0)).run P w = .ok ad.isNone w :=
  equalIn_slice_nil w 9999 t e ad l c h

theorem CsSim.nth {w : World} {Z : Nat → Prop} {L : List Loc} : ∀ {cs : List Cell} {vs : List Value} {j : Nat} {c : Cell}, CsSim w Z L cs vs → Go.Ry.nth cs j = some c → ∃ v, vs[j]? = some v ∧ CSim w Z L c v
  | [], _, _, _, _, h => by simp [Go.Ry.nth] at h
  | _ :: _, [], _, _, h, _ => h.elim
  | c :: cs, v :: vs, 0, _, ⟨h1, _⟩, h => by
    simp only [Go.Ry.nth, Option.some.injEq] at h
    subst h
    exact ⟨v, rfl, h1⟩
  | c :: cs, v :: vs, j + 1, _, ⟨_, h2⟩, h => by simpa using CsSim.nth h2 h
theorem eqCell_sound {t : TypeId} {fe : TE} {c d : Cell} {x y : Value} {b : Bool} (n : Nat) (hT : tabOk P T = true) (hl : look T t = some fe) (hc : CSim w Z L c x) (hd : CSim w Z L d y) (h : eqCell fe c d = some b) :
    (fe.agg = false) ∧ ∀ w, (Op.equalIn (n + 1) t x y).run P w = .ok b w := by
  obtain ⟨i, ds, z, f⟩ := teFacts (tabOk_look hT hl)
  have hk := f.kind
  unfold eqCell at h
  split at h
  · rename_i hkd
    split at h
    · rename_i hkl
      simp only [Option.some.injEq] at h
      subst hkl; subst h
      simp only [CSim] at hc hd
      subst hc; subst hd
      have hu := f.under
      rw [kind_int hk hkd] at hu
      refine ⟨?_, fun w => run_equalIn_int w n t _ _ _ _ hu⟩
      rw [kind_int hk hkd] at hk
      simp only [kindOk, hkd, Bool.and_eq_true] at hk
      simpa using hk.2
    · simp at h
  · rename_i hkd
    simp only [Option.some.injEq] at h
    subst h
    simp only [CSim] at hc hd
    subst hc; subst hd
    have hu := f.under
    rw [kind_bool hk hkd] at hu
    refine ⟨?_, fun w => run_equalIn_bool w n t _ _ hu⟩
    rw [kind_bool hk hkd] at hk
    simpa [kindOk, hkd] using hk
  · rename_i hkd
    simp only [Option.some.injEq] at h
    subst h
    simp only [CSim] at hc hd
    subst hc; subst hd
    have hu := f.under
    rw [kind_str hk hkd] at hu
    refine ⟨?_, fun w => run_equalIn_string w n t _ _ hu⟩
    rw [kind_str hk hkd] at hk
    simpa [kindOk, hkd] using hk
  · simp at h
theorem eqFlds_sound {xs ys : Array Value} {cs ds : List Cell} (n : Nat) (hT : tabOk P T = true) (hc : CsSim w Z L cs xs.toList) (hd : CsSim w Z L ds ys.toList) :
    ∀ (ps : List (Nat × Nat)) (fs : List Field) (b : Bool), fieldsEq ps fs = true → fs.all (fun f => f.name != "_") = true → eqFlds T ps cs ds = some b →
      ∀ w, (Op.eqFields (n + 1) xs ys fs).run P w = .ok b w
  | [], [], b, _, _, h, w => by
    simp only [eqFlds, Option.some.injEq] at h
    subst h; rfl
  | [], _ :: _, _, h, _, _, _ => by simp [fieldsEq] at h
  | _ :: _, [], _, h, _, _, _ => by simp [fieldsEq] at h
  | p :: ps, f :: fs, b, hf, hn, h, w => by
    simp only [fieldsEq, Bool.and_eq_true, beq_iff_eq] at hf
    simp only [List.all_cons, Bool.and_eq_true] at hn
    unfold eqFlds at h
    split at h
    · rename_i fe c d b' e1 e2 e3 e4
      split at h
      · rename_i e he
        simp only [Option.some.injEq] at h
        subst h
        obtain ⟨x, hx, cx⟩ := CsSim.nth hc e2
        obtain ⟨y, hy, cy⟩ := CsSim.nth hd e3
        obtain ⟨hagg, hr⟩ := eqCell_sound n hT e1 cx cy he
        obtain ⟨i, dd, z, ff⟩ := teFacts (tabOk_look hT e1)
        rw [hf.1.1] at hx hy
        rw [hf.1.2] at hr ff
        have hx' : xs[f.offset]? = some x := by simpa using hx
        have hy' : ys[f.offset]? = some y := by simpa using hy
        have px : (part f.type xs f.offset).run P w = .ok x w := by simp [part, run_isAgg ff, hagg, hx']
        have py : (part f.type ys f.offset).run P w = .ok y w := by simp [part, run_isAgg ff, hagg, hy']
        have hnm : (f.name ≠ "_") := by simpa using hn.1
        simp only [Op.eqFields, hnm, ne_eq, not_false_eq_true, if_true, Sem.run_bind, px, py, hr, Result.andThen_ok]
        cases e
        · simp
        · simpa using eqFlds_sound n hT hc hd ps fs b' hf.2 hn.2 e4 w
      · simp at h
    · simp at h

theorem sound_binOp {op : BinOp} {t z : TypeId} {x y : Operand} (ho : o.op = .binOp op t x y z) (hT : tabOk P T = true) (hs : Sit S st a w Z L) (hg : FinV P o a w Z L st K R) (h : opW T C G o st K) : R := by
  have fin : ∀ (v : Value) (c : Cell), (∀ w, (binOp op t (a.eval x) (a.eval y)).run P w = .ok v w) → CSim w Z L c v → K (st.putO o.dst (.one c)) →
      ((∀ cs, a.eval x ≠ .agg cs) ∧ (a.eval x ≠ .nilIface ∨ a.eval y ≠ .nilIface ∨ ∃ c, y = .const c)) → R :=
    fun v c hr hc hk hgd => hg.value (fun w => exec_binOp ho hgd (hr w)) (e := .one c) hc hk
  have finB : ∀ (b : Bool), (∀ w, (binOp op t (a.eval x) (a.eval y)).run P w = .ok (.bool b) w) → K (st.putO o.dst (.one (.bool b))) →
      ((∀ cs, a.eval x ≠ .agg cs) ∧ (a.eval x ≠ .nilIface ∨ a.eval y ≠ .nilIface ∨ ∃ c, y = .const c)) → R :=
    fun b hr hk hgd => fin (.bool b) (.bool b) hr rfl hk hgd
  have plain : ∀ (c d : Cell), st.ev x = .one c → st.ev y = .one d → binW op (.one c) (.one d) (fun c => K (st.putO o.dst (.one c))) →
      (∀ b b', c = .bool b → d = .bool b' → P.underlying t = some .bool) → (c = .nils → False) → (∀ b, c ≠ .ifc b) → R := by
    intro c d hx hy hb hbool hnil hifc
    have cx := ev_one hs hx
    have cy := ev_one hs hy
    unfold binW at hb
    split at hb
    · rename_i k p l q e1 e2
      simp only [Ent.one.injEq] at e1 e2
      subst e1; subst e2
      simp only [CSim] at cx cy
      have hgd : (∀ cs, a.eval x ≠ .agg cs) ∧ (a.eval x ≠ .nilIface ∨ a.eval y ≠ .nilIface ∨ ∃ c, y = .const c) := by rw [cx]; simp
      have use : (k = l ∨ op = .shl ∨ op = .shr) → arith op k p q (fun c => K (st.putO o.dst (.one c))) → R := by
        intro hkl ha
        obtain ⟨c, v, hk, hc, hr⟩ := arith_sound (P := P) (w := w) (Z := Z) (L := L) t hkl ha
        exact fin v c (by rw [cx, cy]; exact hr) hc hk hgd
      split at hb
      · exact use (.inr (.inl rfl)) hb
      · exact use (.inr (.inr rfl)) hb
      · split at hb
        · rename_i hkl; exact use (.inl hkl) hb
        · exact hb.elim
    · rename_i p q e1 e2
      simp only [Ent.one.injEq] at e1 e2
      subst e1; subst e2
      simp only [CSim] at cx cy
      have hgd : (∀ cs, a.eval x ≠ .agg cs) ∧ (a.eval x ≠ .nilIface ∨ a.eval y ≠ .nilIface ∨ ∃ c, y = .const c) := by rw [cx]; simp
      have hu := hbool p q rfl rfl
      split at hb
      · exact finB _ (by intro w; rw [cx, cy]; exact run_eql_bool w t p q hu) hb hgd
      · exact finB _ (by intro w; rw [cx, cy]; exact run_neq_bool w t p q hu) hb hgd
      · exact hb.elim
    · rename_i p q e1 e2
      simp only [Ent.one.injEq] at e1 e2
      subst e1; subst e2
      simp only [CSim] at cx cy
      obtain ⟨c, v, hk, hc, hr⟩ := strOp_sound (P := P) (w := w) (Z := Z) (L := L) t hb
      exact fin v c (by rw [cx, cy]; exact hr) hc hk (by rw [cx]; simp)
    · rename_i e1 e2
      simp only [Ent.one.injEq] at e1 e2
      exact (hnil e1).elim
    · rename_i p e1 e2
      simp only [Ent.one.injEq] at e1 e2
      exact absurd e1 (hifc p)
    · exact hb.elim
  simp only [opW, ho] at h
  split at h
  · rename_i te hte
    obtain ⟨d, hd, hkd⟩ := under_of (d := .bool) hT hte
    split at h
    · rename_i hx hy
      split at h
      · rename_i hk
        have hd' := kind_slice hkd hk
        subst hd'
        have cx : a.eval x = .slice none 0 0 := ev_one hs hx
        have cy : a.eval y = .slice none 0 0 := ev_one hs hy
        have hgd : (∀ cs, a.eval x ≠ .agg cs) ∧ (a.eval x ≠ .nilIface ∨ a.eval y ≠ .nilIface ∨ ∃ c, y = .const c) := by rw [cx]; simp
        simp only [binW] at h
        split at h
        · exact finB _ (by intro w; rw [cx, cy]; simp only [binOp]; simp [equal_slice_nil w t te.elem none 0 0 hd]) h hgd
        · exact finB _ (by intro w; rw [cx, cy]; simp only [binOp]; simp [equal_slice_nil w t te.elem none 0 0 hd]) h hgd
        · exact h.elim
      · exact h.elim
    · rename_i c _ hx hy
      split at h
      · rename_i m hk hl
        have hd' := kind_slice hkd hk
        subst hd'
        obtain ⟨ad, n, cap, cx, hn, had⟩ := lenOf_len hs (ev_one hs hx) hl
        have cy : a.eval y = .slice none 0 0 := ev_one hs hy
        have hgd : (∀ cs, a.eval x ≠ .agg cs) ∧ (a.eval x ≠ .nilIface ∨ a.eval y ≠ .nilIface ∨ ∃ c, y = .const c) := by rw [cx]; simp
        have hb : ad.isNone = true → m = 0 := fun e => had (by simpa using e)
        unfold nilW at h
        split at h
        · exact finB _ (by intro w; rw [cx, cy]; simp only [binOp]; simp [equal_slice_nil w t te.elem ad n cap hd]) (h ad.isNone hb) hgd
        · exact finB _ (by intro w; rw [cx, cy]; simp only [binOp]; simp [equal_slice_nil w t te.elem ad n cap hd]) (h ad.isNone hb) hgd
        · exact h.elim
      · exact h.elim
    · rename_i p q hx hy
      split at h
      · rename_i hk
        have hd' := kind_bool hkd hk
        subst hd'
        exact plain _ _ hx hy h (fun _ _ _ _ => hd) (by simp) (by simp)
      · exact h.elim
    · rename_i hx hy
      split at h
      · rename_i hk
        obtain ⟨ep, hd'⟩ := kind_pointer hkd hk
        subst hd'
        have cx : a.eval x = .pointer none := ev_one hs hx
        have cy : a.eval y = .pointer none := ev_one hs hy
        have hgd : (∀ cs, a.eval x ≠ .agg cs) ∧ (a.eval x ≠ .nilIface ∨ a.eval y ≠ .nilIface ∨ ∃ c, y = .const c) := by rw [cx]; simp
        have he : ∀ w, (Op.equal t (.pointer none) (.pointer none)).run P w = .ok true w := fun w => equalIn_pointer_nil w t ep 9999 hd
        simp only [binW] at h
        split at h
        · exact finB _ (by intro w; rw [cx, cy]; simp only [binOp]; simp [he]) h hgd
        · exact finB _ (by intro w; rw [cx, cy]; simp only [binOp]; simp [he]) h hgd
        · exact h.elim
      · exact h.elim
    · rename_i p q hx hy
      split at h
      · rename_i b cv hk
        obtain ⟨ms, hd'⟩ := kind_iface hkd hk
        subst hd'
        have cx := ev_one hs hx
        have cy := ev_one hs hy
        unfold binW at h
        split at h
        · rename_i e1 e2; simp at e1
        · rename_i e1 e2; simp at e1
        · rename_i e1 e2; simp at e1
        · rename_i e1 e2; simp at e1
        · rename_i p' e1 e2
          simp only [Ent.one.injEq, Cell.ifc.injEq] at e1 e2
          subst e1; subst e2
          have cy' : a.eval (.const cv) = .nilIface := cy.1 rfl
          have hr := fun w => run_eql_iface_nil (P := P) w 9999 t ms (a.eval x) p hd cx.1 cx.2
          have hgd : (∀ cs, a.eval x ≠ .agg cs) ∧ (a.eval x ≠ .nilIface ∨ a.eval (.const cv) ≠ .nilIface ∨ ∃ c, (.const cv : Operand) = .const c) := by
            refine ⟨fun cs e => ?_, .inr (.inr ⟨cv, rfl⟩)⟩
            cases p
            · obtain ⟨u, x', e'⟩ := cx.2 rfl; rw [e'] at e; simp at e
            · rw [cx.1 rfl] at e; simp at e
          have hb : ∀ op', op' = .eql ∨ op' = .neq → ∀ w, (binOp op' t (a.eval x) .nilIface).run P w = .ok (.bool (if op' = .eql then p else !p)) w := by
            intro op' hop w
            cases p
            · obtain ⟨u, x', e'⟩ := cx.2 rfl
              rw [e'] at hr ⊢
              rcases hop with rfl | rfl <;> simp only [binOp] <;> simp [show Op.equal t (.iface u x') .nilIface = Op.equalIn (9999 + 1) t (.iface u x') .nilIface from rfl, hr]
            · rw [cx.1 rfl] at hr ⊢
              rcases hop with rfl | rfl <;> simp only [binOp] <;> simp [show Op.equal t .nilIface .nilIface = Op.equalIn (9999 + 1) t .nilIface .nilIface from rfl, hr]
          split at h
          · exact finB _ (by intro w; rw [cy']; simpa using hb _ (.inl rfl) w) h hgd
          · exact finB _ (by intro w; rw [cy']; simpa using hb _ (.inr rfl) w) h hgd
          · exact h.elim
        · exact h.elim
      · exact h.elim
    · rename_i cs ds hx hy
      split at h
      · rename_i b hk heq hfl
        obtain ⟨i, dd, z, ff⟩ := teFacts (tabOk_look hT hte)
        obtain ⟨fs, hd', hfe, _⟩ := kind_struct ff.kind hk
        subst hd'
        have hok := ff.eq heq
        simp only [eqOk, plainNames, Bool.and_eq_true, Bool.not_eq_true'] at hok
        obtain ⟨ho1, ho2, ho3⟩ := hok
        have ex := hs.ev x
        have ey := hs.ev y
        rw [hx] at ex
        rw [hy] at ey
        obtain ⟨xs, ex1, ex2⟩ := ex
        obtain ⟨ys, ey1, ey2⟩ := ey
        have hfo : P.fieldsOf t = fs := by simp [Program.fieldsOf, ff.under]
        have hu : P.underlying t = some (.struct (P.fieldsOf t)) := by rw [hfo]; exact ff.under
        have heqr : ∀ w, (Op.equalIn 10000 t (.agg xs) (.agg ys)).run P w = .ok b w := fun w => by
          rw [run_equalIn_agg w 9999 t xs ys hu ho1, hfo]
          exact eqFlds_sound 9998 hT ex2 ey2 _ _ b hfe ho3 hfl w
        have fin' : ∀ (b' : Bool), (∀ w, (binOp op t (.agg xs) (.agg ys)).run P w = .ok (.bool b') w) → K (st.putO o.dst (.one (.bool b'))) → R := fun b' hr hk' =>
          hg.value (v := .bool b') (e := .one (.bool b')) (fun w => by
            unfold execOp
            simp only [ho, Sem.run_bind, ex1, ey1, run_eqGuard_agg w op t x y xs ys ho2, Result.andThen_ok, hr, Sem.run_pure]) rfl hk'
        split at h
        · exact fin' _ (fun w => by rw [run_eql_struct, heqr]; rfl) h
        · exact fin' _ (fun w => by rw [run_neq_struct, heqr]; rfl) h
        · exact h.elim
      · exact h.elim
    · rename_i n1 n2 n3 n4 n5 n6
      have : ∃ c d, st.ev x = .one c ∧ st.ev y = .one d := by
        unfold binW at h
        split at h
        · rename_i e1 e2; exact ⟨_, _, e1, e2⟩
        · rename_i e1 e2; exact ⟨_, _, e1, e2⟩
        · rename_i e1 e2; exact ⟨_, _, e1, e2⟩
        · rename_i e1 e2; exact ⟨_, _, e1, e2⟩
        · rename_i e1 e2; exact ⟨_, _, e1, e2⟩
        · exact h.elim
      obtain ⟨c, d', hx, hy⟩ := this
      rw [hx, hy] at h
      refine plain c d' hx hy h (fun b b' e1 e2 => ?_) (fun e1 => ?_) (fun b e1 => ?_)
      · subst e1; subst e2; exact absurd hy (n3 b b' hx)
      · subst e1
        unfold binW at h
        split at h <;> simp_all
      · subst e1
        unfold binW at h
        split at h <;> simp_all
  · split at h
    · rename_i hx hy
      exact plain _ _ hx hy h (by simp) (by simp) (by simp)
    · rename_i hx hy
      exact plain _ _ hx hy h (by simp) (by simp) (by simp)
    · exact h.elim
end
end Go.Ry
