/- Sorting, striking of doubles, copies of texts: from the kit's contracts to what the evaluator is told. No condition. -/
import Derived.Test.YtlfapnlaalnbjaaPNum1
import Derived.Test.YtlfapnlaalnbjaaPExt
import Derived.Test.YtlfapnlaalnbjaaShelf
import Derived.Sort.OwnSortedInts
import Derived.Lib.SlicesCompact
import Derived.Lib.RowBridge
set_option linter.unusedVariables false
set_option linter.unusedSimpArgs false
namespace Go.Ry
open Go.Proofs Go.Sort

theorem ints_of_rd {w : World} {Z : Nat → Prop} {xs : List Int} {es : List Value} (h : RowRd w Z (.int .i64) xs es) (hl : es.length = xs.length * 1) : es = xs.map (Value.int .i64) := by
  apply List.ext_getElem?
  intro i
  by_cases hi : i < xs.length
  · have := h i xs[i] (List.getElem?_eq_getElem hi)
    simp only [Ty.size, Nat.mul_one] at this
    rw [List.drop_eq_getElem_cons (by omega), List.take_succ_cons, List.take_zero] at this
    have e : [es[i]] = [Value.int .i64 xs[i]] := this
    rw [List.getElem?_eq_getElem (by omega), List.getElem?_map, List.getElem?_eq_getElem hi]
    exact congrArg some (List.cons.inj e).1
  · rw [List.getElem?_eq_none (by omega), List.getElem?_eq_none (by rw [List.length_map]; omega)]
theorem rd_of_ints {w : World} {Z : Nat → Prop} (ys : List Int) : RowRd w Z (.int .i64) ys (ys.map (Value.int .i64)) := by
  intro i x hx
  have hi : i < ys.length := (List.getElem?_eq_some_iff.1 hx).1
  show _ = [Value.int .i64 x]
  simp only [Ty.size, Nat.mul_one]
  rw [List.drop_eq_getElem_cons (by simpa using hi), List.take_succ_cons, List.take_zero, List.getElem_map, (List.getElem?_eq_some_iff.1 hx).2]
/-- A row whose cells were written anew. -/
theorem row_out {w w' : World} {Z : Nat → Prop} {g cap : Nat} {e : TypeId} {xs ys : List Int} {r : Ent} {rv : Value}
    (hs : Sims w Z [.row (.slice (some ⟨g, 0, none⟩) xs.length cap) (Ty.size (.int .i64)) (LN.of xs.length)] [.row e (.int .i64) xs]) (hg : w.grownBy w' (some g)) (hl : ys.length = xs.length)
    (ho : w'.ownsRow 0 e 1 (.slice (some ⟨g, 0, none⟩) xs.length cap) xs.length (ys.map (Value.int .i64))) (he : ESim w' Z [.row (.slice (some ⟨g, 0, none⟩) xs.length cap) (Ty.size (.int .i64)) (LN.of xs.length)] r rv) :
    ∃ Z' L', Sims w' Z' L' [.row e (.int .i64) ys] ∧ ESim w' Z' L' r rv ∧ Grows [.row (.slice (some ⟨g, 0, none⟩) xs.length cap) (Ty.size (.int .i64)) (LN.of xs.length)] L' ∧ Keeps w (feet [.row e (.int .i64) xs] [.row (.slice (some ⟨g, 0, none⟩) xs.length cap) (Ty.size (.int .i64)) (LN.of xs.length)]) w' ∧ (∀ b, Z b → Z' b) ∧
      (∀ b, Z' b → Z b ∨ w.heap.size ≤ b ∨ ∀ q, feet [.row e (.int .i64) xs] [.row (.slice (some ⟨g, 0, none⟩) xs.length cap) (Ty.size (.int .i64)) (LN.of xs.length)] b q) ∧
      (∀ (i : Nat) (o : Ob) (l : Loc), ([Ob.row e (.int .i64) ys] : List Ob)[i]? = some o → L'[i]? = some l → ∀ b q, foot o l b q → w.heap.size ≤ b ∨ feet [.row e (.int .i64) xs] [.row (.slice (some ⟨g, 0, none⟩) xs.length cap) (Ty.size (.int .i64)) (LN.of xs.length)] b q) := by
  have hz : ∀ b, Z b → b ≠ g := fun b hb e => hs.zap 0 _ _ rfl rfl b 0 (by subst e; rfl) hb
  have hsame : ∀ b, Z b → w'.heap[b]? = w.heap[b]? := fun b hb => hg.block b (hs.zin b hb) (fun e => hz b hb (Option.some.inj e))
  have h1 : ∀ (i : Nat) (o : Ob) (l : Loc), ([Ob.row e (.int .i64) ys] : List Ob)[i]? = some o → ([.row (.slice (some ⟨g, 0, none⟩) xs.length cap) (Ty.size (.int .i64)) (LN.of xs.length)] : List Loc)[i]? = some l → o = .row e (.int .i64) ys ∧ l = .row (.slice (some ⟨g, 0, none⟩) xs.length cap) (Ty.size (.int .i64)) (LN.of xs.length) ∧ i = 0 := by
    intro i o l h1 h2
    cases i with
    | zero => exact ⟨(Option.some.inj h1).symm, (Option.some.inj h2).symm, rfl⟩
    | succ i => simp at h1
  refine ⟨Z, _, ⟨rfl, ?_, ?_, ?_, fun b hb => Nat.lt_of_lt_of_le (hs.zin b hb) hg.size, hs.tab.mono hsame fun _ h => h⟩, he, Grows.refl _, ⟨hg.os, hg.tape, hg.output, hg.size, fun b hb => ?_⟩, fun _ h => h, fun _ h => .inl h, ?_⟩
  · intro i o l ho' hl'
    obtain ⟨rfl, rfl, rfl⟩ := h1 i o l ho' hl'
    exact ⟨_, _, by rw [hl], by decide, by rw [hl]; exact ho, rd_of_ints ys⟩
  · intro i j o l o' l' a b c d hne
    exact absurd ((h1 i o l a b).2.2.trans (h1 j o' l' c d).2.2.symm) hne
  · intro i o l ho' hl' b q hf hb
    obtain ⟨rfl, rfl, rfl⟩ := h1 i o l ho' hl'
    exact hz b hb (Option.some.inj hf).symm
  · by_cases e : b = g
    · subst e
      exact .inr (.inr fun o => ⟨0, _, _, rfl, rfl, rfl⟩)
    · exact .inl (hg.block b hb (fun h => e (Option.some.inj h)))
  · intro i o l ho' hl' b q hf
    obtain ⟨rfl, rfl, rfl⟩ := h1 i o l ho' hl'
    exact .inr ⟨0, _, _, rfl, rfl, hf⟩
def sortI (xs : List Int) : List Int := xs.mergeSort fun x y => decide (x ≤ y)
theorem sortI_len (xs : List Int) : (sortI xs).length = xs.length := List.length_mergeSort _
theorem row_arg {w : World} {Z : Nat → Prop} {L : List Loc} {vs : Array Value} {e : TypeId} {xs : List Int} (hs : Sims w Z L [.row e (.int .i64) xs]) (ha : EsSim w Z L [.one (.row 0)] vs.toList) :
    (vs = #[.slice none 0 0] ∧ xs = [] ∧ L = [.row (.slice none 0 0) 1 (LN.of 0)]) ∨ ∃ g cap cur, vs = #[.slice (some ⟨g, 0, none⟩) xs.length cap] ∧ L = [.row (.slice (some ⟨g, 0, none⟩) xs.length cap) (Ty.size (.int .i64)) (LN.of xs.length)] ∧ w.heap[g]? = some (.cells cur e (0, 0)) ∧ xs.length ≤ cap ∧ cap ≤ maxLen ∧ cur.size = cap * 1 ∧ cur.toList.take xs.length = xs.map (Value.int .i64) := by
  obtain ⟨v, rfl, hv⟩ := one_arg ha
  obtain ⟨l, rfl⟩ : ∃ l, L = [l] := by
    have := hs.len
    match L, this with
    | [l], _ => exact ⟨l, rfl⟩
  obtain ⟨u, es, rfl, h0, ho, hr⟩ := hs.ob 0 _ l rfl rfl
  obtain ⟨_, sz, n, hL⟩ := hv
  simp only [List.getElem?_cons_zero, Option.some.injEq, Loc.row.injEq] at hL
  obtain ⟨rfl, rfl, rfl⟩ := hL
  have hes := ints_of_rd hr ho.1
  rcases ho.2 with ⟨rfl, hx⟩ | ⟨g, cap, cur, rfl, hb, hg, hn, hm, hc, ht⟩
  · obtain rfl : xs = [] := List.eq_nil_of_length_eq_zero hx
    exact .inl ⟨rfl, rfl, rfl⟩
  · refine .inr ⟨g, cap, cur, rfl, rfl, hg, hn, hm, hc, ?_⟩
    rw [← hes, ← ht, show xs.length * Ty.size (.int .i64) = xs.length by simp [Ty.size]]
theorem c_Sort (xs : List Int) (hx : xs.length ≤ 1048576) : TT n_slices_Sort_int_int [.one (.row 0)] [.row t_int (.int .i64) xs] (.tup []) [.row t_int (.int .i64) (sortI xs)] := by
  intro w Z L vs hs ha
  refine does_enter Try.func51 (c := bodyOf Try.f51) (by kernel_rfl) (by kernel_rfl) ?_
  rcases row_arg hs ha with ⟨rfl, rfl, rfl⟩ | ⟨g, cap, cur, rfl, rfl, hb, h1, h2, h3, h4⟩
  · refine (Try.slices_Sort_int_none none 0 w).mono ?_
    rintro e w' ⟨rfl, rfl⟩
    have e0 : sortI [] = [] := by simp [sortI]
    rw [e0]
    exact kept_out (r := .tup []) hs (Keeps.refl _ _) ⟨#[], rfl, trivial⟩
  · have hg : g < w.heap.size := (Array.getElem?_eq_some_iff.1 hb).1
    refine (Try.slices_Sort_int g 0 cap xs w (holds_of_blockI hb h4) hg (by omega)).mono ?_
    rintro e w' ⟨rfl, n, os, rfl⟩
    exact row_out (ys := sortI xs) hs (grownBy_sortedI _) (sortI_len xs) (ownsRow_sortedI (sortI_len xs) (Nat.zero_le _) hb h1 h2 h3) ⟨#[], rfl, trivial⟩
def compI (xs : List Int) : List Int := Lib.compact xs ++ List.replicate (xs.length - (Lib.compact xs).length) 0
theorem compI_len (xs : List Int) : (compI xs).length = xs.length := by
  have := Lib.compact_length_le xs
  unfold compI
  rw [List.length_append, List.length_replicate]; omega
theorem compI_take (xs : List Int) : (compI xs).take (Lib.compact xs).length = Lib.compact xs := List.take_left
theorem c_Compact (xs : List Int) (hx : xs.length ≤ 1048576) : TT n_slices_Compact_int_int [.one (.row 0)] [.row t_int (.int .i64) xs] (.one (.win 0 0 (Lib.compact xs).length)) [.row t_int (.int .i64) (compI xs)] := by
  intro w Z L vs hs ha
  refine does_enter Try.func52 (c := bodyOf Try.f52) (by kernel_rfl) (by kernel_rfl) ?_
  rcases row_arg hs ha with ⟨rfl, rfl, rfl⟩ | ⟨g, cap, cur, rfl, rfl, hb, h1, h2, h3, h4⟩
  · refine (Try.slices_Compact_int_empty none 0 w).mono ?_
    rintro e w' ⟨rfl, rfl⟩
    exact kept_out hs (Keeps.refl _ _) ⟨_, _, _, rfl, .inl ⟨rfl, rfl, rfl, rfl⟩⟩
  · have hle := Lib.compact_length_le xs
    refine (Try.slices_Compact_int g 0 cap xs w (holds_of_blockI hb h4) (by omega) h1).mono ?_
    rintro e w' ⟨rfl, n, rfl⟩
    have hgr : w.grownBy (putRow (Value.int .i64) (Sort.ahead w n) g 0 (compI xs).toArray) (some g) := by
      have := grownBy_sortedI (w := w) (g := g) (n := n) (os := #[]) (compI xs).toArray
      rwa [grow_empty] at this
    have hor : (putRow (Value.int .i64) (Sort.ahead w n) g 0 (compI xs).toArray).ownsRow 0 t_int 1 (.slice (some ⟨g, 0, none⟩) xs.length cap) xs.length ((compI xs).map (Value.int .i64)) := by
      have := ownsRow_sortedI (w := w) (base := 0) (n := n) (os := #[]) (compI_len xs) (Nat.zero_le _) hb h1 h2 h3
      rwa [grow_empty] at this
    refine row_out (ys := compI xs) hs hgr (compI_len xs) hor ⟨_, _, _, rfl, .inr ⟨g, xs.length, cap, rfl, Nat.zero_le _, hle, h1, ?_⟩⟩
    by_cases hc : cap = 0
    · rw [if_pos hc]; simp
    · rw [if_neg hc]; simp
theorem c_Clone (s : ByteArray) (h : s.size ≤ 281474976710656) : TT n_internal_stringslite_Clone [eS s] [] (eS s) [] := by
  intro w Z L vs hs ha
  obtain ⟨v, rfl, hv⟩ := one_arg ha
  obtain rfl : v = .string s := hv
  refine does_enter Try.func42 (c := bodyOf Try.f42) (by kernel_rfl) (by kernel_rfl) ?_
  refine (Try.stringslite_Clone s w h).mono ?_
  rintro e w' ⟨rfl, hb⟩
  exact kept_out hs (keeps_below hb) rfl
end Go.Ry
