/- Ends of branches and loops. No condition. -/
import Derived.Test.YtopchiaiefkehaaGreatPCost1
set_option linter.unusedVariables false
set_option linter.unusedSimpArgs false
namespace Go.Ry
open Go.Proofs

def matchL : List Ins → Nat → Nat → Nat → Nat × Nat × Bool
  | [], _, _, _ => (0, 0, false)
  | x :: l, d, i, oth => if x.1 = 21 ∨ x.1 = 24 then matchL l (d + 1) (i + 1) oth
    else if x.1 = 22 then matchL l d (i + 1) (if d = 0 then i else oth)
    else if x.1 = 23 then (if d = 0 then (oth, i, true) else matchL l (d - 1) (i + 1) oth)
    else matchL l d (i + 1) oth
theorem matchL_cons {x : Ins} {l : List Ins} {d i oth : Nat} : matchL (x :: l) d i oth = if x.1 = 21 ∨ x.1 = 24 then matchL l (d + 1) (i + 1) oth
    else if x.1 = 22 then matchL l d (i + 1) (if d = 0 then i else oth)
    else if x.1 = 23 then (if d = 0 then (oth, i, true) else matchL l (d - 1) (i + 1) oth)
    else matchL l d (i + 1) oth := rfl
def matchM (code : List Ins) (i : Nat) : Nat × Nat × Bool := matchL (code.drop (i + 1)) 0 (i + 1) 0
theorem matchL_append {t : List Ins} : ∀ {l : List Ins} {d i oth o e : Nat}, matchL l d i oth = (o, e, true) → matchL (l ++ t) d i oth = (o, e, true)
  | [], _, _, _, _, _, h => by simp [matchL] at h
  | x :: l, d, i, oth, o, e, h => by
    rw [List.cons_append, matchL_cons]
    rw [matchL_cons] at h
    split at h
    · rename_i h1; rw [if_pos h1]; exact matchL_append h
    split at h
    · rename_i h1 h2; rw [if_neg h1, if_pos h2]; exact matchL_append h
    split at h
    · rename_i h1 h2 h3
      rw [if_neg h1, if_neg h2, if_pos h3]
      split at h
      · rename_i h4; rw [if_pos h4]; exact h
      · rename_i h4; rw [if_neg h4]; exact matchL_append h
    · rename_i h1 h2 h3
      rw [if_neg h1, if_neg h2, if_neg h3]; exact matchL_append h
theorem matchL_spec : ∀ {l : List Ins} {d e i oth : Nat}, bal l (d + 1 + e) → ∃ (a b : List Ins) (x : Ins) (o : Nat), l = a ++ x :: b ∧ x.1 = 23 ∧ bal a d ∧ bal b e ∧ matchL l d i oth = (o, i + a.length, true) ∧
    (o = oth ∨ ∃ (a1 a2 : List Ins) (y : Ins), a = a1 ++ y :: a2 ∧ o = i + a1.length ∧ y.1 = 22 ∧ bal a1 d ∧ bal a2 0)
  | [], d, e, i, oth, h => by
    have : d + 1 + e = 0 := h
    omega
  | x :: l, d, e, i, oth, h => by
    rw [bal_cons] at h
    rw [matchL_cons]
    split at h
    · rename_i h1
      rw [if_pos h1]
      obtain ⟨a, b, y, o, rfl, k2, k3, k4, k5, k6⟩ := matchL_spec (d := d + 1) (e := e) (i := i + 1) (oth := oth) (l := l) (by rw [show d + 1 + 1 + e = d + 1 + e + 1 by omega]; exact h)
      refine ⟨x :: a, b, y, o, rfl, k2, by rw [bal_cons, if_pos h1]; exact k3, k4, by rw [k5]; simp; omega, ?_⟩
      rcases k6 with k6 | ⟨a1, a2, z, rfl, rfl, q3, q4, q5⟩
      · exact .inl k6
      · exact .inr ⟨x :: a1, a2, z, rfl, by simp; omega, q3, by rw [bal_cons, if_pos h1]; exact q4, q5⟩
    rename_i h1
    rw [if_neg h1]
    split at h
    · rename_i h3
      rw [if_neg (by omega), if_pos h3]
      obtain ⟨_, h⟩ := h
      by_cases hd : d = 0
      · subst hd
        rw [if_pos rfl]
        refine ⟨[], l, x, oth, rfl, h3, rfl, by rw [show 0 + 1 + e - 1 = e by omega] at h; exact h, by simp, .inl rfl⟩
      · rw [if_neg hd]
        obtain ⟨a, b, y, o, rfl, k2, k3, k4, k5, k6⟩ := matchL_spec (d := d - 1) (e := e) (i := i + 1) (oth := oth) (l := l) (by rw [show d - 1 + 1 + e = d + 1 + e - 1 by omega]; exact h)
        refine ⟨x :: a, b, y, o, rfl, k2, by rw [bal_cons, if_neg h1, if_pos h3]; exact ⟨by omega, k3⟩, k4, by rw [k5]; simp; omega, ?_⟩
        rcases k6 with k6 | ⟨a1, a2, z, rfl, rfl, q3, q4, q5⟩
        · exact .inl k6
        · exact .inr ⟨x :: a1, a2, z, rfl, by simp; omega, q3, by rw [bal_cons, if_neg h1, if_pos h3]; exact ⟨by omega, q4⟩, q5⟩
    · rename_i h3
      by_cases h2 : x.1 = 22
      · rw [if_pos h2]
        obtain ⟨a, b, y, o, rfl, k2, k3, k4, k5, k6⟩ := matchL_spec (d := d) (e := e) (i := i + 1) (oth := if d = 0 then i else oth) (l := l) h
        refine ⟨x :: a, b, y, o, rfl, k2, by rw [bal_cons, if_neg h1, if_neg h3]; exact k3, k4, by rw [k5]; simp; omega, ?_⟩
        rcases k6 with k6 | ⟨a1, a2, z, rfl, rfl, q3, q4, q5⟩
        · by_cases hd : d = 0
          · rw [if_pos hd] at k6
            exact .inr ⟨[], a, x, rfl, by simpa using k6, h2, hd, hd ▸ k3⟩
          · rw [if_neg hd] at k6
            exact .inl k6
        · exact .inr ⟨x :: a1, a2, z, rfl, by simp; omega, q3, by rw [bal_cons, if_neg h1, if_neg h3]; exact q4, q5⟩
      · rw [if_neg h2, if_neg h3]
        obtain ⟨a, b, y, o, rfl, k2, k3, k4, k5, k6⟩ := matchL_spec (d := d) (e := e) (i := i + 1) (oth := oth) (l := l) h
        refine ⟨x :: a, b, y, o, rfl, k2, by rw [bal_cons, if_neg h1, if_neg h3]; exact k3, k4, by rw [k5]; simp; omega, ?_⟩
        rcases k6 with k6 | ⟨a1, a2, z, rfl, rfl, q3, q4, q5⟩
        · exact .inl k6
        · exact .inr ⟨x :: a1, a2, z, rfl, by simp; omega, q3, by rw [bal_cons, if_neg h1, if_neg h3]; exact q4, q5⟩

/-- A part of a code all of whose branches and loops are closed in it. -/
structure Seg (code : List Ins) (i to : Nat) : Prop where
  le : i ≤ to
  len : to ≤ code.length
  bal : bal ((code.drop i).take (to - i)) 0
abbrev insAt (code : List Ins) (i : Nat) : Ins := code.getD i ((0 : Int), ((0 : Int), ()))
theorem seg_cons {code : List Ins} {i to : Nat} (h : i < to) (hl : to ≤ code.length) : (code.drop i).take (to - i) = insAt code i :: (code.drop (i + 1)).take (to - (i + 1)) := by
  rw [drop_getD (by omega) ((0 : Int), ((0 : Int), ())), show to - i = to - (i + 1) + 1 by omega, List.take_succ_cons]
theorem Seg.step {code : List Ins} {i to : Nat} (h : Seg code i to) (hlt : i < to) (h1 : (insAt code i).1 ≠ 21) (h2 : (insAt code i).1 ≠ 24) : Seg code (i + 1) to ∧ (insAt code i).1 ≠ 23 := by
  have hb := h.bal
  rw [seg_cons hlt h.len, bal_cons, if_neg (by omega)] at hb
  split at hb
  · omega
  · rename_i h3; exact ⟨⟨by omega, h.len, hb⟩, h3⟩
/-- What is found at a branch or a loop. -/
structure Met (code : List Ins) (i to o e : Nat) : Prop where
  m : matchM code i = (o, e, true)
  lt : i < e
  hi : e < to
  body : Seg code (i + 1) e
  rest : Seg code (e + 1) to
  oth : o = 0 ∨ (i < o ∧ o < e ∧ Seg code (i + 1) o ∧ Seg code (o + 1) e)
  other : 0 < o → (insAt code o).1 = 22
  fin : (insAt code e).1 = 23
theorem take_drop_part {α : Type} {l a b : List α} {x : α} (i n : Nat) (h : (l.drop i).take n = a ++ x :: b) :
    (l.drop i).take a.length = a ∧ (l.drop (i + a.length + 1)).take (n - (a.length + 1)) = b ∧ a.length < n ∧ l[i + a.length]? = some x := by
  have hlen : a.length + 1 + b.length ≤ n := by
    have := congrArg List.length h
    simp at this; omega
  refine ⟨?_, ?_, by omega, ?_⟩
  · have := congrArg (List.take a.length) h
    rw [List.take_take, Nat.min_eq_left (by omega), List.take_left' rfl] at this
    exact this
  · have := congrArg (List.drop (a.length + 1)) h
    rw [List.drop_take, List.drop_drop] at this
    rw [Nat.add_assoc, this]
    have : a ++ x :: b = (a ++ [x]) ++ b := by simp
    rw [this, List.drop_left' (by simp)]
  · have : ((l.drop i).take n)[a.length]? = (a ++ x :: b)[a.length]? := by rw [h]
    rw [List.getElem?_take_of_lt (by omega), List.getElem?_drop] at this
    rw [this]
    simp
theorem Seg.meet {code : List Ins} {i to : Nat} (h : Seg code i to) (hlt : i < to) (h1 : (insAt code i).1 = 21 ∨ (insAt code i).1 = 24) : ∃ o e, Met code i to o e := by
  have hb := h.bal
  have hl := h.len
  rw [seg_cons hlt h.len, bal_cons, if_pos h1] at hb
  obtain ⟨a, b, x, o, hab, k2, k3, k4, k5, k6⟩ := matchL_spec (d := 0) (e := 0) (i := i + 1) (oth := 0) hb
  obtain ⟨t1, t2, t3, t4⟩ := take_drop_part _ _ hab
  have hm : matchM code i = (o, i + 1 + a.length, true) := by
    unfold matchM
    have e : code.drop (i + 1) = (code.drop (i + 1)).take (to - (i + 1)) ++ (code.drop (i + 1)).drop (to - (i + 1)) := (List.take_append_drop _ _).symm
    rw [e]
    exact matchL_append k5
  have hat : ∀ k y, code[k]? = some y → insAt code k = y := fun k y hk => by unfold insAt; rw [List.getD_eq_getElem?_getD, hk]; rfl
  refine ⟨o, i + 1 + a.length, hm, by omega, by omega, ⟨by omega, by omega, ?_⟩, ⟨by omega, hl, ?_⟩, ?_, ?_, ?_⟩
  · rw [show i + 1 + a.length - (i + 1) = a.length by omega, t1]; exact k3
  · rw [show to - (i + 1 + a.length + 1) = to - (i + 1) - (a.length + 1) by omega, t2]; exact k4
  · rcases k6 with k6 | ⟨a1, a2, z, ha, ho, q3, q4, q5⟩
    · exact .inl k6
    · right
      rw [ha] at t1
      have hal : a.length = a1.length + 1 + a2.length := by rw [ha]; simp; omega
      rw [← ha] at t1
      obtain ⟨u1, u2, u3, u4⟩ := take_drop_part (l := code) (a := a1) (b := a2) (x := z) (i + 1) a.length (by rw [t1, ha])
      subst ho
      refine ⟨by omega, by omega, ⟨by omega, by omega, ?_⟩, ⟨by omega, by omega, ?_⟩⟩
      · rw [show i + 1 + a1.length - (i + 1) = a1.length by omega, u1]; exact q4
      · rw [show i + 1 + a.length - (i + 1 + a1.length + 1) = a.length - (a1.length + 1) by omega, u2]; exact q5
  · intro ho
    rcases k6 with k6 | ⟨a1, a2, z, ha, ho, q3, q4, q5⟩
    · omega
    · have hal : a.length = a1.length + 1 + a2.length := by rw [ha]; simp; omega
      obtain ⟨u1, u2, u3, u4⟩ := take_drop_part (l := code) (a := a1) (b := a2) (x := z) (i + 1) a.length (by rw [t1, ha])
      rw [ho, hat _ _ u4]; exact q3
  · rw [hat _ _ t4]; exact k2

/-! ### the functions -/
@[reducible] def matchE (m : Nat × Nat × Bool) : Ent := .tup [(false, [cI (m.1 : Int)]), (false, [cI (m.2.1 : Int)]), (false, [.bool m.2.2])]
theorem c_spec_l04Match (code : List Ins) (i : Nat) (hl : code.length ≤ 1048576) (hi : i < code.length) : TT n_spec_l04Match [.one (.sl tIns code), eI i] [] (matchE (matchM code i)) [] := by
  refine r_spec_l04Match code i ⟨fun m d o k => ∃ d' o' k' : Nat, d = d' ∧ o = o' ∧ k = k' ∧ k' ≤ code.length ∧ d' ≤ k' ∧ m = code.length - k' ∧ matchL (code.drop k') d' k' o' = matchM code i,
    ⟨_, rfl, 0, 0, i + 1, rfl, rfl, by rw [w64 (by omega)]; rfl, by omega, by omega, rfl, rfl⟩, ?_⟩
  rintro m d o k ⟨d', o', k', rfl, rfl, rfl, hk, hd, rfl, hv⟩
  refine ifP (fun hlt => ⟨by omega, ?_⟩) (fun hge => ?_)
  · have hlt : k' < code.length := by omega
    rw [drop_getD hlt ((0 : Int), ((0 : Int), ())), matchL_cons] at hv
    rw [Int.toNat_natCast]
    revert hv
    generalize code.getD k' ((0 : Int), ((0 : Int), ())) = x
    intro hv
    refine ⟨fun d o k op b => d = d' ∧ o = o' ∧ k = k' ∧ op = x.1 ∧ b = decide (x.1 = 21 ∨ x.1 = 24), ?_, ?_⟩
    · refine ifE (fun h1 => ⟨rfl, rfl, rfl, rfl, rfl, by simp [h1]⟩) (fun h1 => ⟨rfl, rfl, rfl, rfl, rfl, ?_⟩)
      by_cases h2 : x.1 = 24 <;> simp [h1, h2]
    rintro d o k op b ⟨rfl, rfl, rfl, rfl, rfl⟩
    rw [w64 (by omega), w64 (by omega)]
    refine ifP (fun h1 => ?_) (fun h1 => ?_)
    · rw [if_pos h1] at hv
      exact ⟨_, by omega, rfl, d' + 1, o', k' + 1, by omega, rfl, by omega, by omega, by omega, rfl, hv⟩
    rw [if_neg h1] at hv
    refine ifE (fun h2 => ?_) (fun h2 => ?_)
    · rw [if_pos h2] at hv
      refine ifE (fun h3 => ?_) (fun h3 => ?_)
      · rw [if_pos (by omega)] at hv
        exact ⟨_, by omega, rfl, d', k', k' + 1, rfl, rfl, by omega, by omega, by omega, rfl, hv⟩
      · rw [if_neg (by omega)] at hv
        exact ⟨_, by omega, rfl, d', o', k' + 1, rfl, rfl, by omega, by omega, by omega, rfl, hv⟩
    rw [if_neg h2] at hv
    refine ifE (fun h3 => ?_) (fun h3 => ?_)
    · rw [if_pos h3] at hv
      refine ifE (fun h4 => ?_) (fun h4 => ?_)
      · rw [if_pos (by omega)] at hv
        rw [← hv]; exact ⟨rfl, rfl⟩
      · rw [if_neg (by omega)] at hv
        rw [w64 (by omega)]
        exact ⟨_, by omega, rfl, d' - 1, o', k' + 1, by omega, rfl, by omega, by omega, by omega, rfl, hv⟩
    · rw [if_neg h3] at hv
      exact ⟨_, by omega, rfl, d', o', k' + 1, rfl, rfl, by omega, by omega, by omega, rfl, hv⟩
  · rw [List.drop_eq_nil_of_le (by omega)] at hv
    rw [← hv]; exact ⟨rfl, rfl⟩
end Go.Ry
