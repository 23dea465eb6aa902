/- The evaluator is right: code. No condition. -/
import Derived.Test.YtlphiljackccnaaRy33
set_option linter.unusedVariables false
set_option linter.unusedSimpArgs false
namespace Go.Ry

def Out.toExit : Out → Exit
  | .norm => .normal
  | .exit id => .exit id
  | .ret => .ret

section
variable {P : Program} {S : Start} {st : St} {a : Act} {w w' : World} {Z Z' : Nat → Prop} {L L' : List Loc} {T : Tab} {C : Calls_} {G : List (Nat × Sig)} {H : Hints} {Q : Exit → Act → World → Prop}

def GoesC (S : Start) (K : Out → St → Prop) (Q : Exit → Act → World → Prop) : Prop :=
  ∀ x st a w Z L, Sit S st a w Z L → K x st → Q x.toExit a w

theorem least {p : Nat → Prop} : ∀ (n : Nat), p n → ∃ m, p m ∧ ∀ k, p k → m ≤ k := by
  intro n
  induction n using Nat.strongRecOn with
  | _ n ih =>
    intro hp
    by_cases h : ∃ k, k < n ∧ p k
    · obtain ⟨k, h1, h2⟩ := h
      exact ih k h1 h2
    · refine ⟨n, hp, fun k hk => ?_⟩
      rcases Nat.lt_or_ge k n with hlt | hge
      · exact absurd ⟨k, hlt, hk⟩ h
      · exact hge

/-- Loops by a number that falls. -/
theorem wp_loop_n {c : Code} (I : Nat → Act → World → Prop) (m0 : Nat) (h0 : I m0 a w)
    (round : ∀ m a w, I m a w → c.wp P (Exit.then (fun a' w' => ∃ m', m' < m ∧ I m' a' w') Q) a w) : (Code.loop c).wp P Q a w := by
  have hμ : ∀ x : Act × World, ∃ m, (∃ n, I n x.1 x.2) → I m x.1 x.2 ∧ ∀ k, I k x.1 x.2 → m ≤ k := by
    intro x
    by_cases h : ∃ n, I n x.1 x.2
    · obtain ⟨n, hn⟩ := h
      obtain ⟨m, h1, h2⟩ := least (p := fun n => I n x.1 x.2) n hn
      exact ⟨m, fun _ => ⟨h1, h2⟩⟩
    · exact ⟨0, fun h' => absurd h' h⟩
  obtain ⟨μ, hμ⟩ := Classical.skolem.1 hμ
  refine wp_loop (fun a w => ∃ m, I m a w) (fun a w => μ (a, w)) ⟨m0, h0⟩ fun a w hI => ?_
  obtain ⟨h1, _⟩ := hμ (a, w) hI
  refine wp_mono (round _ a w h1) fun e a' w' he => ?_
  cases e with
  | normal =>
    obtain ⟨m', hlt, hm'⟩ := he
    obtain ⟨_, h4⟩ := hμ (a', w') ⟨m', hm'⟩
    exact ⟨⟨m', hm'⟩, Nat.lt_of_le_of_lt (h4 m' hm') hlt⟩
  | _ => exact he

theorem codeW_sound (hm : P.follows .mixedOrders = true) (hT : tabOk P T = true) (hC : Told P C) {n nl : Nat} (hnl : S.L.length = nl) : ∀ (c : Code) {st : St} {a : Act} {w : World} {Z : Nat → Prop} {L : List Loc} {K : Out → St → Prop} {Q : Exit → Act → World → Prop},
    Sit S st a w Z L → codeW T C G H n nl c st K → GoesC S K Q → c.wp P Q a w := by
  intro c
  induction c with
  | skip =>
    intro st a w Z L K Q hs h hg
    simp only [codeW] at h
    exact Go.wp_skip (hg .norm _ _ _ _ _ hs h)
  | label l =>
    intro st a w Z L K Q hs h hg
    simp only [codeW] at h
    exact wp_label (hg .norm _ _ _ _ _ hs h)
  | region id ops draw =>
    intro st a w Z L K Q hs h hg
    simp only [codeW] at h
    cases draw with
    | false =>
      refine wp_region ?_
      have := opsW_sound (Q := Q) hT hC (fun st a w Z L hs hk => hg .norm st a w Z L hs hk) ops.toList 0 rfl hs h
      rwa [Array.length_toList, ← List.range_eq_range'] at this
    | true =>
      dsimp only at h
      split at h
      · rename_i hsel
        exact draw_sound hm hT hC hsel (fun st a w Z L hs hk => hg .norm st a w Z L hs hk) hs h
      · exact h.elim
  | seq x y ihx ihy =>
    intro st a w Z L K Q hs h hg
    simp only [codeW] at h
    split at h
    · refine wp_seq (ihx hs h fun o st a w Z L hs hk => ?_)
      cases o with
      | norm => exact ihy hs hk hg
      | exit i => exact hg (.exit i) _ _ _ _ _ hs hk
      | ret => exact hg .ret _ _ _ _ _ hs hk
    · rename_i k hk
      obtain ⟨J, h1, h2⟩ := h
      refine wp_seq (ihx hs h1 fun o st a w Z L hs hk => ?_)
      cases o with
      | norm =>
        obtain ⟨es, os, hJ, ⟨Z', L', hs'⟩, hu⟩ := arrive_sound hs hnl hk
        exact ihy hs' (hu (fun es os => appJ k J es os → codeW T C G H n nl y (mkSt n k es os) K) h2 hJ) hg
      | exit i => exact hg (.exit i) _ _ _ _ _ hs hk
      | ret => exact hg .ret _ _ _ _ _ hs hk
  | cond c x y ihx ihy =>
    intro st a w Z L K Q hs h hg
    simp only [codeW] at h
    split at h
    · rename_i t hc
      have hv : a.eval c = .bool t := ev_one hs hc
      refine wp_cond hv ?_
      cases t with
      | true => exact ihx hs h hg
      | false => exact ihy hs h hg
    · exact h.elim
  | block id c ih =>
    intro st a w Z L K Q hs h hg
    simp only [codeW] at h
    refine wp_block (ih hs h fun o st a w Z L hs hk => ?_)
    cases o with
    | norm => exact hg .norm _ _ _ _ _ hs hk
    | ret => exact hg .ret _ _ _ _ _ hs hk
    | exit j =>
      simp only [cond_eq_ite] at hk
      simp only [Out.toExit, Exit.inBlock]
      split at hk
      · rename_i he
        rw [if_pos (Nat.eq_of_beq_eq_true he)]
        exact hg .norm _ _ _ _ _ hs hk
      · rename_i he
        rw [if_neg (fun e => he (by rw [e]; exact Nat.beq_refl _))]
        exact hg (.exit j) _ _ _ _ _ hs hk
  | exit id =>
    intro st a w Z L K Q hs h hg
    simp only [codeW] at h
    exact wp_exit (hg (.exit id) _ _ _ _ _ hs h)
  | ret =>
    intro st a w Z L K Q hs h hg
    simp only [codeW] at h
    exact wp_ret (hg .ret _ _ _ _ _ hs h)
  | loop c ih =>
    intro st a w Z L K Q hs h hg
    simp only [codeW] at h
    split at h
    · rename_i k hk
      obtain ⟨I, ⟨m0, h0⟩, hr⟩ := h
      have ent : ∀ {m : Nat} {st : St} {a : Act} {w : World} {Z : Nat → Prop} {L : List Loc}, Sit S st a w Z L → arrive n nl k st (appJ k (I m)) →
          ∃ es os, appJ k (I m) es os ∧ (∃ Z' L', Sit S (mkSt n k es os) a w Z' L') ∧ ∀ R : List Ent → List Ob → Prop, (allE k.slots fun es => allO k.objs fun os => R es os) → R es os :=
        fun hs h => arrive_sound hs hnl h
      refine wp_loop_n (fun m a w => ∃ es os, appJ k (I m) es os ∧ (∃ Z' L', Sit S (mkSt n k es os) a w Z' L') ∧ ∀ R : List Ent → List Ob → Prop, (allE k.slots fun es => allO k.objs fun os => R es os) → R es os)
        m0 (ent hs h0) fun m a w hI => ?_
      obtain ⟨es, os, hJ, ⟨Z', L', hs'⟩, hu⟩ := hI
      refine ih hs' (hu (fun es os => appJ k (I m) es os → codeW T C G H n nl c (mkSt n k es os) fun x st => match x with
        | .norm => ∃ m', m' < m ∧ arrive n nl k st (appJ k (I m'))
        | x => K x st) (hr m) hJ) fun o st a w Z L hs hk => ?_
      cases o with
      | norm =>
        obtain ⟨m', hlt, hm'⟩ := hk
        exact ⟨m', hlt, ent hs hm'⟩
      | exit i => exact hg (.exit i) _ _ _ _ _ hs hk
      | ret => exact hg .ret _ _ _ _ _ hs hk
    · exact h.elim
  | _ => intro st a w Z L K Q hs h hg; simp [codeW] at h
end
end Go.Ry
