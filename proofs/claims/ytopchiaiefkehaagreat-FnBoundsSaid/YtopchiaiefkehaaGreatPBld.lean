/- strings.Builder: its check, and its text. No condition. -/
import Derived.Test.YtopchiaiefkehaaGreatPByt3
import Derived.Shelf.Strings.Builder1
set_option linter.unusedVariables false
set_option linter.unusedSimpArgs false
namespace Go.Ry
open Go.Proofs Go.RowKit Go.Shelf

/-! ### contracts that are not the evaluator's -/
theorem Sit.start {w : World} {Z : Nat → Prop} {L : List Loc} {os : List Ob} (h : Sims w Z L os) : Sit ⟨w, feet os L, Z, L⟩ ⟨[], os⟩ ⟨#[], []⟩ w Z L :=
  ⟨rfl, fun d e hd => by simp at hd, h, Keeps.refl _ _, fun _ hb => hb, fun _ hb => .inl hb, fun i o l h1 h2 b q hq => .inr ⟨i, o, l, h1, h2, hq⟩, Grows.refl _, rfl⟩
theorem Sit.out {w w' : World} {Z Z' : Nat → Prop} {L L' : List Loc} {os os' : List Ob} {a : Act} {r : Ent} {v : Value} (h : Sit ⟨w, feet os L, Z, L⟩ ⟨[], os'⟩ a w' Z' L') (he : ESim w' Z' L' r v) :
    ∃ Z' L', Sims w' Z' L' os' ∧ ESim w' Z' L' r v ∧ Grows L L' ∧ Keeps w (feet os L) w' ∧ (∀ b, Z b → Z' b) ∧ (∀ b, Z' b → Z b ∨ w.heap.size ≤ b ∨ ∀ q, feet os L b q) ∧
      (∀ (i : Nat) (o : Ob) (l : Loc), os'[i]? = some o → L'[i]? = some l → ∀ b q, foot o l b q → w.heap.size ≤ b ∨ feet os L b q) :=
  ⟨Z', L', h.sims, he, h.lents, h.keeps, h.zup, h.znew, h.fnew⟩
theorem Does.enter {P : Program} {g : Nat} {fn : Func} {c : Code} {vs : Array Value} {w : World} {R : Value → World → Prop} (hf : P.funcs[g]? = some fn) (hb : fn.body = some c) (hn : (fn.name == "runtime.NumGoroutine") = false)
    (h : Calls P g vs w fun e w' => match e with
      | .returned v => R v w'
      | _ => False) : Does P g vs w R := by
  refine .inr ⟨?_, h⟩
  have hn' : ¬ fn.name = "runtime.NumGoroutine" := fun e => by simp [e] at hn
  unfold callFunc
  simp [hf, hn', hb]

set_option maxHeartbeats 1000000 in
set_option maxRecDepth 100000 in
theorem w_copyCheck_used (b : Nat) (w : World) (h0 : w.cell? ⟨b, 0, none⟩ = some (.pointer (some ⟨b, 0, none⟩))) :
    Calls Tryz.prog n_strings_Builder_copyCheck #[.pointer (some ⟨b, 0, none⟩)] w fun e w' => e = .returned (.tuple #[]) ∧ w' = w := by
  obtain ⟨j, hj⟩ := Option.isSome_iff_exists.1 (show (Tryz.prog.info? t_strings_Builder).isSome = true by kernel_rfl)
  go_enter Tryz.func124, Tryz.ntmps124
  go_wp2
  rw [Lib.run_neq_ptr_same w _ ?hp hj]
  case hp => kernel_rfl
  go_wp2
  go_end0
  exact ⟨rfl, rfl⟩

set_option maxHeartbeats 1000000 in
set_option maxRecDepth 100000 in
theorem w_copyCheck_fresh (b : Nat) (w : World) (h0 : w.cell? ⟨b, 0, none⟩ = some (.pointer none)) (hsh : w.shape? b = some (t_strings_Builder, 2)) (hfz : w.frozen? ⟨b, 0, none⟩ = false) :
    Calls Tryz.prog n_strings_Builder_copyCheck #[.pointer (some ⟨b, 0, none⟩)] w fun e w' => e = .returned (.tuple #[]) ∧ w' = w.setCell ⟨b, 0, none⟩ (.pointer (some ⟨b, 0, none⟩)) := by
  obtain ⟨j, hj, hjs⟩ := Option.map_eq_some_iff.1 (show (Tryz.prog.info? t_strings_Builder).map (·.size) = some 2 by kernel_rfl)
  go_enter Tryz.func124, Tryz.ntmps124
  go_wp2
  rw [Lib.run_to_unsafe w ⟨b, 0, none⟩ ?u1 ?u2 hj (by rw [hjs]; decide) hsh (Nat.zero_lt_succ 1)]
  case u1 => kernel_rfl
  case u2 => kernel_rfl
  simp only [Result.andThen]
  rw [Oper.upon_value]
  go_wp2
  rw [run_callFunc_extern Tryz.func164 (by kernel_rfl) (by kernel_rfl) (by kernel_rfl) (e := Extern.AbiNoEscape.same) (by kernel_rfl)]
  rw [Lib.run_noEscape]
  simp only [Result.andThen]
  rw [Oper.upon_value]
  go_wp2
  rw [Lib.run_from_unsafe w ⟨b, 0, none⟩ ?u3 ?u4 hj hsh (by kernel_rfl)]
  case u3 => kernel_rfl
  case u4 => kernel_rfl
  simp only [Result.andThen]
  rw [Oper.upon_value]
  go_wp2
  go_end0
  exact ⟨rfl, rfl⟩

set_option maxHeartbeats 2000000 in
set_option maxRecDepth 100000 in
theorem w_String_row (b g cap : Nat) (p : Value) (cur : Array Value) (l : List UInt8) (h0 : l ≠ []) (w : World) (hbk : w.heap[b]? = some (.cells #[p, .slice (some ⟨g, 0, none⟩) l.length cap] t_strings_Builder (0, 0)))
    (hg : w.heap[g]? = some (.cells cur t_uint8 (0, 0))) (hnc : l.length ≤ cap) (hcm : cap ≤ maxLen) (hcs : cur.size = cap) (hcell : ∀ (j : Nat) (x : UInt8), l[j]? = some x → cur[j]? = some (Value.int .u8 (x.toNat : Int))) :
    Calls Tryz.prog n_strings_Builder_String #[.pointer (some ⟨b, 0, none⟩)] w fun e w' => e = .returned (.string ⟨l.toArray⟩) ∧ w' = w.drew.freeze ⟨g, 0, none⟩ l.length := by
  have hl0 : l.length ≠ 0 := by simpa using h0
  have c1 : w.drew.cell? ⟨b, 1, none⟩ = some (.slice (some ⟨g, 0, none⟩) l.length cap) := by
    have : w.drew.heap[b]? = some (.cells #[p, .slice (some ⟨g, 0, none⟩) l.length cap] t_strings_Builder (0, 0)) := hbk
    rw [Lib.cell_of_heap this]; rfl
  have hSD : (Builtin.unsafeSliceData_ #[22] 173 #[.slice (some ⟨g, 0, none⟩) l.length cap]).run Tryz.prog w.drew = .ok (.pointer (some ⟨g, 0, none⟩)) w.drew :=
    Lib.run_unsafeSliceData_row _ _ _ _ _ _ (by omega)
  have hUS : (Builtin.unsafeString_ #[173, 3] 9 #[.pointer (some ⟨g, 0, none⟩), .int .i64 l.length]).run Tryz.prog w.drew = .ok (.string ⟨l.toArray⟩) (w.drew.freeze ⟨g, 0, none⟩ l.length) := by
    have hg' : w.drew.heap[g]? = some (.cells cur t_uint8 (0, 0)) := hg
    refine Lib.run_unsafeString_row w.drew 173 3 9 t_uint8 (by kernel_rfl) (by kernel_rfl) g cur.size (by simp [World.shape?, hg']) l h0 (by omega) (by unfold maxLen at hcm; omega) ?_
    intro j x hx
    have := hcell j x hx
    rw [show (⟨g, 0, none⟩ : Addr).add j = ⟨g, j, none⟩ by simp [Addr.add]; omega, Lib.cell_of_heap hg', this]
  go_enter Tryz.func77, Tryz.ntmps77
  go_wp2
  go_region
  all_goals (go_wp2; go_ret; exact ⟨rfl, rfl⟩)

set_option maxHeartbeats 2000000 in
set_option maxRecDepth 100000 in
theorem w_String_nil (b : Nat) (p : Value) (w : World) (hbk : w.heap[b]? = some (.cells #[p, .slice none 0 0] t_strings_Builder (0, 0))) :
    Calls Tryz.prog n_strings_Builder_String #[.pointer (some ⟨b, 0, none⟩)] w fun e w' => e = .returned (.string ⟨#[]⟩) ∧ w' = w.drew := by
  have hUS := fun (W : World) (q : Option Addr) => Lib.run_unsafeString_none (P := Tryz.prog) (w := W) 173 3 9 q
  have c1 : w.drew.cell? ⟨b, 1, none⟩ = some (.slice none 0 0) := by
    have : w.drew.heap[b]? = some (.cells #[p, .slice none 0 0] t_strings_Builder (0, 0)) := hbk
    rw [Lib.cell_of_heap this]; rfl
  have hSD : (Builtin.unsafeSliceData_ #[22] 173 #[.slice none 0 0]).run Tryz.prog w.drew = .ok (.pointer none) w.drew := rfl
  go_enter Tryz.func77, Tryz.ntmps77
  go_wp2
  go_region
  all_goals (go_wp2; go_ret; exact ⟨rfl, rfl⟩)
set_option maxHeartbeats 2000000 in
set_option maxRecDepth 100000 in
theorem w_String_room (b g cap : Nat) (p : Value) (w : World) (hc0 : cap ≠ 0) (hbk : w.heap[b]? = some (.cells #[p, .slice (some ⟨g, 0, none⟩) 0 cap] t_strings_Builder (0, 0))) :
    Calls Tryz.prog n_strings_Builder_String #[.pointer (some ⟨b, 0, none⟩)] w fun e w' => e = .returned (.string ⟨#[]⟩) ∧ w' = w.drew := by
  have hUS := fun (W : World) (q : Option Addr) => Lib.run_unsafeString_none (P := Tryz.prog) (w := W) 173 3 9 q
  have c1 : w.drew.cell? ⟨b, 1, none⟩ = some (.slice (some ⟨g, 0, none⟩) 0 cap) := by
    have : w.drew.heap[b]? = some (.cells #[p, .slice (some ⟨g, 0, none⟩) 0 cap] t_strings_Builder (0, 0)) := hbk
    rw [Lib.cell_of_heap this]; rfl
  have hSD : (Builtin.unsafeSliceData_ #[22] 173 #[.slice (some ⟨g, 0, none⟩) 0 cap]).run Tryz.prog w.drew = .ok (.pointer (some ⟨g, 0, none⟩)) w.drew :=
    Lib.run_unsafeSliceData_row _ _ _ _ _ _ hc0
  clear hc0
  go_enter Tryz.func77, Tryz.ntmps77
  go_wp2
  go_region
  all_goals (go_wp2; go_ret; exact ⟨rfl, rfl⟩)
set_option maxHeartbeats 2000000 in
set_option maxRecDepth 100000 in
theorem w_String_noroom (b g : Nat) (p : Value) (cur : Array Value) (w : World) (hbk : w.heap[b]? = some (.cells #[p, .slice (some ⟨g, 0, none⟩) 0 0] t_strings_Builder (0, 0))) (hg : w.heap[g]? = some (.cells cur t_uint8 (0, 0))) :
    Calls Tryz.prog n_strings_Builder_String #[.pointer (some ⟨b, 0, none⟩)] w fun e w' => e = .returned (.string ⟨#[]⟩) ∧ w' = w.drew.alloc (.view ⟨g, 0, none⟩ t_uint8) := by
  have hUS := fun (W : World) (q : Option Addr) => Lib.run_unsafeString_none (P := Tryz.prog) (w := W) 173 3 9 q
  have hlt : b < w.heap.size := by
    rcases Nat.lt_or_ge b w.heap.size with h' | h'
    · exact h'
    · simp [Array.getElem?_eq_none h'] at hbk
  have c1 : w.drew.cell? ⟨b, 1, none⟩ = some (.slice (some ⟨g, 0, none⟩) 0 0) := by
    have : w.drew.heap[b]? = some (.cells #[p, .slice (some ⟨g, 0, none⟩) 0 0] t_strings_Builder (0, 0)) := hbk
    rw [Lib.cell_of_heap this]; rfl
  have hSD : (Builtin.unsafeSliceData_ #[22] 173 #[.slice (some ⟨g, 0, none⟩) 0 0]).run Tryz.prog w.drew = .ok (.pointer (some ⟨w.drew.heap.size, 0, none⟩)) (w.drew.alloc (.view ⟨g, 0, none⟩ t_uint8)) :=
    Lib.run_unsafeSliceData_zero w.drew _ _ t_uint8 (by kernel_rfl) ⟨g, 0, none⟩ 0 (t_uint8, cur.size) (by have hg' : w.drew.heap[g]? = some (.cells cur t_uint8 (0, 0)) := hg; simp [World.shape?, hg'])
  have c2 : (w.drew.alloc (.view ⟨g, 0, none⟩ t_uint8)).cell? ⟨b, 1, none⟩ = some (.slice (some ⟨g, 0, none⟩) 0 0) := by
    have : (w.drew.alloc (.view ⟨g, 0, none⟩ t_uint8)).heap[b]? = _ := (Lib.alloc_old w.drew _ b hlt).trans hbk
    rw [Lib.cell_of_heap this]; rfl
  have c3 : (w.alloc (.view ⟨g, 0, none⟩ t_uint8)).drew.cell? ⟨b, 1, none⟩ = some (.slice (some ⟨g, 0, none⟩) 0 0) := c2
  have c0 : w.cell? ⟨b, 1, none⟩ = some (.slice (some ⟨g, 0, none⟩) 0 0) := c1
  go_enter Tryz.func77, Tryz.ntmps77
  go_wp2
  go_region
  all_goals (go_wp2; go_ret; exact ⟨rfl, rfl⟩)

/-! ### as Triples -/
@[reducible] def bldO (r : List Int) : List Ob := [.box [.selfp 0 t_strings_Builder 2, .row 1], .row t_uint8 (.int .u8) r]
/-- Where a builder lies. -/
theorem bld_at {w : World} {Z : Nat → Prop} {L : List Loc} {r : List Int} {vs : Array Value} (hs : Sims w Z L (bldO r)) (ha : EsSim w Z L [.one (.ptrB 0 0)] vs.toList) :
    ∃ (g : Nat) (p v : Value) (es : List Value), vs = #[.pointer (some ⟨g, 0, none⟩)] ∧ L = [.box g 0 (t_strings_Builder, 2), .row v 1 r.length] ∧ (p = .pointer none ∨ p = .pointer (some ⟨g, 0, none⟩)) ∧
      w.heap[g]? = some (.cells #[p, v] t_strings_Builder (0, 0)) ∧ w.ownsRow 0 t_uint8 1 v r.length es ∧ RowRd w Z (.int .u8) r es := by
  obtain ⟨l0, l1, rfl⟩ : ∃ l0 l1, L = [l0, l1] := by
    have h := hs.len
    match L, h with
    | [l0, l1], _ => exact ⟨l0, l1, rfl⟩
  obtain ⟨g, q, s, us, rfl, hc, cur, e, hb1, hb2, hb3, rfl⟩ := hs.ob 0 _ l0 rfl rfl
  obtain ⟨v, es, rfl, _, ho, hr⟩ := hs.ob 1 _ l1 rfl rfl
  match us, hc with
  | [p, v'], ⟨⟨g', hg', hp⟩, ⟨⟨a, n, c, hv'⟩, sz, m, hm⟩, _⟩ =>
    simp only [List.getElem?_cons_zero, Option.some.injEq, Loc.box.injEq, Prod.mk.injEq] at hg'
    obtain ⟨rfl, rfl, rfl, hsz⟩ := hg'
    simp only [List.getElem?_cons_succ, List.getElem?_cons_zero, Option.some.injEq, Loc.row.injEq] at hm
    obtain ⟨rfl, _, _⟩ := hm
    match hvs : vs.toList, ha with
    | [x], ⟨⟨g2, q2, s2, h2, h3⟩, _⟩ =>
      simp only [List.getElem?_cons_zero, Option.some.injEq, Loc.box.injEq] at h2
      obtain ⟨rfl, rfl, _⟩ := h2
      refine ⟨g, p, v, es, ?_, by rw [hsz]; rfl, hp, ?_, ho, hr⟩
      · rw [← Array.toArray_toList (xs := vs), hvs, h3]
      · have k0 := hb3 0 p rfl
        have k1 := hb3 1 v rfl
        have : cur = #[p, v] := by
          apply Array.ext_getElem?
          intro i
          match i with
          | 0 => simpa using k0
          | 1 => simpa using k1
          | i + 2 => rw [Array.getElem?_eq_none (by omega)]; simp
        rw [hb1, this]
theorem c_copyCheck (r : List Int) : TT n_strings_Builder_copyCheck [.one (.ptrB 0 0)] (bldO r) (.tup []) (bldO r) := by
  intro w Z L vs hs ha
  obtain ⟨g, p, v, es, rfl, hL, hp, hb, ho, hr⟩ := bld_at hs ha
  refine Does.enter Tryz.func124 (c := bodyOf Tryz.f124) (by kernel_rfl) (by kernel_rfl) ?_
  rcases hp with rfl | rfl
  · refine (w_copyCheck_fresh g w (by simp [World.cell?, hb]) (by simp [World.shape?, hb]) (by simp [World.frozen?, hb])).mono ?_
    rintro e w' ⟨rfl, rfl⟩
    have S := (Sit.start hs).set (w' := w.setCell ⟨g, 0, none⟩ (.pointer (some ⟨g, 0, none⟩))) (i := 0) (o := .box [.selfp 0 t_strings_Builder 2, .row 1]) (o' := .box [.selfp 0 t_strings_Builder 2, .row 1]) (l := .box g 0 (t_strings_Builder, 2)) rfl (by rw [hL]; rfl) ?_ ?_ (fun _ _ h => h)
    · exact S.out ⟨#[], rfl, trivial⟩
    · refine ⟨rfl, rfl, rfl, by simp [World.setCell], fun b _ => ?_⟩
      by_cases hbg : b = g
      · subst hbg
        refine .inr (.inl ⟨_, #[.pointer (some ⟨b, 0, none⟩), v], _, (0, 0), (0, 0), hb, by simp [World.setCell, Array.getElem?_modify, hb], rfl, fun o hno => ?_, .inl rfl⟩)
        match o with
        | 0 => exact absurd ⟨rfl, .inr ⟨Nat.le_refl _, by decide⟩⟩ hno
        | o + 1 => simp
      · exact .inl (by simp [World.setCell, Array.getElem?_modify, Ne.symm hbg])
    · have h1 := hs.ob 0 _ (.box g 0 (t_strings_Builder, 2)) rfl (by rw [hL]; rfl)
      obtain ⟨g', q', s', us, h2, hc, _⟩ := h1
      simp only [Loc.box.injEq] at h2
      obtain ⟨rfl, rfl, rfl⟩ := h2
      refine ⟨g, 0, (t_strings_Builder, 2), [.pointer (some ⟨g, 0, none⟩), v], rfl, ⟨⟨g, by rw [hL]; rfl, .inr rfl⟩, ⟨?_, 1, _, by rw [hL]; rfl⟩, trivial⟩, #[.pointer (some ⟨g, 0, none⟩), v], t_strings_Builder, by simp [World.setCell, Array.getElem?_modify, hb], by simp, fun j u hj => by simpa using hj, by simp⟩
      rcases ho.2 with ⟨rfl, _⟩ | ⟨g2, cap, cur, rfl, _⟩
      · exact ⟨_, _, _, rfl⟩
      · exact ⟨_, _, _, rfl⟩
  · refine (w_copyCheck_used g w (by simp [World.cell?, hb])).mono ?_
    rintro e w' ⟨rfl, rfl⟩
    exact (Sit.start hs).out ⟨#[], rfl, trivial⟩
theorem c_String (r : List Int) (hB : isB r) : TT n_strings_Builder_String [.one (.ptrB 0 0)] (bldO r) (eS (strL r)) [.box [.selfp 0 t_strings_Builder 2, .undef], .dead] := by
  intro w Z L vs hs ha
  obtain ⟨g, p, v, es, rfl, hL, hp, hb, ho, hr⟩ := bld_at hs ha
  refine Does.enter Tryz.func77 (c := bodyOf Tryz.f77) (by kernel_rfl) (by kernel_rfl) ?_
  -- what is left to show of any world in which all but the row is as it was
  have fin : ∀ (s : ByteArray) (w' : World), s = strL r → Keeps w (fun b _ => v.ownBlock = some b) w' → ∃ Z' L', Sims w' Z' L' [.box [.selfp 0 t_strings_Builder 2, .undef], .dead] ∧ ESim w' Z' L' (eS (strL r)) (.string s) ∧ Grows L L' ∧ Keeps w (feet (bldO r) L) w' ∧ (∀ b, Z b → Z' b) ∧
      (∀ b, Z' b → Z b ∨ w.heap.size ≤ b ∨ ∀ q, feet (bldO r) L b q) ∧
      (∀ (i : Nat) (o : Ob) (l : Loc), [Ob.box [.selfp 0 t_strings_Builder 2, .undef], .dead][i]? = some o → L'[i]? = some l → ∀ b q, foot o l b q → w.heap.size ≤ b ∨ feet (bldO r) L b q) := by
    rintro s w' rfl hk
    have S1 := (Sit.start hs).set (w' := w') (i := 1) (o := .row t_uint8 (.int .u8) r) (o' := .dead) (l := .row v 1 r.length) rfl (by rw [hL]; rfl) (hk.mono fun _ _ _ h => h) trivial (fun _ _ h => h.elim)
    have h1 := S1.sims.ob 0 (.box [.selfp 0 t_strings_Builder 2, .row 1]) (.box g 0 (t_strings_Builder, 2)) rfl (by rw [hL]; rfl)
    obtain ⟨g', q', s', us, h2, hc, hbx⟩ := h1
    have S2 := S1.set (w' := w') (i := 0) (o := .box [.selfp 0 t_strings_Builder 2, .row 1]) (o' := .box [.selfp 0 t_strings_Builder 2, .undef]) (l := .box g 0 (t_strings_Builder, 2)) rfl (by rw [hL]; rfl) (Keeps.refl _ _) ?_ (fun b q h => h)
    · exact S2.out rfl
    · match us, hc with
      | [p', v'], ⟨k1, k2, _⟩ => exact ⟨g', q', s', [p', v'], h2, ⟨k1, k2.oneCell, trivial⟩, hbx⟩
  have hes : es.length = r.length := by rw [ho.1, Nat.mul_one]
  have hat : ∀ (j : Nat) (x : Int), r[j]? = some x → es[j]? = some (Value.int .u8 x) := by
    intro j x hx
    have h1 := hr j x hx
    have hj : j < es.length := by rw [hes]; exact (List.getElem?_eq_some_iff.1 hx).1
    have e1 : (es.drop (j * 1)).take 1 = [es[j]] := by rw [Nat.mul_one, List.drop_eq_getElem_cons hj]; rfl
    have h2 : (es.drop (j * 1)).take 1 = [Value.int .u8 x] := h1
    rw [e1] at h2
    simp only [List.cons.injEq, and_true] at h2
    rw [List.getElem?_eq_getElem hj, h2]
  rcases ho.2 with ⟨rfl, h0⟩ | ⟨g2, cap, cur, rfl, _, hg, hnc, hcm, hcs, htk⟩
  · obtain rfl := List.eq_nil_of_length_eq_zero h0
    refine (w_String_nil g p w hb).mono ?_
    rintro e w' ⟨rfl, rfl⟩
    exact fin _ _ rfl (Keeps.drew _ _)
  · by_cases h0 : r.length = 0
    · obtain rfl := List.eq_nil_of_length_eq_zero h0
      by_cases hc0 : cap = 0
      · subst hc0
        refine (w_String_noroom g g2 p cur w hb hg).mono ?_
        rintro e w' ⟨rfl, rfl⟩
        exact fin _ _ rfl ((Keeps.drew _ _).trans (Keeps.alloc _ _ _))
      · refine (w_String_room g g2 cap p w hc0 hb).mono ?_
        rintro e w' ⟨rfl, rfl⟩
        exact fin _ _ rfl (Keeps.drew _ _)
    · have hl : (strL r).data.toList.length = r.length := by simp [strL]
      have hne : (strL r).data.toList ≠ [] := fun e => h0 (by rw [← hl, e]; rfl)
      have key := w_String_row g g2 cap p cur (strL r).data.toList hne w (by rw [hl]; exact hb) hg (by rw [hl]; exact hnc) hcm (by omega) (fun j x hx => by
        have hr2 : r[j]? = some (x.toNat : Int) := by
          have := congrArg (·[j]?) (toBytes hB)
          simp only [bytesL, List.getElem?_map, hx, Option.map_some] at this
          exact this.symm
        have h3 := hat j _ hr2
        rw [← htk, Nat.mul_one] at h3
        have hj : j < r.length := (List.getElem?_eq_some_iff.1 hr2).1
        rw [List.getElem?_take_of_lt hj, Array.getElem?_toList] at h3
        exact h3)
      refine key.mono ?_
      rintro e w' ⟨rfl, rfl⟩
      refine fin _ _ (ByteArray.ext (by simp)) ((Keeps.drew w _).trans ?_)
      refine ⟨?_, ?_, ?_, ?_, fun b _ => ?_⟩
      · unfold World.freeze; split <;> rfl
      · unfold World.freeze; split <;> rfl
      · unfold World.freeze; split <;> rfl
      · unfold World.freeze; split <;> simp
      · by_cases hbg : b = g2
        · exact .inr (.inr fun o => by rw [hbg]; rfl)
        · left
          unfold World.freeze
          split
          · rfl
          · simp [Array.getElem?_modify, Ne.symm hbg]
end Go.Ry
