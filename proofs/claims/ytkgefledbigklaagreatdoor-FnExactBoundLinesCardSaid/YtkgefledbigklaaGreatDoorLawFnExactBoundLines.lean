/- FnExactBoundLines: whatever is handed in, it returns true, and what was handed in reads as it did. No condition. -/
import Derived.Test.YtkgefledbigklaaGreatDoorRows
import Derived.Test.YtkgefledbigklaaGreatDoorPBln1
import Derived.WalkKit
import Derived.ProofKit
import Derived.OpenShut
import Derived.ShutString
import Derived.ChangeOld
import Derived.Below
import Derived.SizedLaws
import Derived.LaidMore
import Derived.Lay
import Derived.Stop.LaidErr
import Derived.Stop.Joined
import Derived.Lib.LaidTab
import Derived.SevenTiedAt
import Derived.Test.YtkgefledbigklaaGreatDoorCards
import Derived.Test.YtkgefledbigklaaGreatDoorTie
namespace Go.Proofs.YtkgefledbigklaaGreatDoor.fnExactBoundLines
open Go.ChangeShapes Go.WideShapes Go.ChangeAt Go.RowKit Go.Ry
set_option linter.unusedVariables false
theorem own : ownKnob Tryz.prog.godebug = none := by kernel_rfl
theorem laidOut : laidOutB Tryz.prog = true := by kernel_rfl
theorem size : Tryz.f5.params.size = 1 := by kernel_rfl
theorem spec (H : Type) : ∀ ds : List (DataW H), ds.length = Tryz.f5.params.size → (Rows.fnExactBoundLinesSpec.fn H ds).results = [.lit (.bool true)] ∧ (Rows.fnExactBoundLinesSpec.fn H ds).args = ds ∧ (Rows.fnExactBoundLinesSpec.fn H ds).vars = [] := by
  intro ds h
  rw [size] at h
  match ds, h with
  | [d1], _ => exact ⟨rfl, rfl, rfl⟩
theorem runs (x : Vals [(.pair (.slice (.int .i64)) (.pair (.slice (.pair (.slice (.pair (.int .i64) (.pair (.int .i64) .unit))) .unit)) (.pair (.slice (.pair (.int .i64) (.pair (.int .i64) (.pair (.int .i64) (.pair (.int .i64) (.pair (.int .i64) (.pair (.int .i64) .unit))))))) (.pair (.slice .bool) .unit))))]) (hx : Vals.wf _ x) : Triple Tryz.prog 5 (Vals.ents _ x) [] (.one (.bool true)) [] :=
  c_laws_FnExactBoundLines (x.1) hx.1
/-- The table stands. -/
theorem tabbed {W : World} (h : laidMetH Tryz.prog Rows.fnExactBoundLinesRow.laid W) : Tabbed W fun b => b < W.heap.size := by
  rw [MakeChecks.laidMetH_plain _ _ _ (by kernel_rfl)] at h
  have e : (Rows.laid_internal_strconv_uint64pow10 : DataW Unit) = Lib.tabData .u64 Lib.pow10Tab := by kernel_rfl
  have h' : laidMet Tryz.prog [("internal/strconv.uint64pow10", Rows.laid_internal_strconv_uint64pow10)] W := laidMet.tail (laidMet.tail (h))
  rw [e] at h'
  have ht : Lib.TabIs Tryz.prog W "internal/strconv.uint64pow10" .u64 Lib.pow10Tab := Lib.tabIs_of_head (g := 2) (t := 306) (e := 281) (n := 20) (by kernel_rfl) (by kernel_rfl) Tryz.underlying306 Tryz.underlying281 (by kernel_rfl) (by kernel_rfl) h'
  have hg : Tryz.prog.globalNamed "internal/strconv.uint64pow10" = some 2 := by kernel_rfl
  intro x hx
  simp only [tabK, List.mem_singleton] at hx
  subst hx
  unfold Lib.TabIs World.var? at ht
  rw [hg] at ht
  simp only [Option.bind_some] at ht
  split at ht
  · rename_i cs a z hb
    exact ⟨(Array.getElem?_eq_some_iff.1 hb).1, cs, a, z, hb, Option.some.inj ht⟩
  · cases ht
set_option maxRecDepth 100000 in
theorem lifted (os : Os) (started : os.Started) (H : Type) (enc : TypeId × Value → H) :
    ReturnsInHanded {} Tryz.checked os 5 .any (fun w args => (Rows.fnExactBoundLinesSpec.pre enc Tryz.prog Tryz.f5 Rows.fnExactBoundLinesRow.domain false w args ∧ laidMetH Tryz.prog Rows.fnExactBoundLinesRow.laid w) ∧ sizedMet enc Tryz.prog Tryz.f5 (OpenSpec.ofChange Rows.fnExactBoundLinesSpec) false w args) (Rows.fnExactBoundLinesSpec.post enc Tryz.prog Tryz.f5 false true false false) := by
  refine returnsInHanded_of_change_and (C := Tryz.checked) (X := fun w _ => laidMetH Tryz.prog Rows.fnExactBoundLinesRow.laid w) (fun _ _ _ hh h => h.of_heap hh) own started (by kernel_rfl) Tryz.func5
    (ChangeSpec.witness_shaped (enc := enc) (C := Tryz.checked) (os := os) (X := fun w _ => laidMetH Tryz.prog Rows.fnExactBoundLinesRow.laid w) false (World.laidAll Tryz.prog os Rows.fnExactBoundLinesRow.laid) #[.agg #[.slice none 0 0, .slice none 0 0, .slice none 0 0, .slice none 0 0]] 8 (World.laidAll_os _ _ _)
      (World.shaped_of_ZipB (by kernel_rfl) (by kernel_rfl)) (by kernel_rfl) (by kernel_rfl) (by kernel_rfl)
      (by rw [MakeChecks.laidMetH_plain _ _ _ (by kernel_rfl)]; exact laidMet_laidAll _ (by kernel_rfl) (by kernel_rfl))) ?_
  intro W base args ds gs before hval0 hW _ _ hL _
  exact law_calls (c := bodyOf Tryz.f5) (tb := 4) laidOut Tryz.func5 (by kernel_rfl) (by kernel_rfl) (by kernel_rfl) (by kernel_rfl) Tryz.underlying4 rfl (spec H) runs W base args ds gs before (tabbed hL) hval0 hW
theorem over : Rows.fnExactBoundLinesRow.holds Tryz.pinned (OpenSpec.ofChange Rows.fnExactBoundLinesSpec) :=
  OpenClaim.holds_of_wide 5 Tryz.f5 rfl rfl rfl rfl rfl rfl rfl ⟨rfl, rfl, rfl, rfl, rfl⟩ rfl rfl rfl rfl rfl (by kernel_rfl) Tryz.func5 (by kernel_rfl)
    (of_decide_eq_true (by kernel_rfl)) (by unfold Func.isWrapper; first | (rw [if_pos (by decide +kernel)]; kernel_rfl) | (rw [if_neg (by decide +kernel)]; exact ⟨rfl, rfl⟩))
    (fun os started H enc _ => lifted os started H enc)
/-- The card: the row, and what it lists tied to the program's text. -/
theorem card : Rows.FnExactBoundLinesCardSaid :=
  Claim7.holds_tied_plain_at .later [] [.data, .data, .data] true (true, "7127d4c64660c7eaa499d208e2f16ef790d152821effb524b0d716c10998458d") false
    over (fun _ h => by cases h) (by kernel_rfl) (fun _ h => by cases h) fnExactBoundLines_row_tie rfl ⟨rfl, rfl⟩ (by kernel_rfl) rfl
    (fun f fn hf hfn => by
      obtain rfl : f = 5 := Option.some.inj ((show Tryz.prog.funcNamed Rows.fnExactBoundLinesRow.func = some 5 by kernel_rfl).symm.trans hf) |>.symm
      obtain rfl : fn = Tryz.f5 := (Option.some.inj (Tryz.func5.symm.trans hfn)).symm
      exact ⟨by kernel_rfl, fun j t ht => by
        rw [Tryz.params5] at ht
        have hm : t ∈ [27] := by simpa using Array.mem_of_getElem? ht
        have hall : ([27].all fun u => !Tryz.prog.wantsStandIn u) = true := by kernel_rfl
        exact (show Tryz.prog.wantsStandIn t = false by simpa using List.all_eq_true.1 hall t hm)⟩)
    (by kernel_rfl)
#print axioms card
end Go.Proofs.YtkgefledbigklaaGreatDoor.fnExactBoundLines
namespace Go.Proofs.YtkgefledbigklaaGreatDoor
/-- The card, under a short name, for the claim. -/
theorem fnExactBoundLines_holds : Rows.FnExactBoundLinesCardSaid := fnExactBoundLines.card
end Go.Proofs.YtkgefledbigklaaGreatDoor
