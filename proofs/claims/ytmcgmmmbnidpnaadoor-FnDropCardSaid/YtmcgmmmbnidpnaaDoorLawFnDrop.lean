/- FnDrop: whatever is handed in, it returns true, and what was handed in reads as it did. No condition. -/
import Derived.Test.YtmcgmmmbnidpnaaDoorRows
import Derived.Test.YtmcgmmmbnidpnaaDoorPDrp2
import Derived.WalkKit
import Derived.ProofKit
import Derived.OpenShut
import Derived.ShutString
import Derived.ChangeOld
import Derived.Below
import Derived.SizedLaws
import Derived.LaidMore
import Derived.Lay
import Derived.Stop.LaidErr
import Derived.Stop.Joined
import Derived.Lib.LaidTab
import Derived.SevenTiedAt
import Derived.Test.YtmcgmmmbnidpnaaDoorCards
import Derived.Test.YtmcgmmmbnidpnaaDoorTie
namespace Go.Proofs.YtmcgmmmbnidpnaaDoor.fnDrop
open Go.ChangeShapes Go.WideShapes Go.ChangeAt Go.RowKit Go.Ry
set_option linter.unusedVariables false
theorem own : ownKnob Tryd.prog.godebug = none := by kernel_rfl
theorem laidOut : laidOutB Tryd.prog = true := by kernel_rfl
theorem size : Tryd.f6.params.size = 2 := by kernel_rfl
theorem spec (H : Type) : ∀ ds : List (DataW H), ds.length = Tryd.f6.params.size → (Rows.fnDropSpec.fn H ds).results = [.lit (.bool true)] ∧ (Rows.fnDropSpec.fn H ds).args = ds ∧ (Rows.fnDropSpec.fn H ds).vars = [] := by
  intro ds h
  rw [size] at h
  match ds, h with
  | [d1, d2], _ => exact ⟨rfl, rfl, rfl⟩
theorem runs (x : Vals [(.slice (.int .u8)), (.slice (.int .u8))]) (hx : Vals.wf _ x) : Triple Tryd.prog 6 (Vals.ents _ x) [] (.one (.bool true)) [] :=
  c_laws_FnDrop (x.1) hx.1 (x.2.1) hx.2.1
/-- The table stands. -/
theorem tabbed {W : World} (h : laidMetH Tryd.prog Rows.fnDropRow.laid W) : Tabbed W fun b => b < W.heap.size := by
  rw [MakeChecks.laidMetH_plain _ _ _ (by kernel_rfl)] at h
  have e : (Rows.laid_internal_strconv_uint64pow10 : DataW Unit) = Lib.tabData .u64 Lib.pow10Tab := by kernel_rfl
  have h' : laidMet Tryd.prog [("internal/strconv.uint64pow10", Rows.laid_internal_strconv_uint64pow10)] W := laidMet.tail (laidMet.tail (h))
  rw [e] at h'
  have ht : Lib.TabIs Tryd.prog W "internal/strconv.uint64pow10" .u64 Lib.pow10Tab := Lib.tabIs_of_head (g := 0) (t := 154) (e := 146) (n := 20) (by kernel_rfl) (by kernel_rfl) Tryd.underlying154 Tryd.underlying146 (by kernel_rfl) (by kernel_rfl) h'
  have hg : Tryd.prog.globalNamed "internal/strconv.uint64pow10" = some 0 := by kernel_rfl
  intro x hx
  simp only [tabK, List.mem_singleton] at hx
  subst hx
  unfold Lib.TabIs World.var? at ht
  rw [hg] at ht
  simp only [Option.bind_some] at ht
  split at ht
  · rename_i cs a z hb
    exact ⟨(Array.getElem?_eq_some_iff.1 hb).1, cs, a, z, hb, Option.some.inj ht⟩
  · cases ht
set_option maxRecDepth 100000 in
theorem lifted (os : Os) (started : os.Started) (H : Type) (enc : TypeId × Value → H) :
    ReturnsInHanded {} Tryd.checked os 6 .any (fun w args => (Rows.fnDropSpec.pre enc Tryd.prog Tryd.f6 Rows.fnDropRow.domain false w args ∧ laidMetH Tryd.prog Rows.fnDropRow.laid w) ∧ sizedMet enc Tryd.prog Tryd.f6 (OpenSpec.ofChange Rows.fnDropSpec) false w args) (Rows.fnDropSpec.post enc Tryd.prog Tryd.f6 false true false false) := by
  refine returnsInHanded_of_change_and (C := Tryd.checked) (X := fun w _ => laidMetH Tryd.prog Rows.fnDropRow.laid w) (fun _ _ _ hh h => h.of_heap hh) own started (by kernel_rfl) Tryd.func6
    (ChangeSpec.witness_shaped (enc := enc) (C := Tryd.checked) (os := os) (X := fun w _ => laidMetH Tryd.prog Rows.fnDropRow.laid w) false (World.laidAll Tryd.prog os Rows.fnDropRow.laid) #[.slice none 0 0, .slice none 0 0] 8 (World.laidAll_os _ _ _)
      (World.shaped_of_ZipB (by kernel_rfl) (by kernel_rfl)) (by kernel_rfl) (by kernel_rfl) (by kernel_rfl)
      (by rw [MakeChecks.laidMetH_plain _ _ _ (by kernel_rfl)]; exact laidMet_laidAll _ (by kernel_rfl) (by kernel_rfl))) ?_
  intro W base args ds gs before hval0 hW _ _ hL _
  exact law_calls (c := bodyOf Tryd.f6) (tb := 4) laidOut Tryd.func6 (by kernel_rfl) (by kernel_rfl) (by kernel_rfl) (by kernel_rfl) Tryd.underlying4 rfl (spec H) runs W base args ds gs before (tabbed hL) hval0 hW
theorem over : Rows.fnDropRow.holds Tryd.pinned (OpenSpec.ofChange Rows.fnDropSpec) :=
  OpenClaim.holds_of_wide 6 Tryd.f6 rfl rfl rfl rfl rfl rfl rfl ⟨rfl, rfl, rfl, rfl, rfl⟩ rfl rfl rfl rfl rfl (by kernel_rfl) Tryd.func6 (by kernel_rfl)
    (of_decide_eq_true (by kernel_rfl)) (by unfold Func.isWrapper; first | (rw [if_pos (by decide +kernel)]; kernel_rfl) | (rw [if_neg (by decide +kernel)]; exact ⟨rfl, rfl⟩))
    (fun os started H enc _ => lifted os started H enc)
/-- The card: the row, and what it lists tied to the program's text. -/
theorem card : Rows.FnDropCardSaid :=
  Claim7.holds_tied_plain_at .later [] [.data, .data, .data] true (true, "03f08d7ea16d3825aeec66476d0c6379cc2a041265c4b3e781b4aa52b30a0b9b") false
    over (fun _ h => by cases h) (by kernel_rfl) (fun _ h => by cases h) fnDrop_row_tie rfl ⟨rfl, rfl⟩ (by kernel_rfl) rfl
    (fun f fn hf hfn => by
      obtain rfl : f = 6 := Option.some.inj ((show Tryd.prog.funcNamed Rows.fnDropRow.func = some 6 by kernel_rfl).symm.trans hf) |>.symm
      obtain rfl : fn = Tryd.f6 := (Option.some.inj (Tryd.func6.symm.trans hfn)).symm
      exact ⟨by kernel_rfl, fun j t ht => by
        rw [Tryd.params6] at ht
        have hm : t ∈ [50, 50] := by simpa using Array.mem_of_getElem? ht
        have hall : ([50, 50].all fun u => !Tryd.prog.wantsStandIn u) = true := by kernel_rfl
        exact (show Tryd.prog.wantsStandIn t = false by simpa using List.all_eq_true.1 hall t hm)⟩)
    (by kernel_rfl)
#print axioms card
end Go.Proofs.YtmcgmmmbnidpnaaDoor.fnDrop
namespace Go.Proofs.YtmcgmmmbnidpnaaDoor
/-- The card, under a short name, for the claim. -/
theorem fnDrop_holds : Rows.FnDropCardSaid := fnDrop.card
end Go.Proofs.YtmcgmmmbnidpnaaDoor
