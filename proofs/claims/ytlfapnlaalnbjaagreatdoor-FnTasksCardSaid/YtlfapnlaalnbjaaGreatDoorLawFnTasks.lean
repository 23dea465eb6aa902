/- FnTasks: whatever is handed in, it returns true, and what was handed in reads as it did. No condition. -/
import Derived.Test.YtlfapnlaalnbjaaGreatDoorRows
import Derived.Test.YtlfapnlaalnbjaaGreatDoorPTsk2
import Derived.WalkKit
import Derived.ProofKit
import Derived.OpenShut
import Derived.ShutString
import Derived.ChangeOld
import Derived.Below
import Derived.SizedLaws
import Derived.LaidMore
import Derived.Lay
import Derived.Stop.LaidErr
import Derived.Stop.Joined
import Derived.Lib.LaidTab
import Derived.SevenTiedAt
import Derived.Test.YtlfapnlaalnbjaaGreatDoorCards
import Derived.Test.YtlfapnlaalnbjaaGreatDoorTie
import Derived.Test.YtlfapnlaalnbjaaGreatDoorPShp
namespace Go.Proofs.YtlfapnlaalnbjaaGreatDoor.fnTasks
open Go.ChangeShapes Go.WideShapes Go.ChangeAt Go.RowKit Go.Ry
set_option linter.unusedVariables false
theorem own : ownKnob Tryz.prog.godebug = none := by kernel_rfl
theorem laidOut : laidOutB Tryz.prog = true := by kernel_rfl
theorem size : Tryz.f4.params.size = 2 := by kernel_rfl
theorem spec (H : Type) : ∀ ds : List (DataW H), ds.length = Tryz.f4.params.size → (Rows.fnTasksSpec.fn H ds).results = [.lit (.bool true)] ∧ (Rows.fnTasksSpec.fn H ds).args = ds ∧ (Rows.fnTasksSpec.fn H ds).vars = [] := by
  intro ds h
  rw [size] at h
  match ds, h with
  | [d1, d2], _ => exact ⟨rfl, rfl, rfl⟩
theorem runs (x : Vals [(.slice (.int .u8)), (.slice (.int .u8))]) (hx : Vals.wf _ x) : Triple Tryz.prog 4 (Vals.ents _ x) [] (.one (.bool true)) [] :=
  c_laws_FnTasks (x.1) hx.1 (x.2.1) hx.2.1
/-- The tables stand. -/
theorem star : "*" ++ "errors.errorString" = "*errors.errorString" := by decide
theorem fact0 {W : World} (h : laidMetH Tryz.prog Rows.fnTasksRow.laid W) (hs : W.ShapedOpen Tryz.prog) : 5 < W.heap.size ∧ ∃ cs e z, W.heap[5]? = some (.cells cs e z) ∧ cs = (Lib.pow10Tab.map fun z => Value.int .u64 z).toArray := by
  rw [MakeChecks.laidMetH_plain _ _ _ (by kernel_rfl)] at h
  have h' : laidMet Tryz.prog [("internal/strconv.uint64pow10", Rows.laid_internal_strconv_uint64pow10), ("unicode/utf8.acceptRanges", Rows.laid_unicode_utf8_acceptRanges), ("strconv.ErrRange", Rows.laid_strconv_ErrRange), ("strconv.ErrSyntax", Rows.laid_strconv_ErrSyntax), ("unicode/utf8.first", Rows.laid_unicode_utf8_first)] W := laidMet.tail (laidMet.tail (h))
  have e : (Rows.laid_internal_strconv_uint64pow10 : DataW Unit) = Lib.tabData .u64 Lib.pow10Tab := by kernel_rfl
  rw [e] at h'
  have ht : Lib.TabIs Tryz.prog W "internal/strconv.uint64pow10" .u64 Lib.pow10Tab := Lib.tabIs_of_head (g := 5) (t := 253) (e := 234) (n := 20) (by kernel_rfl) (by kernel_rfl) Tryz.underlying253 Tryz.underlying234 (by kernel_rfl) (by kernel_rfl) h'
  have hg : Tryz.prog.globalNamed "internal/strconv.uint64pow10" = some 5 := by kernel_rfl
  unfold Lib.TabIs World.var? at ht
  rw [hg] at ht
  simp only [Option.bind_some] at ht
  split at ht
  · rename_i cs a z hb
    exact ⟨(Array.getElem?_eq_some_iff.1 hb).1, cs, a, z, hb, Option.some.inj ht⟩
  · cases ht
theorem fact1 {W : World} (h : laidMetH Tryz.prog Rows.fnTasksRow.laid W) (hs : W.ShapedOpen Tryz.prog) : 2 < W.heap.size ∧ ∃ cs e z, W.heap[2]? = some (.cells cs e z) ∧ ∃ m, cs[0]? = some (Value.int .i64 m) :=
  Go.int_var hs (of_decide_eq_true (by kernel_rfl)) (zero := #[.int .i64 0]) (t := 3) (by kernel_rfl) rfl (by kernel_rfl) (by kernel_rfl) Tryz.underlying3
theorem fact2 {W : World} (h : laidMetH Tryz.prog Rows.fnTasksRow.laid W) (hs : W.ShapedOpen Tryz.prog) : 3 < W.heap.size ∧ ∃ cs e z, W.heap[3]? = some (.cells cs e z) ∧ ∃ te pe, cs = #[Value.iface te pe] := by
  rw [MakeChecks.laidMetH_plain _ _ _ (by kernel_rfl)] at h
  have h' : laidMet Tryz.prog [("strconv.ErrSyntax", Rows.laid_strconv_ErrSyntax), ("unicode/utf8.first", Rows.laid_unicode_utf8_first)] W := laidMet.tail (laidMet.tail (laidMet.tail (laidMet.tail (laidMet.tail (h)))))
  have hg : Tryz.prog.globalNamed "strconv.ErrSyntax" = some 3 := by kernel_rfl
  obtain ⟨a, s, hv, _⟩ := laid_sentinel (tp := 256) (te := 258) (ts := 9) h' hg (by kernel_rfl) Tryz.underlying150 (fun u hu => typeName_ptr_named (nm := "errors.errorString") (by rw [star]; kernel_rfl) (by kernel_rfl) (by decide) u (by rw [star]; exact hu)) Tryz.underlying256 Tryz.underlying258 rfl rfl Tryz.underlying9 (by kernel_rfl) (by kernel_rfl)
  unfold World.var? at hv
  rw [hg] at hv
  simp only [Option.bind_some] at hv
  split at hv
  · rename_i cs c z hb
    exact ⟨(Array.getElem?_eq_some_iff.1 hb).1, cs, c, z, hb, _, _, Option.some.inj hv⟩
  · cases hv
theorem fact3 {W : World} (h : laidMetH Tryz.prog Rows.fnTasksRow.laid W) (hs : W.ShapedOpen Tryz.prog) : 4 < W.heap.size ∧ ∃ cs e z, W.heap[4]? = some (.cells cs e z) ∧ ∃ te pe, cs = #[Value.iface te pe] := by
  rw [MakeChecks.laidMetH_plain _ _ _ (by kernel_rfl)] at h
  have h' : laidMet Tryz.prog [("strconv.ErrRange", Rows.laid_strconv_ErrRange), ("strconv.ErrSyntax", Rows.laid_strconv_ErrSyntax), ("unicode/utf8.first", Rows.laid_unicode_utf8_first)] W := laidMet.tail (laidMet.tail (laidMet.tail (laidMet.tail (h))))
  have hg : Tryz.prog.globalNamed "strconv.ErrRange" = some 4 := by kernel_rfl
  obtain ⟨a, s, hv, _⟩ := laid_sentinel (tp := 256) (te := 258) (ts := 9) h' hg (by kernel_rfl) Tryz.underlying150 (fun u hu => typeName_ptr_named (nm := "errors.errorString") (by rw [star]; kernel_rfl) (by kernel_rfl) (by decide) u (by rw [star]; exact hu)) Tryz.underlying256 Tryz.underlying258 rfl rfl Tryz.underlying9 (by kernel_rfl) (by kernel_rfl)
  unfold World.var? at hv
  rw [hg] at hv
  simp only [Option.bind_some] at hv
  split at hv
  · rename_i cs c z hb
    exact ⟨(Array.getElem?_eq_some_iff.1 hb).1, cs, c, z, hb, _, _, Option.some.inj hv⟩
  · cases hv
theorem tabbed {W : World} (h : laidMetH Tryz.prog Rows.fnTasksRow.laid W) (hs : W.ShapedOpen Tryz.prog) : Tabbed W fun b => b < W.heap.size := by
  intro x hx
  simp only [tabK, List.mem_cons, List.not_mem_nil, or_false] at hx
  rcases hx with rfl | rfl | rfl | rfl
  · exact fact0 h hs
  · exact fact1 h hs
  · exact fact2 h hs
  · exact fact3 h hs
set_option maxRecDepth 100000 in
theorem lifted (os : Os) (started : os.Started) (H : Type) (enc : TypeId × Value → H) :
    ReturnsInHanded {} Tryz.checked os 4 .any (fun w args => (Rows.fnTasksSpec.pre enc Tryz.prog Tryz.f4 Rows.fnTasksRow.domain false w args ∧ laidMetH Tryz.prog Rows.fnTasksRow.laid w) ∧ sizedMet enc Tryz.prog Tryz.f4 (OpenSpec.ofChange Rows.fnTasksSpec) false w args) (Rows.fnTasksSpec.post enc Tryz.prog Tryz.f4 false true false false) := by
  refine Go.handed_both (C := Tryz.checked) (X := fun w _ => laidMetH Tryz.prog Rows.fnTasksRow.laid w) (fun _ _ _ hh h => h.of_heap hh) own started (by kernel_rfl) Tryz.func4
    (ChangeSpec.witness_shaped (enc := enc) (C := Tryz.checked) (os := os) (X := fun w _ => laidMetH Tryz.prog Rows.fnTasksRow.laid w) false (World.laidAll Tryz.prog os Rows.fnTasksRow.laid) #[.slice none 0 0, .slice none 0 0] 8 (World.laidAll_os _ _ _)
      (World.shaped_of_ZipB (by kernel_rfl) (by kernel_rfl)) (by kernel_rfl) (by kernel_rfl) (by kernel_rfl)
      (by rw [MakeChecks.laidMetH_plain _ _ _ (by kernel_rfl)]; exact laidMet_laidAll _ (by kernel_rfl) (by kernel_rfl))) ?_
  intro W base args ds gs before hval0 hW hL hS
  exact law_calls (c := bodyOf Tryz.f4) (tb := 4) laidOut Tryz.func4 (by kernel_rfl) (by kernel_rfl) (by kernel_rfl) (by kernel_rfl) Tryz.underlying4 rfl (spec H) runs W base args ds gs before (tabbed hL hS) hval0 hW
theorem over : Rows.fnTasksRow.holds Tryz.pinned (OpenSpec.ofChange Rows.fnTasksSpec) :=
  OpenClaim.holds_of_wide 4 Tryz.f4 rfl rfl rfl rfl rfl rfl rfl ⟨rfl, rfl, rfl, rfl, rfl⟩ rfl rfl rfl rfl rfl (by kernel_rfl) Tryz.func4 (by kernel_rfl)
    (of_decide_eq_true (by kernel_rfl)) (by unfold Func.isWrapper; first | (rw [if_pos (by decide +kernel)]; kernel_rfl) | (rw [if_neg (by decide +kernel)]; exact ⟨rfl, rfl⟩))
    (fun os started H enc _ => lifted os started H enc)
/-- The card: the row, and what it lists tied to the program's text. -/
theorem card : Rows.FnTasksCardSaid :=
  Claim7.holds_tied_plain_at .later [] [.data, .data, .data, .data, .sentinel, .sentinel, .pinned] true (true, "2a3d78f2f98097d62132b3658a36a07e0ad71ad39f25c5fdf2b747dd8daad44a") true
    over (fun _ h => by cases h) (by kernel_rfl) (fun _ h => by cases h) fnTasks_row_tie rfl ⟨rfl, rfl⟩ (by kernel_rfl) rfl
    (fun f fn hf hfn => by
      obtain rfl : f = 4 := Option.some.inj ((show Tryz.prog.funcNamed Rows.fnTasksRow.func = some 4 by kernel_rfl).symm.trans hf) |>.symm
      obtain rfl : fn = Tryz.f4 := (Option.some.inj (Tryz.func4.symm.trans hfn)).symm
      exact ⟨by kernel_rfl, fun j t ht => by
        rw [Tryz.params4] at ht
        have hm : t ∈ [42, 42] := by simpa using Array.mem_of_getElem? ht
        have hall : ([42, 42].all fun u => !Tryz.prog.wantsStandIn u) = true := by kernel_rfl
        exact (show Tryz.prog.wantsStandIn t = false by simpa using List.all_eq_true.1 hall t hm)⟩)
    (by kernel_rfl)
#print axioms card
end Go.Proofs.YtlfapnlaalnbjaaGreatDoor.fnTasks
namespace Go.Proofs.YtlfapnlaalnbjaaGreatDoor
/-- The card, under a short name, for the claim. -/
theorem fnTasks_holds : Rows.FnTasksCardSaid := fnTasks.card
end Go.Proofs.YtlfapnlaalnbjaaGreatDoor
