/- Functions of the library that read texts, and the words of a line: from the kit's contracts to what the evaluator is told. No condition. -/
import Derived.Test.YtlfapnlaalnbjaaGreatDoorPNum1
import Derived.Test.YtlfapnlaalnbjaaGreatDoorPStr
import Derived.Test.YtlfapnlaalnbjaaGreatDoorPExt
import Derived.Test.YtlfapnlaalnbjaaGreatDoorPFre
import Derived.Test.YtlfapnlaalnbjaaGreatDoorPTxt1
import Derived.Test.YtlfapnlaalnbjaaGreatDoorPWrd1
import Derived.Test.YtlfapnlaalnbjaaGreatDoorPRdn1
import Derived.Test.YtlfapnlaalnbjaaGreatDoorShelf
import Derived.Deep.DeepFit
set_option linter.unusedVariables false
set_option linter.unusedSimpArgs false
namespace Go.Ry
open Go.Proofs Go.RowKit Go.Sort

theorem maxLen_at {w : World} {Z : Nat → Prop} {L : List Loc} {os : List Ob} (hs : Sims w Z L os) : ∃ m, w.cell? ⟨2, 0, none⟩ = some (.int .i64 m) := by
  obtain ⟨_, cs, e, z, h1, m, h2⟩ := hs.tab _ (.tail _ (.head _))
  refine ⟨m, ?_⟩
  unfold World.cell?
  simp only [h1]
  simpa using h2
theorem errSyntax_at {w : World} {Z : Nat → Prop} {L : List Loc} {os : List Ob} (hs : Sims w Z L os) : ∃ tp p, w.var? Tryz.prog "strconv.ErrSyntax" = some #[.iface tp p] := by
  obtain ⟨_, cs, e, z, h1, tp, p, rfl⟩ := hs.tab _ (.tail _ (.tail _ (.head _)))
  refine ⟨tp, p, ?_⟩
  have hg : Tryz.prog.globalNamed "strconv.ErrSyntax" = some 3 := by kernel_rfl
  unfold World.var?
  rw [hg]
  simp only [Option.bind_some, h1]
theorem errRange_at {w : World} {Z : Nat → Prop} {L : List Loc} {os : List Ob} (hs : Sims w Z L os) : ∃ tp p, w.var? Tryz.prog "strconv.ErrRange" = some #[.iface tp p] := by
  obtain ⟨_, cs, e, z, h1, tp, p, rfl⟩ := hs.tab _ (.tail _ (.tail _ (.tail _ (.head _))))
  refine ⟨tp, p, ?_⟩
  have hg : Tryz.prog.globalNamed "strconv.ErrRange" = some 4 := by kernel_rfl
  unfold World.var?
  rw [hg]
  simp only [Option.bind_some, h1]

theorem c_Atoi (s : ByteArray) (h : s.size ≤ 281474976710656) : TT n_strconv_Atoi [eS s] [] (.tup [(false, [cI (atoiN s.data.toList)]), (false, [.ifc (atoiOk s.data.toList)])]) [] := by
  intro w Z L vs hs ha
  obtain ⟨v, rfl, hv⟩ := one_arg ha
  obtain rfl : v = .string s := hv
  refine does_enter Tryz.func136 (c := bodyOf Tryz.f136) (by kernel_rfl) (by kernel_rfl) ?_
  match he : Lib.atoiAll s.data.toList with
  | .ok n =>
    refine (Tryz.strconv_Atoi_ok s (by omega) n he w).mono ?_
    rintro e w' ⟨rfl, hw⟩
    have hb : Below w.heap.size w w' := by
      rcases hw with rfl | ⟨t, rfl⟩
      · exact Below.refl _ _
      · exact Lib.bytesWorld_below _ _ _
    refine kept_out hs (keeps_below hb) ⟨_, rfl, ?_⟩
    refine ⟨⟨?_, trivial⟩, ⟨?_, trivial⟩, trivial⟩
    · show Value.int .i64 n = .int .i64 (atoiN _); unfold atoiN; rw [he]
    · have e1 : atoiOk s.data.toList = true := by unfold atoiOk; rw [he]
      rw [e1]; exact ⟨fun _ => rfl, fun h => (by cases h)⟩
  | Lib.NumEnd.syntax =>
    obtain ⟨tp, p, hp⟩ := errSyntax_at hs
    refine (Tryz.strconv_Atoi_syntax_var s h he tp p w hp).mono ?_
    rintro e w' ⟨N, rfl, _, _, hb⟩
    refine kept_out hs (keeps_below hb) ⟨_, rfl, ?_⟩
    refine ⟨⟨?_, trivial⟩, ⟨?_, trivial⟩, trivial⟩
    · show Value.int .i64 0 = .int .i64 (atoiN _); unfold atoiN; rw [he]
    · have e1 : atoiOk s.data.toList = false := by unfold atoiOk; rw [he]
      rw [e1]; exact ⟨fun h => (by cases h), fun _ => ⟨_, _, rfl⟩⟩
  | .range =>
    obtain ⟨tp, p, hp⟩ := errRange_at hs
    refine (Tryz.strconv_Atoi_range_var s h he tp p w hp).mono ?_
    rintro e w' ⟨N, rfl, _, _, hb⟩
    refine kept_out hs (keeps_below hb) ⟨_, rfl, ?_⟩
    refine ⟨⟨?_, trivial⟩, ⟨?_, trivial⟩, trivial⟩
    · show Value.int .i64 (Lib.atoiSat _) = .int .i64 (atoiN _); unfold atoiN; rw [he]
    · have e1 : atoiOk s.data.toList = false := by unfold atoiOk; rw [he]
      rw [e1]; exact ⟨fun h => (by cases h), fun _ => ⟨_, _, rfl⟩⟩
theorem c_TrimPrefix (s p : ByteArray) : TT n_strings_TrimPrefix [eS s, eS p] [] (eS ⟨(Lib.trimPrefix s.data.toList p.data.toList).toArray⟩) [] := by
  intro w Z L vs hs ha
  obtain ⟨v, u, rfl, hv, hu⟩ := two_args ha
  obtain rfl : v = .string s := hv
  obtain rfl : u = .string p := hu
  refine does_enter Tryz.func137 (c := bodyOf Tryz.f137) (by kernel_rfl) (by kernel_rfl) ?_
  refine (Tryz.strings_TrimPrefix s p w).mono ?_
  rintro e w' ⟨rfl, hw⟩
  exact kept_out hs (keeps_below (by rw [hw]; exact Below.refl _ _)) rfl
theorem c_Cut (s p : ByteArray) (h : s.size < 4294967281) : TT n_strings_Cut [eS s, eS p] [] (.tup [(false, [.str ⟨(Lib.cut s.data.toList p.data.toList).1.toArray⟩]), (false, [.str ⟨(Lib.cut s.data.toList p.data.toList).2.1.toArray⟩]), (false, [.bool (Lib.cut s.data.toList p.data.toList).2.2])]) [] := by
  intro w Z L vs hs ha
  obtain ⟨v, u, rfl, hv, hu⟩ := two_args ha
  obtain rfl : v = .string s := hv
  obtain rfl : u = .string p := hu
  obtain ⟨m, hm⟩ := maxLen_at hs
  refine does_enter Tryz.func113 (c := bodyOf Tryz.f113) (by kernel_rfl) (by kernel_rfl) ?_
  refine (Tryz.strings_Cut s p m w h hm).mono ?_
  rintro e w' ⟨rfl, n, rfl⟩
  exact kept_out hs ⟨rfl, rfl, rfl, Nat.le_refl _, fun _ _ => .inl rfl⟩ ⟨_, rfl, ⟨rfl, trivial⟩, ⟨rfl, trivial⟩, ⟨rfl, trivial⟩, trivial⟩

/-! ### words -/
/-- The words of a line. -/
def wordsB (s : ByteArray) : List ByteArray := (wsp [] s.data.toList).map fun l => ⟨l.toArray⟩
def pcs (s : ByteArray) : List ByteArray := Lib.splitB ⟨#[32]⟩ 0 (Lib.countB s ⟨#[32]⟩) s
theorem pcs_len (s : ByteArray) : (pcs s).length = Lib.countB s ⟨#[32]⟩ + 1 := Lib.splitB_all _ (by decide) 0 _ s rfl
def isE (x : ByteArray) : Bool := x.toList.isEmpty
theorem isE_eq (x : ByteArray) : (!isE x) = kept x.data.toList := by
  unfold isE kept
  rw [Lib.toList_data]
  cases h : x.data.toList with
  | nil => rfl
  | cons a b => rfl
theorem pcs_words (s : ByteArray) : (pcs s).filter (fun x => !isE x) = wordsB s := by
  have h1 := split_kept s.data.toList
  have h2 : (pcs s).map (·.data.toList) = Lib.split s.data.toList [32] := Lib.splitB_data _ 0 _ s
  unfold wordsB
  rw [← h1, ← h2, List.filter_map, List.map_map]
  have e : (fun x => !isE x) = kept ∘ fun x : ByteArray => x.data.toList := funext isE_eq
  rw [e]
  have e2 : ((fun l : List UInt8 => (⟨l.toArray⟩ : ByteArray)) ∘ fun x : ByteArray => x.data.toList) = id := funext fun x => by simp
  rw [e2, List.map_id]
theorem isE_fn (x : ByteArray) (W : World) : Calls Tryz.prog 106 #[.string x] W fun e w' => e = .returned (.bool (isE x)) ∧ ∃ q, w' = W.drewN q := by
  go_enter Tryz.func106, Tryz.ntmps106
  go_wp2
  go_ret
  exact ⟨rfl, 0, rfl⟩
theorem words_calls (s : ByteArray) (hs : s.size ≤ 1048576) (m : Int) (w : World) (hm : w.cell? ⟨2, 0, none⟩ = some (.int .i64 m)) :
    Calls Tryz.prog 63 #[.string s] w fun e w' => e = .returned (.slice (some ⟨w.heap.size, 0, none⟩) (wordsB s).length (pcs s).length) ∧
      ∃ q, w' = putRow Value.string (Sort.ahead (w.alloc (.cells ((pcs s).map Value.string).toArray 9)) q) w.heap.size 0 (wordsB s ++ List.replicate ((pcs s).length - (wordsB s).length) (⟨#[]⟩ : ByteArray)).toArray := by
  have eg : ∀ args w, (callFunc 106 args).run Tryz.prog w = .ok (.enter 106 args) w := enters_of Tryz.func106 (by kernel_rfl) rfl
  have cS := Tryz.strings_Split s ⟨#[32]⟩ m w (by omega) hm (by decide)
  have hcnt : (pcs s).length ≤ s.size + 1 := by have := Lib.countB_le ⟨#[32]⟩ (by decide) s.size s (Nat.le_refl _); rw [pcs_len]; omega
  have hH : Holds Value.string (w.alloc (.cells ((pcs s).map Value.string).toArray 9)) w.heap.size 0 (pcs s).toArray := fun j hj => by
    have hj' : j < (pcs s).length := by simpa using hj
    have hk : (w.alloc (.cells ((pcs s).map Value.string).toArray 9)).heap[w.heap.size]? = some (.cells ((pcs s).map Value.string).toArray 9 (0, 0)) := by
      show (w.heap.push _)[w.heap.size]? = _
      exact Array.getElem?_push_size
    constructor
    · unfold World.cell?
      simp only [hk]
      simp [hj']
    · unfold World.frozen?
      simp only [hk]
      simp
  have cD := Tryz.slices_DeleteFunc Value.string (fun _ => rfl) isE 106 #[] eg ⟨#[]⟩ Tryz.zeroValue9 w.heap.size 0 (pcs s).length (pcs s).toArray (w.alloc (.cells ((pcs s).map Value.string).toArray 9))
    (fun W x _ => isE_fn x W) (fun n os dk x _ => isE_fn x _) hH (by simp; omega) (by simp)
  simp only [List.toList_toArray, List.size_toArray, pcs_words] at cD
  rw [show Lib.countB s ⟨#[32]⟩ + 1 = (pcs s).length from (pcs_len s).symm] at cS
  change Calls _ _ _ _ fun e w' => e = _ ∧ w' = w.alloc (.cells ((pcs s).map Value.string).toArray 9) at cS
  clear hH
  revert cS cD hcnt
  generalize pcs s = P
  generalize wordsB s = R
  intro hcnt cD cS
  go_enter Tryz.func63, Tryz.ntmps63
  go_wp2_with (first
    | (go_at_call 105; go_fit cS; rintro e w1 ⟨rfl, rfl⟩)
    | (go_at_call 104; go_fit cD; rintro e w2 ⟨rfl, q, rfl⟩))
  go_ret
  exact ⟨rfl, q, rfl⟩
theorem c_impl_words (s : ByteArray) (h : s.size ≤ 1048576) : TT n_impl_words [eS s] [] (.one (.row 0)) [.row t_string .str (wordsB s)] := by
  intro w Z L vs hs ha
  obtain ⟨v, rfl, hv⟩ := one_arg ha
  obtain rfl : v = .string s := hv
  obtain ⟨m, hm⟩ := maxLen_at hs
  obtain rfl : L = [] := List.length_eq_zero_iff.1 hs.len
  refine does_enter Tryz.func63 (c := bodyOf Tryz.f63) (by kernel_rfl) (by kernel_rfl) ?_
  refine (words_calls s h m w hm).mono ?_
  rintro e w' ⟨rfl, q, rfl⟩
  have hle : (wordsB s).length ≤ (pcs s).length := by rw [← pcs_words]; exact List.length_filter_le _ _
  have hcnt : (pcs s).length ≤ s.size + 1 := by have := Lib.countB_le ⟨#[32]⟩ (by decide) s.size s (Nat.le_refl _); rw [pcs_len]; omega
  have hheap : (putRow Value.string (Sort.ahead (w.alloc (.cells ((pcs s).map Value.string).toArray 9)) q) w.heap.size 0 (wordsB s ++ List.replicate ((pcs s).length - (wordsB s).length) (⟨#[]⟩ : ByteArray)).toArray).heap[w.heap.size]?
      = some (.cells ((wordsB s ++ List.replicate ((pcs s).length - (wordsB s).length) (⟨#[]⟩ : ByteArray)).map Value.string).toArray 9 (0, 0)) := by
    unfold putRow mapBlock
    have hk : (w.alloc (.cells ((pcs s).map Value.string).toArray 9)).heap[w.heap.size]? = some (.cells ((pcs s).map Value.string).toArray 9 (0, 0)) := by
      show (w.heap.push _)[w.heap.size]? = _
      exact Array.getElem?_push_size
    simp only [Sort.ahead, Array.getElem?_modify, if_true, hk, Option.map_some, onCells]
    congr 2
    apply Array.ext
    · simp [putCells]; omega
    · intro i h1 h2
      simp only [putCells, Array.getElem_mapIdx]
      have h3 : i < (wordsB s ++ List.replicate ((pcs s).length - (wordsB s).length) (⟨#[]⟩ : ByteArray)).length := by simpa using h2
      rw [if_pos ⟨Nat.zero_le _, by simpa using h3⟩]
      simp only [Nat.sub_zero]
      rw [getElem!_pos _ i (by simpa using h3)]
      simp only [List.getElem_toArray, List.getElem_map]
  refine fresh_out hs ⟨rfl, rfl, rfl, ?_, fun b hb => .inl ?_⟩ ⟨_, _, _, rfl⟩ ⟨_, (wordsB s).map Value.string, rfl, by decide, ⟨by simp [Ty.size], .inr ⟨w.heap.size, (pcs s).length, _, rfl, Nat.zero_le _, hheap, hle, ?_, ?_, ?_⟩⟩, ?_⟩ (fun b hb => ?_)
  · simp [Sort.ahead]
  · rw [putRow, mapBlock]
    simp only [Sort.ahead]
    rw [Array.getElem?_modify, if_neg (by omega)]
    show (w.heap.push _)[b]? = _
    rw [Array.getElem?_push, if_neg (by omega)]
  · have : maxLen = 9223372036854775807 := by decide
    omega
  · simp [Ty.size]; omega
  · simp only [List.toList_toArray, List.map_append]
    rw [List.take_append_of_le_length (by simp [Ty.size]), List.take_of_length_le (by simp [Ty.size])]
  · intro i x hx
    have hi : i < (wordsB s).length := (List.getElem?_eq_some_iff.1 hx).1
    show _ = [Value.string x]
    simp only [Ty.size, Nat.mul_one]
    rw [List.drop_eq_getElem_cons (by simpa using hi), List.take_succ_cons, List.take_zero, List.getElem_map, (List.getElem?_eq_some_iff.1 hx).2]
  · have : b = w.heap.size := (Option.some.inj hb).symm
    omega
end Go.Ry
