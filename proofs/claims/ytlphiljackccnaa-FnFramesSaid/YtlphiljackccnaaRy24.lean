/- The evaluator is right: operations (8): conversions. No condition. -/
import Derived.Test.YtlphiljackccnaaRy23
set_option linter.unusedVariables false
set_option linter.unusedSimpArgs false
namespace Go.Ry

section
variable {P : Program} {S : Start} {st : St} {a : Act} {w w' : World} {Z Z' : Nat → Prop} {L L' : List Loc} {T : Tab} {C : Calls_} {G : List (Nat × Sig)} {o : Oper} {K : St → Prop} {next : Act → World → Prop} {Q : Exit → Act → World → Prop}

/-- A new block that nobody writes. -/
theorem Sit.fresh (hs : Sit S st a w Z L) (hk : Keeps w (fun _ _ => False) w') (hlt : w.heap.size < w'.heap.size) : Sit S st a w' (fun b => Z b ∨ b = w.heap.size) L := by
  have := hs.update (w' := w') (Z' := fun b => Z b ∨ b = w.heap.size) (L' := L) (os' := st.objs) (fun _ _ => False) (fun _ => False) hk (fun _ _ h => h.elim) (fun _ hb => .inl hb) (Grows.refl _) hs.sims.len
    (fun _ _ _ => rfl) (fun _ _ _ _ _ _ _ _ _ h => h) (fun _ _ _ h => h.elim) (fun _ _ _ h => h.elim) (fun _ _ _ _ _ _ h => h.elim) (fun _ _ _ h => h.elim)
    (fun b hb => hb.elim .inl fun e => .inr (.inl (by omega))) (fun b hb => hb.elim (fun h => Nat.lt_of_lt_of_le (hs.sims.zin b h) hk.size) (fun e => by omega)) (fun _ _ h => h.elim)
  exact this

theorem strL_eq (xs : List Int) : strL xs = strOfNums xs := rfl

theorem run_convert_bytes_any (w : World) (src e : TypeId) (hs : P.underlying src = some (.slice e)) (he : P.underlying e = some (.int .u8)) (A : Addr) (len cap : Nat) (xs : List Int) (hlen : xs.length = len)
    (hcell : ∀ i, i < len → w.cell? (A.add i) = some (.int .u8 (xs.getD i 0))) :
    ∀ dst, P.underlying dst = some .string → (convert src dst (.slice (some A) len cap)).run P w = .ok (.string (strOfNums xs)) w := by
  intro dst hd
  have hl : (loadCells A len).run P w = .ok (xs.map (Value.int .u8)).toArray w := by
    have := run_loadCells_list (P := P) w A (xs.map (Value.int .u8)) (fun j v hj => by
      have hjl : j < xs.length := by
        rcases Nat.lt_or_ge j xs.length with h | h
        · exact h
        · simp [List.getElem?_eq_none (show (xs.map (Value.int .u8)).length ≤ j by simpa using h)] at hj
      rw [hcell j (by omega)]
      simp [List.getElem?_eq_getElem hjl] at hj
      subst hj
      simp [List.getD, List.getElem?_eq_getElem hjl])
    simpa [hlen] using this
  rw [run_convert_bytes_string w src dst e _ len cap hs he hd, run_bytesToString w _ len cap xs hl, foldl_push_bytes]
  simp [strOfNums, ByteArray.empty, ByteArray.emptyWithCapacity]
  rfl

theorem sound_convert {src dst : TypeId} {x : Operand} (ho : o.op = .convert src dst x) (hT : tabOk P T = true) (hs : Sit S st a w Z L) (hg : Goes S K next) (h : opW T C G o st K) : o.wp P a w next Q := by
  simp only [opW, ho] at h
  have run : ∀ {v : Value} {w' : World}, (convert src dst (a.eval x)).run P w = .ok v w' → (execOp a.eval o).run P w = .ok (.value v) w' := by
    intro v w' hr
    unfold execOp
    simp [ho, hr]
  split at h
  · rename_i te ts hte hts
    obtain ⟨d, hd, hkd⟩ := under_of (d := .bool) hT hte
    obtain ⟨d', hd', hkd'⟩ := under_of (d := .bool) hT hts
    split at h
    · rename_i k n k' hx hk
      rw [kind_int hkd hk] at hd
      have cx : a.eval x = .int k n := ev_one hs hx
      refine hs.value hg (v := .int k' (k'.wrap n)) (e := .one (.int k' (k'.wrap n))) (run ?_) rfl h
      rw [cx]
      simp [convert, run_underlying hd, run_underlying hd', Conv.intToInt]
    · rename_i s hx hk
      rw [kind_str hkd hk] at hd
      have cx : a.eval x = .string s := ev_one hs hx
      refine hs.value hg (v := .string s) (e := .one (.str s)) (run ?_) rfl h
      rw [cx]
      simp [convert, run_underlying hd, run_underlying hd']
    · rename_i s hx hk
      rw [kind_slice hkd hk] at hd
      have cx : a.eval x = .string s := ev_one hs hx
      split at h
      · rename_i ee hsrc hee
        split at h
        · rename_i hk3
          obtain ⟨hb, h⟩ := h
          obtain ⟨de, hde, hkde⟩ := under_of (d := .bool) hT hee
          rw [kind_int hkde hk3] at hde
          rw [kind_str hkd' hsrc] at hd'
          have hr := run_bytes_of_string (P := P) w src dst te.elem s hd' hd hde
          have hkp : Keeps w (fun _ _ => False) (w.drew.alloc (.cells (bytesRow s (grownCap w s.size 0 te.elem)) te.elem ((bytesRow s (grownCap w s.size 0 te.elem)).size, (bytesRow s (grownCap w s.size 0 te.elem)).size + 1))) :=
            (Keeps.drew w _).trans (Keeps.alloc w.drew _ _)
          have hs' := hs.fresh hkp (by show w.heap.size < (w.heap.push _).size; simp)
          have hge := grownCap_ge w s.size 0 te.elem
          refine wp_value (run (by rw [cx]; exact hr)) (hg _ _ _ _ _ (hs'.put (e := .one (.sl (.int .u8) (bytesL s))) ?_ o.dst) h)
          refine ⟨some ⟨w.heap.size, 0, none⟩, s.size, grownCap w s.size 0 te.elem, rfl, (bytesL_length s).symm, hge, fun e => by simp at e, fun A hA i y hy => ?_⟩
          simp only [Option.some.injEq] at hA
          subst hA
          refine ⟨rfl, .inr rfl, [.int .u8 y], rfl, fun j u hj => ?_, rfl⟩
          have hj0 : j = 0 := by
            have := (List.getElem?_eq_some_iff.1 hj).1
            simp at this; omega
          subst hj0
          simp only [List.getElem?_cons_zero, Option.some.injEq] at hj
          subst hj
          have hi : i < s.data.size := by
            have := (List.getElem?_eq_some_iff.1 hy).1
            simpa [bytesL] using this
          have hat := bytesRow_at s (grownCap w s.size 0 te.elem) i hi
          have hcell := World.cell?_alloc_mark w.drew (bytesRow s (grownCap w s.size 0 te.elem)) te.elem ((bytesRow s (grownCap w s.size 0 te.elem)).size, (bytesRow s (grownCap w s.size 0 te.elem)).size + 1) i
          have hyv : y = (s.data[i].toNat : Int) := by
            simp only [bytesL, List.getElem?_map] at hy
            rw [List.getElem?_eq_getElem (by simpa using hi)] at hy
            simpa using hy.symm
          simp only [Ty.size, Nat.mul_one, Nat.zero_add, Nat.add_zero]
          rw [hyv]
          exact hcell.trans hat
        · exact h.elim
      · exact h.elim
    · rename_i c _ hx hk
      rw [kind_str hkd hk] at hd
      split at h
      · rename_i ee hk2 hee
        rw [kind_slice hkd' hk2] at hd'
        split at h
        · rename_i xs hk3 hl
          obtain ⟨de, hde, hkde⟩ := under_of (d := .bool) hT hee
          rw [kind_int hkde hk3] at hde
          obtain ⟨ad, cap, news, hv, hnl, hrd, hnone, hsome⟩ := listOf_rd hs (ev_one hs hx) hl
          refine hs.value hg (v := .string (strL xs)) (e := .one (.str (strL xs))) (run ?_) rfl h
          rw [hv, strL_eq]
          cases ad with
          | none =>
            have h0 : xs = [] := List.eq_nil_of_length_eq_zero (hnone rfl)
            subst h0
            exact run_convert_bytes_nil w src ts.elem hd' hde _ _ dst hd
          | some A =>
            obtain ⟨h1, h2⟩ := hsome _ rfl
            refine run_convert_bytes_any w src ts.elem hd' hde A xs.length cap xs rfl (fun i hi => ?_) dst hd
            have hr := hrd i _ (List.getElem?_eq_getElem hi)
            simp only [Ty.size, Nat.mul_one] at hr hnl
            have hi' : i < news.length := by omega
            rw [List.drop_eq_getElem_cons hi', List.take_succ_cons, List.take_zero] at hr
            simp only [Rd, List.cons.injEq, and_true] at hr
            have h3 := h2 i _ (List.getElem?_eq_getElem hi')
            obtain ⟨g, q, sp⟩ := A
            have h1 := h1 (by omega)
            simp only at h1 h3
            subst h1
            rw [Addr.add_lit, h3, hr]
            simp [List.getD, List.getElem?_eq_getElem hi]
        · exact h.elim
      · exact h.elim
    · exact h.elim
  · exact h.elim
end
end Go.Ry
