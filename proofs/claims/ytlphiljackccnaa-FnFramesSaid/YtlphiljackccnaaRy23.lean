/- The evaluator is right: operations (7): make. No condition. -/
import Derived.Test.YtlphiljackccnaaRy22
set_option linter.unusedVariables false
set_option linter.unusedSimpArgs false
namespace Go.Ry

section
variable {P : Program} {S : Start} {st : St} {a : Act} {w w' : World} {Z Z' : Nat → Prop} {L L' : List Loc} {T : Tab} {C : Calls_} {G : List (Nat × Sig)} {o : Oper} {K : St → Prop} {next : Act → World → Prop} {Q : Exit → Act → World → Prop}

theorem made_seg (z : Array Value) (n sz i : Nat) (hz : z.size = sz) (hs : 0 < sz) (hi : i < n) : ((madeCells z (n * sz)).toList.drop (i * sz)).take sz = z.toList := by
  have hks := Nat.mul_le_mul_right sz (show i + 1 ≤ n by omega)
  rw [Nat.add_mul, Nat.one_mul] at hks
  apply List.ext_getElem?
  intro j
  by_cases hj : j < sz
  · rw [seg_get _ _ _ _ hj]
    have h1 : i * sz + j < n * sz := by omega
    have h2 : (i * sz + j) % sz = j := by rw [Nat.mul_comm, Nat.mul_add_mod, Nat.mod_eq_of_lt hj]
    have h3 : j < z.size := by omega
    simp [madeCells, h1, hz, h2, h3]
    rw [Array.getElem?_eq_getElem h3, getElem!_pos z j h3]
  · rw [List.getElem?_take_eq_none (by omega), List.getElem?_eq_none (by simp; omega)]

theorem sound_makeSlice {t : TypeId} {x y : Operand} (ho : o.op = .makeSlice t x y) (hT : tabOk P T = true) (hs : Sit S st a w Z L) (hg : Goes S K next) (h : opW T C G o st K) : o.wp P a w next Q := by
  simp only [opW, ho] at h
  split at h
  · rename_i e ee k1 n k2 m hsl hx hy
    split at h
    · rename_i htp
      simp only [Bool.and_eq_true] at htp
      have hpos : 0 < ee.size := Nat.le_of_ble_eq_true htp.2
      obtain ⟨rfl, ⟨h0, hb⟩, hk⟩ := h
      obtain ⟨hu, i, d, z, f⟩ := slTy_facts hT hsl
      obtain ⟨t1, t2, t3⟩ := told_facts f htp.1
      have hby : 0 < ee.bytes := f.pos.resolve_left (by omega)
      obtain ⟨N, rfl⟩ : ∃ N : Nat, n = (N : Int) := ⟨n.toNat, by omega⟩
      have hb' : N * ee.bytes ≤ 140737488355328 := by
        have : ((N * ee.bytes : Nat) : Int) ≤ 140737488355328 := by rw [Int.natCast_mul]; exact hb
        omega
      have h63 : N ≤ maxLen := by
        have := Nat.le_trans (Nat.le_mul_of_pos_right N hby) hb'
        simp only [maxLen]; omega
      obtain ⟨w', r1, r2, r3⟩ := run_make_full (P := P) w 0 t e i z ee.size hu f.info f.zero f.size k1 k2 N (by rw [f.bytes, Nat.mul_comm]; omega) h63 (Nat.zero_le _)
      have hkp : Keeps w (fun _ _ => False) w' := ⟨r3.os, r3.tape, r3.output, r3.size, fun b hb => .inl (r3.block b hb (by simp))⟩
      have cx : a.eval x = .int k1 (N : Int) := ev_one hs hx
      have cy : a.eval y = .int k2 (N : Int) := ev_one hs hy
      have hs' := hs.add (o := .row e ee.ty (List.replicate N ee.ty.dflt)) (l := .row (.slice (some ⟨w.heap.size, 0, none⟩) N N) ee.ty.size N) hkp
        ⟨.slice (some ⟨w.heap.size, 0, none⟩) N N, (madeCells z.cells (N * ee.size)).toList, by simp, by omega, by rw [t1]; simpa using r2, fun j y hj => by
          have hjN : j < N := by
            have := (List.getElem?_eq_some_iff.1 hj).1
            simpa using this
          have : y = ee.ty.dflt := by
            rw [List.getElem?_replicate, if_pos hjN] at hj
            simpa using hj.symm
          subst this
          rw [t1, made_seg z.cells N ee.size j t2 hpos hjN]
          exact t3 _ _⟩ (fun b q hq => by simp [foot, Value.ownBlock] at hq; omega)
      refine wp_value (v := .slice (some ⟨w.heap.size, 0, none⟩) N N) (w' := w') ?_ (hg _ _ _ _ _ (hs'.put (e := .one (.row st.objs.length)) ⟨⟨_, _, _, rfl⟩, _, _, hs.newAt _⟩ o.dst) (by simpa using hk))
      unfold execOp
      simp [ho, cx, cy, r1]
    · exact h.elim
  · exact h.elim
end
end Go.Ry
