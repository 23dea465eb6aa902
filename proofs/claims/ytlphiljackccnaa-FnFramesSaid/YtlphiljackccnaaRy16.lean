/- The evaluator is right: operations (6). No condition. -/
import Derived.Test.YtlphiljackccnaaRy15
set_option linter.unusedVariables false
set_option linter.unusedSimpArgs false
namespace Go.Ry

section
variable {P : Program} {S : Start} {st : St} {a : Act} {w w' : World} {Z Z' : Nat → Prop} {L L' : List Loc} {T : Tab} {C : Calls_} {G : List (Nat × Sig)} {o : Oper} {K : St → Prop} {next : Act → World → Prop} {Q : Exit → Act → World → Prop} {R : Prop}

theorem zeroIs_length : ∀ {t : Ty} {cs r : List Cell}, zeroIs t cs = some r → cs.length = t.size + r.length := by
  intro t cs r h
  -- by what it stands for, in an empty world
  induction t generalizing cs r with
  | unit => simp only [zeroIs, Option.some.injEq] at h; subst h; simp [Ty.size]
  | pair x y ihx ihy =>
    simp only [zeroIs] at h
    split at h
    · rename_i cs1 h1
      have := ihx h1
      have := ihy h
      simp only [Ty.size]; omega
    · simp at h
  | int k =>
    unfold zeroIs at h
    split at h <;> simp_all [Ty.size]
    all_goals omega
  | bool =>
    unfold zeroIs at h
    split at h <;> simp_all [Ty.size]
    all_goals omega
  | str =>
    unfold zeroIs at h
    split at h <;> simp_all [Ty.size]
    all_goals omega
  | slice t _ =>
    unfold zeroIs at h
    split at h <;> simp_all [Ty.size]
    all_goals omega

theorem zeroEq_length : ∀ {cs : List Cell} {vs : List Value}, zeroEq cs vs = true → vs.length = cs.length := by
  intro cs vs h
  exact CsSim.length (zeroEq_sim default (fun _ => False) [] h)

theorem told_facts {e : Nat} {ee : TE} {i : TypeInfo} {d : TypeDesc} {z : Value} (f : TEFacts P e ee i d z) (ht : ee.told = true) :
    ee.ty.size = ee.size ∧ z.cells.size = ee.size ∧ ∀ w Z, Rd w Z ee.ty ee.ty.dflt z.cells.toList := by
  obtain ⟨h1, h2⟩ := f.told ht
  have h3 := zeroIs_length h2
  have h4 := zeroEq_length f.zeroEq
  refine ⟨h1, ?_, fun w Z => ?_⟩
  · rw [← Array.length_toList, h4, h3]; simpa using h1
  · obtain ⟨us, rs, e1, e2, e3⟩ := zeroIs_sim h2 (zeroEq_sim w Z [] f.zeroEq)
    cases rs with
    | nil => rw [e1]; simpa using e2
    | cons _ _ => exact e3.elim

theorem appTy_of {ts tx e : Nat} {ee xe : TE} (hT : tabOk P T = true) (hsl : slTy T ts = some (e, ee)) (hx : look T tx = some xe) (hk : xe.kind = .slice ∨ xe.kind = .str) (ht : ee.told = true) (hp : 0 < ee.size) :
    AppTy P ts tx e ee.ty ee.bytes := by
  obtain ⟨hu, i, d, z, f⟩ := slTy_facts hT hsl
  obtain ⟨h1, h2, _⟩ := told_facts f ht
  obtain ⟨dx, hd, hkd⟩ := under_of (d := .bool) hT hx
  refine ⟨hu, ⟨dx, hd, ?_⟩, ⟨i, z, f.info, f.zero, by rw [f.size, h1], f.bytes, by rw [h2, h1]⟩, by omega, f.pos.resolve_left (by omega)⟩
  rcases hk with hk | hk
  · exact .inl ⟨_, kind_slice hkd hk⟩
  · exact .inr (kind_str hkd hk)

theorem bytesL_length (s : ByteArray) : (bytesL s).length = s.size := by
  simp only [bytesL, List.length_map, Array.length_toList]
  rfl

theorem sound_append {t : List Nat} {s x : Operand} {c : Call} (ho : o.op = .call c) (hcl : c.callee = .builtin .append) (hca : c.args.toList = [s, x]) (hct : c.argTypes.toList = t) (hT : tabOk P T = true) (hs : Sit S st a w Z L) (hg : Goes S K next)
    (h : builtinW T .append [s, x] t st o.dst K) : o.wp P a w next Q := by
  have hca' : c.args = #[s, x] := by
    have := congrArg List.toArray hca
    simpa using this
  simp only [builtinW] at h
  split at h
  · rename_i ts tx
    have hct' : c.argTypes = #[ts, tx] := by
      have := congrArg List.toArray hct
      simpa using this
    split at h
    · rename_i e ee xe hsl hxe
      split at h
      · rename_i htp
        simp only [Bool.and_eq_true] at htp
        have hpos : 0 < ee.size := Nat.le_of_ble_eq_true htp.2
        have go : ∀ (v' : Value) (w' : World) (L' : List Loc) (st' : St), (Builtin.append_ #[ts, tx] o.type #[a.eval s, a.eval x]).run P w = .ok v' w' → Sit S st' (a.put o.dst v') w' Z L' → K st' → o.wp P a w next Q := by
          intro v' w' L' st' hr hs' hk
          refine wp_value (v := v') (w' := w') ?_ (hg _ _ _ _ _ hs' hk)
          unfold execOp
          simp [ho, resolve, hcl, hca', hct', invoke, builtin, hr]
        split at h
        · rename_i s' y hk hs1 hx1
          have cx : a.eval x = .string y := ev_one hs hx1
          split at h
          · rename_i hty
            have at_ := appTy_of hT hsl hxe (.inr hk) htp.1 hpos
            rw [hty] at at_
            have hn : ((y.data.toList.map fun b => Value.int .u8 (b.toNat : Int)) : List Value).length = (bytesL y).length := by simp [bytesL]
            obtain ⟨v', w', L', st', hr, hs', hk'⟩ := appendW_sound (P := P) (ty := o.type) (news := y.data.toList.map fun b => Value.int .u8 (b.toNat : Int)) (xv := .string y) h hs (ev_one hs hs1) at_
              (fun w => by simp [Builtin.lenOf, bytesL_length])
              (fun w' _ => by
                rw [bytesL_length]
                simp only [Builtin.firstCells, Sem.run_pure]
                have he : (y.extract 0 y.size).data = y.data := by
                  have : y.extract 0 y.size = y := by simp
                  rw [this]
                rw [he]
                congr 1
                apply Array.ext'
                simp)
              (by rw [hn]; simp [Ty.size])
              (fun u hu => by
                obtain ⟨b, _, rfl⟩ := List.mem_map.1 hu
                rfl)
              (fun i b hi => by
                simp only [Ty.size, Nat.mul_one]
                simp only [bytesL, List.getElem?_map] at hi
                cases hb : y.data.toList[i]? with
                | none => rw [hb] at hi; simp at hi
                | some b' =>
                  rw [hb] at hi
                  simp only [Option.map_some, Option.some.injEq] at hi
                  subst hi
                  have hlt := (List.getElem?_eq_some_iff.1 hb).1
                  rw [List.drop_eq_getElem_cons (by simpa using hlt), List.take_succ_cons, List.take_zero]
                  simp only [Rd, List.getElem_map]
                  rw [(List.getElem?_eq_some_iff.1 hb).2])
            exact go v' w' L' st' (by rw [cx]; exact hr) hs' hk'
          · exact h.elim
        · rename_i s' hk hs1 hx1
          have cx : a.eval x = .slice none 0 0 := ev_one hs hx1
          have at_ := appTy_of hT hsl hxe (.inl hk) htp.1 hpos
          obtain ⟨v', w', L', st', hr, hs', hk'⟩ := appendW_sound (P := P) (ty := o.type) (news := []) (xv := .slice none 0 0) h hs (ev_one hs hs1) at_
            (fun w => by simp [Builtin.lenOf]) (fun w' _ => by simp [Builtin.firstCells]) (by simp) (fun u hu => by simp at hu) (fun i b hi => by simp at hi)
          exact go v' w' L' st' (by rw [cx]; exact hr) hs' hk'
        · rename_i s' x' _ hk hs1 hx1
          split at h
          · rename_i ys hl
            split at h
            · rename_i ys' hcast
              obtain ⟨u, ys⟩ := ys
              obtain ⟨rfl, rfl⟩ := castL_some hcast
              obtain ⟨ad, cap, news, hv, hnl, hrd, hnone, hsome⟩ := listOf_rd hs (ev_one hs hx1) hl
              have at_ := appTy_of hT hsl hxe (.inl hk) htp.1 hpos
              obtain ⟨v', w', L', st', hr, hs', hk'⟩ := appendW_sound (P := P) (ty := o.type) (news := news) (xv := a.eval x) h hs (ev_one hs hs1) at_
                (fun w => by rw [hv]; simp [Builtin.lenOf])
                (fun w' hw => by
                  rw [hv]
                  cases ad with
                  | none =>
                    have h0 := hnone rfl
                    have : news = [] := List.eq_nil_of_length_eq_zero (by rw [hnl, h0, Nat.zero_mul])
                    subst this
                    simp [Builtin.firstCells]
                  | some A => exact (hsome A rfl).2.firstCells (hsome A rfl).1 hnl hw)
                hnl (hrd.oneCell hnl) hrd
              exact go v' w' L' st' hr hs' hk'
            · exact h.elim
          · exact h.elim
        · exact h.elim
      · exact h.elim
    · exact h.elim
  · exact h.elim

theorem intsOf_eval (hs : Sit S st a w Z L) : ∀ {xs : List Operand} {l : List (IntKind × Int)}, intsOf st xs = some l → xs.map a.eval = l.map fun p => Value.int p.1 p.2
  | [], l, h => by simp only [intsOf, Option.some.injEq] at h; subst h; rfl
  | x :: xs, l, h => by
    simp only [intsOf] at h
    split at h
    · rename_i k n l' hx hr
      simp only [Option.some.injEq] at h
      subst h
      have cx : a.eval x = .int k n := ev_one hs hx
      simp [cx, intsOf_eval hs hr]
    · simp at h

theorem run_minL (w : World) (k : IntKind) : ∀ (l : List (IntKind × Int)) (x : Int), ((l.map fun p => Value.int p.1 p.2).foldlM Builtin.min2 (.int k x)).run P w = .ok (.int k (minL x l)) w
  | [], x => by simp [minL]
  | (j, y) :: l, x => by
    simp only [List.map_cons, List.foldlM_cons, Builtin.min2, Sem.run_bind, Sem.run_pure, Result.andThen_ok, minL]
    exact run_minL w k l _
theorem run_maxL (w : World) (k : IntKind) : ∀ (l : List (IntKind × Int)) (x : Int), ((l.map fun p => Value.int p.1 p.2).foldlM Builtin.max2 (.int k x)).run P w = .ok (.int k (maxL x l)) w
  | [], x => by simp [maxL]
  | (j, y) :: l, x => by
    simp only [List.map_cons, List.foldlM_cons, Builtin.max2, Sem.run_bind, Sem.run_pure, Result.andThen_ok, maxL]
    exact run_maxL w k l _

theorem sound_min {t : List Nat} {c : Call} (ho : o.op = .call c) (hcl : c.callee = .builtin .min) (hs : Sit S st a w Z L) (hg : FinV P o a w Z L st K R)
    (h : builtinW T .min c.args.toList t st o.dst K) : R := by
  simp only [builtinW] at h
  split at h
  · rename_i k n l hi
    have he := intsOf_eval hs hi
    refine hg.value (v := .int k (minL n l)) (e := .one (.int k (minL n l))) (fun w => ?_) rfl h
    unfold execOp
    simp only [ho, resolve, hcl, invoke, builtin, Sem.run_bind, Sem.run_pure, Result.andThen_ok, Builtin.min_, Array.toList_map, he, List.map_cons, run_minL]
  · exact h.elim
theorem sound_max {t : List Nat} {c : Call} (ho : o.op = .call c) (hcl : c.callee = .builtin .max) (hs : Sit S st a w Z L) (hg : FinV P o a w Z L st K R)
    (h : builtinW T .max c.args.toList t st o.dst K) : R := by
  simp only [builtinW] at h
  split at h
  · rename_i k n l hi
    have he := intsOf_eval hs hi
    refine hg.value (v := .int k (maxL n l)) (e := .one (.int k (maxL n l))) (fun w => ?_) rfl h
    unfold execOp
    simp only [ho, resolve, hcl, invoke, builtin, Sem.run_bind, Sem.run_pure, Result.andThen_ok, Builtin.max_, Array.toList_map, he, List.map_cons, run_maxL]
  · exact h.elim
end
end Go.Ry
