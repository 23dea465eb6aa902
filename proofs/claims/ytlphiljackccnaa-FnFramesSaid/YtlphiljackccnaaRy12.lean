/- The evaluator is right: operations (2). No condition. -/
import Derived.Test.YtlphiljackccnaaRy11
set_option linter.unusedVariables false
set_option linter.unusedSimpArgs false
namespace Go.Ry

section
variable {P : Program} {S : Start} {st : St} {a : Act} {w w' : World} {Z Z' : Nat → Prop} {L L' : List Loc} {T : Tab} {C : Calls_} {G : List (Nat × Sig)} {o : Oper} {K : St → Prop} {next : Act → World → Prop} {Q : Exit → Act → World → Prop} {R : Prop}

theorem kind_slice {te : TE} {d : TypeDesc} (h : kindOk te d = true) (hk : te.kind = .slice) : d = .slice te.elem := by
  cases d <;> simp only [kindOk, hk] at h <;> simp_all
theorem kind_bool {te : TE} {d : TypeDesc} (h : kindOk te d = true) (hk : te.kind = .bool) : d = .bool := by
  cases d <;> simp only [kindOk, hk] at h <;> simp_all
theorem kind_str {te : TE} {d : TypeDesc} (h : kindOk te d = true) (hk : te.kind = .str) : d = .string := by
  cases d <;> simp only [kindOk, hk] at h <;> simp_all
theorem kind_int {te : TE} {d : TypeDesc} {k : IntKind} (h : kindOk te d = true) (hk : te.kind = .int k) : d = .int k := by
  cases d <;> simp only [kindOk, hk] at h <;> simp_all
theorem kind_iface {te : TE} {d : TypeDesc} {b : Bool} (h : kindOk te d = true) (hk : te.kind = .iface b) : ∃ ms, d = .interface ms := by
  cases d <;> simp only [kindOk, hk] at h <;> simp_all
theorem equalIn_pointer_nil {P : Program} (w : World) (t e : TypeId) (n : Nat) (hd : P.underlying t = some (.pointer e)) :
    (Op.equalIn (n + 1) t (.pointer none) (.pointer none)).run P w = .ok true w := by
  simp [Op.equalIn, run_underlying hd]
theorem kind_pointer {te : TE} {d : TypeDesc} (h : kindOk te d = true) (hk : te.kind = .pointer) : ∃ e, d = .pointer e := by
  cases d <;> simp_all [kindOk]
theorem kind_struct {te : TE} {d : TypeDesc} (h : kindOk te d = true) (hk : te.kind = .struct) : ∃ fs, d = .struct fs ∧ fieldsEq te.flds fs.toList = true ∧ te.agg = true := by
  cases d <;> simp only [kindOk, hk] at h <;> simp_all
theorem kind_array {te : TE} {d : TypeDesc} {n : Nat} (h : kindOk te d = true) (hk : te.kind = .array n) : d = .array n te.elem ∧ te.agg = true := by
  cases d <;> simp only [kindOk, hk] at h <;> simp_all

theorem under_of {t : Nat} {te : TE} {d : TypeDesc} (hT : tabOk P T = true) (hl : look T t = some te) : ∃ d, P.underlying t = some d ∧ kindOk te d = true := by
  obtain ⟨i, d, z, f⟩ := teFacts (tabOk_look hT hl)
  exact ⟨d, f.under, f.kind⟩

theorem run_eql_iface_nil (w : World) (d : Nat) (t : TypeId) (ms : Array (String × TypeId)) (v : Value) (b : Bool) (h : P.underlying t = some (.interface ms)) (h1 : b = true → v = .nilIface) (h2 : b = false → ∃ t x, v = .iface t x) :
    (Op.equalIn (d + 1) t v .nilIface).run P w = .ok b w := by
  cases b
  · obtain ⟨u, x, rfl⟩ := h2 rfl
    simp [Op.equalIn, run_underlying h]
  · rw [h1 rfl]
    simp [Op.equalIn, run_underlying h]

theorem equalIn_slice_nil (w : World) (d : Nat) (t e : TypeId) (ad : Option Addr) (l c : Nat) (h : P.underlying t = some (.slice e)) : (Op.equalIn (d + 1) t (.slice ad l c) (.slice none 0 0)).run P w = .ok ad.isNone w := by
  cases ad <;> simp [Op.equalIn, run_underlying h]
theorem equal_slice_nil (w : World) (t e : TypeId) (ad : Option Addr) (l c : Nat) (h : P.underlying t = some (.slice e)) : (Op.equal t (.slice ad l c) (.slice none 0 0)).run P w = .ok ad.isNone w :=
  equalIn_slice_nil w 9999 t e ad l c h

theorem sound_binOp {op : BinOp} {t z : TypeId} {x y : Operand} (ho : o.op = .binOp op t x y z) (hT : tabOk P T = true) (hs : Sit S st a w Z L) (hg : FinV P o a w Z L st K R) (h : opW T C G o st K) : R := by
  have fin : ∀ (v : Value) (c : Cell), (∀ w, (binOp op t (a.eval x) (a.eval y)).run P w = .ok v w) → CSim w Z L c v → K (st.putO o.dst (.one c)) →
      ((∀ cs, a.eval x ≠ .agg cs) ∧ (a.eval x ≠ .nilIface ∨ a.eval y ≠ .nilIface ∨ ∃ c, y = .const c)) → R :=
    fun v c hr hc hk hgd => hg.value (fun w => exec_binOp ho hgd (hr w)) (e := .one c) hc hk
  have finB : ∀ (b : Bool), (∀ w, (binOp op t (a.eval x) (a.eval y)).run P w = .ok (.bool b) w) → K (st.putO o.dst (.one (.bool b))) →
      ((∀ cs, a.eval x ≠ .agg cs) ∧ (a.eval x ≠ .nilIface ∨ a.eval y ≠ .nilIface ∨ ∃ c, y = .const c)) → R :=
    fun b hr hk hgd => fin (.bool b) (.bool b) hr rfl hk hgd
  have plain : ∀ (c d : Cell), st.ev x = .one c → st.ev y = .one d → binW op (.one c) (.one d) (fun c => K (st.putO o.dst (.one c))) →
      (∀ b b', c = .bool b → d = .bool b' → P.underlying t = some .bool) → (c = .nils → False) → (∀ b, c ≠ .ifc b) → R := by
    intro c d hx hy hb hbool hnil hifc
    have cx := ev_one hs hx
    have cy := ev_one hs hy
    unfold binW at hb
    split at hb
    · rename_i k p l q e1 e2
      simp only [Ent.one.injEq] at e1 e2
      subst e1; subst e2
      simp only [CSim] at cx cy
      have hgd : (∀ cs, a.eval x ≠ .agg cs) ∧ (a.eval x ≠ .nilIface ∨ a.eval y ≠ .nilIface ∨ ∃ c, y = .const c) := by rw [cx]; simp
      have use : (k = l ∨ op = .shl ∨ op = .shr) → arith op k p q (fun c => K (st.putO o.dst (.one c))) → R := by
        intro hkl ha
        obtain ⟨c, v, hk, hc, hr⟩ := arith_sound (P := P) (w := w) (Z := Z) (L := L) t hkl ha
        exact fin v c (by rw [cx, cy]; exact hr) hc hk hgd
      split at hb
      · exact use (.inr (.inl rfl)) hb
      · exact use (.inr (.inr rfl)) hb
      · split at hb
        · rename_i hkl; exact use (.inl hkl) hb
        · exact hb.elim
    · rename_i p q e1 e2
      simp only [Ent.one.injEq] at e1 e2
      subst e1; subst e2
      simp only [CSim] at cx cy
      have hgd : (∀ cs, a.eval x ≠ .agg cs) ∧ (a.eval x ≠ .nilIface ∨ a.eval y ≠ .nilIface ∨ ∃ c, y = .const c) := by rw [cx]; simp
      have hu := hbool p q rfl rfl
      split at hb
      · exact finB _ (by intro w; rw [cx, cy]; exact run_eql_bool w t p q hu) hb hgd
      · exact finB _ (by intro w; rw [cx, cy]; exact run_neq_bool w t p q hu) hb hgd
      · exact hb.elim
    · rename_i p q e1 e2
      simp only [Ent.one.injEq] at e1 e2
      subst e1; subst e2
      simp only [CSim] at cx cy
      obtain ⟨c, v, hk, hc, hr⟩ := strOp_sound (P := P) (w := w) (Z := Z) (L := L) t hb
      exact fin v c (by rw [cx, cy]; exact hr) hc hk (by rw [cx]; simp)
    · rename_i e1 e2
      simp only [Ent.one.injEq] at e1 e2
      exact (hnil e1).elim
    · rename_i p e1 e2
      simp only [Ent.one.injEq] at e1 e2
      exact absurd e1 (hifc p)
    · exact hb.elim
  simp only [opW, ho] at h
  split at h
  · rename_i te hte
    obtain ⟨d, hd, hkd⟩ := under_of (d := .bool) hT hte
    split at h
    · rename_i hx hy
      split at h
      · rename_i hk
        have hd' := kind_slice hkd hk
        subst hd'
        have cx : a.eval x = .slice none 0 0 := ev_one hs hx
        have cy : a.eval y = .slice none 0 0 := ev_one hs hy
        have hgd : (∀ cs, a.eval x ≠ .agg cs) ∧ (a.eval x ≠ .nilIface ∨ a.eval y ≠ .nilIface ∨ ∃ c, y = .const c) := by rw [cx]; simp
        simp only [binW] at h
        split at h
        · exact finB _ (by intro w; rw [cx, cy]; simp only [binOp]; simp [equal_slice_nil w t te.elem none 0 0 hd]) h hgd
        · exact finB _ (by intro w; rw [cx, cy]; simp only [binOp]; simp [equal_slice_nil w t te.elem none 0 0 hd]) h hgd
        · exact h.elim
      · exact h.elim
    · rename_i c _ hx hy
      split at h
      · rename_i u xs hk hl
        have hd' := kind_slice hkd hk
        subst hd'
        obtain ⟨ad, n, cap, cx, hn, had⟩ := listOf_len hs (ev_one hs hx) hl
        have cy : a.eval y = .slice none 0 0 := ev_one hs hy
        have hgd : (∀ cs, a.eval x ≠ .agg cs) ∧ (a.eval x ≠ .nilIface ∨ a.eval y ≠ .nilIface ∨ ∃ c, y = .const c) := by rw [cx]; simp
        have hb : ad.isNone = true → xs.length = 0 := fun e => had (by simpa using e)
        unfold nilW at h
        split at h
        · exact finB _ (by intro w; rw [cx, cy]; simp only [binOp]; simp [equal_slice_nil w t te.elem ad n cap hd]) (h ad.isNone hb) hgd
        · exact finB _ (by intro w; rw [cx, cy]; simp only [binOp]; simp [equal_slice_nil w t te.elem ad n cap hd]) (h ad.isNone hb) hgd
        · exact h.elim
      · exact h.elim
    · rename_i p q hx hy
      split at h
      · rename_i hk
        have hd' := kind_bool hkd hk
        subst hd'
        exact plain _ _ hx hy h (fun _ _ _ _ => hd) (by simp) (by simp)
      · exact h.elim
    · rename_i hx hy
      split at h
      · rename_i hk
        obtain ⟨ep, hd'⟩ := kind_pointer hkd hk
        subst hd'
        have cx : a.eval x = .pointer none := ev_one hs hx
        have cy : a.eval y = .pointer none := ev_one hs hy
        have hgd : (∀ cs, a.eval x ≠ .agg cs) ∧ (a.eval x ≠ .nilIface ∨ a.eval y ≠ .nilIface ∨ ∃ c, y = .const c) := by rw [cx]; simp
        have he : ∀ w, (Op.equal t (.pointer none) (.pointer none)).run P w = .ok true w := fun w => equalIn_pointer_nil w t ep 9999 hd
        simp only [binW] at h
        split at h
        · exact finB _ (by intro w; rw [cx, cy]; simp only [binOp]; simp [he]) h hgd
        · exact finB _ (by intro w; rw [cx, cy]; simp only [binOp]; simp [he]) h hgd
        · exact h.elim
      · exact h.elim
    · rename_i p q hx hy
      split at h
      · rename_i b cv hk
        obtain ⟨ms, hd'⟩ := kind_iface hkd hk
        subst hd'
        have cx := ev_one hs hx
        have cy := ev_one hs hy
        unfold binW at h
        split at h
        · rename_i e1 e2; simp at e1
        · rename_i e1 e2; simp at e1
        · rename_i e1 e2; simp at e1
        · rename_i e1 e2; simp at e1
        · rename_i p' e1 e2
          simp only [Ent.one.injEq, Cell.ifc.injEq] at e1 e2
          subst e1; subst e2
          have cy' : a.eval (.const cv) = .nilIface := cy.1 rfl
          have hr := fun w => run_eql_iface_nil (P := P) w 9999 t ms (a.eval x) p hd cx.1 cx.2
          have hgd : (∀ cs, a.eval x ≠ .agg cs) ∧ (a.eval x ≠ .nilIface ∨ a.eval (.const cv) ≠ .nilIface ∨ ∃ c, (.const cv : Operand) = .const c) := by
            refine ⟨fun cs e => ?_, .inr (.inr ⟨cv, rfl⟩)⟩
            cases p
            · obtain ⟨u, x', e'⟩ := cx.2 rfl; rw [e'] at e; simp at e
            · rw [cx.1 rfl] at e; simp at e
          have hb : ∀ op', op' = .eql ∨ op' = .neq → ∀ w, (binOp op' t (a.eval x) .nilIface).run P w = .ok (.bool (if op' = .eql then p else !p)) w := by
            intro op' hop w
            cases p
            · obtain ⟨u, x', e'⟩ := cx.2 rfl
              rw [e'] at hr ⊢
              rcases hop with rfl | rfl <;> simp only [binOp] <;> simp [show Op.equal t (.iface u x') .nilIface = Op.equalIn (9999 + 1) t (.iface u x') .nilIface from rfl, hr]
            · rw [cx.1 rfl] at hr ⊢
              rcases hop with rfl | rfl <;> simp only [binOp] <;> simp [show Op.equal t .nilIface .nilIface = Op.equalIn (9999 + 1) t .nilIface .nilIface from rfl, hr]
          split at h
          · exact finB _ (by intro w; rw [cy']; simpa using hb _ (.inl rfl) w) h hgd
          · exact finB _ (by intro w; rw [cy']; simpa using hb _ (.inr rfl) w) h hgd
          · exact h.elim
        · exact h.elim
      · exact h.elim
    · rename_i n1 n2 n3 n4 n5
      have : ∃ c d, st.ev x = .one c ∧ st.ev y = .one d := by
        unfold binW at h
        split at h
        · rename_i e1 e2; exact ⟨_, _, e1, e2⟩
        · rename_i e1 e2; exact ⟨_, _, e1, e2⟩
        · rename_i e1 e2; exact ⟨_, _, e1, e2⟩
        · rename_i e1 e2; exact ⟨_, _, e1, e2⟩
        · rename_i e1 e2; exact ⟨_, _, e1, e2⟩
        · exact h.elim
      obtain ⟨c, d', hx, hy⟩ := this
      rw [hx, hy] at h
      refine plain c d' hx hy h (fun b b' e1 e2 => ?_) (fun e1 => ?_) (fun b e1 => ?_)
      · subst e1; subst e2; exact absurd hy (n3 b b' hx)
      · subst e1
        unfold binW at h
        split at h <;> simp_all
      · subst e1
        unfold binW at h
        split at h <;> simp_all
  · split at h
    · rename_i hx hy
      exact plain _ _ hx hy h (by simp) (by simp) (by simp)
    · rename_i hx hy
      exact plain _ _ hx hy h (by simp) (by simp) (by simp)
    · exact h.elim
end
end Go.Ry
