/- Code as a text, written through strings.Builder; what is drawn. No condition. -/
import Derived.Test.YtmcgmmmbnidpnaaPCod1
import Derived.Test.YtmcgmmmbnidpnaaPBld
import Derived.Test.YtmcgmmmbnidpnaaPDrw1
set_option linter.unusedVariables false
set_option linter.unusedSimpArgs false
namespace Go.Ry
open Go.Proofs

@[reducible] def bldO' (r : List Int) : List Ob := [.box [.selfp 0 t_strings_Builder 2, .row 2], .dead, .row t_uint8 (.int .u8) r]
theorem c_WriteByte (n : Int) (r : List Int) (h : r.length ≤ 1048576) : TT n_strings_Builder_WriteByte [.one (.ptrB 0 0), .one (cY n)] (bldO r) (.one (.ifc true)) (bldO' (r ++ [n])) :=
  r_strings_Builder_WriteByte n r ⟨c_copyCheck r, by simp; omega, rfl, rfl⟩
theorem c_WriteString (s : ByteArray) (r : List Int) (h : r.length ≤ 1048576) (hs : s.size ≤ 1048576) : TT n_strings_Builder_WriteString [.one (.ptrB 0 0), eS s] (bldO r) (.tup [(false, [cI (s.size : Int)]), (false, [.ifc true])]) (bldO' (r ++ bytesL s)) :=
  r_strings_Builder_WriteString s r ⟨c_copyCheck r, by rw [bytesL_size]; omega, rfl, rfl⟩
theorem strL_append (a b : List Int) : strL a ++ strL b = strL (a ++ b) := by
  apply ByteArray.ext
  simp [strL, ByteArray.data_append]
theorem takeE {l : List Ins} {i : Nat} (h : i < l.length) : encL (l.take (i + 1)) = encL (l.take i) ++ encI (l.getD i ((0 : Int), ((0 : Int), ()))) := by
  rw [take_succ_getD h ((0 : Int), ((0 : Int), ())), encL_append]; simp [encL]
theorem getD_mem' {l : List Ins} {i : Nat} (h : i < l.length) : l.getD i ((0 : Int), ((0 : Int), ())) ∈ l := by
  rw [List.getD_eq_getElem?_getD, List.getElem?_eq_getElem h]; exact List.getElem_mem h
theorem c_impl_codeText (l : List Ins) (h : ∀ x ∈ l, instrOK x.1 x.2.1 = true) (hl : l.length ≤ 40) : TT n_impl_codeText [.one (.sl tIns l)] [] (eS (strL (encL l))) [] := by
  refine r_impl_codeText l ⟨fun m i r => 0 ≤ i ∧ i ≤ l.length ∧ m = (l.length - i).toNat ∧ r = encL (l.take i.toNat), ⟨_, rfl, by omega, by omega, rfl, rfl⟩, ?_⟩
  rintro m i r ⟨h0, h1, rfl, rfl⟩
  have hle : (encL (l.take i.toNat)).length ≤ 200 := by
    have := encL_len (l := l.take i.toNat)
    rw [List.length_take] at this
    omega
  refine ifP (fun hlt => ⟨⟨h0, hlt⟩, ?_⟩) (fun hge => ?_)
  · have hi : i.toNat < l.length := by omega
    have ht := takeE hi
    have hok := insOK_op (h _ (getD_mem' hi))
    revert ht hok
    generalize l.getD i.toNat ((0 : Int), ((0 : Int), ())) = x
    intro ht hok
    have e8 : wY x.1 = x.1 := by show IntKind.wrap .u8 x.1 = x.1; rw [wu8_eq]; omega
    rw [e8, w64 (x := i + 1) (by omega)]
    refine ⟨_, _, c_WriteByte x.1 _ (by omega), _, c_impl_hasOperand _, ifB_cases (fun hh => ?_) (fun hh => ?_)⟩
    · have hb : bytesL (strL (leB x.2.1 4)) = leB x.2.1 4 := toBytes leB_isB
      refine ⟨_, c_impl_put x.2.1 4 (by simp [isZ]), _, _, _, c_WriteString _ _ (by simp; omega) (by rw [strL_size, leB_length]; omega), _, by omega, rfl, by omega, by omega, rfl, ?_⟩
      rw [toNat_succ h0, ht, hb, encI, if_pos hh, List.append_assoc]; rfl
    · refine ⟨_, by omega, rfl, by omega, by omega, rfl, ?_⟩
      rw [toNat_succ h0, ht, encI, if_neg (by rw [hh]; simp)]
  · rw [show i.toNat = l.length by omega, List.take_length]
    exact ⟨_, c_String _ (encL_isB h), rfl, rfl⟩
theorem c_spec_l02Bytes (l : List Ins) (h : ∀ x ∈ l, instrOK x.1 x.2.1 = true) (hl : l.length ≤ 40) : TT n_spec_l02Bytes [.one (.sl tIns l)] [] (eS (strL (encL l))) [] := by
  refine r_spec_l02Bytes l ⟨fun m s i => 0 ≤ i ∧ i ≤ l.length ∧ m = (l.length - i).toNat ∧ s = strL (encL (l.take i.toNat)), ⟨_, rfl, by omega, by omega, rfl, rfl⟩, ?_⟩
  rintro m s i ⟨h0, h1, rfl, rfl⟩
  have hle : (encL (l.take i.toNat)).length ≤ 200 := by
    have := encL_len (l := l.take i.toNat)
    rw [List.length_take] at this
    omega
  refine ifP (fun hlt => ⟨⟨h0, hlt⟩, ?_⟩) (fun hge => ?_)
  · have hi : i.toNat < l.length := by omega
    have ht := takeE hi
    have hok := insOK_op (h _ (getD_mem' hi))
    revert ht hok
    generalize l.getD i.toNat ((0 : Int), ((0 : Int), ())) = x
    intro ht hok
    have e1 : leB x.1 1 = [x.1] := by simp only [leB, wu8_eq, List.cons.injEq, and_true]; omega
    have k1 := c_spec_l01Put x.1 1 (by simp [isZ])
    rw [e1] at k1
    rw [w64 (x := i + 1) (by omega)]
    refine ⟨_, k1, by rw [strL_size, strL_size]; simp; omega, ⟨h0, hlt⟩, _, _, _, c_spec_l02Has _, ifB_cases (fun hh => ⟨⟨h0, hlt⟩, ?_⟩) (fun hh => ?_)⟩
    · refine ⟨_, c_spec_l01Put x.2.1 4 (by simp [isZ]), ?_, _, by omega, rfl, by omega, by omega, rfl, ?_⟩
      · rw [strL_append, strL_size, strL_size, leB_length]; simp; omega
      · rw [toNat_succ h0, ht, strL_append, strL_append, encI, if_pos hh, List.append_assoc]; rfl
    · refine ⟨_, by omega, rfl, by omega, by omega, rfl, ?_⟩
      rw [toNat_succ h0, ht, strL_append, encI, if_neg (by rw [hh]; simp)]
  · rw [show i.toNat = l.length by omega, List.take_length]
    exact ⟨rfl, rfl⟩
theorem allOK {l : List Ins} (h : ∀ x ∈ l, instrOK x.1 x.2.1 = true) : l.all insOK = true := by
  rw [List.all_eq_true]
  exact fun x hx => h x hx
theorem c_impl_many_Instr (l : List Ins) (hl : l.length ≤ 4096) : TT n_impl_many_impl_Instr [.one (.sl tIns l)] [] (eI 0) [] :=
  r_impl_many_impl_Instr l ⟨_, c_impl_when _ _, by rw [if_neg (by simp; omega)], rfl⟩
theorem c_impl_CodeText (l : List Ins) (h : ∀ x ∈ l, instrOK x.1 x.2.1 = true) (hl : l.length ≤ 40) : TT n_impl_CodeText [.one (.sl tIns l)] [] (strI (strL (encL l)) 0) [] := by
  refine r_impl_CodeText l ⟨_, c_impl_many_Instr l (by omega), _, c_impl_when _ _, _, c_impl_all_impl_Instr l (by omega), _, c_impl_when _ _, _, c_impl_first _ (by simp), ifN_f ?_ ⟨_, c_impl_codeText l h hl, rfl, rfl⟩⟩
  rw [if_neg (by simp; omega), allOK h]
  simp [firstOf_]
theorem c_spec_CodeText (l : List Ins) (h : ∀ x ∈ l, instrOK x.1 x.2.1 = true) (hl : l.length ≤ 40) : TT n_spec_CodeText [.one (.sl tIns l)] [] (strI (strL (encL l)) 0) [] := by
  refine r_spec_CodeText l (ifP_f (by omega) (ifP_f (by omega) ⟨_, c_spec_l02All l (by omega), ifB_f ?_ ⟨_, c_spec_l02Bytes l h hl, rfl, rfl⟩⟩))
  rw [allOK h]; rfl
theorem c_impl_ReadCode (s : ByteArray) (hs : s.size ≤ 65536) : TT n_impl_ReadCode [eS s] [] (retC (readB (bytesL s))) (retO (readB (bytesL s))) := by
  have k := c_impl_long s
  rw [if_neg (by omega)] at k
  exact r_impl_ReadCode s ⟨_, k, ifN_f rfl ⟨_, _, c_impl_readCode s hs, rfl, rfl⟩⟩

/-! ### what is drawn -/
theorem c_someCode (k : Int) (hk : 0 ≤ k ∧ k ≤ 1000) (l : List Int) (p q : Int) (h : SrcOK l p q) (hp : p < 1000) :
    ∃ (r : List Ins) (p' q' : Int), (r.length : Int) = k ∧ (∀ x ∈ r, instrOK x.1 x.2.1 = true) ∧ TT n_spec_l00Src_someCode [.one (.ptrB 0 0), eI k] [srcO l p q] (.one (.row 1)) [srcO l p' q', .row t_impl_Instr tIns r] := by
  -- one draw after the other
  have step : ∀ (p q : Int), ∃ (x : Ins) (p' q' : Int), SrcOK l p q → p < 1099511610000 → instrOK x.1 x.2.1 = true ∧ (p ≤ p' ∧ p' ≤ p + 20) ∧ SrcOK l p' q' ∧ TT n_spec_l00Src_instr [.one (.ptrB 0 0)] [srcO l p q] (.agg [cI x.1, cI x.2.1]) [srcO l p' q'] := by
    intro p q
    by_cases hs : SrcOK l p q ∧ p < 1099511610000
    · obtain ⟨op, a, p', q', a1, a2, a3, a4⟩ := c_instr l p q hs.1 hs.2
      exact ⟨(op, (a, ())), p', q', fun _ _ => ⟨a1, a2, a3, a4⟩⟩
    · exact ⟨(0, (0, ())), 0, 0, fun h1 h2 => absurd ⟨h1, h2⟩ hs⟩
  let F := fun (p q : Int) => Classical.choose (step p q)
  let G := fun (p q : Int) => Classical.choose (Classical.choose_spec (step p q))
  let H := fun (p q : Int) => Classical.choose (Classical.choose_spec (Classical.choose_spec (step p q)))
  have hF : ∀ p q : Int, SrcOK l p q → p < 1099511610000 → instrOK (F p q).1 (F p q).2.1 = true ∧ (p ≤ G p q ∧ G p q ≤ p + 20) ∧ SrcOK l (G p q) (H p q) ∧ TT n_spec_l00Src_instr [.one (.ptrB 0 0)] [srcO l p q] (.agg [cI (F p q).1, cI (F p q).2.1]) [srcO l (G p q) (H p q)] :=
    fun p q => Classical.choose_spec (Classical.choose_spec (Classical.choose_spec (step p q)))
  -- the run
  let run : Nat → Int → Int → List Ins × Int × Int := fun n => Nat.rec (fun p q => ([], p, q)) (fun _ rec p q => ((F p q) :: (rec (G p q) (H p q)).1, (rec (G p q) (H p q)).2)) n
  have run_succ : ∀ (n : Nat) (p q : Int), run (n + 1) p q = ((F p q) :: (run n (G p q) (H p q)).1, (run n (G p q) (H p q)).2) := fun _ _ _ => rfl
  have run_zero : ∀ (p q : Int), run 0 p q = ([], p, q) := fun _ _ => rfl
  have run_len : ∀ (n : Nat) (p q : Int), (run n p q).1.length = n := by
    intro n
    induction n with
    | zero => intro p q; rfl
    | succ n ih => intro p q; rw [run_succ]; simp [ih]
  have run_ok : ∀ (n : Nat) (p q : Int), SrcOK l p q → p + 20 * n < 1099511610000 → ∀ x ∈ (run n p q).1, instrOK x.1 x.2.1 = true := by
    intro n
    induction n with
    | zero => intro p q _ _ x hx; rw [run_zero] at hx; simp at hx
    | succ n ih =>
      intro p q h1 h2 x hx
      obtain ⟨a1, a2, a3, _⟩ := hF p q h1 (by omega)
      rw [run_succ] at hx
      simp only [List.mem_cons] at hx
      rcases hx with rfl | hx
      · exact a1
      · exact ih _ _ a3 (by omega) x hx
  refine ⟨(run k.toNat p q).1, (run k.toNat p q).2.1, (run k.toNat p q).2.2, by rw [run_len]; omega, run_ok _ p q h (by omega), ?_⟩
  refine r_spec_l00Src_someCode k l p q ⟨fun m i l' p' q' r => l = l' ∧ 0 ≤ i ∧ i ≤ k ∧ m = (k - i).toNat ∧ SrcOK l p' q' ∧ p' ≤ 1000 + 20 * i ∧ (r.length : Int) = i ∧ run k.toNat p q = (r ++ (run (k - i).toNat p' q').1, (run (k - i).toNat p' q').2),
    ⟨_, rfl, rfl, by omega, by omega, rfl, h, by omega, rfl, by rw [Int.sub_zero]; rfl⟩, ?_⟩
  rintro m i _ p' q' r ⟨rfl, h0, h1, rfl, h2, h3, h4, h5⟩
  refine ifP (fun hlt => ?_) (fun hge => ?_)
  · obtain ⟨a1, a2, a3, a4⟩ := hF p' q' h2 (by omega)
    rw [show (k - i).toNat = (k - (i + 1)).toNat + 1 by omega, run_succ] at h5
    rw [w64 (x := i + 1) (by omega)]
    exact ⟨_, _, _, _, _, a4, by simp; omega, _, by omega, rfl, rfl, by omega, by omega, rfl, a3, by omega, by simp; omega, by rw [h5]; simp⟩
  · have e : (k - i).toNat = 0 := by omega
    rw [e, run_zero] at h5
    rw [h5]
    simp
theorem c_SomeCode (k : Int) (hk : 0 ≤ k ∧ k ≤ 1000) (l : List Int) (hl : l.length ≤ 1048576) (hb : ∀ n ∈ l, 0 ≤ n ∧ n ≤ 255) :
    ∃ r : List Ins, (r.length : Int) = k ∧ (∀ x ∈ r, instrOK x.1 x.2.1 = true) ∧ TT n_spec_SomeCode [.one (.sl u8s l), eI k] [] (.one (.row 0)) [.row t_impl_Instr tIns r] := by
  obtain ⟨q, h1, h2⟩ := c_source l hl hb
  obtain ⟨r, p', q', a1, a2, a3⟩ := c_someCode k hk l 0 q h1 (by omega)
  exact ⟨r, a1, a2, r_spec_SomeCode l k ⟨_, _, _, h2, _, _, _, _, a3, rfl, rfl⟩⟩
theorem c_at (l : List Int) (i k : Int) (hl : l.length ≤ 1048576) (hb : ∀ n ∈ l, 0 ≤ n ∧ n ≤ 255) (hi : 0 ≤ i ∧ i ≤ 1000) (hk : 2 ≤ k) : ∃ n, (0 ≤ n ∧ n < k) ∧ TT n_laws_at [.one (.sl u8s l), eI i, eI k] [] (eI n) [] := by
  have two : ∀ m : Int, 0 ≤ m → 0 ≤ Int.tmod m k ∧ Int.tmod m k < k := fun m hm => tmod_rng hm (by omega)
  by_cases h0 : (l.length : Int) = 0
  · refine ⟨Int.tmod (wI (i * 7)) k, two _ (by rw [w64 (by omega)]; omega), r_laws_at l i k ?_⟩
    unfold v_laws_at
    exact ifP_f (by omega) (ifE_t h0 ⟨by omega, rfl, rfl⟩)
  · obtain ⟨a0, a1⟩ := tmod_rng (a := i) (b := (l.length : Int)) (by omega) (by omega)
    obtain ⟨b0, b1⟩ := tmod_rng (a := i + 1) (b := (l.length : Int)) (by omega) (by omega)
    have c0 := by_at hb (Int.tmod i l.length).toNat
    have c1 := by_at hb (Int.tmod (i + 1) l.length).toNat
    have d0 : 0 ≤ Int.tdiv i l.length := Int.tdiv_nonneg (by omega) (by omega)
    have d1 : Int.tdiv i l.length ≤ 1000 := by
      rw [Int.tdiv_eq_ediv_of_nonneg (by omega)]
      have := Int.ediv_le_self (b := (l.length : Int)) (a := i) (by omega)
      omega
    refine ⟨Int.tmod (wI ((wI ((wI ((wI (l.getD (Int.toNat (Int.tmod i l.length)) 0)) * 31)) + (wI (l.getD (Int.toNat (Int.tmod (wI (i + 1)) l.length)) 0)))) + (wI (Int.tdiv i l.length)))) k, two _ ?_, r_laws_at l i k ?_⟩
    · rw [w64 (x := i + 1) (by omega), w64 (x := l.getD (Int.tmod i l.length).toNat 0) (by omega), w64 (x := l.getD (Int.tmod i l.length).toNat 0 * 31) (by omega), w64 (x := l.getD (Int.tmod (i + 1) l.length).toNat 0) (by omega), w64 (x := Int.tdiv i l.length) (by omega), w64 (x := l.getD (Int.tmod i l.length).toNat 0 * 31 + l.getD (Int.tmod (i + 1) l.length).toNat 0) (by omega), w64 (by omega)]
      omega
    · unfold v_laws_at
      rw [w64 (x := i + 1) (by omega)]
      exact ifP_f (by omega) (ifE_f h0 ⟨h0, ⟨a0, a1⟩, h0, ⟨b0, b1⟩, h0, by omega, rfl, rfl⟩)
theorem c_laws_sameCode (l : List Ins) (hl : l.length ≤ 1048576) : TT n_laws_sameCode [.one (.sl tIns l), .one (.sl tIns l)] [] (eB true) [] := by
  refine r_laws_sameCode l l (ifN_f rfl ⟨fun m i => 0 ≤ i ∧ i ≤ l.length ∧ m = (l.length - i).toNat, ⟨_, rfl, by omega, by omega, rfl⟩, ?_⟩)
  rintro m i ⟨h0, h1, rfl⟩
  refine ifP (fun hlt => ⟨⟨h0, hlt⟩, ⟨h0, hlt⟩, ifB_f (by simp) ?_⟩) (fun hge => ⟨rfl, rfl⟩)
  rw [w64 (by omega)]
  exact ⟨_, by omega, rfl, by omega, by omega, rfl⟩
theorem c_laws_FnCode (l1 : List Int) (w1 : Ty.wf (.slice (.int .u8)) l1) (l2 : List Int) (w2 : Ty.wf (.slice (.int .u8)) l2) : TT n_laws_FnCode [.one (.sl u8s l1), .one (.sl u8s l2)] [] (eB true) [] := by
  refine r_laws_FnCode l1 l2 (ifP (fun _ => ⟨rfl, rfl⟩) (fun g1 => ifP (fun _ => ⟨rfl, rfl⟩) (fun g2 => ?_)))
  have b1 : ∀ n ∈ l1, 0 ≤ n ∧ n ≤ 255 := u8_of w1
  have b2 : ∀ n ∈ l2, 0 ≤ n ∧ n ≤ 255 := u8_of w2
  obtain ⟨k, hk, kk⟩ := c_at l2 0 20 (by omega) b2 (by omega) (by omega)
  obtain ⟨r, hr, hok, kr⟩ := c_SomeCode k (by omega) l1 (by omega) b1
  have hle := encL_len (l := r)
  have hB := encL_isB hok
  have hB1 : isB (encL r ++ [1, 0]) := by
    intro x hx
    rw [List.mem_append] at hx
    rcases hx with hx | hx
    · exact hB x hx
    · simp at hx; omega
  have hB2 : isB (encL r ++ [27]) := by
    intro x hx
    rw [List.mem_append] at hx
    rcases hx with hx | hx
    · exact hB x hx
    · simp at hx; omega
  have p0 : readB (encL r) = (0, r) := by
    have := parse_enc r (encL r).length [] [] hok (by simp; omega) (by simp)
    simp only [List.append_nil, List.nil_append] at this
    rw [readB, this]; rfl
  have p1 : readB (encL r ++ [1, 0]) = (16, []) := by
    have := parse_enc r (encL r ++ [1, 0]).length [1, 0] [] hok (by simp; omega) (Nat.le_refl _)
    rw [readB, this]; rfl
  have p2 : readB (encL r ++ [27]) = (11, []) := by
    have := parse_enc r (encL r ++ [27]).length [27] [] hok (by simp; omega) (Nat.le_refl _)
    rw [readB, this]; rfl
  have e1 : strL (encL r) ++ (⟨#[1, 0]⟩ : ByteArray) = strL (encL r ++ [1, 0]) := by rw [← strL_append]; rfl
  have e2 : strL (encL r) ++ (⟨#[27]⟩ : ByteArray) = strL (encL r ++ [27]) := by rw [← strL_append]; rfl
  have k0 := c_impl_ReadCode (strL (encL r)) (by rw [strL_size]; omega)
  have k1 := c_impl_ReadCode (strL (encL r ++ [1, 0])) (by rw [strL_size]; simp; omega)
  have k2 := c_impl_ReadCode (strL (encL r ++ [27])) (by rw [strL_size]; simp; omega)
  rw [toBytes hB, p0] at k0
  rw [toBytes hB1, p1] at k1
  rw [toBytes hB2, p2] at k2
  refine ⟨_, kk, _, kr, _, _, c_impl_CodeText r hok (by omega), _, _, c_spec_CodeText r hok (by omega), _, _, k0, ?_, _, _, by rw [e1]; exact k1, ?_, _, _, by rw [e2]; exact k2, ?_⟩
  · rw [strL_size]; show _ + 2 ≤ _; omega
  · rw [strL_size]; show _ + 1 ≤ _; omega
  · exact ifE_t rfl (ifB_t (by simp) (ifE_t rfl ⟨_, c_laws_sameCode r (by omega), ifB_t rfl (ifE_t rfl ⟨rfl, rfl⟩)⟩))
end Go.Ry
