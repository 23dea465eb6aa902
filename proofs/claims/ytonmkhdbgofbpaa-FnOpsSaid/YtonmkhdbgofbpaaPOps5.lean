/- One operation on data and a stack. No condition. -/
import Derived.Test.YtonmkhdbgofbpaaPOps4
set_option linter.unusedVariables false
set_option linter.unusedSimpArgs false
namespace Go.Ry
open Go.Proofs

theorem c_Clone_int (l : List Int) (h : l.length ≤ 1048576) : TT n_slices_Clone_int_int [.one (.sl tyInt l)] [] (.one (.row 0)) [.row t_int tyInt l] :=
  r_slices_Clone_int_int l fun b hb => ifB_cases (fun e => by rw [List.eq_nil_of_length_eq_zero (hb e)]; exact ⟨rfl, rfl⟩) fun e => ⟨by simp; omega, rfl, rfl⟩
theorem c_Clone_bool (l : List Bool) (h : l.length ≤ 1048576) : TT n_slices_Clone_bool_bool [.one (.sl .bool l)] [] (.one (.row 0)) [.row t_bool .bool l] :=
  r_slices_Clone_bool_bool l fun b hb => ifB_cases (fun e => by rw [List.eq_nil_of_length_eq_zero (hb e)]; exact ⟨rfl, rfl⟩) fun e => ⟨by simp; omega, rfl, rfl⟩
theorem c_Clone_Fb (l : List FbT) (h : l.length ≤ 1048576) : TT n_slices_Clone_impl_Fb_impl_Fb [.one (.sl tFb l)] [] (.one (.row 0)) [.row t_impl_Fb tFb l] :=
  r_slices_Clone_impl_Fb_impl_Fb l fun b hb => ifB_cases (fun e => by rw [List.eq_nil_of_length_eq_zero (hb e)]; exact ⟨rfl, rfl⟩) fun e => ⟨by simp; omega, rfl, rfl⟩
theorem c_spec_l06Drop (l : List Int) (k : Nat) (h : l.length ≤ 1048576) (hk : k ≤ 8) : TT n_spec_l06Drop [.one (.sl tyInt l), eI (k : Int)] [] (.one (.row 0)) [.row t_int tyInt (l.take (l.length - k))] := by
  refine r_spec_l06Drop l k ?_
  unfold v_spec_l06Drop
  have e : wI ((l.length : Int) - (k : Int)) = (l.length : Int) - (k : Int) := w64 (by omega)
  have e2 : (if 0 > (l.length : Int) - (k : Int) then 0 else (l.length : Int) - (k : Int)) = ((l.length - k : Nat) : Int) := by split <;> omega
  simp only [e, e2]
  refine ⟨by omega, by simp; omega, ?_⟩
  exact ⟨trivial, by simp⟩
theorem c_spec_l06Set (l : List Bool) (n : Int) (b : Bool) (h : l.length ≤ 1048576) (h0 : 0 ≤ n) (h1 : n < l.length) : TT n_spec_l06Set [.one (.sl .bool l), eI n, eB b] [] (.one (.row 0)) [.row t_bool .bool (l.set n.toNat b)] :=
  r_spec_l06Set l n b ⟨by simp; omega, ⟨h0, by simpa using h1⟩, rfl, by simp⟩

/-- What an instruction makes of the data and of the stack: A is taken, B is what lies below. -/
def appM (x : Dat) (op a : Int) (A B : List Int) (now : Int) : Dat × List Int :=
  if op = 1 ∨ op = 2 then (x, B ++ [a])
  else if op = 3 then (x, B ++ [x.g.getD a.toNat 0])
  else if op = 4 then ({ x with g := x.g.set a.toNat (ar A 0) }, B)
  else if op = 5 then (x, B ++ [bitI (x.a.getD a.toNat false)])
  else if op = 6 then ({ x with c := x.c.set a.toNat (ar A 0 == 1) }, B)
  else if op = 7 then (x, B ++ [bitI (x.b.getD a.toNat false)])
  else if op = 8 then ({ x with c := x.c.set a.toNat (ar A 0 == 1), d := x.d.set a.toNat (ar A 0 == 1) }, B)
  else if op = 19 then ({ x with f := x.f.set a.toNat (stepM (x.f.getD a.toNat dFb) A now).1 }, B ++ [bitI (stepM (x.f.getD a.toNat dFb) A now).2])
  else if op = 20 then (x, B ++ [(x.f.getD a.toNat dFb).2.2.2.1])
  else if op = 25 then (x, B)
  else (x.wrong (calcM op A).2, B ++ [(calcM op A).1])

theorem fb_kind {F : FbT} (h : fbOK F = true) : isKind F.1 = true := by
  have : F.1 = 1 ∨ F.1 = 2 ∨ F.1 = 3 ∨ F.1 = 4 := by
    unfold fbOK at h
    by_cases h1 : F.1 = 1
    · exact .inl h1
    · by_cases h2 : F.1 = 2
      · exact .inr (.inl h2)
      · simp [h1, h2] at h
        omega
  simp only [isKind, within_iff]; omega
theorem kindsD_at (f : List FbT) (i : Nat) (h : i < f.length) : (kindsD f).getD i 0 = (f.getD i dFb).1 := by
  simp [kindsD, List.getD_eq_getElem?_getD, h]

/-- The number of what is taken. -/
@[reducible] def tk (x : Dat) (op a : Int) : Nat := (effect op a (kindsD x.f)).1.size
@[reducible] def argA (x : Dat) (op a : Int) (st : List Int) : List Int := st.drop (st.length - tk x op a)
@[reducible] def argB (x : Dat) (op a : Int) (st : List Int) : List Int := st.take (st.length - tk x op a)
structure Fit (x : Dat) (op a : Int) (st : List Int) : Prop where
  hi : instrOK op a = true
  hc : isCtl op = false
  hx : dataOK x = true
  ha : op = 19 ∨ op = 20 → a < x.f.length
  ht : tk x op a ≤ st.length
  hb : ∀ i : Nat, i < tk x op a → (bytesL (effect op a (kindsD x.f)).1).getD i 0 = 98 → bin (ar (argA x op a st) i)
  hl : st.length ≤ 4096
structure DatOK (x : Dat) : Prop where
  g : x.g.length = 16
  f : x.f.length ≤ 8
  a : x.a.length = 8
  b : x.b.length = 8
  c : x.c.length = 8
  d : x.d.length = 8
  w : isTm x.w = true
  gs : x.g.all isVal = true
  fs : x.f.all fbOK = true
theorem datOK_iff {x : Dat} : dataOK x = true ↔ DatOK x := by
  simp only [dataOK, Bool.and_eq_true, decide_eq_true_eq]
  constructor
  · rintro ⟨h1, h2, h3, h4, h5, h6, h7, h8, h9⟩
    exact ⟨by omega, by omega, by omega, by omega, by omega, by omega, h7, h8, h9⟩
  · rintro ⟨h1, h2, h3, h4, h5, h6, h7, h8, h9⟩
    exact ⟨by omega, by omega, by omega, by omega, by omega, by omega, h7, h8, h9⟩
theorem DatOK.kind {x : Dat} (h : DatOK x) {i : Nat} (hi : i < x.f.length) : isKind (x.f.getD i dFb).1 = true := by
  refine fb_kind (List.all_eq_true.1 h.fs _ ?_)
  simp [List.getD_eq_getElem?_getD, hi]
theorem Fit.block {x : Dat} {op a : Int} {st : List Int} (h : Fit x op a st) : blockIn op a (kindsD x.f) := by
  intro e
  have h1 := h.ha (.inl e)
  have h0 : 0 ≤ a := by
    have := h.hi
    rw [e] at this
    simp [instrOK, rangeOf, within] at this
    omega
  refine ⟨h0, by simpa [kindsD] using h1, ?_⟩
  rw [kindsD_at _ _ (by omega)]
  exact (datOK_iff.1 h.hx).kind (by omega)
/-- Where an operation's number leads. -/
theorem Fit.rng {x : Dat} {op a : Int} {st : List Int} (h : Fit x op a st) :
    (op = 3 ∨ op = 4 → 0 ≤ a ∧ a < 16) ∧ (op = 5 ∨ op = 6 ∨ op = 7 ∨ op = 8 → 0 ≤ a ∧ a < 8) ∧ (op = 19 ∨ op = 20 → 0 ≤ a) ∧ 1 ≤ op ∧ (op ≤ 20 ∨ op = 25) := by
  have h1 := h.hi
  have h2 := h.hc
  simp only [instrOK, isOp, Bool.and_eq_true, within_iff] at h1
  simp only [isCtl, Bool.or_eq_false_iff, within_not, beq_eq_false_iff_ne] at h2
  obtain ⟨⟨k1, k2⟩, k3, k4⟩ := h1
  refine ⟨fun e => ?_, fun e => ?_, fun e => ?_, k1, by omega⟩
  · rcases e with rfl | rfl <;> simp [rangeOf] at k3 k4 <;> omega
  · rcases e with rfl | rfl | rfl | rfl <;> simp [rangeOf] at k3 k4 <;> omega
  · rcases e with rfl | rfl <;> simp [rangeOf] at k3 k4 <;> omega
end Go.Ry
