/- Reading an image: the whole program. No condition. -/
import Derived.Test.YtopchiaiefkehaaGreatPImg1
set_option linter.unusedVariables false
set_option linter.unusedSimpArgs false
namespace Go.Ry
open Go.Proofs

def repO {α : Type} (f : RdSt → α × RdSt) : Nat → RdSt → List α × RdSt
  | 0, st => ([], st)
  | n + 1, st => ((f st).1 :: (repO f n (f st).2).1, (repO f n (f st).2).2)
/-- N rounds from st0 on are r and k more from st on. -/
def repI {α : Type} (f : RdSt → α × RdSt) (z : List α × RdSt) (r : List α) (k : Nat) (st : RdSt) : Prop := z = (r ++ (repO f k st).1, (repO f k st).2)
theorem repI_start {α : Type} (f : RdSt → α × RdSt) (k : Nat) (st : RdSt) : repI f (repO f k st) [] k st := rfl
theorem repI_step {α : Type} {f : RdSt → α × RdSt} {z : List α × RdSt} {r : List α} {k : Nat} {st : RdSt} (h : repI f z r (k + 1) st) : repI f z (r ++ [(f st).1]) k (f st).2 := by
  unfold repI at h ⊢
  rw [h]; simp [repO]
theorem repI_end {α : Type} {f : RdSt → α × RdSt} {z : List α × RdSt} {r : List α} {st : RdSt} (h : repI f z r 0 st) : z = (r, st) := by
  unfold repI at h
  rw [h]; simp [repO]
theorem Sf.repO {α : Type} {f : RdSt → α × RdSt} {t : ByteArray} (hf : ∀ st, Sf t st → Sf t (f st).2) : ∀ (n : Nat) (st : RdSt), Sf t st → Sf t (repO f n st).2
  | 0, st, h => h
  | n + 1, st, h => Sf.repO hf n _ (hf st h)
theorem repO_len {α : Type} {f : RdSt → α × RdSt} : ∀ (n : Nat) (st : RdSt), (repO f n st).1.length = n
  | 0, st => rfl
  | n + 1, st => by simp [repO, repO_len n]
theorem repO_all {α : Type} {f : RdSt → α × RdSt} {p : α → Prop} (hf : ∀ st, p (f st).1) : ∀ (n : Nat) (st : RdSt), ∀ x ∈ (repO f n st).1, p x
  | 0, st => by simp [repO]
  | n + 1, st => by
    intro x hx
    simp only [repO, List.mem_cons] at hx
    rcases hx with rfl | hx
    · exact hf st
    · exact repO_all hf n _ x hx
def phK (st : RdSt) : List Int × RdSt := repO (numM 1) (manyM 8 st).1.toNat (manyM 8 st).2
def phR (st : RdSt) : List Rou × RdSt := repO routM (manyM 6 st).1.toNat (manyM 6 st).2
def phT (st : RdSt) : List Tsk × RdSt := repO taskM (manyM 5 st).1.toNat (manyM 5 st).2
theorem Sf.phK {t : ByteArray} {st : RdSt} (h : Sf t st) : Sf t (phK st).2 := Sf.repO (fun _ h => h.num 1) _ _ (h.many 8)
theorem Sf.phR {t : ByteArray} {st : RdSt} (h : Sf t st) : Sf t (phR st).2 := Sf.repO (fun _ h => h.rout) _ _ (h.many 6)
theorem Sf.phT {t : ByteArray} {st : RdSt} (h : Sf t st) : Sf t (phT st).2 := Sf.repO (fun _ h => h.task) _ _ (h.many 5)
def st0 (t : ByteArray) : RdSt := (bytesL t, 0)
theorem Sf.zero {t : ByteArray} (h : t.size ≤ 65536) : Sf t (st0 t) := ⟨h, 0, Nat.zero_le _, rfl⟩
def iK (t : ByteArray) : List Int × RdSt := phK (st0 t)
def iR (t : ByteArray) : List Rou × RdSt := phR (iK t).2
def iT (t : ByteArray) : List Tsk × RdSt := phT (iR t).2
def iSf (t : ByteArray) : Int × RdSt := numM 1 (iT t).2
def bitL (n : Int) (k : Nat) : List Bool := (List.range k).map fun j : Nat => bitJ n (j : Int)
theorem bitL_succ {n : Int} {k : Nat} : bitL n (k + 1) = bitL n k ++ [bitJ n k] := by simp [bitL, List.range_succ]
theorem bitL_len {n : Int} {k : Nat} : (bitL n k).length = k := by simp [bitL]
theorem iKR {t : ByteArray} (h : t.size ≤ 65536) : Sf t (iK t).2 ∧ Sf t (iR t).2 ∧ Sf t (iT t).2 ∧ Sf t (iSf t).2 := by
  have a := (Sf.zero h).phK
  have b := a.phR
  have c := b.phT
  exact ⟨a, b, c, c.num 1⟩
theorem iS_range {t : ByteArray} (h : t.size ≤ 65536) : -128 ≤ (iSf t).1 ∧ (iSf t).1 ≤ 127 := numM_one (iKR h).2.2.1
@[reducible] def tRou' : Ty := .pair (.slice tIns) .unit
@[reducible] def rwK (l : List Int) : Ob := .row t_int (.int .i64) l
@[reducible] def rwR (l : List Rou) : Ob := .nest t_impl_Routine tRou ⟨0, t_impl_Instr, tIns⟩ l none
@[reducible] def rwT (l : List Tsk) : Ob := .row t_impl_Task tTsk l
@[reducible] def rwS (l : List Bool) : Ob := .row t_bool .bool l
theorem c_spec_program {t : ByteArray} (h : t.size ≤ 65536) : TT n_spec_l08Reader_program [.one (.ptrB 0 0)] [sO t (st0 t)] (.agg [.row 1, .row 2, .row 3, .row 4])
    [sO t (iSf t).2, rwK (iK t).1, rwR (iR t).1, rwT (iT t).1, rwS (bitL (iSf t).1 8)] := by
  obtain ⟨hk, hr, ht, hs⟩ := iKR h
  have h0 := Sf.zero h
  refine r_spec_l08Reader_program t _ _ ⟨fun s p c a b d e => t = s ∧ p = (t.size : Int) - ((iK t).2.1.length : Int) ∧ c = (iK t).2.2 ∧ a = (iK t).1 ∧ b = [] ∧ d = [] ∧ e = [],
    ⟨_, _, _, _, c_spec_many 8 (by decide) (st0 t) h0, fun m n s p c a b d e => ∃ st, Sf t st ∧ 0 ≤ n ∧ m = n.toNat ∧ t = s ∧ p = (t.size : Int) - (st.1.length : Int) ∧ c = st.2 ∧ repI (numM 1) (iK t) a n.toNat st ∧ a.length + n ≤ 8 ∧ b = [] ∧ d = [] ∧ e = [],
      ⟨_, _, h0.many 8, (manyM_range (by decide)).1, rfl, rfl, rfl, rfl, repI_start _ _ _, by have := (manyM_range (most := 8) (st := st0 t) (by decide)).2; simp; omega, rfl, rfl, rfl⟩, ?_⟩, ?_⟩
  · rintro m n s p c a b d e ⟨st, hst, h1, rfl, rfl, rfl, rfl, h2, h3, rfl, rfl, rfl⟩
    refine ifP (fun hlt => ⟨_, _, _, _, c_spec_number 1 (by simp [isZ]) st hst, by simp; omega, ?_⟩) (fun hge => ?_)
    · rw [show n.toNat = (n - 1).toNat + 1 by omega] at h2
      rw [w64 (by omega)]
      exact ⟨_, by omega, _, hst.num 1, by omega, rfl, rfl, rfl, rfl, repI_step h2, by simp; omega, rfl, rfl, rfl⟩
    · rw [show n.toNat = 0 by omega] at h2
      have := repI_end h2
      rw [this]
      exact ⟨rfl, rfl, rfl, rfl, rfl, rfl, rfl⟩
  rintro s p c a b d e ⟨rfl, rfl, rfl, rfl, rfl, rfl, rfl⟩
  refine ⟨fun s p c a b d e => t = s ∧ p = (t.size : Int) - ((iR t).2.1.length : Int) ∧ c = (iR t).2.2 ∧ a = (iK t).1 ∧ b = (iR t).1 ∧ d = [] ∧ e = [],
    ⟨_, _, _, _, c_spec_many 6 (by decide) (iK t).2 hk, fun m n s p c a b d e => ∃ st, Sf t st ∧ 0 ≤ n ∧ m = n.toNat ∧ t = s ∧ p = (t.size : Int) - (st.1.length : Int) ∧ c = st.2 ∧ repI routM (iR t) b n.toNat st ∧ b.length + n ≤ 6 ∧ a = (iK t).1 ∧ d = [] ∧ e = [],
      ⟨_, _, hk.many 6, (manyM_range (by decide)).1, rfl, rfl, rfl, rfl, repI_start _ _ _, by have := (manyM_range (most := 6) (st := (iK t).2) (by decide)).2; simp; omega, rfl, rfl, rfl⟩, ?_⟩, ?_⟩
  · rintro m n s p c a b d e ⟨st, hst, h1, rfl, rfl, rfl, rfl, h2, h3, rfl, rfl, rfl⟩
    refine ifP (fun hlt => ⟨_, _, _, _, c_spec_number 2 (by simp [isZ]) st hst, _, _, _, _, c_spec_code1 _ ?_ _ (hst.num 2), by simp; omega, ?_⟩) (fun hge => ?_)
    · unfold numM
      split
      · show (-2147483648 : Int) ≤ 0 ∧ (0 : Int) ≤ 4294967295; decide
      · split
        · show (-2147483648 : Int) ≤ 0 ∧ (0 : Int) ≤ 4294967295; decide
        · exact numZ_range (by simp [isZ]) hst.isB
    · rw [show n.toNat = (n - 1).toNat + 1 by omega] at h2
      rw [w64 (by omega)]
      exact ⟨_, by omega, _, hst.rout, by omega, rfl, rfl, rfl, rfl, repI_step h2, by simp; omega, rfl, rfl, rfl⟩
    · rw [show n.toNat = 0 by omega] at h2
      have := repI_end h2
      rw [this]
      exact ⟨rfl, rfl, rfl, rfl, rfl, rfl, rfl⟩
  rintro s p c a b d e ⟨rfl, rfl, rfl, rfl, rfl, rfl, rfl⟩
  refine ⟨fun s p c a b d e => t = s ∧ p = (t.size : Int) - ((iT t).2.1.length : Int) ∧ c = (iT t).2.2 ∧ a = (iK t).1 ∧ b = (iR t).1 ∧ d = (iT t).1 ∧ e = [],
    ⟨_, _, _, _, c_spec_many 5 (by decide) (iR t).2 hr, fun m n s p c a b d e => ∃ st, Sf t st ∧ 0 ≤ n ∧ m = n.toNat ∧ t = s ∧ p = (t.size : Int) - (st.1.length : Int) ∧ c = st.2 ∧ repI taskM (iT t) d n.toNat st ∧ d.length + n ≤ 5 ∧ a = (iK t).1 ∧ b = (iR t).1 ∧ e = [],
      ⟨_, _, hr.many 5, (manyM_range (by decide)).1, rfl, rfl, rfl, rfl, repI_start _ _ _, by have := (manyM_range (most := 5) (st := (iR t).2) (by decide)).2; simp; omega, rfl, rfl, rfl⟩, ?_⟩, ?_⟩
  · rintro m n s p c a b d e ⟨st, hst, h1, rfl, rfl, rfl, rfl, h2, h3, rfl, rfl, rfl⟩
    refine ifP (fun hlt => ⟨_, _, _, _, c_spec_number 1 (by simp [isZ]) st hst, _, _, _, _, c_spec_number 4 (by simp [isZ]) _ (hst.num 1), _, _, _, _, c_spec_number 4 (by simp [isZ]) _ ((hst.num 1).num 4),
      _, _, _, _, c_spec_number 1 (by simp [isZ]) _ (((hst.num 1).num 4).num 4), _, _, _, _, c_spec_number 1 (by simp [isZ]) _ ((((hst.num 1).num 4).num 4).num 1), _, _, _, _, c_spec_number 1 (by simp [isZ]) _ (((((hst.num 1).num 4).num 4).num 1).num 1), by simp; omega, ?_⟩) (fun hge => ?_)
    · rw [show n.toNat = (n - 1).toNat + 1 by omega] at h2
      rw [w64 (by omega)]
      exact ⟨_, by omega, _, hst.task, by omega, rfl, rfl, rfl, rfl, repI_step h2, by simp; omega, rfl, rfl, rfl⟩
    · rw [show n.toNat = 0 by omega] at h2
      have := repI_end h2
      rw [this]
      exact ⟨rfl, rfl, rfl, rfl, rfl, rfl, rfl⟩
  rintro s p c a b d e ⟨rfl, rfl, rfl, rfl, rfl, rfl, rfl⟩
  have hn := iS_range h
  refine ⟨_, _, _, _, c_spec_number 1 (by simp [isZ]) _ ht, fun m n i s p c a b d e => n = (iSf t).1 ∧ 0 ≤ i ∧ i ≤ 8 ∧ m = (8 - i).toNat ∧ t = s ∧ p = (t.size : Int) - ((iSf t).2.1.length : Int) ∧ c = (iSf t).2.2 ∧ a = (iK t).1 ∧ b = (iR t).1 ∧ d = (iT t).1 ∧ e = bitL (iSf t).1 i.toNat,
    ⟨_, rfl, by decide, by decide, rfl, rfl, rfl, rfl, rfl, rfl, rfl, rfl⟩, ?_⟩
  rintro m n i s p c a b d e ⟨rfl, h1, h2, rfl, rfl, rfl, rfl, rfl, rfl, rfl, rfl⟩
  refine ifP (fun hlt => ⟨?_, ?_, ?_⟩) (fun hge => ?_)
  · simp [IntKind.wrap, IntKind.bits, IntKind.signed]; omega
  · simp [bitL_len]; omega
  · have e := bit_eq (n := (iSf t).1) (i := i) hn ⟨h1, hlt⟩
    unfold bitS at e
    rw [← e, w64 (x := i + 1) (by omega)]
    exact ⟨_, by omega, rfl, by omega, by omega, rfl, rfl, rfl, rfl, rfl, rfl, rfl, by rw [toNat_succ h1, bitL_succ, Int.toNat_of_nonneg h1]⟩
  · rw [show i.toNat = 8 by omega]; exact ⟨rfl, rfl⟩
end Go.Ry
