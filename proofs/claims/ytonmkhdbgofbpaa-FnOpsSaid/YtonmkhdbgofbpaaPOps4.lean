/- Blocks on data, as the reference has them. No condition. -/
import Derived.Test.YtonmkhdbgofbpaaPOps3
set_option linter.unusedVariables false
set_option linter.unusedSimpArgs false
namespace Go.Ry
open Go.Proofs

def cnt (S : ByteArray) : Nat → Nat
  | 0 => 0
  | i + 1 => if (bytesL S).getD i 0 = 98 then cnt S i + 1 else cnt S i
/-- What has been gathered of the numbers A after i of them. -/
def scan (S : ByteArray) (A : List Int) : Nat → Int × List Int
  | 0 => (0, [0, 0])
  | i + 1 => if (bytesL S).getD i 0 = 98 then ((scan S A i).1, (scan S A i).2.set (cnt S i) (ar A i)) else (ar A i, (scan S A i).2)
theorem scan_len (S : ByteArray) (A : List Int) : ∀ i, (scan S A i).2.length = 2
  | 0 => rfl
  | i + 1 => by
    unfold scan
    split <;> simp [scan_len S A i]
theorem ar_drop (st : List Int) (b i : Nat) : ar (st.drop b) i = st.getD (b + i) 0 := by
  simp [ar, List.getD_eq_getElem?_getD]
theorem cnt_le (S : ByteArray) : ∀ i, cnt S i ≤ i
  | 0 => Nat.le_refl _
  | i + 1 => by
    have := cnt_le S i
    unfold cnt
    split <;> omega
theorem c_spec_block' (x : Dat) (a : Int) (st : List Int) (now : Int) (h0 : 0 ≤ a) (h1 : a < x.f.length) (hk : isKind (x.f.getD a.toNat dFb).1 = true)
    (hst : (takes (x.f.getD a.toNat dFb).1).size ≤ st.length) (hl : st.length ≤ 1048576) (hf : x.f.length ≤ 1048576)
    (hS : ∀ i : Nat, i < (takes (x.f.getD a.toNat dFb).1).size → (bytesL (takes (x.f.getD a.toNat dFb).1)).getD i 0 = 98 → cnt (takes (x.f.getD a.toNat dFb).1) i < 2)
    {r : FbT × Bool} (hr : r = stepF (x.f.getD a.toNat dFb) (ar (scan (takes (x.f.getD a.toNat dFb).1) (st.drop (st.length - (takes (x.f.getD a.toNat dFb).1).size)) (takes (x.f.getD a.toNat dFb).1).size).2 0 == 1)
      (ar (scan (takes (x.f.getD a.toNat dFb).1) (st.drop (st.length - (takes (x.f.getD a.toNat dFb).1).size)) (takes (x.f.getD a.toNat dFb).1).size).2 1 == 1)
      (scan (takes (x.f.getD a.toNat dFb).1) (st.drop (st.length - (takes (x.f.getD a.toNat dFb).1).size)) (takes (x.f.getD a.toNat dFb).1).size).1 now) :
    TT n_spec_l06Block [.agg x.cs, eI a, .one (.sl tyInt st), eI now] []
      (.tup [(true, [.sl tyInt x.g, .row 0, .sl .bool x.a, .sl .bool x.b, .sl .bool x.c, .sl .bool x.d, cI x.w]), (false, [.row 1])])
      [.row t_impl_Fb tFb (x.f.set a.toNat r.1), .row t_int tyInt (st.take (st.length - (takes (x.f.getD a.toNat dFb).1).size) ++ [bitI r.2])] := by
  obtain ⟨g, f, a', b, c, d, w⟩ := x
  simp only at h1 hk hst hf hS hr ⊢
  refine r_spec_l06Block g f a' b c d w a st now ?_
  unfold v_spec_l06Block
  have hd : ((0 : Int), (false, ((0 : Int), ((0 : Int), ())))) = dFb := rfl
  simp only [hd]
  generalize hF : f.getD a.toNat dFb = F at *
  generalize hT : takes F.1 = S at *
  generalize hbs : st.length - S.size = bs at *
  have hbs' : ((bs : Nat) : Int) = (st.length : Int) - (S.size : Int) := by omega
  refine ⟨⟨h0, h1⟩, S, hT ▸ c_spec_l03Takes _ hk, ?_⟩
  refine ⟨fun p n r => p = (bs : Int) ∧ n = (scan S (st.drop bs) S.size).1 ∧ r = (scan S (st.drop bs) S.size).2, ?_, ?_⟩
  · refine ⟨fun m s p n k i r => s = S ∧ p = (bs : Int) ∧ 0 ≤ i ∧ i ≤ S.size ∧ m = (S.size - i).toNat ∧ n = (scan S (st.drop bs) i.toNat).1 ∧ k = (cnt S i.toNat : Int) ∧ r = (scan S (st.drop bs) i.toNat).2, ⟨_, trivial, trivial, rfl, ?_, by omega, by omega, rfl, rfl, rfl, rfl⟩, ?_⟩
    · rw [w64 (by omega)]; exact hbs'.symm
    rintro m s p n k i r ⟨rfl, rfl, k0, k1, rfl, rfl, rfl, rfl⟩
    refine ifP (fun hlt => ?_) (fun hge => ?_)
    · have hi : i.toNat < s.size := by omega
      have e1 : wI ((bs : Int) + i) = ((bs + i.toNat : Nat) : Int) := by rw [w64 (by omega)]; omega
      have e2 : wI (i + 1) = ((i.toNat + 1 : Nat) : Int) := by rw [w64 (by omega)]; omega
      have hlen := scan_len s (st.drop bs) i.toNat
      refine ⟨⟨k0, hlt⟩, ifE (fun h98 => ?_) fun h98 => ?_⟩
      · have hc := hS _ hi h98
        refine ⟨by rw [e1]; omega, by omega, _, ?_, trivial, trivial, rfl, rfl, ?_, ?_, rfl, ?_, ?_, ?_⟩
        · rw [e2]; omega
        · rw [e2]; omega
        · rw [e2]; omega
        · rw [e2]; simp only [Int.toNat_natCast, scan, h98, if_true]
        · rw [e2, w64 (by omega)]; simp only [Int.toNat_natCast, cnt, h98, if_true]; omega
        · rw [e2, e1]; simp only [Int.toNat_natCast, scan, h98, if_true, ar_drop]
      · refine ⟨by rw [e1]; omega, _, ?_, trivial, trivial, rfl, rfl, ?_, ?_, rfl, ?_, ?_, ?_⟩
        · rw [e2]; omega
        · rw [e2]; omega
        · rw [e2]; omega
        · rw [e2, e1]; simp only [Int.toNat_natCast, scan, h98, if_false, ar_drop]
        · rw [e2]; simp only [Int.toNat_natCast, cnt, h98, if_false]
        · rw [e2]; simp only [Int.toNat_natCast, scan, h98, if_false]
    · have : i.toNat = s.size := by omega
      rw [this]
      exact ⟨trivial, trivial, rfl, rfl, rfl⟩
  · rintro p n r' ⟨rfl, rfl, rfl⟩
    have hlen := scan_len S (st.drop bs) S.size
    generalize scan S (st.drop bs) S.size = N at *
    have hstep := c_spec_l03Step F (ar N.2 0 == 1) (ar N.2 1 == 1) N.1 now
    rw [← hr] at hstep
    refine ⟨fun p' q k1 b2 n3 n4 => p' = (bs : Int) ∧ q = r.2 ∧ (k1, b2, n3, n4, ()) = r.1, ?_, ?_⟩
    · refine ⟨⟨h0, h1⟩, by omega, by omega, ⟨_, _, _, _, _, hstep, trivial, trivial, rfl, rfl, rfl⟩, ⟨_, _, _, _, _, hstep, trivial, trivial, rfl, rfl, rfl⟩⟩
    · rintro p' q k1 b2 n3 n4 ⟨rfl, rfl, hq⟩
      refine ⟨by simp; omega, ⟨h0, by simpa using h1⟩, by omega, by simp; omega, _, c_spec_l06Bit _, by simp; omega, ?_⟩
      refine ⟨trivial, ?_⟩
      simp [hq]
theorem c_spec_block (x : Dat) (a : Int) (st : List Int) (now : Int) (h0 : 0 ≤ a) (h1 : a < x.f.length) (hk : isKind (x.f.getD a.toNat dFb).1 = true)
    (hst : (takes (x.f.getD a.toNat dFb).1).size ≤ st.length) (hl : st.length ≤ 1048576) (hf : x.f.length ≤ 1048576) :
    TT n_spec_l06Block [.agg x.cs, eI a, .one (.sl tyInt st), eI now] []
      (.tup [(true, [.sl tyInt x.g, .row 0, .sl .bool x.a, .sl .bool x.b, .sl .bool x.c, .sl .bool x.d, cI x.w]), (false, [.row 1])])
      [.row t_impl_Fb tFb (x.f.set a.toNat (stepM (x.f.getD a.toNat dFb) (st.drop (st.length - (takes (x.f.getD a.toNat dFb).1).size)) now).1),
       .row t_int tyInt (st.take (st.length - (takes (x.f.getD a.toNat dFb).1).size) ++ [bitI (stepM (x.f.getD a.toNat dFb) (st.drop (st.length - (takes (x.f.getD a.toNat dFb).1).size)) now).2])] := by
  have hkk : (x.f.getD a.toNat dFb).1 = 1 ∨ (x.f.getD a.toNat dFb).1 = 2 ∨ (x.f.getD a.toNat dFb).1 = 3 ∨ (x.f.getD a.toNat dFb).1 = 4 := by
    simp only [isKind, within_iff] at hk; omega
  refine c_spec_block' x a st now h0 h1 hk hst hl hf ?_ ?_
  · rcases hkk with e | e | e | e <;> rw [e] <;> decide
  · generalize x.f.getD a.toNat dFb = F at *
    rcases hkk with e | e | e | e
    all_goals
      rw [e]
      simp only [stepM, e]
      generalize st.drop _ = A
    · have : scan (takes 1) A (takes 1).size = (ar A 1, [ar A 0, 0]) := rfl
      rw [this]; rfl
    · have : scan (takes 2) A (takes 2).size = (ar A 2, [ar A 0, ar A 1]) := rfl
      rw [this]; rfl
    · have : scan (takes 3) A (takes 3).size = (0, [ar A 0, 0]) := rfl
      rw [this]; rfl
    · have : scan (takes 4) A (takes 4).size = (0, [ar A 0, ar A 1]) := rfl
      rw [this]; rfl
end Go.Ry
