/- What is drawn from bytes: its range. No condition. -/
import Derived.Test.YtnnhfeopdhnlhaaPCode2
set_option linter.unusedVariables false
set_option linter.unusedSimpArgs false
namespace Go.Ry
variable {C : Calls_}

def isB (l : List Int) : Prop := ∀ x, x ∈ l → 0 ≤ x ∧ x ≤ 255
theorem isB_wf {l : List Int} (h : ∀ x, x ∈ l → (Lit.int .u8 x).wf = true) : isB l := fun x hx => by
  have := h x hx
  simp only [Lit.wf, IntKind.min, IntKind.max, IntKind.signed, IntKind.bits, Bool.and_eq_true, decide_eq_true_eq] at this
  simp at this; omega
theorem getB {l : List Int} (h : isB l) (i : Nat) : 0 ≤ l.getD i 0 ∧ l.getD i 0 ≤ 255 := by
  rw [List.getD_eq_getElem?_getD]
  cases e : l[i]? with
  | none => simp
  | some x => exact h x (List.mem_of_getElem? e)
theorem w8 {x : Int} (h : 0 ≤ x ∧ x ≤ 255) : IntKind.wrap .u8 x = x := by
  simp only [IntKind.wrap, IntKind.signed, IntKind.bits]; simp; omega
theorem tm {x : Int} {n : Int} (h : 0 ≤ x) : Int.tmod x n = x % n := Int.tmod_eq_emod_of_nonneg h
theorem td {x : Int} {n : Int} (h : 0 ≤ x) : Int.tdiv x n = x / n := Int.tdiv_eq_ediv_of_nonneg h

/-! ### at -/
theorem p_laws_at (l : List Int) (i n : Int) (hl : isB l) (hi : 0 ≤ i ∧ i ≤ 1048576) (hl' : l.length ≤ 1048576) : ∃ r : Int, 0 ≤ r ∧ (1 < n → r < n) ∧ (n ≤ 1 → r = 0) ∧ v_laws_at C (fun x os => x = .one (.int .i64 r) ∧ os = []) l i n := by
  by_cases h1 : n ≤ 1
  · exact ⟨0, by omega, by omega, by omega, ifP_t h1 ⟨rfl, rfl⟩⟩
  · by_cases h2 : (l.length : Int) = 0
    · refine ⟨Int.tmod (i * 7) n, ?_, ?_, by omega, ifP_f h1 (ifB_t (by simpa using h2) ⟨by omega, ?_⟩)⟩
      · rw [tm (by omega)]; exact Int.emod_nonneg _ (by omega)
      · intro _; rw [tm (by omega)]; exact Int.emod_lt_of_pos _ (by omega)
      · rw [w64 (by omega)]; exact ⟨rfl, rfl⟩
    · have a1 := Int.emod_nonneg i (b := l.length) (by omega)
      have a2 := Int.emod_lt_of_pos i (b := l.length) (by omega)
      have a3 := Int.emod_nonneg (i + 1) (b := l.length) (by omega)
      have a4 := Int.emod_lt_of_pos (i + 1) (b := l.length) (by omega)
      have b1 := getB hl (Int.toNat (i % (l.length : Int)))
      have b2 := getB hl (Int.toNat ((i + 1) % (l.length : Int)))
      have c1 : 0 ≤ i / (l.length : Int) := Int.ediv_nonneg hi.1 (by omega)
      have c2 : i / (l.length : Int) ≤ i := Int.ediv_le_self _ hi.1
      generalize hx : l.getD (Int.toNat (i % (l.length : Int))) 0 = x at b1
      generalize hy : l.getD (Int.toNat ((i + 1) % (l.length : Int))) 0 = y at b2
      generalize hz : i / (l.length : Int) = z at c1 c2
      refine ⟨Int.tmod (x * 31 + y + z) n, ?_, ?_, by omega, ifP_f h1 (ifB_f (beq_eq_false_iff_ne.2 h2) ⟨by omega, ?_⟩)⟩
      · rw [tm (by omega)]; exact Int.emod_nonneg _ (by omega)
      · intro _; rw [tm (by omega)]; exact Int.emod_lt_of_pos _ (by omega)
      · rw [w64 (x := i + 1) (by omega), tm (x := i) (by omega), tm (x := i + 1) (by omega), td (x := i) (by omega), hx, hy, hz]
        refine ⟨⟨a1, a2⟩, by omega, ⟨a3, a4⟩, by omega, by omega, ?_⟩
        rw [w64 (x := x) (by omega), w64 (x := y) (by omega), w64 (x := z) (by omega), w64 (x := x * 31) (by omega), w64 (x := x * 31 + y) (by omega), w64 (by omega)]
        exact ⟨rfl, rfl⟩
def K_at (C : Calls_) : Prop := ∀ (l : List Int) (i n : Int), isB l → 0 ≤ i ∧ i ≤ 1048576 → l.length ≤ 1048576 → ∃ r : Int, 0 ≤ r ∧ (1 < n → r < n) ∧ (n ≤ 1 → r = 0) ∧ C n_laws_at [.one (.sl (.int .u8) l), .one (.int .i64 i), .one (.int .i64 n)] [] (.one (.int .i64 r)) []

/-! ### a source of bytes -/
@[reducible] def srcO (l : List Int) (p s : Int) : Ob := .box [.sl (.int .u8) l, .int .i64 p, .int .i64 s]
def byteB (l : List Int) (p s : Int) : Int := if p + 1 ≤ l.length then l.getD p.toNat 0 else if 3000 < p + 1 then 0 else (s * 1103515245 + 12345) % 2147483648 / 65536 % 256
def byteS (l : List Int) (p s : Int) : Int := if p + 1 ≤ l.length then (s * 31 + l.getD p.toNat 0 + 7) % 2147483648 else if 3000 < p + 1 then s else (s * 1103515245 + 12345) % 2147483648
theorem byteB_range {l : List Int} (hl : isB l) (p s : Int) : 0 ≤ byteB l p s ∧ byteB l p s ≤ 255 := by
  unfold byteB
  have := getB hl p.toNat
  split
  · omega
  · split <;> omega
/-- The state of a source: where it stands, and its seed. -/
def Sd (p s : Int) : Prop := (0 ≤ p ∧ p ≤ 4398046511104) ∧ (0 ≤ s ∧ s < 2147483648)
theorem byteS_range {l : List Int} (hl : isB l) {p s : Int} (hs : 0 ≤ s ∧ s < 2147483648) : 0 ≤ byteS l p s ∧ byteS l p s < 2147483648 := by
  unfold byteS
  split
  · omega
  · split <;> omega
def K_byte (C : Calls_) : Prop := ∀ (l : List Int) (p s : Int), isB l → l.length ≤ 1048576 → Sd p s → C n_spec_l00Src_byte [.one (.ptrB 0 0)] [srcO l p s] (.one (.int .i64 (byteB l p s))) [srcO l (p + 1) (byteS l p s)]
theorem p_spec_l00Src_byte (l : List Int) (p s : Int) (hl : isB l) (hn : l.length ≤ 1048576) (h : Sd p s) :
    v_spec_l00Src_byte C (fun r os => r = .one (.int .i64 (byteB l p s)) ∧ os = [srcO l (p + 1) (byteS l p s)]) l p s := by
  obtain ⟨⟨h1, h2⟩, h3, h4⟩ := h
  have hb := getB hl p.toNat
  unfold v_spec_l00Src_byte byteB byteS
  rw [w64 (x := p + 1) (by omega), w64 (x := p + 1 - 1) (by omega), show p + 1 - 1 = p by omega]
  by_cases c1 : p + 1 ≤ l.length
  · rw [if_pos c1, if_pos c1, w64 (x := s * 31) (by omega), w64 (x := l.getD p.toNat 0) (by omega), w64 (x := s * 31 + l.getD p.toNat 0) (by omega), w64 (x := s * 31 + l.getD p.toNat 0 + 7) (by omega), tm (x := s * 31 + l.getD p.toNat 0 + 7) (by omega)]
    first
      | exact ⟨rfl, ifP_t c1 ⟨⟨h1, by omega⟩, by omega, rfl, rfl, ⟨h1, by omega⟩, rfl, rfl⟩⟩
      | exact ⟨rfl, ifP_t c1 ⟨⟨h1, by omega⟩, by omega, rfl, ⟨h1, by omega⟩, rfl, rfl⟩⟩
      | exact ⟨rfl, ifP_t c1 ⟨⟨h1, by omega⟩, by omega, rfl, rfl, rfl, ⟨h1, by omega⟩, rfl, rfl⟩⟩
  · rw [if_neg c1, if_neg c1]
    by_cases c2 : 3000 < p + 1
    · rw [if_pos c2, if_pos c2]
      exact ⟨rfl, ifP_f c1 (ifP_t c2 ⟨rfl, rfl⟩)⟩
    · rw [if_neg c2, if_neg c2, w64 (x := s * 1103515245) (by omega), w64 (x := s * 1103515245 + 12345) (by omega), tm (x := s * 1103515245 + 12345) (by omega), td (x := (s * 1103515245 + 12345) % 2147483648) (by omega), w64 (x := (s * 1103515245 + 12345) % 2147483648 / 65536) (by omega), tm (x := (s * 1103515245 + 12345) % 2147483648 / 65536) (by omega)]
      exact ⟨rfl, ifP_f c1 (ifP_f c2 ⟨by omega, rfl, by omega, by omega, rfl, rfl⟩)⟩
def K_Source (C : Calls_) : Prop := ∀ l : List Int, l.length ≤ 1048576 → C n_spec_l00Source [.one (.sl (.int .u8) l)] [] (.one (.ptrB 0 0)) [srcO l 0 ((l.length : Int) % 1000)]
theorem p_spec_l00Source (l : List Int) (hn : l.length ≤ 1048576) : v_spec_l00Source C (fun r os => r = .one (.ptrB 0 0) ∧ os = [srcO l 0 ((l.length : Int) % 1000)]) l := by
  unfold v_spec_l00Source
  rw [tm (by omega)]
  first | exact ⟨by omega, rfl, rfl⟩ | exact ⟨by omega, rfl, rfl, rfl⟩ | exact ⟨rfl, by omega, rfl, rfl⟩ | exact ⟨by omega, rfl, rfl, rfl, rfl⟩ | exact ⟨rfl, rfl, by omega, rfl, rfl⟩
/-- A number below n. -/
def K_next (C : Calls_) : Prop := ∀ (n : Int) (l : List Int) (p s : Int), isB l → l.length ≤ 1048576 → (0 ≤ p ∧ p ≤ 2199023255552) ∧ (0 ≤ s ∧ s < 2147483648) → n ≤ 16777216 → ∃ v p' s' : Int, (0 ≤ v ∧ (1 < n → v < n) ∧ (n ≤ 1 → v = 0)) ∧ (p ≤ p' ∧ p' ≤ p + 3) ∧ (0 ≤ s' ∧ s' < 2147483648) ∧
  C n_spec_l00Src_next [.one (.ptrB 0 0), .one (.int .i64 n)] [srcO l p s] (.one (.int .i64 v)) [srcO l p' s']
theorem p_spec_l00Src_next (hb : K_byte C) (n : Int) (l : List Int) (p s : Int) (hl : isB l) (hn : l.length ≤ 1048576) (h : (0 ≤ p ∧ p ≤ 2199023255552) ∧ (0 ≤ s ∧ s < 2147483648)) (h24 : n ≤ 16777216) :
    ∃ v p' s' : Int, (0 ≤ v ∧ (1 < n → v < n) ∧ (n ≤ 1 → v = 0)) ∧ (p ≤ p' ∧ p' ≤ p + 3) ∧ (0 ≤ s' ∧ s' < 2147483648) ∧ v_spec_l00Src_next C (fun r os => r = .one (.int .i64 v) ∧ os = [srcO l p' s']) n l p s := by
  obtain ⟨h1, h2⟩ := h
  have b1 := byteB_range hl p s
  have s1 := byteS_range hl (p := p) h2
  have k1 := hb l p s hl hn ⟨by omega, h2⟩
  by_cases c1 : n ≤ 1
  · exact ⟨0, p, s, by omega, by omega, h2, ifP_t c1 ⟨rfl, rfl⟩⟩
  · by_cases c2 : n ≤ 256
    · refine ⟨_, _, _, ⟨?_, ?_, by omega⟩, by omega, s1, ifP_f c1 (ifP_t c2 ⟨_, _, _, _, k1, rfl, by omega, rfl, rfl⟩)⟩
      · rw [tm (by omega)]; exact Int.emod_nonneg _ (by omega)
      · intro _; rw [tm (by omega)]; exact Int.emod_lt_of_pos _ (by omega)
    · have b2 := byteB_range hl (p + 1) (byteS l p s)
      have s2 := byteS_range hl (p := p + 1) s1
      have k2 := hb l (p + 1) _ hl hn ⟨by omega, s1⟩
      have b3 := byteB_range hl (p + 1 + 1) (byteS l (p + 1) (byteS l p s))
      have s3 := byteS_range hl (p := p + 1 + 1) s2
      have k3 := hb l (p + 1 + 1) _ hl hn ⟨by omega, s2⟩
      refine ⟨Int.tmod (byteB l p s * 65536 + byteB l (p + 1) (byteS l p s) * 256 + byteB l (p + 1 + 1) (byteS l (p + 1) (byteS l p s))) n, _, _, ⟨?_, ?_, by omega⟩, by omega, s3, ifP_f c1 (ifP_f c2 ⟨_, _, _, _, k1, rfl, _, _, _, _, k2, rfl, _, _, _, _, k3, rfl, by omega, ?_, rfl⟩)⟩
      · rw [tm (by omega)]; exact Int.emod_nonneg _ (by omega)
      · intro _; rw [tm (by omega)]; exact Int.emod_lt_of_pos _ (by omega)
      · rw [w64 (x := byteB l p s * 65536) (by omega), w64 (x := _ * 256) (by omega), w64 (x := _ + _ * 256) (by omega), w64 (by omega)]

/-- Some bytes. -/
def someL (l : List Int) : Nat → Int → Int → List Int
  | 0, _, _ => []
  | k + 1, p, s => IntKind.wrap .u8 (byteB l p s) :: someL l k (p + 1) (byteS l p s)
def someS (l : List Int) : Nat → Int → Int → Int
  | 0, _, s => s
  | k + 1, p, s => someS l k (p + 1) (byteS l p s)
theorem someL_length (l : List Int) : ∀ (k : Nat) (p s : Int), (someL l k p s).length = k
  | 0, _, _ => rfl
  | k + 1, p, s => by simp [someL, someL_length l k]
theorem someS_range {l : List Int} (hl : isB l) : ∀ (k : Nat) (p s : Int), 0 ≤ s ∧ s < 2147483648 → 0 ≤ someS l k p s ∧ someS l k p s < 2147483648
  | 0, _, _, h => h
  | k + 1, p, s, h => someS_range hl k _ _ (byteS_range hl h)
def textD (l : List Int) (n : Int) : List Int := someL l n.toNat 0 ((l.length : Int) % 1000)
/-! ### values -/
end Go.Ry
