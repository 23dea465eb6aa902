/- Data, blocks and lists of numbers: what is right. No condition. -/
import Derived.Test.YtopchiaiefkehaaGreatPNum2
import Derived.Test.YtopchiaiefkehaaGreatPStr
set_option linter.unusedVariables false
set_option linter.unusedSimpArgs false
namespace Go.Ry
open Go.Proofs

abbrev FbT := Int × Bool × Int × Int × Unit
@[reducible] def tFb : Ty := .pair (.int .i64) (.pair .bool (.pair (.int .i64) (.pair (.int .i64) .unit)))
@[reducible] def dFb : FbT := ((0 : Int), (false, ((0 : Int), ((0 : Int), ()))))

/-! ### small tests -/
def isTm (n : Int) : Bool := within n 0 2147483647
def isCtl (n : Int) : Bool := within n 21 24 || n == 26
def bitI (b : Bool) : Int := if b = true then 1 else 0
theorem c_impl_bit (b : Bool) : TT n_impl_bit [eB b] [] (eI (bitI b)) [] := r_impl_bit b (by cases b <;> exact ⟨rfl, rfl⟩)
theorem c_spec_l06Bit (b : Bool) : TT n_spec_l06Bit [eB b] [] (eI (bitI b)) [] := r_spec_l06Bit b (by cases b <;> exact ⟨rfl, rfl⟩)
/-! ### blocks -/
def fbOK (f : FbT) : Bool :=
  if f.1 = 1 then isTm f.2.2.1 && (isTm f.2.2.2.1 && (f.2.1 || (f.2.2.1 == 0 && f.2.2.2.1 == 0)))
  else if f.1 = 2 then f.2.2.1 == 0 && isTm f.2.2.2.1
  else (f.1 == 3 || f.1 == 4) && (f.2.2.1 == 0 && f.2.2.2.1 == 0)
@[reducible] def fbE (f : FbT) : Ent := .agg [cI f.1, .bool f.2.1, cI f.2.2.1, cI f.2.2.2.1]
theorem isTm0 : isTm 0 = true := by decide
/-! ### lists of them -/
/-! ### data -/
structure Dat where
  g : List Int
  f : List FbT
  a : List Bool
  b : List Bool
  c : List Bool
  d : List Bool
  w : Int
@[reducible] def Dat.cs (x : Dat) : List Cell := [.sl tyInt x.g, .sl tFb x.f, .sl .bool x.a, .sl .bool x.b, .sl .bool x.c, .sl .bool x.d, cI x.w]
def dataOK (x : Dat) : Bool := decide ((x.g.length : Int) = 16) && (decide ((x.f.length : Int) ≤ 8) && (decide ((x.a.length : Int) = 8) && (decide ((x.b.length : Int) = 8) && (decide ((x.c.length : Int) = 8) && (decide ((x.d.length : Int) = 8) && (isTm x.w && (x.g.all isVal && x.f.all fbOK)))))))
/-! ### kinds -/
def kindsD (f : List FbT) : List Int := f.map (·.1)
end Go.Ry
