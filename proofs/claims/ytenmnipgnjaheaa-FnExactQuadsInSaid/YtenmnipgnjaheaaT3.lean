/- Contracts: in how many traits cards differ; sums over pairs of cards. -/
import Derived.Test.YtenmnipgnjaheaaT1
import Derived.Test.YtenmnipgnjaheaaM3
namespace Go.Proofs.Ytenmnipgnjaheaa
open Go.RowKit
def ne01 (x y : Int) : Int := if x != y then 1 else 0
/-- In how many traits two cards differ. -/
def differC (x y : Card) : Int := ne01 x.a y.a + ne01 x.b y.b + ne01 x.c y.c + ne01 x.d y.d
theorem ne01_bd (x y : Int) : 0 ≤ ne01 x y ∧ ne01 x y ≤ 1 := by unfold ne01; split <;> omega
theorem differC_bd (x y : Card) : 0 ≤ differC x y ∧ differC x y ≤ 4 := by
  have h1 := ne01_bd x.a y.a; have h2 := ne01_bd x.b y.b; have h3 := ne01_bd x.c y.c; have h4 := ne01_bd x.d y.d
  unfold differC; omega
end Go.Proofs.Ytenmnipgnjaheaa
