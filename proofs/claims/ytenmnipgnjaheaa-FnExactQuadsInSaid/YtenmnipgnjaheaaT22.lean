/- Contracts: how many places two lines have in common. -/
import Derived.Test.YtenmnipgnjaheaaT12
import Derived.Test.YtenmnipgnjaheaaT21
import Derived.Test.YtenmnipgnjaheaaM3
namespace Go.Proofs.Ytenmnipgnjaheaa
open Go.RowKit
def lnF (a : Ln) (i : Nat) : Int := if i = 0 then a.a else if i = 1 then a.b else a.c
def eq01 (x y : Int) : Int := if x = y then 1 else 0
def comRow (a b : Ln) (i k : Nat) : Int := rsum k fun j => eq01 (lnF a i) (lnF b j)
/-- How many pairs of places are the same. -/
def comS (a b : Ln) : Int := rsum 3 fun i => comRow a b i 3
def isIn (b : Ln) (x : Int) : Bool := [b.a, b.b, b.c].any fun y => decide (y = x)
def in01 (b : Ln) (x : Int) : Int := if isIn b x = true then 1 else 0
/-- How many places of one line are in another one. -/
def comI (a b : Ln) : Int := rsum 3 fun i => in01 b (lnF a i)
theorem eq01_bd (x y : Int) : 0 ≤ eq01 x y ∧ eq01 x y ≤ 1 := by unfold eq01; split <;> omega
theorem in01_bd (b : Ln) (x : Int) : 0 ≤ in01 b x ∧ in01 b x ≤ 1 := by unfold in01; split <;> omega
theorem comI_bd (a b : Ln) : 0 ≤ comI a b ∧ comI a b ≤ 3 := by
  have := rsum_bd (n := 3) (f := fun i => in01 b (lnF a i)) (b := 1) fun i _ => in01_bd _ _
  unfold comI; omega
theorem comS_comI {a b : Ln} (h1 : b.a < b.b) (h2 : b.b < b.c) : comS a b = comI a b := by
  unfold comS comI
  refine rsum_congr fun i _ => ?_
  simp only [comRow, rsum, in01, isIn, List.any_cons, List.any_nil, Bool.or_false, Bool.or_eq_true, decide_eq_true_eq]
  generalize lnF a i = x
  have e0 : lnF b 0 = b.a := rfl
  have e1 : lnF b 1 = b.b := rfl
  have e2 : lnF b 2 = b.c := rfl
  rw [e0, e1, e2]
  unfold eq01
  split <;> split <;> split <;> split <;> omega
end Go.Proofs.Ytenmnipgnjaheaa
