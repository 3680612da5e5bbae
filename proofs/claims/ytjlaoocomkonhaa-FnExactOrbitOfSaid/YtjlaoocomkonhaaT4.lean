/- Contracts: how many cards of a hand have each value. -/
import Derived.Test.YtjlaoocomkonhaaT1
import Derived.Test.YtjlaoocomkonhaaM3
namespace Go.Proofs.Ytjlaoocomkonhaa
open Go.RowKit
abbrev v3 (a b c : Int) : Value := .agg #[.int .i64 a, .int .i64 b, .int .i64 c]
/-- Of the first n places those at which f is v. -/
def cnt (f : Nat → Int) (n : Nat) (v : Int) : Int := rsum n fun i => if f i = v then 1 else 0
theorem cnt_next (f : Nat → Int) (n : Nat) (v : Int) : cnt f (n + 1) v = cnt f n v + if f n = v then 1 else 0 := rfl
theorem cnt_bd (f : Nat → Int) (n : Nat) (v : Int) : 0 ≤ cnt f n v ∧ cnt f n v ≤ n := by
  have := rsum_bd (n := n) (f := fun i => if f i = v then 1 else 0) (b := 1) fun i _ => by split <;> omega
  unfold cnt; omega
abbrev cnt3 (f : Nat → Int) (n : Nat) : Value := v3 (cnt f n 0) (cnt f n 1) (cnt f n 2)
end Go.Proofs.Ytjlaoocomkonhaa
