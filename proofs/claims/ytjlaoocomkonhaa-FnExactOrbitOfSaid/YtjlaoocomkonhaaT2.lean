/- Contracts: sums of cards. -/
import Derived.Test.YtjlaoocomkonhaaT1
namespace Go.Proofs.Ytjlaoocomkonhaa
open Go.RowKit
def sumA (s c : Card) : Card := ⟨(s.a + c.a) % 3, (s.b + c.b) % 3, (s.c + c.c) % 3, (s.d + c.d) % 3⟩
/-- The sum of cards. -/
def sumC (cs : List Card) : Card := cs.foldl sumA ⟨0, 0, 0, 0⟩
theorem isCard_mk {x : Card} (h1 : 0 ≤ x.a ∧ x.a ≤ 2) (h2 : 0 ≤ x.b ∧ x.b ≤ 2) (h3 : 0 ≤ x.c ∧ x.c ≤ 2) (h4 : 0 ≤ x.d ∧ x.d ≤ 2) : isCard x = true := by
  simp only [isCard, inB_t h1.1 h1.2, inB_t h2.1 h2.2, inB_t h3.1 h3.2, inB_t h4.1 h4.2, Bool.and_self]
theorem sumC_next (xs : List Card) (k : Nat) (h : k < xs.length) : sumC (xs.take (k + 1)) = sumA (sumC (xs.take k)) (cx xs k) := by
  rw [take_cx xs k h]; simp [sumC]
theorem isCard_sumA (s c : Card) : isCard (sumA s c) = true := by
  refine isCard_mk ?_ ?_ ?_ ?_
  all_goals simp only [sumA]; omega
theorem isCard_sumC (cs : List Card) : isCard (sumC cs) = true := by
  unfold sumC
  rw [List.foldl_eq_foldr_reverse]
  cases cs.reverse with
  | nil => rfl
  | cons x l => exact isCard_sumA _ _
end Go.Proofs.Ytjlaoocomkonhaa
