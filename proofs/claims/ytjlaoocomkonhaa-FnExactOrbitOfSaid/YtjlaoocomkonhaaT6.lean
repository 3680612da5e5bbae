/- Contracts: how many cards of a hand have each value of a trait. -/
import Derived.Test.YtjlaoocomkonhaaT4
import Derived.Test.YtjlaoocomkonhaaC2
namespace Go.Proofs.Ytjlaoocomkonhaa
open Go.RowKit
/-- A trait of a card. -/
def tr (t : Nat) (x : Card) : Int := if t = 0 then x.a else if t = 1 then x.b else if t = 2 then x.c else x.d
theorem tr_3 {x : Card} (t : Nat) (h : isCard x = true) : tr t x = 0 ∨ tr t x = 1 ∨ tr t x = 2 := by
  obtain ⟨h1, h2, h3, h4⟩ := isCard_of h
  unfold tr
  repeat' split
  all_goals omega
def trs (xs : List Card) (t : Nat) (i : Nat) : Int := tr t (cx xs i)
theorem trait_cell {w : World} {g off t : Nat} {x : Card} (h : CardCells w g off x) (ht : t ≤ 3) : w.cell? ⟨g, off + t, none⟩ = some (.int .i64 (tr t x)) := by
  obtain ⟨h1, h2, h3, h4⟩ := h
  obtain rfl | rfl | rfl | rfl : t = 0 ∨ t = 1 ∨ t = 2 ∨ t = 3 := by omega
  · exact h1
  · exact h2
  · exact h3
  · exact h4
end Go.Proofs.Ytjlaoocomkonhaa
