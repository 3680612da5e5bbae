/- Contracts: the place of a card in a list, whether it is there. -/
import Derived.Test.YtjlaoocomkonhaaT1
namespace Go.Proofs.Ytjlaoocomkonhaa
open Go.RowKit
/-- The place of a card, or -1. -/
def placeC (xs : List Card) (c : Card) : Int := idxOf (fun x => decide (x = c)) xs
def hasC (xs : List Card) (c : Card) : Bool := xs.any fun x => decide (x = c)
theorem placeC_some {xs : List Card} {c : Card} {k : Nat} (hk : k < xs.length) (h : cx xs k = c) (hn : ∀ j, j < k → decide (cx xs j = c) = false) : placeC xs c = k :=
  show idxOf (fun x => decide (x = c)) xs = k from idxOf_some (d := ⟨0, 0, 0, 0⟩) hk (by show decide (cx xs k = c) = true; exact decide_eq_true h) (fun j hj => by show decide (cx xs j = c) = false; exact hn j hj)
theorem placeC_none {xs : List Card} {c : Card} (hn : ∀ j, j < xs.length → decide (cx xs j = c) = false) : placeC xs c = -1 :=
  show idxOf (fun x => decide (x = c)) xs = -1 from idxOf_none (d := ⟨0, 0, 0, 0⟩) (fun j hj => by show decide (cx xs j = c) = false; exact hn j hj)
theorem placeC_has (xs : List Card) (c : Card) : decide (0 ≤ placeC xs c) = hasC xs c := idxOf_any _ xs
theorem placeC_le (xs : List Card) (c : Card) : -1 ≤ placeC xs c ∧ placeC xs c ≤ xs.length := idxOf_le _ xs
end Go.Proofs.Ytjlaoocomkonhaa
