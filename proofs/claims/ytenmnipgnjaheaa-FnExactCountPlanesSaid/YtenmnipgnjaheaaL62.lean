/- Walk: the law of SpanOf. -/
import Derived.Test.YtenmnipgnjaheaaT78
import Derived.Test.YtenmnipgnjaheaaT28
import Derived.Test.YtenmnipgnjaheaaC2
namespace Go.Proofs.Ytenmnipgnjaheaa
open Go.RowKit
theorem areC_hand' {xs : List Card} (hh : isHand xs = true) : ∀ c ∈ xs, isCard c = true := fun c hc => by
  obtain ⟨j, hj, rfl⟩ := List.getElem_of_mem hc
  rw [← cx_get _ _ hj]; exact areC_hand hh j hj
end Go.Proofs.Ytenmnipgnjaheaa
