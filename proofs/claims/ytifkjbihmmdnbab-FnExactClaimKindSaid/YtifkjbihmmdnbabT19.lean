/- Contracts: rows of three numbers compared. -/
import Derived.Test.YtifkjbihmmdnbabT18
import Derived.Test.YtifkjbihmmdnbabT4
namespace Go.Proofs.Ytifkjbihmmdnbab
open Go.RowKit
/-- A call hands back rows and whether there are some, in memory of its own. -/
def RetLT (W : World) (ok : Bool) (ls : List Ln) (e : Ending) (w' : World) : Prop := ∃ v, e = .returned (.tuple #[v, .bool ok]) ∧ OwnL W.heap.size w' v ls ∧ Kept W w'
theorem ownL_none (B : Nat) (w : World) : OwnL B w (.slice none 0 0) [] := ⟨rfl, .inl ⟨rfl, rfl⟩⟩
end Go.Proofs.Ytifkjbihmmdnbab
