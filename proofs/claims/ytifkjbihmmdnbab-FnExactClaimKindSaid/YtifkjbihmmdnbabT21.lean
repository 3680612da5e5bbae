/- Contracts: the place of a number among numbers, whether it is there. -/
import Derived.Test.YtifkjbihmmdnbabC0
import Derived.Test.YtifkjbihmmdnbabB2
namespace Go.Proofs.Ytifkjbihmmdnbab
open Go.RowKit
end Go.Proofs.Ytifkjbihmmdnbab
