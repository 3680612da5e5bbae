/- Contracts: the place of a number among numbers, whether it is there. -/
import Derived.Test.YtenmnipgnjaheaaC0
import Derived.Test.YtenmnipgnjaheaaB2
namespace Go.Proofs.Ytenmnipgnjaheaa
open Go.RowKit
end Go.Proofs.Ytenmnipgnjaheaa
