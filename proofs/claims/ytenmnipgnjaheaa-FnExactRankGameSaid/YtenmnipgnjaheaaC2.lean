/- Contracts: choices, fractions in lowest terms. -/
import Derived.Test.YtenmnipgnjaheaaC0
import Derived.Test.YtenmnipgnjaheaaB2
import Derived.Test.YtenmnipgnjaheaaM2
namespace Go.Proofs.Ytenmnipgnjaheaa
open Go.RowKit

/-- Two numbers, one cell each. -/
abbrev v2 (p q : Int) : Value := .agg #[.int .i64 p, .int .i64 q]
end Go.Proofs.Ytenmnipgnjaheaa
