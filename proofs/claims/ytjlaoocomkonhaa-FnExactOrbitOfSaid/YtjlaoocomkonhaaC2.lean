/- Contracts: choices, fractions in lowest terms. -/
import Derived.Test.YtjlaoocomkonhaaC0
import Derived.Test.YtjlaoocomkonhaaB2
import Derived.Test.YtjlaoocomkonhaaM2
namespace Go.Proofs.Ytjlaoocomkonhaa
open Go.RowKit

/-- Two numbers, one cell each. -/
abbrev v2 (p q : Int) : Value := .agg #[.int .i64 p, .int .i64 q]
end Go.Proofs.Ytjlaoocomkonhaa
