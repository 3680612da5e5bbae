/- Contracts: choices, fractions in lowest terms. -/
import Derived.Test.YtmdnnejaipdkhaaC0
import Derived.Test.YtmdnnejaipdkhaaB2
import Derived.Test.YtmdnnejaipdkhaaM2
namespace Go.Proofs.Ytmdnnejaipdkhaa
open Go.RowKit

/-- Two numbers, one cell each. -/
abbrev v2 (p q : Int) : Value := .agg #[.int .i64 p, .int .i64 q]
end Go.Proofs.Ytmdnnejaipdkhaa
