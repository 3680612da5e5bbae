/- Contracts: choices, fractions in lowest terms. -/
import Derived.Test.YtmdnnejaipdkhabC0
import Derived.Test.YtmdnnejaipdkhabB2
import Derived.Test.YtmdnnejaipdkhabM2
namespace Go.Proofs.Ytmdnnejaipdkhab
open Go.RowKit

/-- Two numbers, one cell each. -/
abbrev v2 (p q : Int) : Value := .agg #[.int .i64 p, .int .i64 q]
theorem l1Most_any (a b : Int) (w : World) :
    Calls Try.prog 39 #[.int .i64 a, .int .i64 b] w fun e w' => e = .returned (.int .i64 (max a b)) ∧ w = w' := by
  by_cases h : b < a
  all_goals
    go_enter Try.func39, Try.ntmps39
    go_wp2
    go_ret
    exact ⟨ret_of (congrArg (Value.int .i64) (by omega)), rfl⟩
end Go.Proofs.Ytmdnnejaipdkhab
