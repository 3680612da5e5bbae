/- Contracts: how many cards of a hand have each value. -/
import Derived.Test.YtmdnnejaipdkhabT1
import Derived.Test.YtmdnnejaipdkhabM3
namespace Go.Proofs.Ytmdnnejaipdkhab
open Go.RowKit
abbrev v3 (a b c : Int) : Value := .agg #[.int .i64 a, .int .i64 b, .int .i64 c]
/-- Of the first n places those at which f is v. -/
def cnt (f : Nat → Int) (n : Nat) (v : Int) : Int := rsum n fun i => if f i = v then 1 else 0
theorem cnt_next (f : Nat → Int) (n : Nat) (v : Int) : cnt f (n + 1) v = cnt f n v + if f n = v then 1 else 0 := rfl
theorem cnt_bd (f : Nat → Int) (n : Nat) (v : Int) : 0 ≤ cnt f n v ∧ cnt f n v ≤ n := by
  have := rsum_bd (n := n) (f := fun i => if f i = v then 1 else 0) (b := 1) fun i _ => by split <;> omega
  unfold cnt; omega
abbrev cnt3 (f : Nat → Int) (n : Nat) : Value := v3 (cnt f n 0) (cnt f n 1) (cnt f n 2)
theorem eqIntA3_any (a b c a' b' c' : Int) (w : World) :
    Calls Try.prog 44 #[v3 a b c, v3 a' b' c'] w fun e w' => e = .returned (.bool (decide (a = a') && decide (b = b') && decide (c = c'))) ∧ Kept w w' := by
  go_enter Try.func44, Try.ntmps44
  go_wp2
  refine wp_loop_rounds 4 ?_
  iterate 4
    (all_goals try rw [rounds_succ])
    go_wp2_with (first | (refine wp_region_ext (by kernel_rfl) (by kernel_rfl) ?_; (repeat (go_big_quiet_step (fail))); refine wpQuiet_end fun z => ?_))
  all_goals
    go_ret
    exact ⟨ret_of (by simp_all), (by (try simp only [ext_ext]); repeat (first | exact Kept.refl _ | apply Kept.alloc | apply Kept.drew | apply kept_add | apply Kept.ext))⟩
end Go.Proofs.Ytmdnnejaipdkhab
