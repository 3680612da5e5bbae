/- Contracts: in how many traits cards differ; sums over pairs of cards. -/
import Derived.Test.YtinoohckfhhbfaaT1
import Derived.Test.YtinoohckfhhbfaaM3
namespace Go.Proofs.Ytinoohckfhhbfaa
open Go.RowKit
def ne01 (x y : Int) : Int := if x != y then 1 else 0
/-- In how many traits two cards differ. -/
def differC (x y : Card) : Int := ne01 x.a y.a + ne01 x.b y.b + ne01 x.c y.c + ne01 x.d y.d
theorem ne01_bd (x y : Int) : 0 ≤ ne01 x y ∧ ne01 x y ≤ 1 := by unfold ne01; split <;> omega
theorem differC_bd (x y : Card) : 0 ≤ differC x y ∧ differC x y ≤ 4 := by
  have h1 := ne01_bd x.a y.a; have h2 := ne01_bd x.b y.b; have h3 := ne01_bd x.c y.c; have h4 := ne01_bd x.d y.d
  unfold differC; omega
theorem differ_any (x y : Card) (w : World) : Calls Try.prog 59 #[x.v, y.v] w fun e w' => e = .returned (.int .i64 (differC x y)) ∧ Kept w w' := by
  go_enter Try.func59, Try.ntmps59
  go_wp2
  refine wp_loop_rounds 5 ?_
  iterate 5
    all_goals try rw [rounds_succ]
    all_goals go_wp2_with (first | (refine wp_region_ext (by kernel_rfl) (by kernel_rfl) ?_; (repeat (go_big_quiet_step (fail))); refine wpQuiet_end fun z => ?_))
  all_goals
    go_ret
    exact ⟨ret_of (congrArg (Value.int .i64) (by simp only [differC, ne01, *, if_true, Bool.false_eq_true, if_false]; rfl)), (by (try simp only [ext_ext]); repeat (first | exact Kept.refl _ | apply Kept.alloc | apply Kept.drew | apply kept_add | apply Kept.ext))⟩
end Go.Proofs.Ytinoohckfhhbfaa
