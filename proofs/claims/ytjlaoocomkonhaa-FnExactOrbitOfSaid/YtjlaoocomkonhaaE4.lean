/- Contract: the law's comparison of two cards. -/
import Derived.Test.YtjlaoocomkonhaaC0
import Derived.Test.YtjlaoocomkonhaaB2
namespace Go.Proofs.Ytjlaoocomkonhaa
open Go.RowKit
theorem eqIntA4_any (x y : Card) (w : World) : Calls Try.prog 37 #[x.v, y.v] w fun e w' => e = .returned (.bool (decide (x = y))) ∧ Kept w w' := by
  obtain ⟨a, b, c, d⟩ := x
  obtain ⟨a', b', c', d'⟩ := y
  go_enter Try.func37, Try.ntmps37
  go_wp2
  refine wp_loop_rounds 5 ?_
  iterate 5
    (all_goals try rw [rounds_succ])
    go_wp2_with (first | (refine wp_region_ext (by kernel_rfl) (by kernel_rfl) ?_; (repeat (go_big_quiet_step (fail))); refine wpQuiet_end fun z => ?_))
  all_goals
    go_ret
    exact ⟨ret_of (by simp_all), (by (try simp only [ext_ext]); repeat (first | exact Kept.refl _ | apply Kept.alloc | apply Kept.drew | apply kept_add | apply Kept.ext))⟩
end Go.Proofs.Ytjlaoocomkonhaa
