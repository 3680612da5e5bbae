/- Contracts and walk: the magic square. -/
import Derived.Test.YtifkjbihmmdnbaaC0
import Derived.Test.YtifkjbihmmdnbaaB2
import Derived.Test.YtifkjbihmmdnbaaB3
namespace Go.Proofs.Ytifkjbihmmdnbaa
open Go.RowKit
def thirdT (x y : Int) : Int := (6 - x - y) % 3
def thirdC (x y : Card) : Card := ⟨thirdT x.a y.a, thirdT x.b y.b, thirdT x.c y.c, thirdT x.d y.d⟩
theorem l2Third_any (x y : Card) (hx : isCard x = true) (hy : isCard y = true) (w : World) : Calls Try.prog 54 #[x.v, y.v] w fun e w' => e = .returned (thirdC x y).v ∧ Kept w w' := by
  obtain ⟨x1, x2, x3, x4⟩ := isCard_of hx
  obtain ⟨y1, y2, y3, y4⟩ := isCard_of hy
  go_enter Try.func54, Try.ntmps54
  go_wp2
  refine wp_loop_rounds 5 ?_
  iterate 5
    (all_goals try rw [rounds_succ])
    go_wp2_with (first | (refine wp_region_ext_tail 11 (by kernel_rfl) (by kernel_rfl) ?_; simp only [List.take_succ_cons, List.take_zero, List.drop_succ_cons, List.drop_zero]; (repeat (go_big_quiet_step ((fail)))); refine wpQuiet_tail fun z => ?_))
  refine bodyPost_ret (v := (thirdC x y).v) (by simp [results, Try.results54, go_sem, thirdC, thirdT]) rfl ⟨rfl, ?_⟩
  exact (by (try simp only [ext_ext]); repeat (first | exact Kept.refl _ | apply Kept.alloc | apply Kept.drew | apply kept_add | apply Kept.ext))
theorem third_any (x y : Card) (hx : isCard x = true) (hy : isCard y = true) (w : World) : Calls Try.prog 73 #[x.v, y.v] w fun e w' => e = .returned (thirdC x y).v ∧ Kept w w' := by
  obtain ⟨x1, x2, x3, x4⟩ := isCard_of hx
  obtain ⟨y1, y2, y3, y4⟩ := isCard_of hy
  go_enter Try.func73, Try.ntmps73
  go_wp2
  refine wp_loop_rounds 5 ?_
  iterate 5
    (all_goals try rw [rounds_succ])
    go_wp2_with (first | (refine wp_region_ext_tail 11 (by kernel_rfl) (by kernel_rfl) ?_; simp only [List.take_succ_cons, List.take_zero, List.drop_succ_cons, List.drop_zero]; (repeat (go_big_quiet_step ((fail)))); refine wpQuiet_tail fun z => ?_))
  refine bodyPost_ret (v := (thirdC x y).v) (by simp [results, Try.results73, go_sem, thirdC, thirdT]) rfl ⟨rfl, ?_⟩
  exact (by (try simp only [ext_ext]); repeat (first | exact Kept.refl _ | apply Kept.alloc | apply Kept.drew | apply kept_add | apply Kept.ext))
def lineC (x y z : Card) : Bool := !decide (x = y) && decide (thirdC x y = z)
def planeC (x y z : Card) : Bool := isCard x && isCard y && isCard z && !decide (x = y) && !decide (x = z) && !decide (y = z) && !lineC x y z
end Go.Proofs.Ytifkjbihmmdnbaa
