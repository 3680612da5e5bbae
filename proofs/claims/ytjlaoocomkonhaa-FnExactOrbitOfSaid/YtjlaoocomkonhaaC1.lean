/- Contracts of the functions behind IsCodeword. -/
import Derived.Test.YtjlaoocomkonhaaC0
namespace Go.Proofs.Ytjlaoocomkonhaa
open Go.RowKit

def wordC (a b : Int) : Card := ⟨a, (a + b) % 3, (a + 2 * b) % 3, b⟩
theorem toIntA4_any (x : Card) (w : World) :
    Calls Try.prog 23 #[x.v] w fun e w' => e = .returned x.v ∧ Kept w w' := by
  go_enter Try.func23, Try.ntmps23
  go_wp2
  refine wp_loop_rounds 5 ?_
  rw [rounds_succ]
  go_wp2
  rw [rounds_succ]
  go_wp2
  rw [rounds_succ]
  go_wp2
  rw [rounds_succ]
  go_wp2
  rw [rounds_succ]
  go_wp2
  refine bodyPost_ret (v := x.v) (by simp [results, Try.results23, go_sem]) rfl ⟨rfl, ?_⟩
  exact (((Kept.refl _).alloc _).alloc _).alloc _
end Go.Proofs.Ytjlaoocomkonhaa
