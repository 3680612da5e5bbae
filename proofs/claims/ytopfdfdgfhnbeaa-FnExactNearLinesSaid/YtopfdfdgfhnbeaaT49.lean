/- Contracts: near lines. -/
import Derived.Test.YtopfdfdgfhnbeaaT48
namespace Go.Proofs.Ytopfdfdgfhnbeaa
open Go.RowKit
theorem ne01_third {a b c : Int} (ha : 0 ≤ a ∧ a ≤ 2) (hb : 0 ≤ b ∧ b ≤ 2) (hc : 0 ≤ c ∧ c ≤ 2) : ne01 (thirdT a b) c = if (a + b + c) % 3 = 0 then 0 else 1 := by
  unfold ne01 thirdT
  by_cases h : (a + b + c) % 3 = 0
  · have e : (6 - a - b) % 3 = c := by omega
    rw [if_pos h, e]; simp
  · have e : ¬ (6 - a - b) % 3 = c := by omega
    rw [if_neg h, if_pos (by simpa using e)]
set_option maxHeartbeats 8000000 in
theorem l10Good_any (x y z : Card) (hx : isCard x = true) (hy : isCard y = true) (hz : isCard z = true) (w : World) :
    Calls Try.prog 55 #[x.v, y.v, z.v] w fun e w' => e = .returned (.int .i64 (4 - differC (thirdC x y) z)) ∧ Kept w w' := by
  obtain ⟨x1, x2, x3, x4⟩ := isCard_of hx
  obtain ⟨y1, y2, y3, y4⟩ := isCard_of hy
  obtain ⟨z1, z2, z3, z4⟩ := isCard_of hz
  have e1 : (x.a + y.a + z.a).tmod 3 = (x.a + y.a + z.a) % 3 := Int.tmod_eq_emod_of_nonneg (by omega)
  have e2 : (x.b + y.b + z.b).tmod 3 = (x.b + y.b + z.b) % 3 := Int.tmod_eq_emod_of_nonneg (by omega)
  have e3 : (x.c + y.c + z.c).tmod 3 = (x.c + y.c + z.c) % 3 := Int.tmod_eq_emod_of_nonneg (by omega)
  have e4 : (x.d + y.d + z.d).tmod 3 = (x.d + y.d + z.d) % 3 := Int.tmod_eq_emod_of_nonneg (by omega)
  have hv := hid (show differC (thirdC x y) z = (if (x.a + y.a + z.a) % 3 = 0 then 0 else 1) + (if (x.b + y.b + z.b) % 3 = 0 then 0 else 1) + (if (x.c + y.c + z.c) % 3 = 0 then 0 else 1) + (if (x.d + y.d + z.d) % 3 = 0 then 0 else 1) by
    rw [← ne01_third x1 y1 z1, ← ne01_third x2 y2 z2, ← ne01_third x3 y3 z3, ← ne01_third x4 y4 z4]; rfl)
  have b1 := Int.emod_nonneg (x.a + y.a + z.a) (show (3 : Int) ≠ 0 by decide)
  have b2 := Int.emod_nonneg (x.b + y.b + z.b) (show (3 : Int) ≠ 0 by decide)
  have b3 := Int.emod_nonneg (x.c + y.c + z.c) (show (3 : Int) ≠ 0 by decide)
  have b4 := Int.emod_nonneg (x.d + y.d + z.d) (show (3 : Int) ≠ 0 by decide)
  have u1 := Int.emod_lt_of_pos (x.a + y.a + z.a) (show (0 : Int) < 3 by decide)
  have u2 := Int.emod_lt_of_pos (x.b + y.b + z.b) (show (0 : Int) < 3 by decide)
  have u3 := Int.emod_lt_of_pos (x.c + y.c + z.c) (show (0 : Int) < 3 by decide)
  have u4 := Int.emod_lt_of_pos (x.d + y.d + z.d) (show (0 : Int) < 3 by decide)
  generalize (x.a + y.a + z.a) % 3 = r1 at e1 hv b1 u1
  generalize (x.b + y.b + z.b) % 3 = r2 at e2 hv b2 u2
  generalize (x.c + y.c + z.c) % 3 = r3 at e3 hv b3 u3
  generalize (x.d + y.d + z.d) % 3 = r4 at e4 hv b4 u4
  clear hx hy hz
  by_cases c1 : r1 = 0 <;> by_cases c2 : r2 = 0 <;> by_cases c3 : r3 = 0 <;> by_cases c4 : r4 = 0
  all_goals
    have d1 : (r1 == 0) = decide (r1 = 0) := rfl
    have d2 : (r2 == 0) = decide (r2 = 0) := rfl
    have d3 : (r3 == 0) = decide (r3 = 0) := rfl
    have d4 : (r4 == 0) = decide (r4 = 0) := rfl
    go_enter Try.func55, Try.ntmps55
    go_wp2
    refine wp_loop_rounds 5 ?_
    iterate 5
      rw [rounds_succ]
      go_wp2_with (first | (refine wp_region_ext (by kernel_rfl) (by kernel_rfl) ?_; (repeat (go_big_quiet_step (fail))); refine wpQuiet_end fun z => ?_))
    go_ret
    exact ⟨ret_of (congrArg (Value.int .i64) (by rw [hv.out]; simp [c1, c2, c3, c4])), (by (try simp only [ext_ext]); repeat (first | exact Kept.refl _ | apply Kept.alloc | apply Kept.drew | apply kept_add | apply Kept.ext))⟩
end Go.Proofs.Ytopfdfdgfhnbeaa
