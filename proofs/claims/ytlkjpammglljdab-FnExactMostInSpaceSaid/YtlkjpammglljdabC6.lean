/- Contracts and walks: the value of a card by a weight, the shadow of a card. -/
import Derived.Test.YtlkjpammglljdabC3
import Derived.Test.YtlkjpammglljdabE4
namespace Go.Proofs.Ytlkjpammglljdab
open Go.RowKit
def valueC (x y : Card) : Int := (x.a * y.a + x.b * y.b + x.c * y.c + x.d * y.d) % 3
theorem mul_02 {a b : Int} (ha : 0 ≤ a ∧ a ≤ 2) (hb : 0 ≤ b ∧ b ≤ 2) : 0 ≤ a * b ∧ a * b ≤ 4 := by
  obtain ⟨ha, ha'⟩ := ha
  obtain ⟨hb, hb'⟩ := hb
  obtain rfl | rfl | rfl : a = 0 ∨ a = 1 ∨ a = 2 := by omega
  all_goals omega
theorem l6Value_any (x y : Card) (hx : isCard x = true) (hy : isCard y = true) (w : World) : Calls Try.prog 62 #[x.v, y.v] w fun e w' => e = .returned (.int .i64 (valueC x y)) ∧ Kept w w' := by
  obtain ⟨x1, x2, x3, x4⟩ := isCard_of hx
  obtain ⟨y1, y2, y3, y4⟩ := isCard_of hy
  have m1 := mul_02 x1 y1
  have m2 := mul_02 x2 y2
  have m3 := mul_02 x3 y3
  have m4 := mul_02 x4 y4
  go_enter Try.func62, Try.ntmps62
  go_wp2_with (refine wp_region_ext (by kernel_rfl) (by kernel_rfl) ?_; (repeat (go_big_quiet_step (fail))); refine wpQuiet_end fun z => ?_)
  go_ret
  exact ⟨rfl, (by (try simp only [ext_ext]); repeat (first | exact Kept.refl _ | apply Kept.alloc | apply Kept.drew | apply kept_add | apply Kept.ext))⟩
theorem value_any (x y : Card) (hx : isCard x = true) (hy : isCard y = true) (w : World) : Calls Try.prog 64 #[x.v, y.v] w fun e w' => e = .returned (.int .i64 (valueC x y)) ∧ Kept w w' := by
  obtain ⟨x1, x2, x3, x4⟩ := isCard_of hx
  obtain ⟨y1, y2, y3, y4⟩ := isCard_of hy
  have m1 := mul_02 x1 y1
  have m2 := mul_02 x2 y2
  have m3 := mul_02 x3 y3
  have m4 := mul_02 x4 y4
  obtain ⟨a, b, c, d⟩ := x
  have i0 : ∀ w : World, (Instr.index 24 (.agg #[.int .i64 a, .int .i64 b, .int .i64 c, .int .i64 d]) (.int .i64 0)).run Try.prog w = .ok (.int .i64 a) w := fun _ => by kernel_rfl
  have i1 : ∀ w : World, (Instr.index 24 (.agg #[.int .i64 a, .int .i64 b, .int .i64 c, .int .i64 d]) (.int .i64 1)).run Try.prog w = .ok (.int .i64 b) w := fun _ => by kernel_rfl
  have i2 : ∀ w : World, (Instr.index 24 (.agg #[.int .i64 a, .int .i64 b, .int .i64 c, .int .i64 d]) (.int .i64 2)).run Try.prog w = .ok (.int .i64 c) w := fun _ => by kernel_rfl
  have i3 : ∀ w : World, (Instr.index 24 (.agg #[.int .i64 a, .int .i64 b, .int .i64 c, .int .i64 d]) (.int .i64 3)).run Try.prog w = .ok (.int .i64 d) w := fun _ => by kernel_rfl
  go_enter Try.func64, Try.ntmps64
  go_wp2
  refine wp_loop_rounds 5 ?_
  iterate 5
    (all_goals try rw [rounds_succ])
    go_wp2_with (first | (refine wp_region_ext (by kernel_rfl) (by kernel_rfl) ?_; (repeat (go_big_quiet_step (fail))); refine wpQuiet_end fun z => ?_))
  go_ret
  exact ⟨ret_of (by simp [valueC]), (by (try simp only [ext_ext]); repeat (first | exact Kept.refl _ | apply Kept.alloc | apply Kept.drew | apply kept_add | apply Kept.ext))⟩
theorem isCard_of_weight {x : Card} (h : isWeight x = true) : isCard x = true := by
  unfold isWeight at h
  repeat (split at h; first | (simp only [Bool.and_eq_true] at h; exact h.2) | skip)
  all_goals simp_all
def shadowC (x : Card) (m : Int) : Card := ⟨if m % 2 = 0 then 0 else x.a, if m / 2 % 2 = 0 then 0 else x.b, if m / 4 % 2 = 0 then 0 else x.c, if m / 8 % 2 = 0 then 0 else x.d⟩
@[go_sem] theorem bits_and_one (n : Int) (h0 : 0 ≤ n) (h : n ≤ 15) : bits .and .i64 n 1 = n % 2 := by
  obtain rfl | rfl | rfl | rfl | rfl | rfl | rfl | rfl | rfl | rfl | rfl | rfl | rfl | rfl | rfl | rfl : n = 0 ∨ n = 1 ∨ n = 2 ∨ n = 3 ∨ n = 4 ∨ n = 5 ∨ n = 6 ∨ n = 7 ∨ n = 8 ∨ n = 9 ∨ n = 10 ∨ n = 11 ∨ n = 12 ∨ n = 13 ∨ n = 14 ∨ n = 15 := by omega
  all_goals rfl
end Go.Proofs.Ytlkjpammglljdab
