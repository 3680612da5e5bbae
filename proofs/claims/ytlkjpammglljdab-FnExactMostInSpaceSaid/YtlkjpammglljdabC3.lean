/- Contracts and walks: masks, kinds, flats, weights. -/
import Derived.Test.YtlkjpammglljdabC0
import Derived.Test.YtlkjpammglljdabB2
import Derived.Test.YtlkjpammglljdabC1
namespace Go.Proofs.Ytlkjpammglljdab
open Go.RowKit
def isWeight (x : Card) : Bool :=
  if x.a ≠ 0 then decide (x.a = 1) && isCard x else if x.b ≠ 0 then decide (x.b = 1) && isCard x else if x.c ≠ 0 then decide (x.c = 1) && isCard x else if x.d ≠ 0 then decide (x.d = 1) && isCard x else false
/-- The nine ways through a weight's test. -/
theorem weight_ways (a b c d : Int) : a = 1 ∨ ((a == 1) = false ∧ (a != 0) = true) ∨ (a = 0 ∧ (b = 1 ∨ ((b == 1) = false ∧ (b != 0) = true) ∨ (b = 0 ∧ (c = 1 ∨ ((c == 1) = false ∧ (c != 0) = true) ∨ (c = 0 ∧ (d = 1 ∨ ((d == 1) = false ∧ (d != 0) = true) ∨ d = 0)))))) := by
  simp only [beq_eq_false_iff_ne, bne_iff_ne]
  omega
theorem l6Weight_any (x : Card) (w : World) : Calls Try.prog 42 #[x.v] w fun e w' => e = .returned (.bool (isWeight x)) ∧ Kept w w' := by
  obtain ⟨a, b, c, d⟩ := x
  rcases weight_ways a b c d with rfl | ⟨h1, h2⟩ | ⟨rfl, rfl | ⟨h1, h2⟩ | ⟨rfl, rfl | ⟨h1, h2⟩ | ⟨rfl, rfl | ⟨h1, h2⟩ | rfl⟩⟩⟩
  all_goals
    go_enter Try.func42, Try.ntmps42
    go_wp2
    refine wp_loop_rounds 5 ?_
    iterate 5
      (all_goals try rw [rounds_succ])
      go_wp2_with (go_at_call 55; refine (l2Card_any ⟨_, _, _, _⟩ _).mono ?_; rintro e w' ⟨rfl, y, rfl⟩)
    go_ret
    exact ⟨ret_of (by simp_all [isWeight]), by repeat (first | exact Kept.refl _ | apply Kept.alloc | apply Kept.ext)⟩
theorem IsWeight_any (x : Card) (w : World) : Calls Try.prog 63 #[x.v] w fun e w' => e = .returned (.bool (isWeight x)) ∧ Kept w w' := by
  obtain ⟨a, b, c, d⟩ := x
  have i0 : ∀ w : World, (Instr.index 24 (.agg #[.int .i64 a, .int .i64 b, .int .i64 c, .int .i64 d]) (.int .i64 0)).run Try.prog w = .ok (.int .i64 a) w := fun _ => by kernel_rfl
  have i1 : ∀ w : World, (Instr.index 24 (.agg #[.int .i64 a, .int .i64 b, .int .i64 c, .int .i64 d]) (.int .i64 1)).run Try.prog w = .ok (.int .i64 b) w := fun _ => by kernel_rfl
  have i2 : ∀ w : World, (Instr.index 24 (.agg #[.int .i64 a, .int .i64 b, .int .i64 c, .int .i64 d]) (.int .i64 2)).run Try.prog w = .ok (.int .i64 c) w := fun _ => by kernel_rfl
  have i3 : ∀ w : World, (Instr.index 24 (.agg #[.int .i64 a, .int .i64 b, .int .i64 c, .int .i64 d]) (.int .i64 3)).run Try.prog w = .ok (.int .i64 d) w := fun _ => by kernel_rfl
  rcases weight_ways a b c d with rfl | ⟨h1, h2⟩ | ⟨rfl, rfl | ⟨h1, h2⟩ | ⟨rfl, rfl | ⟨h1, h2⟩ | ⟨rfl, rfl | ⟨h1, h2⟩ | rfl⟩⟩⟩
  all_goals
    go_enter Try.func63, Try.ntmps63
    go_wp2
    refine wp_loop_rounds 5 ?_
    iterate 5
      (all_goals try rw [rounds_succ])
      go_wp2_with (go_at_call 58; refine (IsCard_any ⟨_, _, _, _⟩ _).mono ?_; rintro e w' ⟨rfl, y, rfl⟩)
    go_ret
    exact ⟨ret_of (by simp_all [isWeight]), by repeat (first | exact Kept.refl _ | apply Kept.alloc | apply Kept.ext)⟩
end Go.Proofs.Ytlkjpammglljdab
