/- Contracts and walks: masks, kinds, flats, weights. -/
import Derived.Test.YtgfpdobbacjbhaaC0
import Derived.Test.YtgfpdobbacjbhaaB2
import Derived.Test.YtgfpdobbacjbhaaC1
namespace Go.Proofs.Ytgfpdobbacjbhaa
open Go.RowKit
theorem walk_FnExactIsMask (n : Int) (w : World) : Calls Try.prog 3 #[.int .i64 n] w fun e w' => e = .returned (.bool true) ∧ Kept w w' := by
  have h1 : ∀ w, Calls Try.prog 9 #[.int .i64 n] w fun e w' => e = .returned (.bool (inB n 1 15)) ∧ w = w' := fun w => by
    go_enter Try.func9, Try.ntmps9
    go_wp2_with (first | (go_at_call 25; refine (l1In_any _ _ _ _).mono ?_; rintro e w' ⟨rfl, rfl⟩) | go_in)
    go_ret
    exact ⟨rfl, rfl⟩
  have h2 : ∀ w, Calls Try.prog 10 #[.int .i64 n] w fun e w' => e = .returned (.bool (inB n 1 15)) ∧ w = w' := fun w => by
    go_enter Try.func10, Try.ntmps10
    go_wp2_with (go_at_call 24; refine (within_any _ _ _ _).mono ?_; rintro e w' ⟨rfl, rfl⟩)
    go_ret
    exact ⟨rfl, rfl⟩
  go_enter Try.func3, Try.ntmps3
  go_wp2_with (first | (go_at_call 9; refine (h1 _).mono ?_; rintro e w' ⟨rfl, rfl⟩) | (go_at_call 10; refine (h2 _).mono ?_; rintro e w' ⟨rfl, rfl⟩))
  go_ret
  exact ⟨rfl, Kept.refl _⟩
def kinds5 (n : Int) : Int := if n = 1 then 108 else if n = 2 then 324 else if n = 3 then 432 else 216
theorem sAllOfKind_any (n : Int) (w : World) : Calls Try.prog 11 #[.int .i64 n] w fun e w' => e = .returned (.tuple #[.int .i64 (if inB n 1 4 then kinds5 n else 0), .bool (inB n 1 4)]) ∧ Kept w w' := by
  cases h : inB n 1 4 with
  | false =>
    go_enter Try.func11, Try.ntmps11
    go_wp2_with (go_at_call 25; refine (l1In_any _ _ _ _).mono ?_; rintro e w' ⟨rfl, rfl⟩)
    go_ret2
    exact ⟨rfl, Kept.refl _⟩
  | true =>
    have hn := inB_of h
    have x1 : ∀ w : World, (Instr.index 35 (.agg #[.int .i64 0, .int .i64 108, .int .i64 324, .int .i64 432, .int .i64 216]) (.int .i64 1)).run Try.prog w = .ok (.int .i64 108) w := fun _ => by kernel_rfl
    have x2 : ∀ w : World, (Instr.index 35 (.agg #[.int .i64 0, .int .i64 108, .int .i64 324, .int .i64 432, .int .i64 216]) (.int .i64 2)).run Try.prog w = .ok (.int .i64 324) w := fun _ => by kernel_rfl
    have x3 : ∀ w : World, (Instr.index 35 (.agg #[.int .i64 0, .int .i64 108, .int .i64 324, .int .i64 432, .int .i64 216]) (.int .i64 3)).run Try.prog w = .ok (.int .i64 432) w := fun _ => by kernel_rfl
    have x4 : ∀ w : World, (Instr.index 35 (.agg #[.int .i64 0, .int .i64 108, .int .i64 324, .int .i64 432, .int .i64 216]) (.int .i64 4)).run Try.prog w = .ok (.int .i64 216) w := fun _ => by kernel_rfl
    obtain rfl | rfl | rfl | rfl : n = 1 ∨ n = 2 ∨ n = 3 ∨ n = 4 := by omega
    all_goals
      go_enter Try.func11, Try.ntmps11
      go_wp2_with (go_at_call 25; refine (l1In_any _ _ _ _).mono ?_; rintro e w' ⟨rfl, rfl⟩)
      go_ret2
      exact ⟨rfl, Kept.refl _⟩
theorem iAllOfKind_any (n : Int) (w : World) : Calls Try.prog 12 #[.int .i64 n] w fun e w' => e = .returned (.tuple #[.int .i64 (if inB n 1 4 then kinds5 n else 0), .bool (inB n 1 4)]) ∧ Kept w w' := by
  cases h : inB n 1 4 with
  | false =>
    go_enter Try.func12, Try.ntmps12
    go_wp2_with (go_at_call 24; refine (within_any _ _ _ _).mono ?_; rintro e w' ⟨rfl, rfl⟩)
    go_ret2
    exact ⟨rfl, Kept.refl _⟩
  | true =>
    have hn := inB_of h
    obtain rfl | rfl | rfl | rfl : n = 1 ∨ n = 2 ∨ n = 3 ∨ n = 4 := by omega
    all_goals
      go_enter Try.func12, Try.ntmps12
      go_wp2_with (go_at_call 24; refine (within_any _ _ _ _).mono ?_; rintro e w' ⟨rfl, rfl⟩)
      go_ret2
      exact ⟨rfl, by repeat (first | exact Kept.refl _ | apply Kept.alloc | apply Kept.ext)⟩
theorem walk_FnExactAllOfKind (n : Int) (w : World) : Calls Try.prog 4 #[.int .i64 n] w fun e w' => e = .returned (.bool true) ∧ Kept w w' := by
  go_enter Try.func4, Try.ntmps4
  go_wp2_with (first | (go_at_call 11; refine (sAllOfKind_any _ _).mono ?_; rintro e w' ⟨rfl, y, rfl⟩) | (go_at_call 12; refine (iAllOfKind_any _ _).mono ?_; rintro e w' ⟨rfl, y, rfl⟩))
  all_goals
    go_ret
    exact ⟨rfl, by repeat (first | exact Kept.refl _ | apply Kept.alloc | apply Kept.ext)⟩
def flats5 (n : Int) : Int := if n = 0 then 81 else if n = 1 then 1080 else if n = 2 then 1170 else if n = 3 then 120 else 1
theorem sCountFlats_any (n : Int) (w : World) : Calls Try.prog 13 #[.int .i64 n] w fun e w' => e = .returned (.tuple #[.int .i64 (if inB n 0 4 then flats5 n else 0), .bool (inB n 0 4)]) ∧ Kept w w' := by
  cases h : inB n 0 4 with
  | false =>
    go_enter Try.func13, Try.ntmps13
    go_wp2_with (go_at_call 25; refine (l1In_any _ _ _ _).mono ?_; rintro e w' ⟨rfl, rfl⟩)
    go_ret2
    exact ⟨rfl, Kept.refl _⟩
  | true =>
    have hn := inB_of h
    have x0 : ∀ w : World, (Instr.index 35 (.agg #[.int .i64 81, .int .i64 1080, .int .i64 1170, .int .i64 120, .int .i64 1]) (.int .i64 0)).run Try.prog w = .ok (.int .i64 81) w := fun _ => by kernel_rfl
    have x1 : ∀ w : World, (Instr.index 35 (.agg #[.int .i64 81, .int .i64 1080, .int .i64 1170, .int .i64 120, .int .i64 1]) (.int .i64 1)).run Try.prog w = .ok (.int .i64 1080) w := fun _ => by kernel_rfl
    have x2 : ∀ w : World, (Instr.index 35 (.agg #[.int .i64 81, .int .i64 1080, .int .i64 1170, .int .i64 120, .int .i64 1]) (.int .i64 2)).run Try.prog w = .ok (.int .i64 1170) w := fun _ => by kernel_rfl
    have x3 : ∀ w : World, (Instr.index 35 (.agg #[.int .i64 81, .int .i64 1080, .int .i64 1170, .int .i64 120, .int .i64 1]) (.int .i64 3)).run Try.prog w = .ok (.int .i64 120) w := fun _ => by kernel_rfl
    have x4 : ∀ w : World, (Instr.index 35 (.agg #[.int .i64 81, .int .i64 1080, .int .i64 1170, .int .i64 120, .int .i64 1]) (.int .i64 4)).run Try.prog w = .ok (.int .i64 1) w := fun _ => by kernel_rfl
    obtain rfl | rfl | rfl | rfl | rfl : n = 0 ∨ n = 1 ∨ n = 2 ∨ n = 3 ∨ n = 4 := by omega
    all_goals
      go_enter Try.func13, Try.ntmps13
      go_wp2_with (go_at_call 25; refine (l1In_any _ _ _ _).mono ?_; rintro e w' ⟨rfl, rfl⟩)
      go_ret2
      exact ⟨rfl, Kept.refl _⟩
theorem iCountFlats_any (n : Int) (w : World) : Calls Try.prog 14 #[.int .i64 n] w fun e w' => e = .returned (.tuple #[.int .i64 (if inB n 0 4 then flats5 n else 0), .bool (inB n 0 4)]) ∧ Kept w w' := by
  cases h : inB n 0 4 with
  | false =>
    go_enter Try.func14, Try.ntmps14
    go_wp2_with (go_at_call 24; refine (within_any _ _ _ _).mono ?_; rintro e w' ⟨rfl, rfl⟩)
    go_ret2
    exact ⟨rfl, Kept.refl _⟩
  | true =>
    have hn := inB_of h
    obtain rfl | rfl | rfl | rfl | rfl : n = 0 ∨ n = 1 ∨ n = 2 ∨ n = 3 ∨ n = 4 := by omega
    all_goals
      go_enter Try.func14, Try.ntmps14
      go_wp2_with (go_at_call 24; refine (within_any _ _ _ _).mono ?_; rintro e w' ⟨rfl, rfl⟩)
      go_ret2
      exact ⟨rfl, by repeat (first | exact Kept.refl _ | apply Kept.alloc | apply Kept.ext)⟩
theorem walk_FnExactCountFlats (n : Int) (w : World) : Calls Try.prog 5 #[.int .i64 n] w fun e w' => e = .returned (.bool true) ∧ Kept w w' := by
  go_enter Try.func5, Try.ntmps5
  go_wp2_with (first | (go_at_call 13; refine (sCountFlats_any _ _).mono ?_; rintro e w' ⟨rfl, y, rfl⟩) | (go_at_call 14; refine (iCountFlats_any _ _).mono ?_; rintro e w' ⟨rfl, y, rfl⟩))
  all_goals
    go_ret
    exact ⟨rfl, by repeat (first | exact Kept.refl _ | apply Kept.alloc | apply Kept.ext)⟩
def isWeight (x : Card) : Bool :=
  if x.a ≠ 0 then decide (x.a = 1) && isCard x else if x.b ≠ 0 then decide (x.b = 1) && isCard x else if x.c ≠ 0 then decide (x.c = 1) && isCard x else if x.d ≠ 0 then decide (x.d = 1) && isCard x else false
/-- The nine ways through a weight's test. -/
theorem weight_ways (a b c d : Int) : a = 1 ∨ ((a == 1) = false ∧ (a != 0) = true) ∨ (a = 0 ∧ (b = 1 ∨ ((b == 1) = false ∧ (b != 0) = true) ∨ (b = 0 ∧ (c = 1 ∨ ((c == 1) = false ∧ (c != 0) = true) ∨ (c = 0 ∧ (d = 1 ∨ ((d == 1) = false ∧ (d != 0) = true) ∨ d = 0)))))) := by
  simp only [beq_eq_false_iff_ne, bne_iff_ne]
  omega
theorem l6Weight_any (x : Card) (w : World) : Calls Try.prog 30 #[x.v] w fun e w' => e = .returned (.bool (isWeight x)) ∧ Kept w w' := by
  obtain ⟨a, b, c, d⟩ := x
  rcases weight_ways a b c d with rfl | ⟨h1, h2⟩ | ⟨rfl, rfl | ⟨h1, h2⟩ | ⟨rfl, rfl | ⟨h1, h2⟩ | ⟨rfl, rfl | ⟨h1, h2⟩ | rfl⟩⟩⟩
  all_goals
    go_enter Try.func30, Try.ntmps30
    go_wp2
    refine wp_loop_rounds 5 ?_
    iterate 5
      (all_goals try rw [rounds_succ])
      go_wp2_with (go_at_call 26; refine (l2Card_any ⟨_, _, _, _⟩ _).mono ?_; rintro e w' ⟨rfl, y, rfl⟩)
    go_ret
    exact ⟨ret_of (by simp_all [isWeight]), by repeat (first | exact Kept.refl _ | apply Kept.alloc | apply Kept.ext)⟩
theorem IsWeight_any (x : Card) (w : World) : Calls Try.prog 19 #[x.v] w fun e w' => e = .returned (.bool (isWeight x)) ∧ Kept w w' := by
  obtain ⟨a, b, c, d⟩ := x
  have i0 : ∀ w : World, (Instr.index 25 (.agg #[.int .i64 a, .int .i64 b, .int .i64 c, .int .i64 d]) (.int .i64 0)).run Try.prog w = .ok (.int .i64 a) w := fun _ => by kernel_rfl
  have i1 : ∀ w : World, (Instr.index 25 (.agg #[.int .i64 a, .int .i64 b, .int .i64 c, .int .i64 d]) (.int .i64 1)).run Try.prog w = .ok (.int .i64 b) w := fun _ => by kernel_rfl
  have i2 : ∀ w : World, (Instr.index 25 (.agg #[.int .i64 a, .int .i64 b, .int .i64 c, .int .i64 d]) (.int .i64 2)).run Try.prog w = .ok (.int .i64 c) w := fun _ => by kernel_rfl
  have i3 : ∀ w : World, (Instr.index 25 (.agg #[.int .i64 a, .int .i64 b, .int .i64 c, .int .i64 d]) (.int .i64 3)).run Try.prog w = .ok (.int .i64 d) w := fun _ => by kernel_rfl
  rcases weight_ways a b c d with rfl | ⟨h1, h2⟩ | ⟨rfl, rfl | ⟨h1, h2⟩ | ⟨rfl, rfl | ⟨h1, h2⟩ | ⟨rfl, rfl | ⟨h1, h2⟩ | rfl⟩⟩⟩
  all_goals
    go_enter Try.func19, Try.ntmps19
    go_wp2
    refine wp_loop_rounds 5 ?_
    iterate 5
      (all_goals try rw [rounds_succ])
      go_wp2_with (go_at_call 28; refine (IsCard_any ⟨_, _, _, _⟩ _).mono ?_; rintro e w' ⟨rfl, y, rfl⟩)
    go_ret
    exact ⟨ret_of (by simp_all [isWeight]), by repeat (first | exact Kept.refl _ | apply Kept.alloc | apply Kept.ext)⟩
theorem walk_FnExactIsWeight (x : Card) (w : World) : Calls Try.prog 7 #[x.v] w fun e w' => e = .returned (.bool true) ∧ Kept w w' := by
  have h1 : ∀ w, Calls Try.prog 18 #[x.v] w fun e w' => e = .returned (.bool (isWeight x)) ∧ Kept w w' := fun w => by
    go_enter Try.func18, Try.ntmps18
    go_wp2_with (go_at_call 30; refine (l6Weight_any x _).mono ?_; rintro e w' ⟨rfl, y, rfl⟩)
    go_ret
    exact ⟨rfl, by repeat (first | exact Kept.refl _ | apply Kept.alloc | apply Kept.ext)⟩
  go_enter Try.func7, Try.ntmps7
  go_wp2_with (first | (go_at_call 16; refine (toIntA4_any _ _).mono ?_; rintro e w1 ⟨rfl, y, rfl⟩) | (go_at_call 18; refine (h1 _).mono ?_; rintro e w1 ⟨rfl, y, rfl⟩) | (go_at_call 19; refine (IsWeight_any x _).mono ?_; rintro e w1 ⟨rfl, y, rfl⟩))
  go_ret
  exact ⟨rfl, by repeat (first | exact Kept.refl _ | apply Kept.alloc | apply Kept.ext)⟩
end Go.Proofs.Ytgfpdobbacjbhaa
