/- Contracts and walks: the value of a card by a weight, the shadow of a card. -/
import Derived.Test.YtgfpdobbacjbhabC3
namespace Go.Proofs.Ytgfpdobbacjbhab
open Go.RowKit
def valueC (x y : Card) : Int := (x.a * y.a + x.b * y.b + x.c * y.c + x.d * y.d) % 3
theorem mul_02 {a b : Int} (ha : 0 ≤ a ∧ a ≤ 2) (hb : 0 ≤ b ∧ b ≤ 2) : 0 ≤ a * b ∧ a * b ≤ 4 := by
  obtain ⟨ha, ha'⟩ := ha
  obtain ⟨hb, hb'⟩ := hb
  obtain rfl | rfl | rfl : a = 0 ∨ a = 1 ∨ a = 2 := by omega
  all_goals omega
theorem l6Value_any (x y : Card) (hx : isCard x = true) (hy : isCard y = true) (w : World) : Calls Try.prog 45 #[x.v, y.v] w fun e w' => e = .returned (.int .i64 (valueC x y)) ∧ Kept w w' := by
  obtain ⟨x1, x2, x3, x4⟩ := isCard_of hx
  obtain ⟨y1, y2, y3, y4⟩ := isCard_of hy
  have m1 := mul_02 x1 y1
  have m2 := mul_02 x2 y2
  have m3 := mul_02 x3 y3
  have m4 := mul_02 x4 y4
  go_enter Try.func45, Try.ntmps45
  go_wp2_with (refine wp_region_ext (by kernel_rfl) (by kernel_rfl) ?_; (repeat (go_big_quiet_step (fail))); refine wpQuiet_end fun z => ?_)
  go_ret
  exact ⟨rfl, (by repeat (first | exact Kept.refl _ | apply Kept.alloc | apply Kept.ext))⟩
theorem value_any (x y : Card) (hx : isCard x = true) (hy : isCard y = true) (w : World) : Calls Try.prog 48 #[x.v, y.v] w fun e w' => e = .returned (.int .i64 (valueC x y)) ∧ Kept w w' := by
  obtain ⟨x1, x2, x3, x4⟩ := isCard_of hx
  obtain ⟨y1, y2, y3, y4⟩ := isCard_of hy
  have m1 := mul_02 x1 y1
  have m2 := mul_02 x2 y2
  have m3 := mul_02 x3 y3
  have m4 := mul_02 x4 y4
  obtain ⟨a, b, c, d⟩ := x
  have i0 : ∀ w : World, (Instr.index 34 (.agg #[.int .i64 a, .int .i64 b, .int .i64 c, .int .i64 d]) (.int .i64 0)).run Try.prog w = .ok (.int .i64 a) w := fun _ => by kernel_rfl
  have i1 : ∀ w : World, (Instr.index 34 (.agg #[.int .i64 a, .int .i64 b, .int .i64 c, .int .i64 d]) (.int .i64 1)).run Try.prog w = .ok (.int .i64 b) w := fun _ => by kernel_rfl
  have i2 : ∀ w : World, (Instr.index 34 (.agg #[.int .i64 a, .int .i64 b, .int .i64 c, .int .i64 d]) (.int .i64 2)).run Try.prog w = .ok (.int .i64 c) w := fun _ => by kernel_rfl
  have i3 : ∀ w : World, (Instr.index 34 (.agg #[.int .i64 a, .int .i64 b, .int .i64 c, .int .i64 d]) (.int .i64 3)).run Try.prog w = .ok (.int .i64 d) w := fun _ => by kernel_rfl
  go_enter Try.func48, Try.ntmps48
  go_wp2
  refine wp_loop_rounds 5 ?_
  iterate 5
    (all_goals try rw [rounds_succ])
    go_wp2_with (first | (refine wp_region_ext (by kernel_rfl) (by kernel_rfl) ?_; (repeat (go_big_quiet_step (fail))); refine wpQuiet_end fun z => ?_))
  go_ret
  exact ⟨ret_of (by simp [valueC]), (by repeat (first | exact Kept.refl _ | apply Kept.alloc | apply Kept.ext))⟩
theorem isCard_of_weight {x : Card} (h : isWeight x = true) : isCard x = true := by
  unfold isWeight at h
  repeat (split at h; first | (simp only [Bool.and_eq_true] at h; exact h.2) | skip)
  all_goals simp_all
theorem sValueBy_any (x y : Card) (w : World) : Calls Try.prog 21 #[x.v, y.v] w fun e w' => e = .returned (.tuple #[.int .i64 (if isCard x && isWeight y then valueC x y else 0), .bool (isCard x && isWeight y)]) ∧ Kept w w' := by
  cases hx : isCard x with
  | false =>
    go_enter Try.func21, Try.ntmps21
    go_wp2_with (first | (go_at_call 43; refine (l2Card_any _ _).mono ?_; rintro e w' ⟨rfl, y, rfl⟩))
    go_ret2
    exact ⟨rfl, (by repeat (first | exact Kept.refl _ | apply Kept.alloc | apply Kept.ext))⟩
  | true =>
    cases hy : isWeight y with
    | false =>
      go_enter Try.func21, Try.ntmps21
      go_wp2_with (first | (go_at_call 43; refine (l2Card_any _ _).mono ?_; rintro e w' ⟨rfl, y, rfl⟩) | (go_at_call 44; refine (l6Weight_any _ _).mono ?_; rintro e w' ⟨rfl, y, rfl⟩))
      go_ret2
      exact ⟨rfl, (by repeat (first | exact Kept.refl _ | apply Kept.alloc | apply Kept.ext))⟩
    | true =>
      have hv := l6Value_any x y hx (isCard_of_weight hy)
      go_enter Try.func21, Try.ntmps21
      go_wp2_with (first | (go_at_call 43; refine (l2Card_any _ _).mono ?_; rintro e w' ⟨rfl, y, rfl⟩) | (go_at_call 44; refine (l6Weight_any _ _).mono ?_; rintro e w' ⟨rfl, y, rfl⟩) | (go_at_call 45; refine (hv _).mono ?_; rintro e w' ⟨rfl, y, rfl⟩))
      go_ret2
      exact ⟨rfl, (by repeat (first | exact Kept.refl _ | apply Kept.alloc | apply Kept.ext))⟩
theorem iValueBy_any (x y : Card) (w : World) : Calls Try.prog 23 #[x.v, y.v] w fun e w' => e = .returned (.tuple #[.int .i64 (if isCard x && isWeight y then valueC x y else 0), .bool (isCard x && isWeight y)]) ∧ Kept w w' := by
  cases hx : isCard x with
  | false =>
    go_enter Try.func23, Try.ntmps23
    go_wp2_with (first | (go_at_call 46; refine (IsCard_any _ _).mono ?_; rintro e w' ⟨rfl, y, rfl⟩))
    go_ret2
    exact ⟨rfl, (by repeat (first | exact Kept.refl _ | apply Kept.alloc | apply Kept.ext))⟩
  | true =>
    cases hy : isWeight y with
    | false =>
      go_enter Try.func23, Try.ntmps23
      go_wp2_with (first | (go_at_call 46; refine (IsCard_any _ _).mono ?_; rintro e w' ⟨rfl, y, rfl⟩) | (go_at_call 47; refine (IsWeight_any _ _).mono ?_; rintro e w' ⟨rfl, y, rfl⟩))
      go_ret2
      exact ⟨rfl, (by repeat (first | exact Kept.refl _ | apply Kept.alloc | apply Kept.ext))⟩
    | true =>
      have hv := value_any x y hx (isCard_of_weight hy)
      go_enter Try.func23, Try.ntmps23
      go_wp2_with (first | (go_at_call 46; refine (IsCard_any _ _).mono ?_; rintro e w' ⟨rfl, y, rfl⟩) | (go_at_call 47; refine (IsWeight_any _ _).mono ?_; rintro e w' ⟨rfl, y, rfl⟩) | (go_at_call 48; refine (hv _).mono ?_; rintro e w' ⟨rfl, y, rfl⟩))
      go_ret2
      exact ⟨rfl, (by repeat (first | exact Kept.refl _ | apply Kept.alloc | apply Kept.ext))⟩
theorem walk_FnExactValueBy (x y : Card) (w : World) : Calls Try.prog 6 #[x.v, y.v] w fun e w' => e = .returned (.bool true) ∧ Kept w w' := by
  cases hx : isCard x <;> cases hy : isWeight y
  all_goals
    go_enter Try.func6, Try.ntmps6
    go_wp2_with (first | (refine wp_region_ext (by kernel_rfl) (by kernel_rfl) ?_; (repeat (go_big_quiet_step (((first | (go_at_call 22; first | exact ext_call (toIntA4_any _ _) | exact ext_call2 (toIntA4_any _ _)) | (go_at_call 21; first | exact ext_call (sValueBy_any _ _ _) | exact ext_call2 (sValueBy_any _ _ _)) | (go_at_call 23; first | exact ext_call (iValueBy_any _ _ _) | exact ext_call2 (iValueBy_any _ _ _))))))); refine wpQuiet_end fun z => ?_))
    all_goals
      go_ret
      exact ⟨rfl, (by repeat (first | exact Kept.refl _ | apply Kept.alloc | apply Kept.ext))⟩
def shadowC (x : Card) (m : Int) : Card := ⟨if m % 2 = 0 then 0 else x.a, if m / 2 % 2 = 0 then 0 else x.b, if m / 4 % 2 = 0 then 0 else x.c, if m / 8 % 2 = 0 then 0 else x.d⟩
@[go_sem] theorem bits_and_one (n : Int) (h0 : 0 ≤ n) (h : n ≤ 15) : bits .and .i64 n 1 = n % 2 := by
  obtain rfl | rfl | rfl | rfl | rfl | rfl | rfl | rfl | rfl | rfl | rfl | rfl | rfl | rfl | rfl | rfl : n = 0 ∨ n = 1 ∨ n = 2 ∨ n = 3 ∨ n = 4 ∨ n = 5 ∨ n = 6 ∨ n = 7 ∨ n = 8 ∨ n = 9 ∨ n = 10 ∨ n = 11 ∨ n = 12 ∨ n = 13 ∨ n = 14 ∨ n = 15 := by omega
  all_goals rfl
set_option maxHeartbeats 4000000 in
theorem l11Shadow_any (x : Card) (m : Int) (h1 : 1 ≤ m) (h2 : m ≤ 15) (w : World) : Calls Try.prog 50 #[x.v, .int .i64 m] w fun e w' => e = .returned (shadowC x m).v ∧ Kept w w' := by
  obtain rfl | rfl | rfl | rfl | rfl | rfl | rfl | rfl | rfl | rfl | rfl | rfl | rfl | rfl | rfl : m = 1 ∨ m = 2 ∨ m = 3 ∨ m = 4 ∨ m = 5 ∨ m = 6 ∨ m = 7 ∨ m = 8 ∨ m = 9 ∨ m = 10 ∨ m = 11 ∨ m = 12 ∨ m = 13 ∨ m = 14 ∨ m = 15 := by omega
  all_goals
    go_enter Try.func50, Try.ntmps50
    go_wp2
    refine wp_loop_rounds 5 ?_
    iterate 5
      (all_goals try rw [rounds_succ])
      go_wp2
    refine bodyPost_ret (v := (shadowC x _).v) (by simp [results, Try.results50, go_sem, shadowC]) rfl ⟨rfl, ?_⟩
    exact (by repeat (first | exact Kept.refl _ | apply Kept.alloc | apply Kept.ext))
set_option maxHeartbeats 4000000 in
theorem shadow_any (x : Card) (m : Int) (h1 : 1 ≤ m) (h2 : m ≤ 15) (w : World) : Calls Try.prog 52 #[x.v, .int .i64 m] w fun e w' => e = .returned (shadowC x m).v ∧ Kept w w' := by
  obtain rfl | rfl | rfl | rfl | rfl | rfl | rfl | rfl | rfl | rfl | rfl | rfl | rfl | rfl | rfl : m = 1 ∨ m = 2 ∨ m = 3 ∨ m = 4 ∨ m = 5 ∨ m = 6 ∨ m = 7 ∨ m = 8 ∨ m = 9 ∨ m = 10 ∨ m = 11 ∨ m = 12 ∨ m = 13 ∨ m = 14 ∨ m = 15 := by omega
  all_goals
    go_enter Try.func52, Try.ntmps52
    go_wp2
    refine wp_loop_rounds 5 ?_
    iterate 5
      (all_goals try rw [rounds_succ])
      go_wp2
    refine bodyPost_ret (v := (shadowC x _).v) (by simp [results, Try.results52, go_sem, shadowC]) rfl ⟨rfl, ?_⟩
    exact (by repeat (first | exact Kept.refl _ | apply Kept.alloc | apply Kept.ext))
theorem l11Mask_any (m : Int) (w : World) : Calls Try.prog 49 #[.int .i64 m] w fun e w' => e = .returned (.bool (inB m 1 15)) ∧ w = w' := by
  go_enter Try.func49, Try.ntmps49
  go_wp2_with ((go_at_call 30; refine (l1In_any _ _ _ _).mono ?_; rintro e w' ⟨rfl, rfl⟩))
  go_ret
  exact ⟨rfl, rfl⟩
theorem IsMask_any (m : Int) (w : World) : Calls Try.prog 51 #[.int .i64 m] w fun e w' => e = .returned (.bool (inB m 1 15)) ∧ w = w' := by
  go_enter Try.func51, Try.ntmps51
  go_wp2_with ((go_at_call 33; refine (within_any _ _ _ _).mono ?_; rintro e w' ⟨rfl, rfl⟩))
  go_ret
  exact ⟨rfl, rfl⟩
theorem sShadowOf_any (x : Card) (m : Int) (w : World) : Calls Try.prog 24 #[x.v, .int .i64 m] w fun e w' => e = .returned (.tuple #[(if isCard x && inB m 1 15 then shadowC x m else ⟨0, 0, 0, 0⟩ : Card).v, .bool (isCard x && inB m 1 15)]) ∧ Kept w w' := by
  cases hx : isCard x with
  | false =>
    go_enter Try.func24, Try.ntmps24
    go_wp2_with (first | (go_at_call 43; refine (l2Card_any _ _).mono ?_; rintro e w' ⟨rfl, y, rfl⟩))
    refine bodyPost_ret (v := .tuple #[(⟨0, 0, 0, 0⟩ : Card).v, .bool false]) (by simp [results, Try.results24, go_sem]) rfl ⟨rfl, ?_⟩
    exact (by repeat (first | exact Kept.refl _ | apply Kept.alloc | apply Kept.ext))
  | true =>
    cases hm : inB m 1 15 with
    | false =>
      go_enter Try.func24, Try.ntmps24
      go_wp2_with (first | (go_at_call 43; refine (l2Card_any _ _).mono ?_; rintro e w' ⟨rfl, y, rfl⟩) | (go_at_call 49; refine (l11Mask_any _ _ ).mono ?_; rintro e w' ⟨rfl, rfl⟩))
      refine bodyPost_ret (v := .tuple #[(⟨0, 0, 0, 0⟩ : Card).v, .bool false]) (by simp [results, Try.results24, go_sem]) rfl ⟨rfl, ?_⟩
      exact (by repeat (first | exact Kept.refl _ | apply Kept.alloc | apply Kept.ext))
    | true =>
      have hv := l11Shadow_any x m (inB_of hm).1 (inB_of hm).2
      go_enter Try.func24, Try.ntmps24
      go_wp2_with (first | (go_at_call 43; refine (l2Card_any _ _).mono ?_; rintro e w' ⟨rfl, y, rfl⟩) | (go_at_call 49; refine (l11Mask_any _ _ ).mono ?_; rintro e w' ⟨rfl, rfl⟩) | (go_at_call 50; refine (hv _).mono ?_; rintro e w' ⟨rfl, y, rfl⟩))
      refine bodyPost_ret (v := .tuple #[(shadowC x m).v, .bool true]) (by simp [results, Try.results24, go_sem]) rfl ⟨rfl, ?_⟩
      exact (by repeat (first | exact Kept.refl _ | apply Kept.alloc | apply Kept.ext))
theorem iShadowOf_any (x : Card) (m : Int) (w : World) : Calls Try.prog 25 #[x.v, .int .i64 m] w fun e w' => e = .returned (.tuple #[(if isCard x && inB m 1 15 then shadowC x m else ⟨0, 0, 0, 0⟩ : Card).v, .bool (isCard x && inB m 1 15)]) ∧ Kept w w' := by
  cases hx : isCard x with
  | false =>
    go_enter Try.func25, Try.ntmps25
    go_wp2_with (first | (go_at_call 46; refine (IsCard_any _ _).mono ?_; rintro e w' ⟨rfl, y, rfl⟩))
    refine bodyPost_ret (v := .tuple #[(⟨0, 0, 0, 0⟩ : Card).v, .bool false]) (by simp [results, Try.results25, go_sem]) rfl ⟨rfl, ?_⟩
    exact (by repeat (first | exact Kept.refl _ | apply Kept.alloc | apply Kept.ext))
  | true =>
    cases hm : inB m 1 15 with
    | false =>
      go_enter Try.func25, Try.ntmps25
      go_wp2_with (first | (go_at_call 46; refine (IsCard_any _ _).mono ?_; rintro e w' ⟨rfl, y, rfl⟩) | (go_at_call 51; refine (IsMask_any _ _ ).mono ?_; rintro e w' ⟨rfl, rfl⟩))
      refine bodyPost_ret (v := .tuple #[(⟨0, 0, 0, 0⟩ : Card).v, .bool false]) (by simp [results, Try.results25, go_sem]) rfl ⟨rfl, ?_⟩
      exact (by repeat (first | exact Kept.refl _ | apply Kept.alloc | apply Kept.ext))
    | true =>
      have hv := shadow_any x m (inB_of hm).1 (inB_of hm).2
      go_enter Try.func25, Try.ntmps25
      go_wp2_with (first | (go_at_call 46; refine (IsCard_any _ _).mono ?_; rintro e w' ⟨rfl, y, rfl⟩) | (go_at_call 51; refine (IsMask_any _ _ ).mono ?_; rintro e w' ⟨rfl, rfl⟩) | (go_at_call 52; refine (hv _).mono ?_; rintro e w' ⟨rfl, y, rfl⟩))
      refine bodyPost_ret (v := .tuple #[(shadowC x m).v, .bool true]) (by simp [results, Try.results25, go_sem]) rfl ⟨rfl, ?_⟩
      exact (by repeat (first | exact Kept.refl _ | apply Kept.alloc | apply Kept.ext))
theorem eqIntA4_any (x y : Card) (w : World) : Calls Try.prog 26 #[x.v, y.v] w fun e w' => e = .returned (.bool (decide (x = y))) ∧ Kept w w' := by
  obtain ⟨a, b, c, d⟩ := x
  obtain ⟨a', b', c', d'⟩ := y
  go_enter Try.func26, Try.ntmps26
  go_wp2
  refine wp_loop_rounds 5 ?_
  iterate 5
    (all_goals try rw [rounds_succ])
    go_wp2_with (first | (refine wp_region_ext (by kernel_rfl) (by kernel_rfl) ?_; (repeat (go_big_quiet_step (fail))); refine wpQuiet_end fun z => ?_))
  all_goals
    go_ret
    exact ⟨ret_of (by simp_all), (by repeat (first | exact Kept.refl _ | apply Kept.alloc | apply Kept.ext))⟩
theorem walk_FnExactShadowOf (x : Card) (m : Int) (w : World) : Calls Try.prog 7 #[x.v, .int .i64 m] w fun e w' => e = .returned (.bool true) ∧ Kept w w' := by
  go_enter Try.func7, Try.ntmps7
  go_wp2_with (first | (go_at_call 22; refine (toIntA4_any _ _).mono ?_; rintro e w' ⟨rfl, y, rfl⟩) | (go_at_call 24; refine (sShadowOf_any _ _ _).mono ?_; rintro e w' ⟨rfl, y, rfl⟩) | (go_at_call 25; refine (iShadowOf_any _ _ _).mono ?_; rintro e w' ⟨rfl, y, rfl⟩) | (go_at_call 26; refine (eqIntA4_any _ _ _).mono ?_; rintro e w' ⟨rfl, y, rfl⟩))
  all_goals
    go_ret
    exact ⟨rfl, (by repeat (first | exact Kept.refl _ | apply Kept.alloc | apply Kept.ext))⟩
end Go.Proofs.Ytgfpdobbacjbhab
