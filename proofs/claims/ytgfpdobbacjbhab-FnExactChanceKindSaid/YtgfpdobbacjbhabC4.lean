/- Contracts and walks: the chance of a kind, the chance of no line. -/
import Derived.Test.YtgfpdobbacjbhabC2
namespace Go.Proofs.Ytgfpdobbacjbhab
open Go.RowKit
def kindN (n : Int) : Int := if n = 1 then 1 else if n = 2 then 3 else if n = 3 then 2 else 1
def kindD (n : Int) : Int := if n = 1 then 10 else if n = 2 then 10 else if n = 3 then 5 else 5
theorem sChanceKind_any (n : Int) (w : World) : Calls Try.prog 9 #[.int .i64 n] w fun e w' => e = .returned (.tuple #[v2 (if inB n 1 4 then kindN n else 0) (if inB n 1 4 then kindD n else 0), .bool (inB n 1 4)]) ∧ Kept w w' := by
  cases h : inB n 1 4 with
  | false =>
    go_enter Try.func9, Try.ntmps9
    go_wp2_with ((go_at_call 30; refine (l1In_any _ _ _ _).mono ?_; rintro e w' ⟨rfl, rfl⟩))
    refine bodyPost_ret (v := .tuple #[v2 0 0, .bool false]) (by simp [results, Try.results9, go_sem]) rfl ⟨rfl, ?_⟩
    exact (by repeat (first | exact Kept.refl _ | apply Kept.alloc | apply Kept.ext))
  | true =>
    have hn := inB_of h
    have c1 : ∀ w, Calls Try.prog 32 #[.int .i64 4, .int .i64 1] w fun e w' => e = .returned (.int .i64 4) ∧ w = w' := fun w => l9Choose_any 4 1 (by omega) (by omega) w
    have c2 : ∀ w, Calls Try.prog 32 #[.int .i64 4, .int .i64 2] w fun e w' => e = .returned (.int .i64 6) ∧ w = w' := fun w => l9Choose_any 4 2 (by omega) (by omega) w
    have c3 : ∀ w, Calls Try.prog 32 #[.int .i64 4, .int .i64 3] w fun e w' => e = .returned (.int .i64 4) ∧ w = w' := fun w => l9Choose_any 4 3 (by omega) (by omega) w
    have c4 : ∀ w, Calls Try.prog 32 #[.int .i64 4, .int .i64 4] w fun e w' => e = .returned (.int .i64 1) ∧ w = w' := fun w => l9Choose_any 4 4 (by omega) (by omega) w
    have d1 : ∀ w, Calls Try.prog 31 #[.int .i64 8, .int .i64 80] w fun e w' => e = .returned (v2 1 10) ∧ Kept w w' := fun w => l9Cut_any 8 80 (by omega) (by omega) (by omega) (by omega) w
    have d2 : ∀ w, Calls Try.prog 31 #[.int .i64 24, .int .i64 80] w fun e w' => e = .returned (v2 3 10) ∧ Kept w w' := fun w => l9Cut_any 24 80 (by omega) (by omega) (by omega) (by omega) w
    have d3 : ∀ w, Calls Try.prog 31 #[.int .i64 32, .int .i64 80] w fun e w' => e = .returned (v2 2 5) ∧ Kept w w' := fun w => l9Cut_any 32 80 (by omega) (by omega) (by omega) (by omega) w
    have d4 : ∀ w, Calls Try.prog 31 #[.int .i64 16, .int .i64 80] w fun e w' => e = .returned (v2 1 5) ∧ Kept w w' := fun w => l9Cut_any 16 80 (by omega) (by omega) (by omega) (by omega) w
    obtain rfl | rfl | rfl | rfl : n = 1 ∨ n = 2 ∨ n = 3 ∨ n = 4 := by omega
    · go_enter Try.func9, Try.ntmps9
      go_wp2_with (first | (go_at_call 30; refine (l1In_any _ _ _ _).mono ?_; rintro e w' ⟨rfl, rfl⟩) | (go_at_call 32; refine (c1 _).mono ?_; rintro e w' ⟨rfl, rfl⟩) | (go_at_call 31; refine (d1 _).mono ?_; rintro e w' ⟨rfl, y, rfl⟩))
      refine bodyPost_ret (v := .tuple #[v2 1 10, .bool true]) (by simp [results, Try.results9, go_sem]) rfl ⟨rfl, ?_⟩
      exact (by repeat (first | exact Kept.refl _ | apply Kept.alloc | apply Kept.ext))
    · go_enter Try.func9, Try.ntmps9
      go_wp2_with (first | (go_at_call 30; refine (l1In_any _ _ _ _).mono ?_; rintro e w' ⟨rfl, rfl⟩) | (go_at_call 32; refine (c2 _).mono ?_; rintro e w' ⟨rfl, rfl⟩) | (go_at_call 31; refine (d2 _).mono ?_; rintro e w' ⟨rfl, y, rfl⟩))
      refine bodyPost_ret (v := .tuple #[v2 3 10, .bool true]) (by simp [results, Try.results9, go_sem]) rfl ⟨rfl, ?_⟩
      exact (by repeat (first | exact Kept.refl _ | apply Kept.alloc | apply Kept.ext))
    · go_enter Try.func9, Try.ntmps9
      go_wp2_with (first | (go_at_call 30; refine (l1In_any _ _ _ _).mono ?_; rintro e w' ⟨rfl, rfl⟩) | (go_at_call 32; refine (c3 _).mono ?_; rintro e w' ⟨rfl, rfl⟩) | (go_at_call 31; refine (d3 _).mono ?_; rintro e w' ⟨rfl, y, rfl⟩))
      refine bodyPost_ret (v := .tuple #[v2 2 5, .bool true]) (by simp [results, Try.results9, go_sem]) rfl ⟨rfl, ?_⟩
      exact (by repeat (first | exact Kept.refl _ | apply Kept.alloc | apply Kept.ext))
    · go_enter Try.func9, Try.ntmps9
      go_wp2_with (first | (go_at_call 30; refine (l1In_any _ _ _ _).mono ?_; rintro e w' ⟨rfl, rfl⟩) | (go_at_call 32; refine (c4 _).mono ?_; rintro e w' ⟨rfl, rfl⟩) | (go_at_call 31; refine (d4 _).mono ?_; rintro e w' ⟨rfl, y, rfl⟩))
      refine bodyPost_ret (v := .tuple #[v2 1 5, .bool true]) (by simp [results, Try.results9, go_sem]) rfl ⟨rfl, ?_⟩
      exact (by repeat (first | exact Kept.refl _ | apply Kept.alloc | apply Kept.ext))
theorem iChanceKind_any (n : Int) (w : World) : Calls Try.prog 10 #[.int .i64 n] w fun e w' => e = .returned (.tuple #[v2 (if inB n 1 4 then kindN n else 0) (if inB n 1 4 then kindD n else 0), .bool (inB n 1 4)]) ∧ Kept w w' := by
  cases h : inB n 1 4 with
  | false =>
    go_enter Try.func10, Try.ntmps10
    go_wp2_with ((go_at_call 33; refine (within_any _ _ _ _).mono ?_; rintro e w' ⟨rfl, rfl⟩))
    refine bodyPost_ret (v := .tuple #[v2 0 0, .bool false]) (by simp [results, Try.results10, go_sem]) rfl ⟨rfl, ?_⟩
    exact (by repeat (first | exact Kept.refl _ | apply Kept.alloc | apply Kept.ext))
  | true =>
    have hn := inB_of h
    have c1 : ∀ w, Calls Try.prog 35 #[.int .i64 4, .int .i64 1] w fun e w' => e = .returned (.int .i64 4) ∧ w = w' := fun w => choose_any 4 1 (by omega) (by omega) w
    have c2 : ∀ w, Calls Try.prog 35 #[.int .i64 4, .int .i64 2] w fun e w' => e = .returned (.int .i64 6) ∧ w = w' := fun w => choose_any 4 2 (by omega) (by omega) w
    have c3 : ∀ w, Calls Try.prog 35 #[.int .i64 4, .int .i64 3] w fun e w' => e = .returned (.int .i64 4) ∧ w = w' := fun w => choose_any 4 3 (by omega) (by omega) w
    have c4 : ∀ w, Calls Try.prog 35 #[.int .i64 4, .int .i64 4] w fun e w' => e = .returned (.int .i64 1) ∧ w = w' := fun w => choose_any 4 4 (by omega) (by omega) w
    have d1 : ∀ w, Calls Try.prog 34 #[.int .i64 8, .int .i64 80] w fun e w' => e = .returned (.tuple #[v2 1 10, .bool true]) ∧ Kept w w' := fun w => fraction_any 8 80 (by omega) (by omega) (by omega) (by omega) w
    have d2 : ∀ w, Calls Try.prog 34 #[.int .i64 24, .int .i64 80] w fun e w' => e = .returned (.tuple #[v2 3 10, .bool true]) ∧ Kept w w' := fun w => fraction_any 24 80 (by omega) (by omega) (by omega) (by omega) w
    have d3 : ∀ w, Calls Try.prog 34 #[.int .i64 32, .int .i64 80] w fun e w' => e = .returned (.tuple #[v2 2 5, .bool true]) ∧ Kept w w' := fun w => fraction_any 32 80 (by omega) (by omega) (by omega) (by omega) w
    have d4 : ∀ w, Calls Try.prog 34 #[.int .i64 16, .int .i64 80] w fun e w' => e = .returned (.tuple #[v2 1 5, .bool true]) ∧ Kept w w' := fun w => fraction_any 16 80 (by omega) (by omega) (by omega) (by omega) w
    obtain rfl | rfl | rfl | rfl : n = 1 ∨ n = 2 ∨ n = 3 ∨ n = 4 := by omega
    · go_enter Try.func10, Try.ntmps10
      go_wp2_with (first | (go_at_call 33; refine (within_any _ _ _ _).mono ?_; rintro e w' ⟨rfl, rfl⟩) | (go_at_call 35; refine (c1 _).mono ?_; rintro e w' ⟨rfl, rfl⟩) | (go_at_call 34; refine (d1 _).mono ?_; rintro e w' ⟨rfl, y, rfl⟩))
      refine bodyPost_ret (v := .tuple #[v2 1 10, .bool true]) (by simp [results, Try.results10, go_sem]) rfl ⟨rfl, ?_⟩
      exact (by repeat (first | exact Kept.refl _ | apply Kept.alloc | apply Kept.ext))
    · go_enter Try.func10, Try.ntmps10
      go_wp2_with (first | (go_at_call 33; refine (within_any _ _ _ _).mono ?_; rintro e w' ⟨rfl, rfl⟩) | (go_at_call 35; refine (c2 _).mono ?_; rintro e w' ⟨rfl, rfl⟩) | (go_at_call 34; refine (d2 _).mono ?_; rintro e w' ⟨rfl, y, rfl⟩))
      refine bodyPost_ret (v := .tuple #[v2 3 10, .bool true]) (by simp [results, Try.results10, go_sem]) rfl ⟨rfl, ?_⟩
      exact (by repeat (first | exact Kept.refl _ | apply Kept.alloc | apply Kept.ext))
    · go_enter Try.func10, Try.ntmps10
      go_wp2_with (first | (go_at_call 33; refine (within_any _ _ _ _).mono ?_; rintro e w' ⟨rfl, rfl⟩) | (go_at_call 35; refine (c3 _).mono ?_; rintro e w' ⟨rfl, rfl⟩) | (go_at_call 34; refine (d3 _).mono ?_; rintro e w' ⟨rfl, y, rfl⟩))
      refine bodyPost_ret (v := .tuple #[v2 2 5, .bool true]) (by simp [results, Try.results10, go_sem]) rfl ⟨rfl, ?_⟩
      exact (by repeat (first | exact Kept.refl _ | apply Kept.alloc | apply Kept.ext))
    · go_enter Try.func10, Try.ntmps10
      go_wp2_with (first | (go_at_call 33; refine (within_any _ _ _ _).mono ?_; rintro e w' ⟨rfl, rfl⟩) | (go_at_call 35; refine (c4 _).mono ?_; rintro e w' ⟨rfl, rfl⟩) | (go_at_call 34; refine (d4 _).mono ?_; rintro e w' ⟨rfl, y, rfl⟩))
      refine bodyPost_ret (v := .tuple #[v2 1 5, .bool true]) (by simp [results, Try.results10, go_sem]) rfl ⟨rfl, ?_⟩
      exact (by repeat (first | exact Kept.refl _ | apply Kept.alloc | apply Kept.ext))
theorem walk_FnExactChanceKind (n : Int) (w : World) : Calls Try.prog 3 #[.int .i64 n] w fun e w' => e = .returned (.bool true) ∧ Kept w w' := by
  go_enter Try.func3, Try.ntmps3
  go_wp2_with (first | (go_at_call 9; refine (sChanceKind_any _ _).mono ?_; rintro e w' ⟨rfl, y, rfl⟩) | (go_at_call 10; refine (iChanceKind_any _ _).mono ?_; rintro e w' ⟨rfl, y, rfl⟩) | (go_at_call 11; refine (eqIntA2_any _ _ _ _ _).mono ?_; rintro e w' ⟨rfl, y, rfl⟩))
  all_goals
    go_ret
    exact ⟨rfl, (by repeat (first | exact Kept.refl _ | apply Kept.alloc | apply Kept.ext))⟩
end Go.Proofs.Ytgfpdobbacjbhab
