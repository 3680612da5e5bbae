/- Contracts and walks: the chance that there is no line. -/
import Derived.Test.YtgfpdobbacjbhabC2
namespace Go.Proofs.Ytgfpdobbacjbhab
open Go.RowKit
def noLineN (n : Int) : Int := if n = 3 then 78 else if n = 4 then 75 else 1
def noLineD (n : Int) : Int := if n = 3 then 79 else if n = 4 then 79 else 1
theorem sChanceNoLine_any (n : Int) (w : World) : Calls Try.prog 19 #[.int .i64 n] w fun e w' => e = .returned (.tuple #[v2 (if inB n 0 4 then noLineN n else 0) (if inB n 0 4 then noLineD n else 0), .bool (inB n 0 4)]) ∧ Kept w w' := by
  cases h : inB n 0 4 with
  | false =>
    go_enter Try.func19, Try.ntmps19
    go_wp2_with ((go_at_call 30; refine (l1In_any _ _ _ _).mono ?_; rintro e w' ⟨rfl, rfl⟩))
    refine bodyPost_ret (v := .tuple #[v2 0 0, .bool false]) (by simp [results, Try.results19, go_sem]) rfl ⟨rfl, ?_⟩
    exact (by repeat (first | exact Kept.refl _ | apply Kept.alloc | apply Kept.ext))
  | true =>
    have hn := inB_of h
    have d0 : ∀ w, Calls Try.prog 31 #[.int .i64 79, .int .i64 79] w fun e w' => e = .returned (v2 1 1) ∧ Kept w w' := fun w => l9Cut_any 79 79 (by omega) (by omega) (by omega) (by omega) w
    have d3 : ∀ w, Calls Try.prog 31 #[.int .i64 78, .int .i64 79] w fun e w' => e = .returned (v2 78 79) ∧ Kept w w' := fun w => l9Cut_any 78 79 (by omega) (by omega) (by omega) (by omega) w
    have d4 : ∀ w, Calls Try.prog 31 #[.int .i64 75, .int .i64 79] w fun e w' => e = .returned (v2 75 79) ∧ Kept w w' := fun w => l9Cut_any 75 79 (by omega) (by omega) (by omega) (by omega) w
    obtain rfl | rfl | rfl | rfl | rfl : n = 0 ∨ n = 1 ∨ n = 2 ∨ n = 3 ∨ n = 4 := by omega
    · go_enter Try.func19, Try.ntmps19
      go_wp2_with (first | (go_at_call 30; refine (l1In_any _ _ _ _).mono ?_; rintro e w' ⟨rfl, rfl⟩) | (go_at_call 31; refine (d0 _).mono ?_; rintro e w' ⟨rfl, y, rfl⟩))
      refine bodyPost_ret (v := .tuple #[v2 1 1, .bool true]) (by simp [results, Try.results19, go_sem]) rfl ⟨rfl, ?_⟩
      exact (by repeat (first | exact Kept.refl _ | apply Kept.alloc | apply Kept.ext))
    · go_enter Try.func19, Try.ntmps19
      go_wp2_with (first | (go_at_call 30; refine (l1In_any _ _ _ _).mono ?_; rintro e w' ⟨rfl, rfl⟩) | (go_at_call 31; refine (d0 _).mono ?_; rintro e w' ⟨rfl, y, rfl⟩))
      refine bodyPost_ret (v := .tuple #[v2 1 1, .bool true]) (by simp [results, Try.results19, go_sem]) rfl ⟨rfl, ?_⟩
      exact (by repeat (first | exact Kept.refl _ | apply Kept.alloc | apply Kept.ext))
    · go_enter Try.func19, Try.ntmps19
      go_wp2_with (first | (go_at_call 30; refine (l1In_any _ _ _ _).mono ?_; rintro e w' ⟨rfl, rfl⟩) | (go_at_call 31; refine (d0 _).mono ?_; rintro e w' ⟨rfl, y, rfl⟩))
      refine bodyPost_ret (v := .tuple #[v2 1 1, .bool true]) (by simp [results, Try.results19, go_sem]) rfl ⟨rfl, ?_⟩
      exact (by repeat (first | exact Kept.refl _ | apply Kept.alloc | apply Kept.ext))
    · go_enter Try.func19, Try.ntmps19
      go_wp2_with (first | (go_at_call 30; refine (l1In_any _ _ _ _).mono ?_; rintro e w' ⟨rfl, rfl⟩) | (go_at_call 31; refine (d3 _).mono ?_; rintro e w' ⟨rfl, y, rfl⟩))
      refine bodyPost_ret (v := .tuple #[v2 78 79, .bool true]) (by simp [results, Try.results19, go_sem]) rfl ⟨rfl, ?_⟩
      exact (by repeat (first | exact Kept.refl _ | apply Kept.alloc | apply Kept.ext))
    · go_enter Try.func19, Try.ntmps19
      go_wp2_with (first | (go_at_call 30; refine (l1In_any _ _ _ _).mono ?_; rintro e w' ⟨rfl, rfl⟩) | (go_at_call 31; refine (d4 _).mono ?_; rintro e w' ⟨rfl, y, rfl⟩))
      refine bodyPost_ret (v := .tuple #[v2 75 79, .bool true]) (by simp [results, Try.results19, go_sem]) rfl ⟨rfl, ?_⟩
      exact (by repeat (first | exact Kept.refl _ | apply Kept.alloc | apply Kept.ext))
theorem iChanceNoLine_any (n : Int) (w : World) : Calls Try.prog 20 #[.int .i64 n] w fun e w' => e = .returned (.tuple #[v2 (if inB n 0 4 then noLineN n else 0) (if inB n 0 4 then noLineD n else 0), .bool (inB n 0 4)]) ∧ Kept w w' := by
  cases h : inB n 0 4 with
  | false =>
    go_enter Try.func20, Try.ntmps20
    go_wp2_with ((go_at_call 33; refine (within_any _ _ _ _).mono ?_; rintro e w' ⟨rfl, rfl⟩))
    refine bodyPost_ret (v := .tuple #[v2 0 0, .bool false]) (by simp [results, Try.results20, go_sem]) rfl ⟨rfl, ?_⟩
    exact (by repeat (first | exact Kept.refl _ | apply Kept.alloc | apply Kept.ext))
  | true =>
    have hn := inB_of h
    have c0 : ∀ w, Calls Try.prog 35 #[.int .i64 81, .int .i64 0] w fun e w' => e = .returned (.int .i64 1) ∧ w = w' := fun w => choose_any 81 0 (by omega) (by omega) w
    have c1 : ∀ w, Calls Try.prog 35 #[.int .i64 81, .int .i64 1] w fun e w' => e = .returned (.int .i64 81) ∧ w = w' := fun w => choose_any 81 1 (by omega) (by omega) w
    have c2 : ∀ w, Calls Try.prog 35 #[.int .i64 81, .int .i64 2] w fun e w' => e = .returned (.int .i64 3240) ∧ w = w' := fun w => choose_any 81 2 (by omega) (by omega) w
    have c3 : ∀ w, Calls Try.prog 35 #[.int .i64 81, .int .i64 3] w fun e w' => e = .returned (.int .i64 85320) ∧ w = w' := fun w => choose_any 81 3 (by omega) (by omega) w
    have c4 : ∀ w, Calls Try.prog 35 #[.int .i64 81, .int .i64 4] w fun e w' => e = .returned (.int .i64 1663740) ∧ w = w' := fun w => choose_any 81 4 (by omega) (by omega) w
    have ed0 : cutN 1 1 = 1 ∧ cutD 1 1 = 1 := by decide +kernel
    have d0 : ∀ w, Calls Try.prog 34 #[.int .i64 1, .int .i64 1] w fun e w' => e = .returned (.tuple #[v2 1 1, .bool true]) ∧ Kept w w' := fun w => by
      have h := fraction_any 1 1 (by omega) (by omega) (by omega) (by omega) w
      rw [ed0.1, ed0.2] at h
      exact h
    have ed3 : cutN 84240 85320 = 78 ∧ cutD 84240 85320 = 79 := by decide +kernel
    have d3 : ∀ w, Calls Try.prog 34 #[.int .i64 84240, .int .i64 85320] w fun e w' => e = .returned (.tuple #[v2 78 79, .bool true]) ∧ Kept w w' := fun w => by
      have h := fraction_any 84240 85320 (by omega) (by omega) (by omega) (by omega) w
      rw [ed3.1, ed3.2] at h
      exact h
    have ed4 : cutN 1579500 1663740 = 75 ∧ cutD 1579500 1663740 = 79 := by decide +kernel
    have d4 : ∀ w, Calls Try.prog 34 #[.int .i64 1579500, .int .i64 1663740] w fun e w' => e = .returned (.tuple #[v2 75 79, .bool true]) ∧ Kept w w' := fun w => by
      have h := fraction_any 1579500 1663740 (by omega) (by omega) (by omega) (by omega) w
      rw [ed4.1, ed4.2] at h
      exact h
    clear ed0 ed3 ed4
    obtain rfl | rfl | rfl | rfl | rfl : n = 0 ∨ n = 1 ∨ n = 2 ∨ n = 3 ∨ n = 4 := by omega
    · go_enter Try.func20, Try.ntmps20
      go_wp2_with (first | (go_at_call 33; refine (within_any _ _ _ _).mono ?_; rintro e w' ⟨rfl, rfl⟩) | (go_at_call 35; refine (c0 _).mono ?_; rintro e w' ⟨rfl, rfl⟩) | (go_at_call 34; refine (d0 _).mono ?_; rintro e w' ⟨rfl, y, rfl⟩))
      refine bodyPost_ret (v := .tuple #[v2 1 1, .bool true]) (by simp [results, Try.results20, go_sem]) rfl ⟨rfl, ?_⟩
      exact (by repeat (first | exact Kept.refl _ | apply Kept.alloc | apply Kept.ext))
    · go_enter Try.func20, Try.ntmps20
      go_wp2_with (first | (go_at_call 33; refine (within_any _ _ _ _).mono ?_; rintro e w' ⟨rfl, rfl⟩) | (go_at_call 35; refine (c1 _).mono ?_; rintro e w' ⟨rfl, rfl⟩) | (go_at_call 34; refine (d0 _).mono ?_; rintro e w' ⟨rfl, y, rfl⟩))
      refine bodyPost_ret (v := .tuple #[v2 1 1, .bool true]) (by simp [results, Try.results20, go_sem]) rfl ⟨rfl, ?_⟩
      exact (by repeat (first | exact Kept.refl _ | apply Kept.alloc | apply Kept.ext))
    · go_enter Try.func20, Try.ntmps20
      go_wp2_with (first | (go_at_call 33; refine (within_any _ _ _ _).mono ?_; rintro e w' ⟨rfl, rfl⟩) | (go_at_call 35; refine (c2 _).mono ?_; rintro e w' ⟨rfl, rfl⟩) | (go_at_call 34; refine (d0 _).mono ?_; rintro e w' ⟨rfl, y, rfl⟩))
      refine bodyPost_ret (v := .tuple #[v2 1 1, .bool true]) (by simp [results, Try.results20, go_sem]) rfl ⟨rfl, ?_⟩
      exact (by repeat (first | exact Kept.refl _ | apply Kept.alloc | apply Kept.ext))
    · go_enter Try.func20, Try.ntmps20
      go_wp2_with (first | (go_at_call 33; refine (within_any _ _ _ _).mono ?_; rintro e w' ⟨rfl, rfl⟩) | (go_at_call 35; refine (c3 _).mono ?_; rintro e w' ⟨rfl, rfl⟩) | (go_at_call 34; refine (d3 _).mono ?_; rintro e w' ⟨rfl, y, rfl⟩))
      refine bodyPost_ret (v := .tuple #[v2 78 79, .bool true]) (by simp [results, Try.results20, go_sem]) rfl ⟨rfl, ?_⟩
      exact (by repeat (first | exact Kept.refl _ | apply Kept.alloc | apply Kept.ext))
    · go_enter Try.func20, Try.ntmps20
      go_wp2_with (first | (go_at_call 33; refine (within_any _ _ _ _).mono ?_; rintro e w' ⟨rfl, rfl⟩) | (go_at_call 35; refine (c4 _).mono ?_; rintro e w' ⟨rfl, rfl⟩) | (go_at_call 34; refine (d4 _).mono ?_; rintro e w' ⟨rfl, y, rfl⟩))
      refine bodyPost_ret (v := .tuple #[v2 75 79, .bool true]) (by simp [results, Try.results20, go_sem]) rfl ⟨rfl, ?_⟩
      exact (by repeat (first | exact Kept.refl _ | apply Kept.alloc | apply Kept.ext))
theorem walk_FnExactChanceNoLine (n : Int) (w : World) : Calls Try.prog 5 #[.int .i64 n] w fun e w' => e = .returned (.bool true) ∧ Kept w w' := by
  go_enter Try.func5, Try.ntmps5
  go_wp2_with (first | (go_at_call 19; refine (sChanceNoLine_any _ _).mono ?_; rintro e w' ⟨rfl, y, rfl⟩) | (go_at_call 20; refine (iChanceNoLine_any _ _).mono ?_; rintro e w' ⟨rfl, y, rfl⟩) | (go_at_call 11; refine (eqIntA2_any _ _ _ _ _).mono ?_; rintro e w' ⟨rfl, y, rfl⟩))
  all_goals
    go_ret
    exact ⟨rfl, (by repeat (first | exact Kept.refl _ | apply Kept.alloc | apply Kept.ext))⟩
end Go.Proofs.Ytgfpdobbacjbhab
