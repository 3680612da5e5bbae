/- Contracts of the functions behind IsCodeword. -/
import Derived.Test.YtgfpdobbacjbhaaC0
namespace Go.Proofs.Ytgfpdobbacjbhaa
open Go.RowKit

def wordC (a b : Int) : Card := ⟨a, (a + b) % 3, (a + 2 * b) % 3, b⟩
theorem toIntA4_any (x : Card) (w : World) :
    Calls Try.prog 16 #[x.v] w fun e w' => e = .returned x.v ∧ Kept w w' := by
  go_enter Try.func16, Try.ntmps16
  go_wp2
  refine wp_loop_rounds 5 ?_
  rw [rounds_succ]
  go_wp2
  rw [rounds_succ]
  go_wp2
  rw [rounds_succ]
  go_wp2
  rw [rounds_succ]
  go_wp2
  rw [rounds_succ]
  go_wp2
  refine bodyPost_ret (v := x.v) (by simp [results, Try.results16, go_sem]) rfl ⟨rfl, ?_⟩
  exact (((Kept.refl _).alloc _).alloc _).alloc _
theorem l11Word_any (a b : Int) (ha : 0 ≤ a) (ha' : a ≤ 2) (hb : 0 ≤ b) (hb' : b ≤ 2) (w : World) :
    Calls Try.prog 27 #[.int .i64 a, .int .i64 b] w fun e w' => e = .returned (wordC a b).v ∧ Kept w w' := by
  go_enter Try.func27, Try.ntmps27
  go_wp2
  refine bodyPost_ret (v := (wordC a b).v) (by simp [results, Try.results27, go_sem, wordC]) rfl ⟨rfl, ?_⟩
  exact (Kept.refl _).alloc _
theorem codeword_any (a b : Int) (ha : 0 ≤ a) (ha' : a ≤ 2) (hb : 0 ≤ b) (hb' : b ≤ 2) (w : World) :
    Calls Try.prog 29 #[.int .i64 a, .int .i64 b] w fun e w' => e = .returned (wordC a b).v ∧ Kept w w' := by
  go_enter Try.func29, Try.ntmps29
  go_wp2
  refine bodyPost_ret (v := (wordC a b).v) (by simp [results, Try.results29, go_sem, wordC]) rfl ⟨rfl, ?_⟩
  exact (Kept.refl _).alloc _
theorem sIsCodeword_any (x : Card) (w : World) :
    Calls Try.prog 15 #[x.v] w fun e w' => e = .returned (.tuple #[.bool (isCard x && decide (x = wordC x.a x.d)), .bool (isCard x)]) ∧ Kept w w' := by
  by_cases hx : isCard x = true
  · have hx' := isCard_of hx
    obtain ⟨h1, h2, h3, h4⟩ := hx'
    go_enter Try.func15, Try.ntmps15
    go_wp2_with (first | (go_at_call 26; refine (l2Card_any _ _).mono ?_; rintro e w' ⟨rfl, y, rfl⟩) | fail)
    refine wp_region_ext (by kernel_rfl) (by kernel_rfl) ?_
    repeat (go_big_quiet_step ((go_at_call 27; exact ext_call2 (l11Word_any _ _ (by omega) (by omega) (by omega) (by omega) _))))
    refine wpQuiet_end fun z => ?_
    go_wp2
    go_ret2
    refine ⟨ret_of (by simp [hx]), ?_⟩
    exact (((Kept.refl _).alloc _).ext _).ext _
  · have hx : isCard x = false := by simpa using hx
    go_enter Try.func15, Try.ntmps15
    go_wp2_with (first | (go_at_call 26; refine (l2Card_any _ _).mono ?_; rintro e w' ⟨rfl, y, rfl⟩))
    go_ret2
    exact ⟨ret_of (by simp [hx]), ((Kept.refl _).alloc _).ext _⟩
theorem iIsCodeword_any (x : Card) (w : World) :
    Calls Try.prog 17 #[x.v] w fun e w' => e = .returned (.tuple #[.bool (isCard x && decide (x = wordC x.a x.d)), .bool (isCard x)]) ∧ Kept w w' := by
  by_cases hx : isCard x = true
  · have hx' := isCard_of hx
    obtain ⟨h1, h2, h3, h4⟩ := hx'
    go_enter Try.func17, Try.ntmps17
    go_wp2_with (first | (go_at_call 28; refine (IsCard_any _ _).mono ?_; rintro e w' ⟨rfl, y, rfl⟩) | fail)
    refine wp_region_ext (by kernel_rfl) (by kernel_rfl) ?_
    repeat (go_big_quiet_step ((go_at_call 29; exact ext_call2 (codeword_any _ _ (by omega) (by omega) (by omega) (by omega) _))))
    refine wpQuiet_end fun z => ?_
    go_wp2
    go_ret2
    refine ⟨ret_of (by simp [hx, eq_comm]), ?_⟩
    exact (((Kept.refl _).alloc _).ext _).ext _
  · have hx : isCard x = false := by simpa using hx
    go_enter Try.func17, Try.ntmps17
    go_wp2_with (first | (go_at_call 28; refine (IsCard_any _ _).mono ?_; rintro e w' ⟨rfl, y, rfl⟩))
    go_ret2
    exact ⟨ret_of (by simp [hx]), ((Kept.refl _).alloc _).ext _⟩
theorem walk_FnExactIsCodeword (x : Card) (w : World) :
    Calls Try.prog 6 #[x.v] w fun e w' => e = .returned (.bool true) ∧ Kept w w' := by
  go_enter Try.func6, Try.ntmps6
  go_wp2_with (first | (go_at_call 16; refine (toIntA4_any _ _).mono ?_; rintro e w1 ⟨rfl, y, rfl⟩) | (go_at_call 15; refine (sIsCodeword_any _ _).mono ?_; rintro e w2 ⟨rfl, y, rfl⟩) | (go_at_call 17; refine (iIsCodeword_any _ _).mono ?_; rintro e w3 ⟨rfl, y, rfl⟩))
  go_ret
  exact ⟨rfl, ((Kept.refl _).alloc _).ext _⟩
end Go.Proofs.Ytgfpdobbacjbhaa
