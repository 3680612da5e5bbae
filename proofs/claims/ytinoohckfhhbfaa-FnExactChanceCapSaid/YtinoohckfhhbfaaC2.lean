/- Contracts: choices, fractions in lowest terms. -/
import Derived.Test.YtinoohckfhhbfaaC0
import Derived.Test.YtinoohckfhhbfaaB2
import Derived.Test.YtinoohckfhhbfaaM2
namespace Go.Proofs.Ytinoohckfhhbfaa
open Go.RowKit

/-- Two numbers, one cell each. -/
abbrev v2 (p q : Int) : Value := .agg #[.int .i64 p, .int .i64 q]
theorem l1Most_any (a b : Int) (w : World) :
    Calls Try.prog 89 #[.int .i64 a, .int .i64 b] w fun e w' => e = .returned (.int .i64 (max a b)) ∧ w = w' := by
  by_cases h : b < a
  all_goals
    go_enter Try.func89, Try.ntmps89
    go_wp2
    go_ret
    exact ⟨ret_of (congrArg (Value.int .i64) (by omega)), rfl⟩
theorem l9Choose_any (n k : Nat) (hn : n ≤ 81) (hk : k ≤ 16) (w : World) :
    Calls Try.prog 65 #[.int .i64 n, .int .i64 k] w fun e w' => e = .returned (.int .i64 (chooseL n k)) ∧ w = w' := by
  go_enter Try.func65, Try.ntmps65
  go_wp2
  go_loop [5, 6] (fun o i => ∃ m : Nat, m ≤ k ∧ i = .int .i64 m ∧ o = .int .i64 (chooseL n m)) (fun _ i => k - (intOf i).toNat)
  case atStart => exact ⟨0, Nat.zero_le _, rfl, rfl⟩
  case round =>
    obtain ⟨m, hm, rfl, rfl⟩ := hrel
    obtain ⟨h1, h2, h3, h4⟩ := choose_ok hn (show m ≤ 16 by omega)
    by_cases hlt : m < k
    · go_wp2
      go_round
      case rel => exact ⟨m + 1, hlt, by go_num, by rw [chooseL]⟩
      case measure => simp [intOf]; omega
    · obtain rfl : m = k := by omega
      go_wp2
      go_ret
      exact ⟨rfl, rfl⟩
theorem choose_any (n k : Nat) (hn : n ≤ 81) (hk : k ≤ 16) (w : World) :
    Calls Try.prog 68 #[.int .i64 n, .int .i64 k] w fun e w' => e = .returned (.int .i64 (chooseL n k)) ∧ w = w' := by
  go_enter Try.func68, Try.ntmps68
  go_wp2
  go_loop [5, 8] (fun o i => ∃ m : Nat, m ≤ k ∧ i = .int .i64 m ∧ o = .int .i64 (chooseL n m)) (fun _ i => k - (intOf i).toNat)
  case atStart => exact ⟨0, Nat.zero_le _, rfl, rfl⟩
  case round =>
    obtain ⟨m, hm, rfl, rfl⟩ := hrel
    obtain ⟨h1, h2, h3, h4⟩ := choose_ok hn (show m ≤ 16 by omega)
    by_cases hlt : m < k
    · go_wp2
      go_round
      case rel => exact ⟨m + 1, hlt, by go_num, by rw [chooseL]⟩
      case measure => simp [intOf]; omega
    · obtain rfl : m = k := by omega
      go_wp2
      go_ret
      exact ⟨rfl, rfl⟩
theorem l9Cut_any (n d : Int) (hn : 0 ≤ n) (hn' : n ≤ 4000000000000000000) (hd : 1 ≤ d) (hd' : d ≤ 4000000000000000000) (w : World) :
    Calls Try.prog 63 #[.int .i64 n, .int .i64 d] w fun e w' => e = .returned (v2 (cutN n d) (cutD n d)) ∧ Kept w w' := by
  go_enter Try.func63, Try.ntmps63
  go_wp2
  go_loopw [5, 6] (fun x y wr => ∃ (a b : Int) (z : More), 0 ≤ a ∧ 0 ≤ b ∧ a ≤ 4000000000000000000 ∧ b ≤ 4000000000000000000 ∧ gcdI a b = gcdI n d ∧ x = .int .i64 a ∧ y = .int .i64 b ∧ wr = ext (w.alloc (.cells #[.int .i64 0, .int .i64 0] 51)) z)
    (fun _ y _ => (intOf y).toNat)
  case atStart =>
    obtain ⟨z, hz⟩ := Kept.refl (w.alloc (.cells #[.int .i64 0, .int .i64 0] 51))
    exact ⟨n, d, z, hn, by omega, by omega, by omega, rfl, rfl, rfl, hz⟩
  case round =>
    obtain ⟨a, b, z0, ha, hb, ha', hb', hg, rfl, rfl, rfl⟩ := hrel
    have hgH := hid hg
    clear hg
    by_cases hb0 : 0 < b
    · have hm := Int.emod_lt_of_pos a hb0
      have hm' := Int.emod_nonneg a (show b ≠ 0 by omega)
      go_wp2
      refine wp_region_ext (by kernel_rfl) (by kernel_rfl) ?_
      repeat (go_big_quiet_step (fail))
      refine wpQuiet_end fun z => ?_
      go_wp2
      go_roundw
      case rel => exact ⟨b, a % b, z0.add z, hb, hm', hb', by omega, by rw [gcdI_step ha hb0, hgH.out], rfl, rfl, ext_ext _ _ _⟩
      case measure => simp [intOf]; omega
    · have e0 : b = 0 := by omega
      have eg : a = gcdI n d := by rw [← hgH.out, e0, gcdI_zero ha]
      have h1 := gcdI_pos (a := n) (show 0 < d by omega)
      subst eg
      clear hgH e0
      go_wp2
      refine wp_region_ext_tail 9 (by kernel_rfl) (by kernel_rfl) ?_
      simp only [List.take_succ_cons, List.take_zero, List.drop_succ_cons, List.drop_zero]
      repeat (go_big_quiet_step ((go_at_call 89; exact ext_call_same2 (l1Most_any _ _ _))))
      refine wpQuiet_tail fun z => ?_
      go_wp2
      have em : max (gcdI n d) 1 = gcdI n d := by omega
      refine bodyPost_ret (v := v2 (cutN n d) (cutD n d)) (by simp [results, Try.results63, go_sem, cutN, cutD, em]) rfl ⟨rfl, ?_⟩
      exact ((Kept.refl _).alloc _).ext _
theorem fraction_any (n d : Int) (hn : 0 ≤ n) (hn' : n ≤ 4000000000000000000) (hd : 1 ≤ d) (hd' : d ≤ 4000000000000000000) (w : World) :
    Calls Try.prog 67 #[.int .i64 n, .int .i64 d] w fun e w' => e = .returned (.tuple #[v2 (cutN n d) (cutD n d), .bool true]) ∧ Kept w w' := by
  go_enter Try.func67, Try.ntmps67
  go_wp2
  go_loopw [6, 7] (fun x y wr => ∃ (a b : Int) (z : More), 0 ≤ a ∧ 0 ≤ b ∧ a ≤ 4000000000000000000 ∧ b ≤ 4000000000000000000 ∧ gcdI a b = gcdI n d ∧ x = .int .i64 a ∧ y = .int .i64 b ∧ wr = ext (w.alloc (.cells #[.int .i64 0, .int .i64 0] 51)) z)
    (fun _ y _ => (intOf y).toNat)
  case atStart =>
    obtain ⟨z, hz⟩ := Kept.refl (w.alloc (.cells #[.int .i64 0, .int .i64 0] 51))
    exact ⟨n, d, z, hn, by omega, by omega, by omega, rfl, rfl, rfl, hz⟩
  case round =>
    obtain ⟨a, b, z0, ha, hb, ha', hb', hg, rfl, rfl, rfl⟩ := hrel
    have hgH := hid hg
    clear hg
    by_cases hb0 : b = 0
    · have eg : a = gcdI n d := by rw [← hgH.out, hb0, gcdI_zero ha]
      have h1 := gcdI_pos (a := n) (show 0 < d by omega)
      subst eg hb0
      clear hgH
      go_wp2
      refine wp_region_ext_tail 7 (by kernel_rfl) (by kernel_rfl) ?_
      simp only [List.take_succ_cons, List.take_zero, List.drop_succ_cons, List.drop_zero]
      repeat (go_big_quiet_step (fail))
      refine wpQuiet_tail fun z => ?_
      go_wp2
      refine bodyPost_ret (v := .tuple #[v2 (cutN n d) (cutD n d), .bool true]) (by simp [results, Try.results67, go_sem, cutN, cutD]) rfl ⟨rfl, ?_⟩
      exact ((Kept.refl _).alloc _).ext _
    · have hb0 : 0 < b := by omega
      have hm := Int.emod_lt_of_pos a hb0
      have hm' := Int.emod_nonneg a (show b ≠ 0 by omega)
      go_wp2
      refine wp_region_ext (by kernel_rfl) (by kernel_rfl) ?_
      repeat (go_big_quiet_step (fail))
      refine wpQuiet_end fun z => ?_
      go_wp2
      go_roundw
      case rel => exact ⟨b, a % b, z0.add z, hb, hm', hb', by omega, by rw [gcdI_step ha hb0, hgH.out], rfl, rfl, ext_ext _ _ _⟩
      case measure => simp [intOf]; omega
theorem eqIntA2_any (a b c d : Int) (w : World) :
    Calls Try.prog 31 #[v2 a b, v2 c d] w fun e w' => e = .returned (.bool (decide (a = c) && decide (b = d))) ∧ Kept w w' := by
  go_enter Try.func31, Try.ntmps31
  go_wp2
  refine wp_loop_rounds 3 ?_
  iterate 3
    (all_goals try rw [rounds_succ])
    go_wp2_with (first | (refine wp_region_ext (by kernel_rfl) (by kernel_rfl) ?_; (repeat (go_big_quiet_step (fail))); refine wpQuiet_end fun z => ?_))
  all_goals
    go_ret
    exact ⟨ret_of (by simp_all), by repeat (first | exact Kept.refl _ | apply Kept.alloc | apply Kept.ext)⟩
end Go.Proofs.Ytinoohckfhhbfaa
