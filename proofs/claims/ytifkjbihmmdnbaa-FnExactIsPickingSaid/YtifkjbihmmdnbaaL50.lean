/- Walk: the law of IsPicking. -/
import Derived.Test.YtifkjbihmmdnbaaT33
import Derived.Test.YtifkjbihmmdnbaaR2
namespace Go.Proofs.Ytifkjbihmmdnbaa
open Go.RowKit
theorem sIsPicking_any (ao bo : Option Addr) (cap cb : Nat) (xs : List Card) (ls : List Ln) (w : World) (hx : CardsAt w ao xs) (hn : xs.length ≤ 1048576) (hy : LinesAt w bo ls) (hl : ls.length ≤ 1048576) (hcap : ls.length ≤ cb) :
    Calls Try.prog 25 #[.slice ao xs.length cap, .slice bo ls.length cb] w fun e w' => e = .returned (.tuple #[.bool (isHand xs && isPick (linesC xs) ls), .bool (isHand xs)]) ∧ Kept w w' := by
  cases hh : isHand xs
  · go_enter Try.func25, Try.ntmps25
    go_wp2_with (first | (go_at_call 43; refine Calls.mono (l2Hand_any _ _ _ _ (by first | assumption | exact CardsAt.kept (by assumption) (by (try simp only [ext_ext]); repeat (first | exact Kept.refl _ | apply Kept.alloc | apply Kept.drew | apply kept_add | apply Kept.ext))) hn) ?_; rintro e w' ⟨rfl, y, rfl⟩))
    refine bodyPost_ret (v := .tuple #[.bool false, .bool false]) (by simp [results, Try.results25, go_sem]) rfl ⟨rfl, ?_⟩
    exact (by (try simp only [ext_ext]); repeat (first | exact Kept.refl _ | apply Kept.alloc | apply Kept.drew | apply kept_add | apply Kept.ext))
  · have hp := hid (fun w' (hk : Kept w w') => l7Picking_any ao bo cap cb xs ls w' (hx.kept hk) hh (hy.kept hk) hl hcap)
    go_enter Try.func25, Try.ntmps25
    go_wp2_with (first | (go_at_call 43; refine Calls.mono (l2Hand_any _ _ _ _ (by first | assumption | exact CardsAt.kept (by assumption) (by (try simp only [ext_ext]); repeat (first | exact Kept.refl _ | apply Kept.alloc | apply Kept.drew | apply kept_add | apply Kept.ext))) hn) ?_; rintro e w' ⟨rfl, y, rfl⟩) | (go_at_call 44; refine Calls.mono (hp.out _ ((by (try simp only [ext_ext]); repeat (first | exact Kept.refl _ | apply Kept.alloc | apply Kept.drew | apply kept_add | apply Kept.ext)))) ?_; rintro e w' ⟨rfl, y, rfl⟩))
    refine bodyPost_ret (v := .tuple #[.bool (isPick (linesC xs) ls), .bool true]) (by simp [results, Try.results25, go_sem]) rfl ⟨rfl, ?_⟩
    exact (by (try simp only [ext_ext]); repeat (first | exact Kept.refl _ | apply Kept.alloc | apply Kept.drew | apply kept_add | apply Kept.ext))
theorem iIsPicking_any (ao bo : Option Addr) (cap cb : Nat) (xs : List Card) (ls : List Ln) (w : World) (hx : CardsAt w ao xs) (hn : xs.length ≤ 1048576) (hy : LinesAt w bo ls) (hl : ls.length ≤ 1048576) (hcap : ls.length ≤ cb) :
    Calls Try.prog 27 #[.slice ao xs.length cap, .slice bo ls.length cb] w fun e w' => e = .returned (.tuple #[.bool (isHand xs && isPick (linesC xs) ls), .bool (isHand xs)]) ∧ Kept w w' := by
  cases hh : isHand xs
  · go_enter Try.func27, Try.ntmps27
    go_wp2_with (first | (go_at_call 46; refine Calls.mono (IsHand_any _ _ _ _ (by first | assumption | exact CardsAt.kept (by assumption) (by (try simp only [ext_ext]); repeat (first | exact Kept.refl _ | apply Kept.alloc | apply Kept.drew | apply kept_add | apply Kept.ext))) hn) ?_; rintro e w' ⟨rfl, y, rfl⟩))
    refine bodyPost_ret (v := .tuple #[.bool false, .bool false]) (by simp [results, Try.results27, go_sem]) rfl ⟨rfl, ?_⟩
    exact (by (try simp only [ext_ext]); repeat (first | exact Kept.refl _ | apply Kept.alloc | apply Kept.drew | apply kept_add | apply Kept.ext))
  · have hp := hid (fun w' (hk : Kept w w') => isPicking_any ao bo cap cb xs ls w' (hx.kept hk) hh (hy.kept hk) hl hcap)
    go_enter Try.func27, Try.ntmps27
    go_wp2_with (first | (go_at_call 46; refine Calls.mono (IsHand_any _ _ _ _ (by first | assumption | exact CardsAt.kept (by assumption) (by (try simp only [ext_ext]); repeat (first | exact Kept.refl _ | apply Kept.alloc | apply Kept.drew | apply kept_add | apply Kept.ext))) hn) ?_; rintro e w' ⟨rfl, y, rfl⟩) | (go_at_call 47; refine Calls.mono (hp.out _ ((by (try simp only [ext_ext]); repeat (first | exact Kept.refl _ | apply Kept.alloc | apply Kept.drew | apply kept_add | apply Kept.ext)))) ?_; rintro e w' ⟨rfl, y, rfl⟩))
    refine bodyPost_ret (v := .tuple #[.bool (isPick (linesC xs) ls), .bool true]) (by simp [results, Try.results27, go_sem]) rfl ⟨rfl, ?_⟩
    exact (by (try simp only [ext_ext]); repeat (first | exact Kept.refl _ | apply Kept.alloc | apply Kept.drew | apply kept_add | apply Kept.ext))
set_option maxHeartbeats 1000000 in
theorem walk_FnExactIsPicking (ao : Option Addr) (xs : List Card) (cap : Nat) {w : World} (hx : CardsAt w ao xs) (hl : xs.length ≤ maxLen) (bo : Option Addr) (ls : List Ln) (cb : Nat) (hy : LinesAt w bo ls) (hl2 : ls.length ≤ maxLen) (_ : World) :
    Calls Try.prog 7 #[.slice ao xs.length cap, .slice bo ls.length cb] w fun e w' => e = .returned (.bool true) ∧ Kept w w' := by
  have hl' : xs.length ≤ 9223372036854775807 := by unfold maxLen at hl; omega
  have hl2' : ls.length ≤ 9223372036854775807 := by unfold maxLen at hl2; omega
  by_cases hn : xs.length ≤ 1048576
  · have hleft : (0 : Int) ≤ 1048576 - (xs.length : Int) := by omega
    have hleft2 : (1048576 : Int) - (xs.length : Int) ≤ 1048576 := by omega
    by_cases hn2 : (ls.length : Int) ≤ 1048576 - (xs.length : Int)
    · have hm : ls.length ≤ 1048576 := by omega
      have hlo : ¬ ((1048576 : Int) - (xs.length : Int) < 0) := by omega
      have hlo2 : ¬ ((1048576 : Int) - (xs.length : Int) - (ls.length : Int) < 0) := by omega
      go_enter Try.func7, Try.ntmps7
      go_wp2_with (first | (go_at_call 9; refine Calls.mono (szIntA4S_any _ _ _ hl' _) ?_; rintro e w' ⟨rfl, rfl⟩) | (go_at_call 24; refine Calls.mono (szIntA3S_any _ _ _ _ hl2' hleft hleft2 _) ?_; rintro e w' ⟨rfl, rfl⟩))
      (go_at_call 11; refine Calls.mono (toIntA4S_any _ _ _ _ hx hn) ?_; rintro e w1 ⟨v1, rfl, ho1, k1⟩)
      obtain ⟨a1, c1, rfl, hx1, hc1⟩ := ho1.reads
      go_wp2_with (fail)
      (go_at_call 26; refine Calls.mono (toIntA3S_any _ _ _ _ (hy.kept k1) hm) ?_; rintro e w2 ⟨v2, rfl, ho2, k2⟩)
      obtain ⟨a2, c2, rfl, hx2, hc2⟩ := ho2.reads
      go_wp2_with (fail)
      (go_at_call 25; refine Calls.mono (sIsPicking_any _ _ _ _ _ _ _ (hx1.kept k2) hn hx2 hm hc2) ?_; rintro e w3 ⟨rfl, k3⟩)
      go_wp2_with (fail)
      have K3 := k1.trans (k2.trans k3)
      (go_at_call 11; refine Calls.mono (toIntA4S_any _ _ _ _ (hx.kept K3) hn) ?_; rintro e w4 ⟨v4, rfl, ho4, k4⟩)
      obtain ⟨a4, c4, rfl, hx4, hc4⟩ := ho4.reads
      go_wp2_with (fail)
      (go_at_call 26; refine Calls.mono (toIntA3S_any _ _ _ _ (hy.kept (K3.trans k4)) hm) ?_; rintro e w5 ⟨v5, rfl, ho5, k5⟩)
      obtain ⟨a5, c5, rfl, hx5, hc5⟩ := ho5.reads
      go_wp2_with (fail)
      (go_at_call 27; refine Calls.mono (iIsPicking_any _ _ _ _ _ _ _ (hx4.kept k5) hn hx5 hm hc5) ?_; rintro e w6 ⟨rfl, k6⟩)
      have K6 := K3.trans (k4.trans (k5.trans k6))
      have hx6 := hx.kept K6
      generalize (isHand xs && isPick (linesC xs) ls) = b0
      generalize isHand xs = b1
      go_wp2_with (first | (refine wp_region_ext (by kernel_rfl) (by kernel_rfl) ?_; (repeat (go_big_quiet_step (fail))); refine wpQuiet_end fun z => ?_))
      (go_at_call 11; refine Calls.mono (toIntA4S_any _ _ _ _ hx6 hn) ?_; rintro e w7 ⟨v7, rfl, ho7, k7⟩)
      obtain ⟨a7, c7, rfl, hx7, hc7⟩ := ho7.reads
      go_wp2_with (fail)
      (go_at_call 13; refine Calls.mono (eqIntA4S_any _ _ _ _ _ _ _ (hx4.kept (k5.trans (k6.trans k7))) hx7 hn hn) ?_; rintro e w8 ⟨rfl, k8⟩)
      have K8 := K6.trans (k7.trans k8)
      go_wp2_with (fail)
      (go_at_call 26; refine Calls.mono (toIntA3S_any _ _ _ _ (hy.kept K8) hm) ?_; rintro e w9 ⟨v9, rfl, ho9, k9⟩)
      go_wp2_with (fail)
      (go_at_call 20; refine Calls.mono (eqL_any _ _ _ _ _ _ (ho5.kept (k6.trans (k7.trans (k8.trans k9)))) ho9 hm) ?_; rintro e w10 ⟨rfl, k10⟩)
      go_wp2_with (fail)
      go_ret
      exact ⟨rfl, K8.trans (k9.trans k10)⟩
    · have hlo : ¬ ((1048576 : Int) - (xs.length : Int) < 0) := by omega
      go_enter Try.func7, Try.ntmps7
      go_wp2_with (first | (go_at_call 9; refine Calls.mono (szIntA4S_any _ _ _ hl' _) ?_; rintro e w' ⟨rfl, rfl⟩) | (go_at_call 24; refine Calls.mono (szIntA3S_any _ _ _ _ hl2' hleft hleft2 _) ?_; rintro e w' ⟨rfl, rfl⟩))
      go_ret
      exact ⟨rfl, (by (try simp only [ext_ext]); repeat (first | exact Kept.refl _ | apply Kept.alloc | apply Kept.drew | apply kept_add | apply Kept.ext))⟩
  · go_enter Try.func7, Try.ntmps7
    go_wp2_with (first | (go_at_call 9; refine Calls.mono (szIntA4S_any _ _ _ hl' _) ?_; rintro e w' ⟨rfl, rfl⟩))
    go_ret
    exact ⟨rfl, (by (try simp only [ext_ext]); repeat (first | exact Kept.refl _ | apply Kept.alloc | apply Kept.drew | apply kept_add | apply Kept.ext))⟩
end Go.Proofs.Ytifkjbihmmdnbaa
