/- Walk: the law of LinesAhead. -/
import Derived.Test.YtifkjbihmmdnbabT38
import Derived.Test.YtifkjbihmmdnbabR3
namespace Go.Proofs.Ytifkjbihmmdnbab
open Go.RowKit
theorem sLinesAhead_any (s n : Int) (lo so wo : Option Addr) (lc sc wc : Nat) (laid : List Card) (scores wrong : List Int) (w : World) (hx : CardsAt w lo laid) (hy : IntsAt w so scores) (hz : IntsAt w wo wrong) (hl : laid.length ≤ 1048576) (hl2 : scores.length ≤ 1048576) (hl3 : wrong.length ≤ 1048576) (hlc : laid.length ≤ lc) :
    Calls Try.prog 14 #[gv s n (.slice lo laid.length lc) (.slice so scores.length sc) (.slice wo wrong.length wc)] w fun e w' => e = .returned (.tuple #[.int .i64 (if gameB s n laid scores wrong = true then aheadI n laid else 0), .bool (gameB s n laid scores wrong)]) ∧ Kept w w' := by
  have hG0 := fun w' (hk : Kept w w') => l8Game_any s n lo so wo lc sc wc laid scores wrong w' (hx.kept hk) (hy.kept hk) (hz.kept hk) hl hl2 hl3 hlc
  cases hg : gameB s n laid scores wrong
  · rw [hg] at hG0
    have hG := hid hG0
    clear hG0
    go_enter Try.func14, Try.ntmps14
    go_wp2_with (first | (go_at_call 31; refine Calls.mono (hG.out _ ((by (try simp only [ext_ext]); repeat (first | exact Kept.refl _ | apply Kept.alloc | apply Kept.drew | apply kept_add | apply Kept.ext)))) ?_; rintro e w' ⟨rfl, y, rfl⟩))
    refine bodyPost_ret (v := .tuple #[.int .i64 0, .bool false]) (by simp [results, Try.results14, go_sem]) rfl ⟨rfl, ?_⟩
    exact (by (try simp only [ext_ext]); repeat (first | exact Kept.refl _ | apply Kept.alloc | apply Kept.drew | apply kept_add | apply Kept.ext))
  · rw [hg] at hG0
    have hG := hid hG0
    have hok := gameB_of hg
    have hA := hid (fun w' => l8Ahead_any s n lo lc laid (.slice so scores.length sc) (.slice wo wrong.length wc) w' hok.n0 hok.n1 hok.laid81 _ _ _ _ _ _ rfl rfl)
    clear hG0 hok
    go_enter Try.func14, Try.ntmps14
    go_wp2_with (first | (go_at_call 31; refine Calls.mono (hG.out _ ((by (try simp only [ext_ext]); repeat (first | exact Kept.refl _ | apply Kept.alloc | apply Kept.drew | apply kept_add | apply Kept.ext)))) ?_; rintro e w' ⟨rfl, y, rfl⟩) | (go_at_call 38; refine Calls.mono (hA.out _) ?_; rintro e w' ⟨rfl, y, rfl⟩))
    refine bodyPost_ret (v := .tuple #[.int .i64 (aheadI n laid), .bool true]) (by simp [results, Try.results14, go_sem]) rfl ⟨rfl, ?_⟩
    exact (by (try simp only [ext_ext]); repeat (first | exact Kept.refl _ | apply Kept.alloc | apply Kept.drew | apply kept_add | apply Kept.ext))
theorem iLinesAhead_any (s n : Int) (lo so wo : Option Addr) (lc sc wc : Nat) (laid : List Card) (scores wrong : List Int) (w : World) (hx : CardsAt w lo laid) (hy : IntsAt w so scores) (hz : IntsAt w wo wrong) (hl : laid.length ≤ 1048576) (hl2 : scores.length ≤ 1048576) (hl3 : wrong.length ≤ 1048576) (hlc : laid.length ≤ lc) :
    Calls Try.prog 15 #[gv s n (.slice lo laid.length lc) (.slice so scores.length sc) (.slice wo wrong.length wc)] w fun e w' => e = .returned (.tuple #[.int .i64 (if gameB s n laid scores wrong = true then aheadI n laid else 0), .bool (gameB s n laid scores wrong)]) ∧ Kept w w' := by
  have hG0 := fun w' (hk : Kept w w') => IsGame_any s n lo so wo lc sc wc laid scores wrong w' (hx.kept hk) (hy.kept hk) (hz.kept hk) hl hl2 hl3 hlc
  cases hg : gameB s n laid scores wrong
  · rw [hg] at hG0
    have hG := hid hG0
    clear hG0
    go_enter Try.func15, Try.ntmps15
    go_wp2_with (first | (go_at_call 12; refine Calls.mono (hG.out _ ((by (try simp only [ext_ext]); repeat (first | exact Kept.refl _ | apply Kept.alloc | apply Kept.drew | apply kept_add | apply Kept.ext)))) ?_; rintro e w' ⟨rfl, y, rfl⟩))
    refine bodyPost_ret (v := .tuple #[.int .i64 0, .bool false]) (by simp [results, Try.results15, go_sem]) rfl ⟨rfl, ?_⟩
    exact (by (try simp only [ext_ext]); repeat (first | exact Kept.refl _ | apply Kept.alloc | apply Kept.drew | apply kept_add | apply Kept.ext))
  · rw [hg] at hG0
    have hG := hid hG0
    have hok := gameB_of hg
    have hA := hid (fun w' => ahead_any s n lo lc laid (.slice so scores.length sc) (.slice wo wrong.length wc) w' hok.n0 hok.n1 hok.laid81 _ _ _ _ _ _ rfl rfl)
    clear hG0 hok
    go_enter Try.func15, Try.ntmps15
    go_wp2_with (first | (go_at_call 12; refine Calls.mono (hG.out _ ((by (try simp only [ext_ext]); repeat (first | exact Kept.refl _ | apply Kept.alloc | apply Kept.drew | apply kept_add | apply Kept.ext)))) ?_; rintro e w' ⟨rfl, y, rfl⟩) | (go_at_call 39; refine Calls.mono (hA.out _) ?_; rintro e w' ⟨rfl, y, rfl⟩))
    refine bodyPost_ret (v := .tuple #[.int .i64 (aheadI n laid), .bool true]) (by simp [results, Try.results15, go_sem]) rfl ⟨rfl, ?_⟩
    exact (by (try simp only [ext_ext]); repeat (first | exact Kept.refl _ | apply Kept.alloc | apply Kept.drew | apply kept_add | apply Kept.ext))
theorem twoLinesAhead (s n : Int) (laid : List Card) (scores wrong : List Int) (hl : laid.length ≤ 1048576) (hl2 : scores.length ≤ 1048576) (hl3 : wrong.length ≤ 1048576) :
    ∃ q b, (∀ (lo so wo : Option Addr) (lc sc wc : Nat) (w : World), CardsAt w lo laid → IntsAt w so scores → IntsAt w wo wrong → laid.length ≤ lc → Calls Try.prog 14 #[gv s n (.slice lo laid.length lc) (.slice so scores.length sc) (.slice wo wrong.length wc)] w fun e w' => e = .returned (.tuple #[.int .i64 q, .bool b]) ∧ Kept w w') ∧ (∀ (lo so wo : Option Addr) (lc sc wc : Nat) (w : World), CardsAt w lo laid → IntsAt w so scores → IntsAt w wo wrong → laid.length ≤ lc → Calls Try.prog 15 #[gv s n (.slice lo laid.length lc) (.slice so scores.length sc) (.slice wo wrong.length wc)] w fun e w' => e = .returned (.tuple #[.int .i64 q, .bool b]) ∧ Kept w w') :=
  ⟨_, _, fun _ _ _ _ _ _ _ hx hy hz hc => sLinesAhead_any _ _ _ _ _ _ _ _ _ _ _ _ hx hy hz hl hl2 hl3 hc, fun _ _ _ _ _ _ _ hx hy hz hc => iLinesAhead_any _ _ _ _ _ _ _ _ _ _ _ _ hx hy hz hl hl2 hl3 hc⟩
set_option maxHeartbeats 1000000 in
theorem walk_FnExactLinesAhead (s n : Int) (lo so wo : Option Addr) (lc sc wc : Nat) (laid : List Card) (scores wrong : List Int) {w : World} (hx : CardsAt w lo laid) (hy : IntsAt w so scores) (hz : IntsAt w wo wrong) (hl : laid.length ≤ maxLen) (hl2 : scores.length ≤ maxLen) (hl3 : wrong.length ≤ maxLen) (_ : World) :
    Calls Try.prog 4 #[gv s n (.slice lo laid.length lc) (.slice so scores.length sc) (.slice wo wrong.length wc)] w fun e w' => e = .returned (.bool true) ∧ Kept w w' := by
  have b1 : laid.length ≤ 9223372036854775807 := by unfold maxLen at hl; omega
  have b2 : scores.length ≤ 9223372036854775807 := by unfold maxLen at hl2; omega
  have b3 : wrong.length ≤ 9223372036854775807 := by unfold maxLen at hl3; omega
  have hsz := hid (szGame_any s n lo so wo laid.length lc scores.length sc wrong.length wc b1 b2 b3)
  by_cases hn : laid.length + scores.length + wrong.length ≤ 1048576
  · have m1 : laid.length ≤ 1048576 := by omega
    have m2 : scores.length ≤ 1048576 := by omega
    have m3 : wrong.length ≤ 1048576 := by omega
    have hlo : ¬ ((1048576 : Int) - (laid.length : Int) - (scores.length : Int) - (wrong.length : Int) < 0) := by omega
    obtain ⟨q, b, hS, hI⟩ : ∃ q b, (∀ (lo so wo : Option Addr) (lc sc wc : Nat) (w : World), CardsAt w lo laid → IntsAt w so scores → IntsAt w wo wrong → laid.length ≤ lc → Calls Try.prog 14 #[gv s n (.slice lo laid.length lc) (.slice so scores.length sc) (.slice wo wrong.length wc)] w fun e w' => e = .returned (.tuple #[.int .i64 q, .bool b]) ∧ Kept w w') ∧ (∀ (lo so wo : Option Addr) (lc sc wc : Nat) (w : World), CardsAt w lo laid → IntsAt w so scores → IntsAt w wo wrong → laid.length ≤ lc → Calls Try.prog 15 #[gv s n (.slice lo laid.length lc) (.slice so scores.length sc) (.slice wo wrong.length wc)] w fun e w' => e = .returned (.tuple #[.int .i64 q, .bool b]) ∧ Kept w w') := twoLinesAhead s n laid scores wrong m1 m2 m3
    have hSH := hid hS
    have hIH := hid hI
    clear hS hI
    go_enter Try.func4, Try.ntmps4
    go_wp2_with (first | (go_at_call 9; refine Calls.mono (hsz.out _) ?_; rintro e w' ⟨rfl, y, rfl⟩))
    (go_at_call 11; refine Calls.mono (toGame_any s n _ _ _ _ _ _ laid scores wrong _ (hx.kept (by (try simp only [ext_ext]); repeat (first | exact Kept.refl _ | apply Kept.alloc | apply Kept.drew | apply kept_add | apply Kept.ext))) (hy.kept (by (try simp only [ext_ext]); repeat (first | exact Kept.refl _ | apply Kept.alloc | apply Kept.drew | apply kept_add | apply Kept.ext))) (hz.kept (by (try simp only [ext_ext]); repeat (first | exact Kept.refl _ | apply Kept.alloc | apply Kept.drew | apply kept_add | apply Kept.ext))) m1 m2 m3) ?_; rintro e w' ⟨lo1, lc1, so1, sc1, wo1, wc1, rfl, p1, p2, p3, _, _, _, z1, rfl⟩)
    obtain ⟨_, _, hv1, x1, k1⟩ := p1.reads
    cases hv1
    obtain ⟨_, _, hv1, x2, _⟩ := p2.reads
    cases hv1
    obtain ⟨_, _, hv1, x3, _⟩ := p3.reads
    cases hv1
    clear p1 p2 p3
    go_wp2_with (fail)
    simp only [ext_ext] at x1 x2 x3
    (go_at_call 14; refine Calls.mono (hSH.out _ _ _ _ _ _ _ x1 x2 x3 k1) ?_; rintro e w' ⟨rfl, y1, rfl⟩)
    clear x1 x2 x3
    go_wp2_with (fail)
    (go_at_call 11; refine Calls.mono (toGame_any s n _ _ _ _ _ _ laid scores wrong _ (hx.kept (by (try simp only [ext_ext]); repeat (first | exact Kept.refl _ | apply Kept.alloc | apply Kept.drew | apply kept_add | apply Kept.ext))) (hy.kept (by (try simp only [ext_ext]); repeat (first | exact Kept.refl _ | apply Kept.alloc | apply Kept.drew | apply kept_add | apply Kept.ext))) (hz.kept (by (try simp only [ext_ext]); repeat (first | exact Kept.refl _ | apply Kept.alloc | apply Kept.drew | apply kept_add | apply Kept.ext))) m1 m2 m3) ?_; rintro e w' ⟨lo2, lc2, so2, sc2, wo2, wc2, rfl, p1, p2, p3, _, _, _, z2, rfl⟩)
    obtain ⟨_, _, hv1, x1, k2⟩ := p1.reads
    cases hv1
    obtain ⟨_, _, hv1, x2, _⟩ := p2.reads
    cases hv1
    obtain ⟨_, _, hv1, x3, _⟩ := p3.reads
    cases hv1
    go_wp2_with (fail)
    simp only [ext_ext] at p1 p2 p3 x1 x2 x3
    (go_at_call 15; refine Calls.mono (hIH.out _ _ _ _ _ _ _ (x1.kept (by (try simp only [ext_ext]); repeat (first | exact Kept.refl _ | apply Kept.alloc | apply Kept.drew | apply kept_add | apply Kept.ext))) (x2.kept (by (try simp only [ext_ext]); repeat (first | exact Kept.refl _ | apply Kept.alloc | apply Kept.drew | apply kept_add | apply Kept.ext))) (x3.kept (by (try simp only [ext_ext]); repeat (first | exact Kept.refl _ | apply Kept.alloc | apply Kept.drew | apply kept_add | apply Kept.ext))) k2) ?_; rintro e w' ⟨rfl, y2, rfl⟩)
    go_wp2_with (fail)
    clear x1 x2 x3 hSH hIH hsz
    go_region_with (first | (go_at_call 11; refine Calls.mono (toGame_any s n _ _ _ _ _ _ laid scores wrong _ (hx.kept (by (try simp only [ext_ext]); repeat (first | exact Kept.refl _ | apply Kept.alloc | apply Kept.drew | apply kept_add | apply Kept.ext))) (hy.kept (by (try simp only [ext_ext]); repeat (first | exact Kept.refl _ | apply Kept.alloc | apply Kept.drew | apply kept_add | apply Kept.ext))) (hz.kept (by (try simp only [ext_ext]); repeat (first | exact Kept.refl _ | apply Kept.alloc | apply Kept.drew | apply kept_add | apply Kept.ext))) m1 m2 m3) ?_; rintro e w' ⟨lo3, lc3, so3, sc3, wo3, wc3, rfl, p4, p5, p6, _, _, _, z3, rfl⟩; simp only [ext_ext] at p4 p5 p6) | (go_at_call 13; refine Calls.mono (eqGame_any s n _ _ _ _ _ _ _ _ _ _ _ _ _ _ laid scores wrong _ (p1.kept (by (try simp only [ext_ext]); repeat (first | exact Kept.refl _ | apply Kept.alloc | apply Kept.drew | apply kept_add | apply Kept.ext))) (p4.kept (by (try simp only [ext_ext]); repeat (first | exact Kept.refl _ | apply Kept.alloc | apply Kept.drew | apply kept_add | apply Kept.ext))) (p2.kept (by (try simp only [ext_ext]); repeat (first | exact Kept.refl _ | apply Kept.alloc | apply Kept.drew | apply kept_add | apply Kept.ext))) (p5.kept (by (try simp only [ext_ext]); repeat (first | exact Kept.refl _ | apply Kept.alloc | apply Kept.drew | apply kept_add | apply Kept.ext))) (p3.kept (by (try simp only [ext_ext]); repeat (first | exact Kept.refl _ | apply Kept.alloc | apply Kept.drew | apply kept_add | apply Kept.ext))) (p6.kept (by (try simp only [ext_ext]); repeat (first | exact Kept.refl _ | apply Kept.alloc | apply Kept.drew | apply kept_add | apply Kept.ext))) m1 m2 m3) ?_; rintro e w' ⟨rfl, y3, rfl⟩))
    all_goals
      go_wp2
      go_ret
      exact ⟨rfl, (by (try simp only [ext_ext]); repeat (first | exact Kept.refl _ | apply Kept.alloc | apply Kept.drew | apply kept_add | apply Kept.ext))⟩
  · go_enter Try.func4, Try.ntmps4
    go_wp2_with (first | (go_at_call 9; refine Calls.mono (hsz.out _) ?_; rintro e w' ⟨rfl, y, rfl⟩))
    go_ret
    exact ⟨rfl, (by (try simp only [ext_ext]); repeat (first | exact Kept.refl _ | apply Kept.alloc | apply Kept.drew | apply kept_add | apply Kept.ext))⟩
end Go.Proofs.Ytifkjbihmmdnbab
