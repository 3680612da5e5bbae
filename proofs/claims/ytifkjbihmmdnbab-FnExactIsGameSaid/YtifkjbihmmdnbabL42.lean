/- Walk: the law of IsGame. -/
import Derived.Test.YtifkjbihmmdnbabT37
import Derived.Test.YtifkjbihmmdnbabR3
namespace Go.Proofs.Ytifkjbihmmdnbab
open Go.RowKit
theorem sIsGame_any (s n : Int) (lo so wo : Option Addr) (lc sc wc : Nat) (laid : List Card) (scores wrong : List Int) (w : World) (hx : CardsAt w lo laid) (hy : IntsAt w so scores) (hz : IntsAt w wo wrong)
    (hl : laid.length ≤ 1048576) (hl2 : scores.length ≤ 1048576) (hl3 : wrong.length ≤ 1048576) (hlc : laid.length ≤ lc) :
    Calls Try.prog 10 #[gv s n (.slice lo laid.length lc) (.slice so scores.length sc) (.slice wo wrong.length wc)] w fun e w' => e = .returned (.bool (gameB s n laid scores wrong)) ∧ Kept w w' := by
  have hG := hid (fun w' (hk : Kept w w') => l8Game_any s n lo so wo lc sc wc laid scores wrong w' (hx.kept hk) (hy.kept hk) (hz.kept hk) hl hl2 hl3 hlc)
  go_enter Try.func10, Try.ntmps10
  go_wp2_with (first | (go_at_call 31; refine Calls.mono (hG.out _ ((by (try simp only [ext_ext]); repeat (first | exact Kept.refl _ | apply Kept.alloc | apply Kept.drew | apply kept_add | apply Kept.ext)))) ?_; rintro e w' ⟨rfl, y, rfl⟩))
  go_ret
  exact ⟨rfl, (by (try simp only [ext_ext]); repeat (first | exact Kept.refl _ | apply Kept.alloc | apply Kept.drew | apply kept_add | apply Kept.ext))⟩
theorem twoIsGame (s n : Int) (laid : List Card) (scores wrong : List Int) (hl : laid.length ≤ 1048576) (hl2 : scores.length ≤ 1048576) (hl3 : wrong.length ≤ 1048576) :
    ∃ b, (∀ (lo so wo : Option Addr) (lc sc wc : Nat) (w : World), CardsAt w lo laid → IntsAt w so scores → IntsAt w wo wrong → laid.length ≤ lc → Calls Try.prog 10 #[gv s n (.slice lo laid.length lc) (.slice so scores.length sc) (.slice wo wrong.length wc)] w fun e w' => e = .returned (.bool b) ∧ Kept w w') ∧
      (∀ (lo so wo : Option Addr) (lc sc wc : Nat) (w : World), CardsAt w lo laid → IntsAt w so scores → IntsAt w wo wrong → laid.length ≤ lc → Calls Try.prog 12 #[gv s n (.slice lo laid.length lc) (.slice so scores.length sc) (.slice wo wrong.length wc)] w fun e w' => e = .returned (.bool b) ∧ Kept w w') :=
  ⟨gameB s n laid scores wrong, fun _ _ _ _ _ _ _ hx hy hz hc => sIsGame_any _ _ _ _ _ _ _ _ _ _ _ _ hx hy hz hl hl2 hl3 hc, fun _ _ _ _ _ _ _ hx hy hz hc => IsGame_any _ _ _ _ _ _ _ _ _ _ _ _ hx hy hz hl hl2 hl3 hc⟩
set_option maxHeartbeats 1000000 in
theorem walk_FnExactIsGame (s n : Int) (lo so wo : Option Addr) (lc sc wc : Nat) (laid : List Card) (scores wrong : List Int) {w : World} (hx : CardsAt w lo laid) (hy : IntsAt w so scores) (hz : IntsAt w wo wrong) (hl : laid.length ≤ maxLen) (hl2 : scores.length ≤ maxLen) (hl3 : wrong.length ≤ maxLen) (_ : World) :
    Calls Try.prog 3 #[gv s n (.slice lo laid.length lc) (.slice so scores.length sc) (.slice wo wrong.length wc)] w fun e w' => e = .returned (.bool true) ∧ Kept w w' := by
  have b1 : laid.length ≤ 9223372036854775807 := by unfold maxLen at hl; omega
  have b2 : scores.length ≤ 9223372036854775807 := by unfold maxLen at hl2; omega
  have b3 : wrong.length ≤ 9223372036854775807 := by unfold maxLen at hl3; omega
  have hsz := hid (szGame_any s n lo so wo laid.length lc scores.length sc wrong.length wc b1 b2 b3)
  by_cases hn : laid.length + scores.length + wrong.length ≤ 1048576
  · have m1 : laid.length ≤ 1048576 := by omega
    have m2 : scores.length ≤ 1048576 := by omega
    have m3 : wrong.length ≤ 1048576 := by omega
    have hlo : ¬ ((1048576 : Int) - (laid.length : Int) - (scores.length : Int) - (wrong.length : Int) < 0) := by omega
    obtain ⟨b, hS, hI⟩ : ∃ b, (∀ (lo so wo : Option Addr) (lc sc wc : Nat) (w : World), CardsAt w lo laid → IntsAt w so scores → IntsAt w wo wrong → laid.length ≤ lc → Calls Try.prog 10 #[gv s n (.slice lo laid.length lc) (.slice so scores.length sc) (.slice wo wrong.length wc)] w fun e w' => e = .returned (.bool b) ∧ Kept w w') ∧ (∀ (lo so wo : Option Addr) (lc sc wc : Nat) (w : World), CardsAt w lo laid → IntsAt w so scores → IntsAt w wo wrong → laid.length ≤ lc → Calls Try.prog 12 #[gv s n (.slice lo laid.length lc) (.slice so scores.length sc) (.slice wo wrong.length wc)] w fun e w' => e = .returned (.bool b) ∧ Kept w w') := twoIsGame s n laid scores wrong m1 m2 m3
    have hSH := hid hS
    have hIH := hid hI
    clear hS hI
    go_enter Try.func3, Try.ntmps3
    go_wp2_with (first | (go_at_call 9; refine Calls.mono (hsz.out _) ?_; rintro e w' ⟨rfl, y, rfl⟩))
    (go_at_call 11; refine Calls.mono (toGame_any s n _ _ _ _ _ _ laid scores wrong _ (hx.kept (by (try simp only [ext_ext]); repeat (first | exact Kept.refl _ | apply Kept.alloc | apply Kept.drew | apply kept_add | apply Kept.ext))) (hy.kept (by (try simp only [ext_ext]); repeat (first | exact Kept.refl _ | apply Kept.alloc | apply Kept.drew | apply kept_add | apply Kept.ext))) (hz.kept (by (try simp only [ext_ext]); repeat (first | exact Kept.refl _ | apply Kept.alloc | apply Kept.drew | apply kept_add | apply Kept.ext))) m1 m2 m3) ?_; rintro e w' ⟨lo1, lc1, so1, sc1, wo1, wc1, rfl, p1, p2, p3, _, _, _, z1, rfl⟩)
    obtain ⟨_, _, hv1, x1, k1⟩ := p1.reads
    cases hv1
    obtain ⟨_, _, hv1, x2, _⟩ := p2.reads
    cases hv1
    obtain ⟨_, _, hv1, x3, _⟩ := p3.reads
    cases hv1
    clear p1 p2 p3
    go_wp2_with (fail)
    simp only [ext_ext] at x1 x2 x3
    (go_at_call 10; refine Calls.mono (hSH.out _ _ _ _ _ _ _ x1 x2 x3 k1) ?_; rintro e w' ⟨rfl, y1, rfl⟩)
    clear x1 x2 x3
    go_wp2_with (fail)
    (go_at_call 11; refine Calls.mono (toGame_any s n _ _ _ _ _ _ laid scores wrong _ (hx.kept (by (try simp only [ext_ext]); repeat (first | exact Kept.refl _ | apply Kept.alloc | apply Kept.drew | apply kept_add | apply Kept.ext))) (hy.kept (by (try simp only [ext_ext]); repeat (first | exact Kept.refl _ | apply Kept.alloc | apply Kept.drew | apply kept_add | apply Kept.ext))) (hz.kept (by (try simp only [ext_ext]); repeat (first | exact Kept.refl _ | apply Kept.alloc | apply Kept.drew | apply kept_add | apply Kept.ext))) m1 m2 m3) ?_; rintro e w' ⟨lo2, lc2, so2, sc2, wo2, wc2, rfl, p1, p2, p3, _, _, _, z2, rfl⟩)
    obtain ⟨_, _, hv1, x1, k2⟩ := p1.reads
    cases hv1
    obtain ⟨_, _, hv1, x2, _⟩ := p2.reads
    cases hv1
    obtain ⟨_, _, hv1, x3, _⟩ := p3.reads
    cases hv1
    go_wp2_with (fail)
    simp only [ext_ext] at p1 p2 p3 x1 x2 x3
    (go_at_call 12; refine Calls.mono (hIH.out _ _ _ _ _ _ _ (x1.kept (by (try simp only [ext_ext]); repeat (first | exact Kept.refl _ | apply Kept.alloc | apply Kept.drew | apply kept_add | apply Kept.ext))) (x2.kept (by (try simp only [ext_ext]); repeat (first | exact Kept.refl _ | apply Kept.alloc | apply Kept.drew | apply kept_add | apply Kept.ext))) (x3.kept (by (try simp only [ext_ext]); repeat (first | exact Kept.refl _ | apply Kept.alloc | apply Kept.drew | apply kept_add | apply Kept.ext))) k2) ?_; rintro e w' ⟨rfl, y2, rfl⟩)
    go_wp2_with (fail)
    clear x1 x2 x3 hSH hIH hsz
    go_region_with (first | (go_at_call 11; refine Calls.mono (toGame_any s n _ _ _ _ _ _ laid scores wrong _ (hx.kept (by (try simp only [ext_ext]); repeat (first | exact Kept.refl _ | apply Kept.alloc | apply Kept.drew | apply kept_add | apply Kept.ext))) (hy.kept (by (try simp only [ext_ext]); repeat (first | exact Kept.refl _ | apply Kept.alloc | apply Kept.drew | apply kept_add | apply Kept.ext))) (hz.kept (by (try simp only [ext_ext]); repeat (first | exact Kept.refl _ | apply Kept.alloc | apply Kept.drew | apply kept_add | apply Kept.ext))) m1 m2 m3) ?_; rintro e w' ⟨lo3, lc3, so3, sc3, wo3, wc3, rfl, p4, p5, p6, _, _, _, z3, rfl⟩; simp only [ext_ext] at p4 p5 p6) | (go_at_call 13; refine Calls.mono (eqGame_any s n _ _ _ _ _ _ _ _ _ _ _ _ _ _ laid scores wrong _ (p1.kept (by (try simp only [ext_ext]); repeat (first | exact Kept.refl _ | apply Kept.alloc | apply Kept.drew | apply kept_add | apply Kept.ext))) (p4.kept (by (try simp only [ext_ext]); repeat (first | exact Kept.refl _ | apply Kept.alloc | apply Kept.drew | apply kept_add | apply Kept.ext))) (p2.kept (by (try simp only [ext_ext]); repeat (first | exact Kept.refl _ | apply Kept.alloc | apply Kept.drew | apply kept_add | apply Kept.ext))) (p5.kept (by (try simp only [ext_ext]); repeat (first | exact Kept.refl _ | apply Kept.alloc | apply Kept.drew | apply kept_add | apply Kept.ext))) (p3.kept (by (try simp only [ext_ext]); repeat (first | exact Kept.refl _ | apply Kept.alloc | apply Kept.drew | apply kept_add | apply Kept.ext))) (p6.kept (by (try simp only [ext_ext]); repeat (first | exact Kept.refl _ | apply Kept.alloc | apply Kept.drew | apply kept_add | apply Kept.ext))) m1 m2 m3) ?_; rintro e w' ⟨rfl, y3, rfl⟩))
    all_goals
      go_wp2
      go_ret
      exact ⟨rfl, (by (try simp only [ext_ext]); repeat (first | exact Kept.refl _ | apply Kept.alloc | apply Kept.drew | apply kept_add | apply Kept.ext))⟩
  · go_enter Try.func3, Try.ntmps3
    go_wp2_with (first | (go_at_call 9; refine Calls.mono (hsz.out _) ?_; rintro e w' ⟨rfl, y, rfl⟩))
    go_ret
    exact ⟨rfl, (by (try simp only [ext_ext]); repeat (first | exact Kept.refl _ | apply Kept.alloc | apply Kept.drew | apply kept_add | apply Kept.ext))⟩
end Go.Proofs.Ytifkjbihmmdnbab
