/- Walk: the law of SumGhost. -/
import Derived.Test.YtlkjpammglljdaaT2
namespace Go.Proofs.Ytlkjpammglljdaa
open Go.RowKit
@[go_sem] theorem equalIn_card0 (x : Card) (w : World) : (Op.equalIn 10000 38 x.v (.agg #[.int .i64 0, .int .i64 0, .int .i64 0, .int .i64 0])).run Try.prog w = .ok (decide (x = ⟨0, 0, 0, 0⟩)) w := equalIn_card x ⟨0, 0, 0, 0⟩ w
theorem isSum0 (x : Card) (hx : isCard x = true) : decide (x = ⟨0, 0, 0, 0⟩) = decide (numC x = 0) := by
  obtain ⟨x1, x2, x3, x4⟩ := isCard_of hx
  obtain ⟨a, b, c, d⟩ := x
  simp only [Card.mk.injEq, numC] at *
  apply decide_eq_decide.2
  omega
/-- Six cards. -/
def isSix (xs : List Card) : Bool := isHand xs && decide (xs.length = 6)
def sumGhost (xs : List Card) : Bool := isSix xs && decide (numC (sumC xs) = 0)
theorem areSix_any (ao : Option Addr) (cap : Nat) (xs : List Card) (w : World) (hx : CardsAt w ao xs) (hl : xs.length ≤ 1048576) :
    Calls Try.prog 39 #[.slice ao xs.length cap] w fun e w' => e = .returned (.bool (isSix xs)) ∧ Kept w w' := by
  cases hh : isHand xs with
  | false =>
    go_enter Try.func39, Try.ntmps39
    go_wp2_with (first | (go_at_call 44; refine Calls.mono (IsHand_any _ _ _ _ hx hl) ?_; rintro e w' ⟨rfl, y, rfl⟩))
    go_ret
    exact ⟨ret_of (by simp [isSix, hh, nbeq6]), (by (try simp only [ext_ext]); repeat (first | exact Kept.refl _ | apply Kept.alloc | apply kept_add | apply Kept.ext))⟩
  | true =>
    go_enter Try.func39, Try.ntmps39
    go_wp2_with (first | (go_at_call 44; refine Calls.mono (IsHand_any _ _ _ _ hx hl) ?_; rintro e w' ⟨rfl, y, rfl⟩))
    go_ret
    exact ⟨ret_of (by simp [isSix, hh, nbeq6]), (by (try simp only [ext_ext]); repeat (first | exact Kept.refl _ | apply Kept.alloc | apply kept_add | apply Kept.ext))⟩
theorem sSumGhost_any (ao : Option Addr) (cap : Nat) (xs : List Card) (w : World) (hx : CardsAt w ao xs) (hl : xs.length ≤ 1048576) :
    Calls Try.prog 18 #[.slice ao xs.length cap] w fun e w' => e = .returned (.tuple #[.bool (sumGhost xs), .bool (isSix xs)]) ∧ Kept w w' := by
  cases hh : isHand xs with
  | false =>
    go_enter Try.func18, Try.ntmps18
    go_wp2_with (first | (go_at_call 37; refine Calls.mono (l2Hand_any _ _ _ _ hx hl) ?_; rintro e w' ⟨rfl, y, rfl⟩))
    go_ret2
    exact ⟨by simp [sumGhost, isSix, hh], (by (try simp only [ext_ext]); repeat (first | exact Kept.refl _ | apply Kept.alloc | apply kept_add | apply Kept.ext))⟩
  | true =>
    have hs := hid (isSum0 (sumC xs) (isCard_sumC xs))
    go_enter Try.func18, Try.ntmps18
    go_wp2_with (first | (go_at_call 37; refine Calls.mono (l2Hand_any _ _ _ _ hx hl) ?_; rintro e w' ⟨rfl, y, rfl⟩) | (go_at_call 38; refine Calls.mono (l2Sum_any _ _ _ _ (by first | assumption | exact CardsAt.kept (by assumption) (by (try simp only [ext_ext]); repeat (first | exact Kept.refl _ | apply Kept.alloc | apply kept_add | apply Kept.ext))) hl (areC_hand hh)) ?_; rintro e w' ⟨rfl, y, rfl⟩))
    · go_ret2
      rename_i h
      have h6 : ¬ xs.length = 6 := by simp at h; omega
      exact ⟨by simp [sumGhost, isSix, hh, h6], (by (try simp only [ext_ext]); repeat (first | exact Kept.refl _ | apply Kept.alloc | apply kept_add | apply Kept.ext))⟩
    · go_ret2
      rename_i h
      have h6 : xs.length = 6 := by simp at h; omega
      rw [hs.out]
      exact ⟨by simp [sumGhost, isSix, hh, h6], (by (try simp only [ext_ext]); repeat (first | exact Kept.refl _ | apply Kept.alloc | apply kept_add | apply Kept.ext))⟩
theorem iSumGhost_any (ao : Option Addr) (cap : Nat) (xs : List Card) (w : World) (hx : CardsAt w ao xs) (hl : xs.length ≤ 1048576) :
    Calls Try.prog 20 #[.slice ao xs.length cap] w fun e w' => e = .returned (.tuple #[.bool (sumGhost xs), .bool (isSix xs)]) ∧ Kept w w' := by
  cases hh : isSix xs with
  | false =>
    go_enter Try.func20, Try.ntmps20
    go_wp2_with (first | (go_at_call 39; refine Calls.mono (areSix_any _ _ _ _ hx hl) ?_; rintro e w' ⟨rfl, y, rfl⟩))
    go_ret2
    exact ⟨by simp [sumGhost, hh], (by (try simp only [ext_ext]); repeat (first | exact Kept.refl _ | apply Kept.alloc | apply kept_add | apply Kept.ext))⟩
  | true =>
    have h1 : isHand xs = true := by simp [isSix] at hh; exact hh.1
    have hc := isCard_sumC xs
    go_enter Try.func20, Try.ntmps20
    go_wp2_with (first | (go_at_call 39; refine Calls.mono (areSix_any _ _ _ _ hx hl) ?_; rintro e w' ⟨rfl, y, rfl⟩) | (go_at_call 41; refine Calls.mono (sum_any _ _ _ _ (by first | assumption | exact CardsAt.kept (by assumption) (by (try simp only [ext_ext]); repeat (first | exact Kept.refl _ | apply Kept.alloc | apply kept_add | apply Kept.ext))) hl (areC_hand h1)) ?_; rintro e w' ⟨rfl, y, rfl⟩) | (go_at_call 40; refine Calls.mono (number_any _ hc _) ?_; rintro e w' ⟨rfl, y, rfl⟩))
    go_ret2
    exact ⟨by simp [sumGhost, hh]; exact ibeq .., (by (try simp only [ext_ext]); repeat (first | exact Kept.refl _ | apply Kept.alloc | apply kept_add | apply Kept.ext))⟩
theorem walk_FnExactSumGhost (ao : Option Addr) (xs : List Card) (cap : Nat) {w : World} (hx : CardsAt w ao xs) (hl : xs.length ≤ maxLen) (_ : World) :
    Calls Try.prog 4 #[.slice ao xs.length cap] w fun e w' => e = .returned (.bool true) ∧ Kept w w' := by
  have hl' : xs.length ≤ 9223372036854775807 := by unfold maxLen at hl; omega
  by_cases hn : xs.length ≤ 1048576
  · go_enter Try.func4, Try.ntmps4
    go_wp2_with (first | (go_at_call 17; refine Calls.mono (szIntA4S_any _ _ _ hl' _) ?_; rintro e w' ⟨rfl, rfl⟩) | (go_at_call 19; refine Calls.mono (toIntA4S_any _ _ _ _ (by first | assumption | exact CardsAt.kept (by assumption) (by (try simp only [ext_ext]); repeat (first | exact Kept.refl _ | apply Kept.alloc | apply kept_add | apply Kept.ext))) hn) ?_; rintro e w' ⟨v, rfl, ho, z, rfl⟩; obtain ⟨ao', cap', rfl, hx', hcap'⟩ := ho.reads; clear ho) | (go_at_call 18; refine Calls.mono (sSumGhost_any _ _ _ _ (by first | assumption | exact CardsAt.kept (by assumption) (by (try simp only [ext_ext]); repeat (first | exact Kept.refl _ | apply Kept.alloc | apply kept_add | apply Kept.ext))) hn) ?_; rintro e w' ⟨rfl, y, rfl⟩) | (go_at_call 20; refine Calls.mono (iSumGhost_any _ _ _ _ (by first | assumption | exact CardsAt.kept (by assumption) (by (try simp only [ext_ext]); repeat (first | exact Kept.refl _ | apply Kept.alloc | apply kept_add | apply Kept.ext))) hn) ?_; rintro e w' ⟨rfl, y, rfl⟩) | (go_at_call 12; refine Calls.mono (eqIntA4S_any _ _ _ _ _ _ _ (by first | assumption | exact CardsAt.kept (by assumption) (by (try simp only [ext_ext]); repeat (first | exact Kept.refl _ | apply Kept.alloc | apply kept_add | apply Kept.ext))) (by first | assumption | exact CardsAt.kept (by assumption) (by (try simp only [ext_ext]); repeat (first | exact Kept.refl _ | apply Kept.alloc | apply kept_add | apply Kept.ext))) hn hn) ?_; rintro e w' ⟨rfl, y, rfl⟩))
    go_ret
    exact ⟨rfl, (by (try simp only [ext_ext]); repeat (first | exact Kept.refl _ | apply Kept.alloc | apply kept_add | apply Kept.ext))⟩
  · go_enter Try.func4, Try.ntmps4
    go_wp2_with (first | (go_at_call 17; refine Calls.mono (szIntA4S_any _ _ _ hl' _) ?_; rintro e w' ⟨rfl, rfl⟩))
    go_ret
    exact ⟨rfl, (by (try simp only [ext_ext]); repeat (first | exact Kept.refl _ | apply Kept.alloc | apply kept_add | apply Kept.ext))⟩
end Go.Proofs.Ytlkjpammglljdaa
