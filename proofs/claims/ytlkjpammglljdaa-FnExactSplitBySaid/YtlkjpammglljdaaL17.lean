/- Walk: the law of SplitBy. -/
import Derived.Test.YtlkjpammglljdaaT5
import Derived.Deep.RegionWith
namespace Go.Proofs.Ytlkjpammglljdaa
open Go.RowKit
def canSplit (xs : List Card) (u : Card) : Bool := isHand xs && isWeight u
theorem sSplitBy_no (ao : Option Addr) (cap : Nat) (xs : List Card) (u : Card) (w : World) (hx : CardsAt w ao xs) (hl : xs.length ≤ 1048576) (h : canSplit xs u = false) :
    Calls Try.prog 23 #[.slice ao xs.length cap, u.v] w fun e w' => e = .returned (.tuple #[v3 0 0 0, .bool false]) ∧ Kept w w' := by
  cases hh : isHand xs with
  | false =>
    go_enter Try.func23, Try.ntmps23
    go_wp2_with (first | (go_at_call 37; refine Calls.mono (l2Hand_any _ _ _ _ (by first | assumption | exact CardsAt.kept (by assumption) (by (try simp only [ext_ext]); repeat (first | exact Kept.refl _ | apply Kept.alloc | apply Kept.drew | apply kept_add | apply Kept.ext))) hl) ?_; rintro e w' ⟨rfl, y, rfl⟩))
    refine bodyPost_ret (v := .tuple #[v3 0 0 0, .bool false]) (by simp [results, Try.results23, go_sem]) rfl ⟨rfl, ?_⟩
    exact (by (try simp only [ext_ext]); repeat (first | exact Kept.refl _ | apply Kept.alloc | apply Kept.drew | apply kept_add | apply Kept.ext))
  | true =>
    have hy : isWeight u = false := by simpa [canSplit, hh] using h
    clear h
    go_enter Try.func23, Try.ntmps23
    go_wp2_with (first | (go_at_call 37; refine Calls.mono (l2Hand_any _ _ _ _ (by first | assumption | exact CardsAt.kept (by assumption) (by (try simp only [ext_ext]); repeat (first | exact Kept.refl _ | apply Kept.alloc | apply Kept.drew | apply kept_add | apply Kept.ext))) hl) ?_; rintro e w' ⟨rfl, y, rfl⟩) | (go_at_call 46; refine Calls.mono (l6Weight_any _ _) ?_; rintro e w' ⟨rfl, y, rfl⟩))
    refine bodyPost_ret (v := .tuple #[v3 0 0 0, .bool false]) (by simp [results, Try.results23, go_sem]) rfl ⟨rfl, ?_⟩
    exact (by (try simp only [ext_ext]); repeat (first | exact Kept.refl _ | apply Kept.alloc | apply Kept.drew | apply kept_add | apply Kept.ext))
theorem sSplitBy_yes (ao : Option Addr) (cap : Nat) (xs : List Card) (u : Card) (w : World) (hx : CardsAt w ao xs) (hl : xs.length ≤ 1048576) (h : canSplit xs u = true) :
    Calls Try.prog 23 #[.slice ao xs.length cap, u.v] w fun e w' => e = .returned (.tuple #[cnt3 (vals xs u) xs.length, .bool true]) ∧ Kept w w' := by
  obtain ⟨hh, hy⟩ : isHand xs = true ∧ isWeight u = true := by simpa [canSplit] using h
  have hc := areC_hand hh
  have hcy := isCard_of_weight hy
  clear h
  go_enter Try.func23, Try.ntmps23
  go_wp2_with (first | (go_at_call 37; refine Calls.mono (l2Hand_any _ _ _ _ (by first | assumption | exact CardsAt.kept (by assumption) (by (try simp only [ext_ext]); repeat (first | exact Kept.refl _ | apply Kept.alloc | apply Kept.drew | apply kept_add | apply Kept.ext))) hl) ?_; rintro e w' ⟨rfl, y, rfl⟩) | (go_at_call 46; refine Calls.mono (l6Weight_any _ _) ?_; rintro e w' ⟨rfl, y, rfl⟩) | (go_at_call 47; refine Calls.mono (l6Split_any _ _ _ _ _ (by first | assumption | exact CardsAt.kept (by assumption) (by (try simp only [ext_ext]); repeat (first | exact Kept.refl _ | apply Kept.alloc | apply Kept.drew | apply kept_add | apply Kept.ext))) hl hc hcy) ?_; rintro e w' ⟨rfl, y, rfl⟩))
  refine bodyPost_ret (v := .tuple #[cnt3 (vals xs u) xs.length, .bool true]) (by simp [results, Try.results23, go_sem]) rfl ⟨rfl, ?_⟩
  exact (by (try simp only [ext_ext]); repeat (first | exact Kept.refl _ | apply Kept.alloc | apply Kept.drew | apply kept_add | apply Kept.ext))
theorem iSplitBy_no (ao : Option Addr) (cap : Nat) (xs : List Card) (u : Card) (w : World) (hx : CardsAt w ao xs) (hl : xs.length ≤ 1048576) (h : canSplit xs u = false) :
    Calls Try.prog 25 #[.slice ao xs.length cap, u.v] w fun e w' => e = .returned (.tuple #[v3 0 0 0, .bool false]) ∧ Kept w w' := by
  cases hh : isHand xs with
  | false =>
    go_enter Try.func25, Try.ntmps25
    go_wp2_with (first | (go_at_call 44; refine Calls.mono (IsHand_any _ _ _ _ (by first | assumption | exact CardsAt.kept (by assumption) (by (try simp only [ext_ext]); repeat (first | exact Kept.refl _ | apply Kept.alloc | apply Kept.drew | apply kept_add | apply Kept.ext))) hl) ?_; rintro e w' ⟨rfl, y, rfl⟩))
    refine bodyPost_ret (v := .tuple #[v3 0 0 0, .bool false]) (by simp [results, Try.results25, go_sem]) rfl ⟨rfl, ?_⟩
    exact (by (try simp only [ext_ext]); repeat (first | exact Kept.refl _ | apply Kept.alloc | apply Kept.drew | apply kept_add | apply Kept.ext))
  | true =>
    have hy : isWeight u = false := by simpa [canSplit, hh] using h
    clear h
    go_enter Try.func25, Try.ntmps25
    go_wp2_with (first | (go_at_call 44; refine Calls.mono (IsHand_any _ _ _ _ (by first | assumption | exact CardsAt.kept (by assumption) (by (try simp only [ext_ext]); repeat (first | exact Kept.refl _ | apply Kept.alloc | apply Kept.drew | apply kept_add | apply Kept.ext))) hl) ?_; rintro e w' ⟨rfl, y, rfl⟩) | (go_at_call 48; refine Calls.mono (IsWeight_any _ _) ?_; rintro e w' ⟨rfl, y, rfl⟩))
    refine bodyPost_ret (v := .tuple #[v3 0 0 0, .bool false]) (by simp [results, Try.results25, go_sem]) rfl ⟨rfl, ?_⟩
    exact (by (try simp only [ext_ext]); repeat (first | exact Kept.refl _ | apply Kept.alloc | apply Kept.drew | apply kept_add | apply Kept.ext))
theorem iSplitBy_yes (ao : Option Addr) (cap : Nat) (xs : List Card) (u : Card) (w : World) (hx : CardsAt w ao xs) (hl : xs.length ≤ 1048576) (h : canSplit xs u = true) :
    Calls Try.prog 25 #[.slice ao xs.length cap, u.v] w fun e w' => e = .returned (.tuple #[cnt3 (vals xs u) xs.length, .bool true]) ∧ Kept w w' := by
  obtain ⟨hh, hy⟩ : isHand xs = true ∧ isWeight u = true := by simpa [canSplit] using h
  have hc := areC_hand hh
  have hcy := isCard_of_weight hy
  clear h
  go_enter Try.func25, Try.ntmps25
  go_wp2_with (first | (go_at_call 44; refine Calls.mono (IsHand_any _ _ _ _ (by first | assumption | exact CardsAt.kept (by assumption) (by (try simp only [ext_ext]); repeat (first | exact Kept.refl _ | apply Kept.alloc | apply Kept.drew | apply kept_add | apply Kept.ext))) hl) ?_; rintro e w' ⟨rfl, y, rfl⟩) | (go_at_call 48; refine Calls.mono (IsWeight_any _ _) ?_; rintro e w' ⟨rfl, y, rfl⟩) | (go_at_call 49; refine Calls.mono (split_any _ _ _ _ _ (by first | assumption | exact CardsAt.kept (by assumption) (by (try simp only [ext_ext]); repeat (first | exact Kept.refl _ | apply Kept.alloc | apply Kept.drew | apply kept_add | apply Kept.ext))) hl hc hcy) ?_; rintro e w' ⟨rfl, y, rfl⟩))
  refine bodyPost_ret (v := .tuple #[cnt3 (vals xs u) xs.length, .bool true]) (by simp [results, Try.results25, go_sem]) rfl ⟨rfl, ?_⟩
  exact (by (try simp only [ext_ext]); repeat (first | exact Kept.refl _ | apply Kept.alloc | apply Kept.drew | apply kept_add | apply Kept.ext))
set_option maxHeartbeats 4000000 in
theorem walk_FnExactSplitBy (ao : Option Addr) (xs : List Card) (cap : Nat) {w : World} (hx : CardsAt w ao xs) (hl : xs.length ≤ maxLen) (u : Card) (_ : World) :
    Calls Try.prog 6 #[.slice ao xs.length cap, u.v] w fun e w' => e = .returned (.bool true) ∧ Kept w w' := by
  have hl' : xs.length ≤ 9223372036854775807 := by unfold maxLen at hl; omega
  by_cases hn : xs.length ≤ 1048576
  · cases hg : canSplit xs u with
    | false =>
      go_enter Try.func6, Try.ntmps6
      go_wp2_with (first | (go_at_call 17; refine Calls.mono (szIntA4S_any _ _ _ hl' _) ?_; rintro e w' ⟨rfl, rfl⟩))
      go_region_with (first | (go_at_call 19; refine Calls.mono (toIntA4S_any _ _ _ _ (by first | assumption | exact CardsAt.kept (by assumption) (by (try simp only [ext_ext]); repeat (first | exact Kept.refl _ | apply Kept.alloc | apply Kept.drew | apply kept_add | apply Kept.ext))) hn) ?_; rintro e w' ⟨v, rfl, ho, z, rfl⟩; obtain ⟨ao', cap', rfl, hx', hcap'⟩ := ho.reads; clear ho) | (go_at_call 24; refine Calls.mono (toIntA4_any _ _) ?_; rintro e w' ⟨rfl, y, rfl⟩) | (go_at_call 23; refine Calls.mono (sSplitBy_no _ _ _ _ _ (by first | assumption | exact CardsAt.kept (by assumption) (by (try simp only [ext_ext]); repeat (first | exact Kept.refl _ | apply Kept.alloc | apply Kept.drew | apply kept_add | apply Kept.ext))) hn hg) ?_; rintro e w' ⟨rfl, y, rfl⟩))
      trace_state
      all_goals go_wp2_with (first | (go_at_call 19; refine Calls.mono (toIntA4S_any _ _ _ _ (by first | assumption | exact CardsAt.kept (by assumption) (by (try simp only [ext_ext]); repeat (first | exact Kept.refl _ | apply Kept.alloc | apply Kept.drew | apply kept_add | apply Kept.ext))) hn) ?_; rintro e w' ⟨v, rfl, ho, z, rfl⟩; obtain ⟨ao', cap', rfl, hx', hcap'⟩ := ho.reads; clear ho) | (go_at_call 24; refine Calls.mono (toIntA4_any _ _) ?_; rintro e w' ⟨rfl, y, rfl⟩) | (go_at_call 23; refine Calls.mono (sSplitBy_no _ _ _ _ _ (by first | assumption | exact CardsAt.kept (by assumption) (by (try simp only [ext_ext]); repeat (first | exact Kept.refl _ | apply Kept.alloc | apply Kept.drew | apply kept_add | apply Kept.ext))) hn hg) ?_; rintro e w' ⟨rfl, y, rfl⟩) | (go_at_call 25; refine Calls.mono (iSplitBy_no _ _ _ _ _ (by first | assumption | exact CardsAt.kept (by assumption) (by (try simp only [ext_ext]); repeat (first | exact Kept.refl _ | apply Kept.alloc | apply Kept.drew | apply kept_add | apply Kept.ext))) hn hg) ?_; rintro e w' ⟨rfl, y, rfl⟩) | (go_at_call 26; refine Calls.mono (eqIntA3_any _ _ _ _ _ _ _) ?_; rintro e w' ⟨rfl, y, rfl⟩) | (go_at_call 12; refine Calls.mono (eqIntA4S_any _ _ _ _ _ _ _ (by first | assumption | exact CardsAt.kept (by assumption) (by (try simp only [ext_ext]); repeat (first | exact Kept.refl _ | apply Kept.alloc | apply Kept.drew | apply kept_add | apply Kept.ext))) (by first | assumption | exact CardsAt.kept (by assumption) (by (try simp only [ext_ext]); repeat (first | exact Kept.refl _ | apply Kept.alloc | apply Kept.drew | apply kept_add | apply Kept.ext))) hn hn) ?_; rintro e w' ⟨rfl, y, rfl⟩))
      all_goals
        go_ret
        exact ⟨rfl, (by (try simp only [ext_ext]); repeat (first | exact Kept.refl _ | apply Kept.alloc | apply Kept.drew | apply kept_add | apply Kept.ext))⟩
    | true =>
      go_enter Try.func6, Try.ntmps6
      go_wp2_with (first | (go_at_call 17; refine Calls.mono (szIntA4S_any _ _ _ hl' _) ?_; rintro e w' ⟨rfl, rfl⟩))
      go_region_with (first | (go_at_call 19; refine Calls.mono (toIntA4S_any _ _ _ _ (by first | assumption | exact CardsAt.kept (by assumption) (by (try simp only [ext_ext]); repeat (first | exact Kept.refl _ | apply Kept.alloc | apply Kept.drew | apply kept_add | apply Kept.ext))) hn) ?_; rintro e w' ⟨v, rfl, ho, z, rfl⟩; obtain ⟨ao', cap', rfl, hx', hcap'⟩ := ho.reads; clear ho) | (go_at_call 24; refine Calls.mono (toIntA4_any _ _) ?_; rintro e w' ⟨rfl, y, rfl⟩) | (go_at_call 23; refine Calls.mono (sSplitBy_yes _ _ _ _ _ (by first | assumption | exact CardsAt.kept (by assumption) (by (try simp only [ext_ext]); repeat (first | exact Kept.refl _ | apply Kept.alloc | apply Kept.drew | apply kept_add | apply Kept.ext))) hn hg) ?_; rintro e w' ⟨rfl, y, rfl⟩))
      trace_state
      all_goals go_wp2_with (first | (go_at_call 19; refine Calls.mono (toIntA4S_any _ _ _ _ (by first | assumption | exact CardsAt.kept (by assumption) (by (try simp only [ext_ext]); repeat (first | exact Kept.refl _ | apply Kept.alloc | apply Kept.drew | apply kept_add | apply Kept.ext))) hn) ?_; rintro e w' ⟨v, rfl, ho, z, rfl⟩; obtain ⟨ao', cap', rfl, hx', hcap'⟩ := ho.reads; clear ho) | (go_at_call 24; refine Calls.mono (toIntA4_any _ _) ?_; rintro e w' ⟨rfl, y, rfl⟩) | (go_at_call 23; refine Calls.mono (sSplitBy_yes _ _ _ _ _ (by first | assumption | exact CardsAt.kept (by assumption) (by (try simp only [ext_ext]); repeat (first | exact Kept.refl _ | apply Kept.alloc | apply Kept.drew | apply kept_add | apply Kept.ext))) hn hg) ?_; rintro e w' ⟨rfl, y, rfl⟩) | (go_at_call 25; refine Calls.mono (iSplitBy_yes _ _ _ _ _ (by first | assumption | exact CardsAt.kept (by assumption) (by (try simp only [ext_ext]); repeat (first | exact Kept.refl _ | apply Kept.alloc | apply Kept.drew | apply kept_add | apply Kept.ext))) hn hg) ?_; rintro e w' ⟨rfl, y, rfl⟩) | (go_at_call 26; refine Calls.mono (eqIntA3_any _ _ _ _ _ _ _) ?_; rintro e w' ⟨rfl, y, rfl⟩) | (go_at_call 12; refine Calls.mono (eqIntA4S_any _ _ _ _ _ _ _ (by first | assumption | exact CardsAt.kept (by assumption) (by (try simp only [ext_ext]); repeat (first | exact Kept.refl _ | apply Kept.alloc | apply Kept.drew | apply kept_add | apply Kept.ext))) (by first | assumption | exact CardsAt.kept (by assumption) (by (try simp only [ext_ext]); repeat (first | exact Kept.refl _ | apply Kept.alloc | apply Kept.drew | apply kept_add | apply Kept.ext))) hn hn) ?_; rintro e w' ⟨rfl, y, rfl⟩))
      all_goals
        go_ret
        exact ⟨rfl, (by (try simp only [ext_ext]); repeat (first | exact Kept.refl _ | apply Kept.alloc | apply Kept.drew | apply kept_add | apply Kept.ext))⟩
  · go_enter Try.func6, Try.ntmps6
    go_wp2_with (first | (go_at_call 17; refine Calls.mono (szIntA4S_any _ _ _ hl' _) ?_; rintro e w' ⟨rfl, rfl⟩))
    go_ret
    exact ⟨rfl, (by (try simp only [ext_ext]); repeat (first | exact Kept.refl _ | apply Kept.alloc | apply Kept.drew | apply kept_add | apply Kept.ext))⟩
end Go.Proofs.Ytlkjpammglljdaa
