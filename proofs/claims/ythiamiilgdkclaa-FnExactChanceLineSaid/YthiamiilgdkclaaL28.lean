/- Walk: the law of ChanceLine. -/
import Derived.Test.YthiamiilgdkclaaT14
import Derived.Test.YthiamiilgdkclaaC2
namespace Go.Proofs.Ythiamiilgdkclaa
open Go.RowKit
def three (xs : List Card) : Bool := isHand xs && decide (3 ≤ xs.length)
abbrev chanceLine (xs : List Card) : Value := v2 (cutN (linesC xs).length (chooseL xs.length 3)) (cutD (linesC xs).length (chooseL xs.length 3))
theorem sChanceLine_no (ao : Option Addr) (cap : Nat) (xs : List Card) (w : World) (hx : CardsAt w ao xs) (hl : xs.length ≤ 1048576) (h : three xs = false) :
    Calls Try.prog 15 #[.slice ao xs.length cap] w fun e w' => e = .returned (.tuple #[v2 0 0, .bool false]) ∧ Kept w w' := by
  cases hh : isHand xs with
  | false =>
    go_enter Try.func15, Try.ntmps15
    go_wp2_with (first | (go_at_call 44; refine Calls.mono (l2Hand_any _ _ _ _ (by first | assumption | exact CardsAt.kept (by assumption) (by (try simp only [ext_ext]); repeat (first | exact Kept.refl _ | apply Kept.alloc | apply Kept.drew | apply kept_add | apply Kept.ext))) hl) ?_; rintro e w' ⟨rfl, y, rfl⟩))
    refine bodyPost_ret (v := .tuple #[v2 0 0, .bool false]) (by simp [results, Try.results15, go_sem]) rfl ⟨rfl, ?_⟩
    exact (by (try simp only [ext_ext]); repeat (first | exact Kept.refl _ | apply Kept.alloc | apply Kept.drew | apply kept_add | apply Kept.ext))
  | true =>
    have hn : ¬ 3 ≤ xs.length := by simpa [three, hh] using h
    have hn' : xs.length < 3 := by omega
    clear hn h
    go_enter Try.func15, Try.ntmps15
    go_wp2_with (first | (go_at_call 44; refine Calls.mono (l2Hand_any _ _ _ _ (by first | assumption | exact CardsAt.kept (by assumption) (by (try simp only [ext_ext]); repeat (first | exact Kept.refl _ | apply Kept.alloc | apply Kept.drew | apply kept_add | apply Kept.ext))) hl) ?_; rintro e w' ⟨rfl, y, rfl⟩))
    refine bodyPost_ret (v := .tuple #[v2 0 0, .bool false]) (by simp [results, Try.results15, go_sem]) rfl ⟨rfl, ?_⟩
    exact (by (try simp only [ext_ext]); repeat (first | exact Kept.refl _ | apply Kept.alloc | apply Kept.drew | apply kept_add | apply Kept.ext))
theorem iChanceLine_no (ao : Option Addr) (cap : Nat) (xs : List Card) (w : World) (hx : CardsAt w ao xs) (hl : xs.length ≤ 1048576) (h : three xs = false) :
    Calls Try.prog 17 #[.slice ao xs.length cap] w fun e w' => e = .returned (.tuple #[v2 0 0, .bool false]) ∧ Kept w w' := by
  cases hh : isHand xs with
  | false =>
    go_enter Try.func17, Try.ntmps17
    go_wp2_with (first | (go_at_call 49; refine Calls.mono (IsHand_any _ _ _ _ (by first | assumption | exact CardsAt.kept (by assumption) (by (try simp only [ext_ext]); repeat (first | exact Kept.refl _ | apply Kept.alloc | apply Kept.drew | apply kept_add | apply Kept.ext))) hl) ?_; rintro e w' ⟨rfl, y, rfl⟩))
    refine bodyPost_ret (v := .tuple #[v2 0 0, .bool false]) (by simp [results, Try.results17, go_sem]) rfl ⟨rfl, ?_⟩
    exact (by (try simp only [ext_ext]); repeat (first | exact Kept.refl _ | apply Kept.alloc | apply Kept.drew | apply kept_add | apply Kept.ext))
  | true =>
    have hn : ¬ 3 ≤ xs.length := by simpa [three, hh] using h
    have hn' : xs.length < 3 := by omega
    clear hn h
    go_enter Try.func17, Try.ntmps17
    go_wp2_with (first | (go_at_call 49; refine Calls.mono (IsHand_any _ _ _ _ (by first | assumption | exact CardsAt.kept (by assumption) (by (try simp only [ext_ext]); repeat (first | exact Kept.refl _ | apply Kept.alloc | apply Kept.drew | apply kept_add | apply Kept.ext))) hl) ?_; rintro e w' ⟨rfl, y, rfl⟩))
    refine bodyPost_ret (v := .tuple #[v2 0 0, .bool false]) (by simp [results, Try.results17, go_sem]) rfl ⟨rfl, ?_⟩
    exact (by (try simp only [ext_ext]); repeat (first | exact Kept.refl _ | apply Kept.alloc | apply Kept.drew | apply kept_add | apply Kept.ext))
theorem sChanceLine_yes (ao : Option Addr) (cap : Nat) (xs : List Card) (w : World) (hx : CardsAt w ao xs) (h : three xs = true) :
    Calls Try.prog 15 #[.slice ao xs.length cap] w fun e w' => e = .returned (.tuple #[chanceLine xs, .bool true]) ∧ Kept w w' := by
  have hh : isHand xs = true := by simp [three] at h; exact h.1
  have h3 : 3 ≤ xs.length := by simp [three] at h; exact h.2
  have hl27 := (isHand_of hh).1
  have hc := areC_hand hh
  have hll := linesC_len xs (by omega)
  obtain ⟨_, _, _, h4⟩ := choose_ok (n := xs.length) (i := 3) (by omega) (by omega)
  have h5 := choose_pos (n := xs.length) (i := 3) (by omega) (by omega) h3
  clear h
  go_enter Try.func15, Try.ntmps15
  go_wp2_with (first | (go_at_call 44; refine Calls.mono (l2Hand_any _ _ _ _ (by first | assumption | exact CardsAt.kept (by assumption) (by (try simp only [ext_ext]); repeat (first | exact Kept.refl _ | apply Kept.alloc | apply Kept.drew | apply kept_add | apply Kept.ext))) (by omega)) ?_; rintro e w' ⟨rfl, y, rfl⟩) | (go_at_call 46; refine Calls.mono (l2Lines_any _ _ _ _ (by first | assumption | exact CardsAt.kept (by assumption) (by (try simp only [ext_ext]); repeat (first | exact Kept.refl _ | apply Kept.alloc | apply Kept.drew | apply kept_add | apply Kept.ext))) (by omega) hc) ?_; rintro e w' ⟨v, rfl, ho, z, rfl⟩; obtain ⟨ao', cap', rfl, hx', hcap'⟩ := ho.reads; clear ho) | (go_at_call 47; refine Calls.mono (l9Choose_any xs.length 3 (by omega) (by omega) _) ?_; rintro e w' ⟨rfl, rfl⟩) | (go_at_call 45; refine Calls.mono (l9Cut_any _ _ (by omega) (by omega) h5 h4 _) ?_; rintro e w' ⟨rfl, y, rfl⟩))
  refine bodyPost_ret (v := .tuple #[chanceLine xs, .bool true]) (by simp [results, Try.results15, go_sem]) rfl ⟨rfl, ?_⟩
  exact (by (try simp only [ext_ext]); repeat (first | exact Kept.refl _ | apply Kept.alloc | apply Kept.drew | apply kept_add | apply Kept.ext))
theorem iChanceLine_yes (ao : Option Addr) (cap : Nat) (xs : List Card) (w : World) (hx : CardsAt w ao xs) (h : three xs = true) :
    Calls Try.prog 17 #[.slice ao xs.length cap] w fun e w' => e = .returned (.tuple #[chanceLine xs, .bool true]) ∧ Kept w w' := by
  have hh : isHand xs = true := by simp [three] at h; exact h.1
  have h3 : 3 ≤ xs.length := by simp [three] at h; exact h.2
  have hl27 := (isHand_of hh).1
  have hc := areC_hand hh
  have hll := linesC_len xs (by omega)
  obtain ⟨_, _, _, h4⟩ := choose_ok (n := xs.length) (i := 3) (by omega) (by omega)
  have h5 := choose_pos (n := xs.length) (i := 3) (by omega) (by omega) h3
  clear h
  go_enter Try.func17, Try.ntmps17
  go_wp2_with (first | (go_at_call 49; refine Calls.mono (IsHand_any _ _ _ _ (by first | assumption | exact CardsAt.kept (by assumption) (by (try simp only [ext_ext]); repeat (first | exact Kept.refl _ | apply Kept.alloc | apply Kept.drew | apply kept_add | apply Kept.ext))) (by omega)) ?_; rintro e w' ⟨rfl, y, rfl⟩) | (go_at_call 51; refine Calls.mono (linesIn_any _ _ _ _ (by first | assumption | exact CardsAt.kept (by assumption) (by (try simp only [ext_ext]); repeat (first | exact Kept.refl _ | apply Kept.alloc | apply Kept.drew | apply kept_add | apply Kept.ext))) (by omega) hc (distC_hand hh)) ?_; rintro e w' ⟨v, rfl, ho, z, rfl⟩; obtain ⟨ao', cap', rfl, hx', hcap'⟩ := ho.reads; clear ho) | (go_at_call 52; refine Calls.mono (choose_any xs.length 3 (by omega) (by omega) _) ?_; rintro e w' ⟨rfl, rfl⟩) | (go_at_call 50; refine Calls.mono (fraction_any _ _ (by omega) (by omega) h5 h4 _) ?_; rintro e w' ⟨rfl, y, rfl⟩))
  refine bodyPost_ret (v := .tuple #[chanceLine xs, .bool true]) (by simp [results, Try.results17, go_sem]) rfl ⟨rfl, ?_⟩
  exact (by (try simp only [ext_ext]); repeat (first | exact Kept.refl _ | apply Kept.alloc | apply Kept.drew | apply kept_add | apply Kept.ext))
theorem walk_FnExactChanceLine (ao : Option Addr) (xs : List Card) (cap : Nat) {w : World} (hx : CardsAt w ao xs) (hl : xs.length ≤ maxLen) (_ : World) :
    Calls Try.prog 4 #[.slice ao xs.length cap] w fun e w' => e = .returned (.bool true) ∧ Kept w w' := by
  have hl' : xs.length ≤ 9223372036854775807 := by unfold maxLen at hl; omega
  by_cases hn : xs.length ≤ 1048576
  · cases hg : three xs with
    | false =>
      go_enter Try.func4, Try.ntmps4
      go_wp2_with (first | (go_at_call 14; refine Calls.mono (szIntA4S_any _ _ _ hl' _) ?_; rintro e w' ⟨rfl, rfl⟩) | (go_at_call 16; refine Calls.mono (toIntA4S_any _ _ _ _ (by first | assumption | exact CardsAt.kept (by assumption) (by (try simp only [ext_ext]); repeat (first | exact Kept.refl _ | apply Kept.alloc | apply Kept.drew | apply kept_add | apply Kept.ext))) hn) ?_; rintro e w' ⟨v, rfl, ho, z, rfl⟩; obtain ⟨ao', cap', rfl, hx', hcap'⟩ := ho.reads; clear ho) | (go_at_call 15; refine Calls.mono (sChanceLine_no _ _ _ _ (by first | assumption | exact CardsAt.kept (by assumption) (by (try simp only [ext_ext]); repeat (first | exact Kept.refl _ | apply Kept.alloc | apply Kept.drew | apply kept_add | apply Kept.ext))) hn hg) ?_; rintro e w' ⟨rfl, y, rfl⟩) | (go_at_call 17; refine Calls.mono (iChanceLine_no _ _ _ _ (by first | assumption | exact CardsAt.kept (by assumption) (by (try simp only [ext_ext]); repeat (first | exact Kept.refl _ | apply Kept.alloc | apply Kept.drew | apply kept_add | apply Kept.ext))) hn hg) ?_; rintro e w' ⟨rfl, y, rfl⟩) | (go_at_call 19; refine Calls.mono (eqIntA4S_any _ _ _ _ _ _ _ (by first | assumption | exact CardsAt.kept (by assumption) (by (try simp only [ext_ext]); repeat (first | exact Kept.refl _ | apply Kept.alloc | apply Kept.drew | apply kept_add | apply Kept.ext))) (by first | assumption | exact CardsAt.kept (by assumption) (by (try simp only [ext_ext]); repeat (first | exact Kept.refl _ | apply Kept.alloc | apply Kept.drew | apply kept_add | apply Kept.ext))) hn hn) ?_; rintro e w' ⟨rfl, y, rfl⟩) | (go_at_call 18; refine Calls.mono (eqIntA2_any _ _ _ _ _) ?_; rintro e w' ⟨rfl, y, rfl⟩))
      all_goals
        go_ret
        exact ⟨rfl, (by (try simp only [ext_ext]); repeat (first | exact Kept.refl _ | apply Kept.alloc | apply Kept.drew | apply kept_add | apply Kept.ext))⟩
    | true =>
      go_enter Try.func4, Try.ntmps4
      go_wp2_with (first | (go_at_call 14; refine Calls.mono (szIntA4S_any _ _ _ hl' _) ?_; rintro e w' ⟨rfl, rfl⟩) | (go_at_call 16; refine Calls.mono (toIntA4S_any _ _ _ _ (by first | assumption | exact CardsAt.kept (by assumption) (by (try simp only [ext_ext]); repeat (first | exact Kept.refl _ | apply Kept.alloc | apply Kept.drew | apply kept_add | apply Kept.ext))) hn) ?_; rintro e w' ⟨v, rfl, ho, z, rfl⟩; obtain ⟨ao', cap', rfl, hx', hcap'⟩ := ho.reads; clear ho) | (go_at_call 15; refine Calls.mono (sChanceLine_yes _ _ _ _ (by first | assumption | exact CardsAt.kept (by assumption) (by (try simp only [ext_ext]); repeat (first | exact Kept.refl _ | apply Kept.alloc | apply Kept.drew | apply kept_add | apply Kept.ext))) hg) ?_; rintro e w' ⟨rfl, y, rfl⟩) | (go_at_call 17; refine Calls.mono (iChanceLine_yes _ _ _ _ (by first | assumption | exact CardsAt.kept (by assumption) (by (try simp only [ext_ext]); repeat (first | exact Kept.refl _ | apply Kept.alloc | apply Kept.drew | apply kept_add | apply Kept.ext))) hg) ?_; rintro e w' ⟨rfl, y, rfl⟩) | (go_at_call 19; refine Calls.mono (eqIntA4S_any _ _ _ _ _ _ _ (by first | assumption | exact CardsAt.kept (by assumption) (by (try simp only [ext_ext]); repeat (first | exact Kept.refl _ | apply Kept.alloc | apply Kept.drew | apply kept_add | apply Kept.ext))) (by first | assumption | exact CardsAt.kept (by assumption) (by (try simp only [ext_ext]); repeat (first | exact Kept.refl _ | apply Kept.alloc | apply Kept.drew | apply kept_add | apply Kept.ext))) hn hn) ?_; rintro e w' ⟨rfl, y, rfl⟩) | (go_at_call 18; refine Calls.mono (eqIntA2_any _ _ _ _ _) ?_; rintro e w' ⟨rfl, y, rfl⟩))
      all_goals
        go_ret
        exact ⟨rfl, (by (try simp only [ext_ext]); repeat (first | exact Kept.refl _ | apply Kept.alloc | apply Kept.drew | apply kept_add | apply Kept.ext))⟩
  · go_enter Try.func4, Try.ntmps4
    go_wp2_with (first | (go_at_call 14; refine Calls.mono (szIntA4S_any _ _ _ hl' _) ?_; rintro e w' ⟨rfl, rfl⟩))
    go_ret
    exact ⟨rfl, (by (try simp only [ext_ext]); repeat (first | exact Kept.refl _ | apply Kept.alloc | apply Kept.drew | apply kept_add | apply Kept.ext))⟩
end Go.Proofs.Ythiamiilgdkclaa
