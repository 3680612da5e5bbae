/- Walk: the law of MeanDiffer. -/
import Derived.Test.YtlkjpammglljdabT3
import Derived.Test.YtlkjpammglljdabC2
namespace Go.Proofs.Ytlkjpammglljdab
open Go.RowKit
def dSum (xs : List Card) (k : Nat) : Int := rsum k fun i => rsum i fun j => differC (cx xs i) (cx xs j)
def dIn (xs : List Card) (i k : Nat) : Int := rsum k fun j => differC (cx xs i) (cx xs j)
theorem dIn_bd (xs : List Card) (i k : Nat) (h : k ≤ 27) : 0 ≤ dIn xs i k ∧ dIn xs i k ≤ 108 := by
  have := rsum_bd (n := k) (f := fun j => differC (cx xs i) (cx xs j)) (b := 4) fun j _ => differC_bd _ _
  unfold dIn; omega
theorem dSum_bd (xs : List Card) (k : Nat) (h : k ≤ 27) : 0 ≤ dSum xs k ∧ dSum xs k ≤ 2916 := by
  have := rsum_bd (n := k) (f := fun i => rsum i fun j => differC (cx xs i) (cx xs j)) (b := 108) fun i hi => dIn_bd xs i i (by omega)
  unfold dSum; omega
theorem dSum_next (xs : List Card) (k : Nat) : dSum xs (k + 1) = dSum xs k + dIn xs k k := rfl
theorem dIn_next (xs : List Card) (i k : Nat) : dIn xs i (k + 1) = dIn xs i k + differC (cx xs i) (cx xs k) := rfl
def two (xs : List Card) : Bool := isHand xs && decide (2 ≤ xs.length)
abbrev meanDiffer (xs : List Card) : Value := v2 (cutN (dSum xs xs.length) (chooseL xs.length 2)) (cutD (dSum xs xs.length) (chooseL xs.length 2))
theorem sMeanDiffer_no (ao : Option Addr) (cap : Nat) (xs : List Card) (w : World) (hx : CardsAt w ao xs) (hl : xs.length ≤ 1048576) (h : two xs = false) :
    Calls Try.prog 15 #[.slice ao xs.length cap] w fun e w' => e = .returned (.tuple #[v2 0 0, .bool false]) ∧ Kept w w' := by
  cases hh : isHand xs with
  | false =>
    go_enter Try.func15, Try.ntmps15
    go_wp2_with (first | (go_at_call 27; refine Calls.mono (l2Hand_any _ _ _ _ (by first | assumption | exact CardsAt.kept (by assumption) (by (try simp only [ext_ext]); repeat (first | exact Kept.refl _ | apply Kept.alloc | apply kept_add | apply Kept.ext))) hl) ?_; rintro e w' ⟨rfl, y, rfl⟩))
    refine bodyPost_ret (v := .tuple #[v2 0 0, .bool false]) (by simp [results, Try.results15, go_sem]) rfl ⟨rfl, ?_⟩
    exact (by (try simp only [ext_ext]); repeat (first | exact Kept.refl _ | apply Kept.alloc | apply kept_add | apply Kept.ext))
  | true =>
    have hn : ¬ 2 ≤ xs.length := by simpa [two, hh] using h
    have hn' : xs.length < 2 := by omega
    clear hn h
    go_enter Try.func15, Try.ntmps15
    go_wp2_with (first | (go_at_call 27; refine Calls.mono (l2Hand_any _ _ _ _ (by first | assumption | exact CardsAt.kept (by assumption) (by (try simp only [ext_ext]); repeat (first | exact Kept.refl _ | apply Kept.alloc | apply kept_add | apply Kept.ext))) hl) ?_; rintro e w' ⟨rfl, y, rfl⟩))
    refine bodyPost_ret (v := .tuple #[v2 0 0, .bool false]) (by simp [results, Try.results15, go_sem]) rfl ⟨rfl, ?_⟩
    exact (by (try simp only [ext_ext]); repeat (first | exact Kept.refl _ | apply Kept.alloc | apply kept_add | apply Kept.ext))
theorem sMeanDiffer_yes (ao : Option Addr) (cap : Nat) (xs : List Card) (w : World) (hx : CardsAt w ao xs) (h : two xs = true) :
    Calls Try.prog 15 #[.slice ao xs.length cap] w fun e w' => e = .returned (.tuple #[meanDiffer xs, .bool true]) ∧ Kept w w' := by
  have hh : isHand xs = true := by simp [two] at h; exact h.1
  have h2 : 2 ≤ xs.length := by simp [two] at h; exact h.2
  have hl27 := (isHand_of hh).1
  clear h
  go_enter Try.func15, Try.ntmps15
  go_wp2_with (first | (go_at_call 27; refine Calls.mono (l2Hand_any _ _ _ _ (by first | assumption | exact CardsAt.kept (by assumption) (by (try simp only [ext_ext]); repeat (first | exact Kept.refl _ | apply Kept.alloc | apply kept_add | apply Kept.ext))) (by omega)) ?_; rintro e w' ⟨rfl, y, rfl⟩))
  go_loopw [5, 4] (fun i s wr => ∃ k : Nat, k ≤ xs.length ∧ i = .int .i64 k ∧ s = .int .i64 (dSum xs k) ∧ Kept (w.alloc (.cells #[.int .i64 0, .int .i64 0] 31)) wr) (fun i _ _ => xs.length - (intOf i).toNat)
  case atStart => exact ⟨0, Nat.zero_le _, rfl, rfl, (by (try simp only [ext_ext]); repeat (first | exact Kept.refl _ | apply Kept.alloc | apply kept_add | apply Kept.ext))⟩
  case round =>
    obtain ⟨k, hk, rfl, rfl, z, rfl⟩ := hrel
    by_cases hlt : k < xs.length
    · have hb := dSum_bd xs k (by omega)
      go_wp2
      go_loopw [6, 4] (fun j s wr => ∃ m : Nat, m ≤ k ∧ j = .int .i64 m ∧ s = .int .i64 (dSum xs k + dIn xs k m) ∧ Kept (w.alloc (.cells #[.int .i64 0, .int .i64 0] 31)) wr) (fun j _ _ => k - (intOf j).toNat)
      case atStart => exact ⟨0, Nat.zero_le _, rfl, by simp [dIn, rsum], (by (try simp only [ext_ext]); repeat (first | exact Kept.refl _ | apply Kept.alloc | apply kept_add | apply Kept.ext))⟩
      case round =>
        obtain ⟨m, hm, rfl, rfl, z, rfl⟩ := hrel
        have hb2 := dIn_bd xs k m (by omega)
        by_cases hlt2 : m < k
        · obtain ⟨g, off, rfl, hg, h1, h2, h3, h4⟩ := hx k hlt
          obtain ⟨g', off', he, hg', p1, p2, p3, p4⟩ := hx m (by omega)
          cases he
          have hd := differC_bd (cx xs k) (cx xs m)
          have hml : m < xs.length := by omega
          have g1 : g < w.heap.size + 1 := by omega
          have g2 : g < w.heap.size + 1 + z.os.length := by omega
          go_wp2_with (first | (refine wp_region_ext (by kernel_rfl) (by kernel_rfl) ?_; (repeat (go_big_quiet_step (((go_at_call 36; first | exact ext_call (l2Differ_any _ _ _) | exact ext_call2 (l2Differ_any _ _ _)))))); refine wpQuiet_end fun z => ?_))
          go_roundw
          case rel => exact ⟨m + 1, hlt2, by go_num, by rw [dIn_next]; go_num, (by (try simp only [ext_ext]); repeat (first | exact Kept.refl _ | apply Kept.alloc | apply kept_add | apply Kept.ext))⟩
          case measure => simp [intOf]; omega
        · obtain rfl : m = k := by omega
          go_wp2
          go_roundw
          case rel => exact ⟨m + 1, hlt, by go_num, by rw [dSum_next], (by (try simp only [ext_ext]); repeat (first | exact Kept.refl _ | apply Kept.alloc | apply kept_add | apply Kept.ext))⟩
          case measure => simp [intOf]; omega
    · obtain rfl : k = xs.length := by omega
      have hb := dSum_bd xs xs.length (by omega)
      obtain ⟨_, _, _, h4⟩ := choose_ok (n := xs.length) (i := 2) (by omega) (by omega)
      have h3 := choose_pos (n := xs.length) (i := 2) (by omega) (by omega) h2
      go_wp2_with (first | (go_at_call 38; refine Calls.mono (l9Choose_any xs.length 2 (by omega) (by omega) _) ?_; rintro e w' ⟨rfl, rfl⟩) | (go_at_call 37; refine Calls.mono (l9Cut_any _ _ hb.1 (by omega) h3 h4 _) ?_; rintro e w' ⟨rfl, y, rfl⟩))
      refine bodyPost_ret (v := .tuple #[meanDiffer xs, .bool true]) (by simp [results, Try.results15, go_sem]) rfl ⟨rfl, ?_⟩
      exact (by (try simp only [ext_ext]); repeat (first | exact Kept.refl _ | apply Kept.alloc | apply kept_add | apply Kept.ext))
theorem iMeanDiffer_no (ao : Option Addr) (cap : Nat) (xs : List Card) (w : World) (hx : CardsAt w ao xs) (hl : xs.length ≤ 1048576) (h : two xs = false) :
    Calls Try.prog 16 #[.slice ao xs.length cap] w fun e w' => e = .returned (.tuple #[v2 0 0, .bool false]) ∧ Kept w w' := by
  cases hh : isHand xs with
  | false =>
    go_enter Try.func16, Try.ntmps16
    go_wp2_with (first | (go_at_call 31; refine Calls.mono (IsHand_any _ _ _ _ (by first | assumption | exact CardsAt.kept (by assumption) (by (try simp only [ext_ext]); repeat (first | exact Kept.refl _ | apply Kept.alloc | apply kept_add | apply Kept.ext))) hl) ?_; rintro e w' ⟨rfl, y, rfl⟩))
    refine bodyPost_ret (v := .tuple #[v2 0 0, .bool false]) (by simp [results, Try.results16, go_sem]) rfl ⟨rfl, ?_⟩
    exact (by (try simp only [ext_ext]); repeat (first | exact Kept.refl _ | apply Kept.alloc | apply kept_add | apply Kept.ext))
  | true =>
    have hn : ¬ 2 ≤ xs.length := by simpa [two, hh] using h
    have hn' : xs.length < 2 := by omega
    clear hn h
    go_enter Try.func16, Try.ntmps16
    go_wp2_with (first | (go_at_call 31; refine Calls.mono (IsHand_any _ _ _ _ (by first | assumption | exact CardsAt.kept (by assumption) (by (try simp only [ext_ext]); repeat (first | exact Kept.refl _ | apply Kept.alloc | apply kept_add | apply Kept.ext))) hl) ?_; rintro e w' ⟨rfl, y, rfl⟩))
    refine bodyPost_ret (v := .tuple #[v2 0 0, .bool false]) (by simp [results, Try.results16, go_sem]) rfl ⟨rfl, ?_⟩
    exact (by (try simp only [ext_ext]); repeat (first | exact Kept.refl _ | apply Kept.alloc | apply kept_add | apply Kept.ext))
theorem iMeanDiffer_yes (ao : Option Addr) (cap : Nat) (xs : List Card) (w : World) (hx : CardsAt w ao xs) (hcap : xs.length ≤ cap) (h : two xs = true) :
    Calls Try.prog 16 #[.slice ao xs.length cap] w fun e w' => e = .returned (.tuple #[meanDiffer xs, .bool true]) ∧ Kept w w' := by
  have hh : isHand xs = true := by simp [two] at h; exact h.1
  have h2 : 2 ≤ xs.length := by simp [two] at h; exact h.2
  have hl27 := (isHand_of hh).1
  clear h
  go_enter Try.func16, Try.ntmps16
  go_wp2_with (first | (go_at_call 31; refine Calls.mono (IsHand_any _ _ _ _ (by first | assumption | exact CardsAt.kept (by assumption) (by (try simp only [ext_ext]); repeat (first | exact Kept.refl _ | apply Kept.alloc | apply kept_add | apply Kept.ext))) (by omega)) ?_; rintro e w' ⟨rfl, y, rfl⟩))
  go_loopw [20, 4] (fun i s wr => ∃ k : Nat, k ≤ xs.length ∧ i = .int .i64 k ∧ s = .int .i64 (dSum xs k) ∧ Kept (w.alloc (.cells #[.int .i64 0, .int .i64 0] 31)) wr) (fun i _ _ => xs.length - (intOf i).toNat)
  case atStart => exact ⟨0, Nat.zero_le _, rfl, rfl, (by (try simp only [ext_ext]); repeat (first | exact Kept.refl _ | apply Kept.alloc | apply kept_add | apply Kept.ext))⟩
  case round =>
    obtain ⟨k, hk, rfl, rfl, z, rfl⟩ := hrel
    by_cases hlt : k < xs.length
    · have hb := dSum_bd xs k (by omega)
      have hkc : k ≤ cap := by omega
      obtain ⟨g, off, rfl, hg, h1, h2, h3, h4⟩ := hx k hlt
      have g1 : g < w.heap.size + 1 := by omega
      have g2 : g < w.heap.size + 1 + z.os.length := by omega
      go_wp2
      go_loopw [29, 4] (fun j s wr => ∃ m : Nat, m ≤ k ∧ j = .int .i64 m ∧ s = .int .i64 (dSum xs k + dIn xs k m) ∧ Kept ((ext (w.alloc (.cells #[.int .i64 0, .int .i64 0] 31)) z).alloc (.cells #[.int .i64 (cx xs k).a, .int .i64 (cx xs k).b, .int .i64 (cx xs k).c, .int .i64 (cx xs k).d] 24)) wr) (fun j _ _ => k - (intOf j).toNat)
      case atStart => exact ⟨0, Nat.zero_le _, rfl, by simp [dIn, rsum], (by (try simp only [ext_ext]); repeat (first | exact Kept.refl _ | apply Kept.alloc | apply kept_add | apply Kept.ext))⟩
      case round =>
        obtain ⟨m, hm, rfl, rfl, z2, rfl⟩ := hrel
        have hb2 := dIn_bd xs k m (by omega)
        by_cases hlt2 : m < k
        · obtain ⟨g', off', he, hg', p1, p2, p3, p4⟩ := hx m (by omega)
          cases he
          have hd := differC_bd (cx xs k) (cx xs m)
          have g3 : g < w.heap.size + 1 + z.os.length + 1 := by omega
          have g4 : g < w.heap.size + 1 + z.os.length + 1 + z2.os.length := by omega
          go_wp2_with (first | (go_at_call 39; refine Calls.mono (differ_any _ _ _) ?_; rintro e w' ⟨rfl, y, rfl⟩))
          go_roundw
          case rel => exact ⟨m + 1, hlt2, by go_num, by rw [dIn_next]; go_num, (by (try simp only [ext_ext]); repeat (first | exact Kept.refl _ | apply Kept.alloc | apply kept_add | apply Kept.ext))⟩
          case measure => simp [intOf]; omega
        · obtain rfl : m = k := by omega
          go_wp2
          go_roundw
          case rel => exact ⟨m + 1, hlt, by go_num, by rw [dSum_next], (by (try simp only [ext_ext]); repeat (first | exact Kept.refl _ | apply Kept.alloc | apply kept_add | apply Kept.ext))⟩
          case measure => simp [intOf]; omega
    · obtain rfl : k = xs.length := by omega
      have hb := dSum_bd xs xs.length (by omega)
      obtain ⟨_, _, _, h4⟩ := choose_ok (n := xs.length) (i := 2) (by omega) (by omega)
      have h3 := choose_pos (n := xs.length) (i := 2) (by omega) (by omega) h2
      go_wp2_with (first | (go_at_call 41; refine Calls.mono (choose_any xs.length 2 (by omega) (by omega) _) ?_; rintro e w' ⟨rfl, rfl⟩) | (go_at_call 40; refine Calls.mono (fraction_any _ _ hb.1 (by omega) h3 h4 _) ?_; rintro e w' ⟨rfl, y, rfl⟩))
      refine bodyPost_ret (v := .tuple #[meanDiffer xs, .bool true]) (by simp [results, Try.results16, go_sem]) rfl ⟨rfl, ?_⟩
      exact (by (try simp only [ext_ext]); repeat (first | exact Kept.refl _ | apply Kept.alloc | apply kept_add | apply Kept.ext))
theorem walk_FnExactMeanDiffer (ao : Option Addr) (xs : List Card) (cap : Nat) {w : World} (hx : CardsAt w ao xs) (hl : xs.length ≤ maxLen) (_ : World) :
    Calls Try.prog 4 #[.slice ao xs.length cap] w fun e w' => e = .returned (.bool true) ∧ Kept w w' := by
  have hl' : xs.length ≤ 9223372036854775807 := by unfold maxLen at hl; omega
  by_cases hn : xs.length ≤ 1048576
  · cases hg : two xs with
    | false =>
      go_enter Try.func4, Try.ntmps4
      go_wp2_with (first | (go_at_call 9; refine Calls.mono (szIntA4S_any _ _ _ hl' _) ?_; rintro e w' ⟨rfl, rfl⟩) | (go_at_call 11; refine Calls.mono (toIntA4S_any _ _ _ _ (by first | assumption | exact CardsAt.kept (by assumption) (by (try simp only [ext_ext]); repeat (first | exact Kept.refl _ | apply Kept.alloc | apply kept_add | apply Kept.ext))) hn) ?_; rintro e w' ⟨v, rfl, ho, z, rfl⟩; obtain ⟨ao', cap', rfl, hx', hcap'⟩ := ho.reads; clear ho) | (go_at_call 15; refine Calls.mono (sMeanDiffer_no _ _ _ _ (by first | assumption | exact CardsAt.kept (by assumption) (by (try simp only [ext_ext]); repeat (first | exact Kept.refl _ | apply Kept.alloc | apply kept_add | apply Kept.ext))) hn hg) ?_; rintro e w' ⟨rfl, y, rfl⟩) | (go_at_call 16; refine Calls.mono (iMeanDiffer_no _ _ _ _ (by first | assumption | exact CardsAt.kept (by assumption) (by (try simp only [ext_ext]); repeat (first | exact Kept.refl _ | apply Kept.alloc | apply kept_add | apply Kept.ext))) hn hg) ?_; rintro e w' ⟨rfl, y, rfl⟩) | (go_at_call 17; refine Calls.mono (eqIntA2_any _ _ _ _ _) ?_; rintro e w' ⟨rfl, y, rfl⟩) | (go_at_call 14; refine Calls.mono (eqIntA4S_any _ _ _ _ _ _ _ (by first | assumption | exact CardsAt.kept (by assumption) (by (try simp only [ext_ext]); repeat (first | exact Kept.refl _ | apply Kept.alloc | apply kept_add | apply Kept.ext))) (by first | assumption | exact CardsAt.kept (by assumption) (by (try simp only [ext_ext]); repeat (first | exact Kept.refl _ | apply Kept.alloc | apply kept_add | apply Kept.ext))) hn hn) ?_; rintro e w' ⟨rfl, y, rfl⟩))
      all_goals
        go_ret
        exact ⟨rfl, (by (try simp only [ext_ext]); repeat (first | exact Kept.refl _ | apply Kept.alloc | apply kept_add | apply Kept.ext))⟩
    | true =>
      go_enter Try.func4, Try.ntmps4
      go_wp2_with (first | (go_at_call 9; refine Calls.mono (szIntA4S_any _ _ _ hl' _) ?_; rintro e w' ⟨rfl, rfl⟩) | (go_at_call 11; refine Calls.mono (toIntA4S_any _ _ _ _ (by first | assumption | exact CardsAt.kept (by assumption) (by (try simp only [ext_ext]); repeat (first | exact Kept.refl _ | apply Kept.alloc | apply kept_add | apply Kept.ext))) hn) ?_; rintro e w' ⟨v, rfl, ho, z, rfl⟩; obtain ⟨ao', cap', rfl, hx', hcap'⟩ := ho.reads; clear ho) | (go_at_call 15; refine Calls.mono (sMeanDiffer_yes _ _ _ _ (by first | assumption | exact CardsAt.kept (by assumption) (by (try simp only [ext_ext]); repeat (first | exact Kept.refl _ | apply Kept.alloc | apply kept_add | apply Kept.ext))) hg) ?_; rintro e w' ⟨rfl, y, rfl⟩) | (go_at_call 16; refine Calls.mono (iMeanDiffer_yes _ _ _ _ (by first | assumption | exact CardsAt.kept (by assumption) (by (try simp only [ext_ext]); repeat (first | exact Kept.refl _ | apply Kept.alloc | apply kept_add | apply Kept.ext))) (by assumption) hg) ?_; rintro e w' ⟨rfl, y, rfl⟩) | (go_at_call 17; refine Calls.mono (eqIntA2_any _ _ _ _ _) ?_; rintro e w' ⟨rfl, y, rfl⟩) | (go_at_call 14; refine Calls.mono (eqIntA4S_any _ _ _ _ _ _ _ (by first | assumption | exact CardsAt.kept (by assumption) (by (try simp only [ext_ext]); repeat (first | exact Kept.refl _ | apply Kept.alloc | apply kept_add | apply Kept.ext))) (by first | assumption | exact CardsAt.kept (by assumption) (by (try simp only [ext_ext]); repeat (first | exact Kept.refl _ | apply Kept.alloc | apply kept_add | apply Kept.ext))) hn hn) ?_; rintro e w' ⟨rfl, y, rfl⟩))
      all_goals
        go_ret
        exact ⟨rfl, (by (try simp only [ext_ext]); repeat (first | exact Kept.refl _ | apply Kept.alloc | apply kept_add | apply Kept.ext))⟩
  · go_enter Try.func4, Try.ntmps4
    go_wp2_with (first | (go_at_call 9; refine Calls.mono (szIntA4S_any _ _ _ hl' _) ?_; rintro e w' ⟨rfl, rfl⟩))
    go_ret
    exact ⟨rfl, (by (try simp only [ext_ext]); repeat (first | exact Kept.refl _ | apply Kept.alloc | apply kept_add | apply Kept.ext))⟩
end Go.Proofs.Ytlkjpammglljdab
