/- Walk: the law of BestThird. -/
import Derived.Test.YtlkjpammglljdabT10
import Derived.Test.YtlkjpammglljdabT15
namespace Go.Proofs.Ytlkjpammglljdab
open Go.RowKit
/-- One step of the search: a card with more lines takes the place. -/
def btStep (xs : List Card) (s : Int × Int) (c : Card) : Int × Int := if s.2 < thr xs c then (numC c, thr xs c) else s
def btL (xs : List Card) (l : List Card) : Int × Int := l.foldl (btStep xs) (0, -1)
def btN (xs : List Card) (n : Nat) : Int × Int := btL xs (restK xs n)
theorem btL_next (xs l : List Card) (c : Card) : btL xs (l ++ [c]) = btStep xs (btL xs l) c := by simp [btL, List.foldl_append]
theorem btN_has {xs : List Card} {n : Nat} (h : hasC xs (cardN n) = true) : btN xs (n + 1) = btN xs n := by
  unfold btN; rw [restK_next, if_pos h, List.append_nil]
theorem btN_no {xs : List Card} {n : Nat} (h : hasC xs (cardN n) = false) : btN xs (n + 1) = btStep xs (btN xs n) (cardN n) := by
  unfold btN; rw [restK_next, if_neg (by simp [h]), btL_next]
theorem thr_bd {xs : List Card} {c : Card} (h : xs.length ≤ 27) : 0 ≤ thr xs c ∧ thr xs c ≤ 2187 := by
  have := thrOut_bd xs c xs.length (by omega)
  unfold thr; omega
theorem btL_bd (xs l : List Card) (h : xs.length ≤ 27) : -1 ≤ (btL xs l).2 ∧ (btL xs l).2 ≤ 2187 := by
  unfold btL
  have key : ∀ (l : List Card) (s : Int × Int), -1 ≤ s.2 ∧ s.2 ≤ 2187 → -1 ≤ (l.foldl (btStep xs) s).2 ∧ (l.foldl (btStep xs) s).2 ≤ 2187 := by
    intro l
    induction l with
    | nil => intro s hs; exact hs
    | cons c l ih =>
      intro s hs
      apply ih
      unfold btStep
      have := thr_bd (c := c) h
      split <;> omega
  exact key l _ ⟨by decide, by decide⟩
theorem areC_rest (xs : List Card) (n : Nat) (hn : n ≤ 81) : areC (restK xs n) := by
  intro j hj
  have hm := cx_mem hj
  generalize cx (restK xs n) j = c at hm ⊢
  simp only [restK, List.mem_filter, List.mem_map, List.mem_range] at hm
  obtain ⟨⟨i, hi, rfl⟩, _⟩ := hm
  exact isCard_cardN (by omega) (by omega)
theorem distC_hand {xs : List Card} (h : isHand xs = true) : distC xs := by
  obtain ⟨_, hh⟩ := isHand_of h
  have lt : ∀ d i, i + d + 1 < xs.length → numC (cx xs i) < numC (cx xs (i + d + 1)) := by
    intro d
    induction d with
    | zero =>
      intro i hi
      have := hh (i + 0 + 1) hi
      simp [handOk] at this
      simpa using this.2
    | succ d ih =>
      intro i hi
      have h1 := ih i (by omega)
      have := hh (i + (d + 1) + 1) hi
      simp [handOk] at this
      have h2 := this.2
      rw [show i + (d + 1) = i + d + 1 by omega] at h2 ⊢
      omega
  intro i j hi hj e
  rcases Nat.lt_trichotomy i j with h | h | h
  · have := lt (j - i - 1) i (by omega)
    rw [show i + (j - i - 1) + 1 = j by omega, e] at this
    omega
  · exact h
  · have := lt (i - j - 1) j (by omega)
    rw [show j + (i - j - 1) + 1 = i by omega, e] at this
    omega
theorem sBestThird_no (ao : Option Addr) (cap : Nat) (xs : List Card) (w : World) (hx : CardsAt w ao xs) (hl : xs.length ≤ 1048576) (h : isHand xs = false) :
    Calls Try.prog 25 #[.slice ao xs.length cap] w fun e w' => e = .returned (.tuple #[.int .i64 0, .int .i64 0, .bool false]) ∧ Kept w w' := by
  go_enter Try.func25, Try.ntmps25
  go_wp2_with (first | (go_at_call 27; refine Calls.mono (l2Hand_any _ _ _ _ (by first | assumption | exact CardsAt.kept (by assumption) (by (try simp only [ext_ext]); repeat (first | exact Kept.refl _ | apply Kept.alloc | apply Kept.drew | apply kept_add | apply Kept.ext))) hl) ?_; rintro e w' ⟨rfl, y, rfl⟩))
  refine bodyPost_ret (v := .tuple #[.int .i64 0, .int .i64 0, .bool false]) (by simp [results, Try.results25, go_sem]) rfl ⟨rfl, ?_⟩
  exact (by (try simp only [ext_ext]); repeat (first | exact Kept.refl _ | apply Kept.alloc | apply Kept.drew | apply kept_add | apply Kept.ext))
theorem iBestThird_no (ao : Option Addr) (cap : Nat) (xs : List Card) (w : World) (hx : CardsAt w ao xs) (hl : xs.length ≤ 1048576) (h : isHand xs = false) :
    Calls Try.prog 26 #[.slice ao xs.length cap] w fun e w' => e = .returned (.tuple #[.int .i64 0, .int .i64 0, .bool false]) ∧ Kept w w' := by
  go_enter Try.func26, Try.ntmps26
  go_wp2_with (first | (go_at_call 31; refine Calls.mono (IsHand_any _ _ _ _ (by first | assumption | exact CardsAt.kept (by assumption) (by (try simp only [ext_ext]); repeat (first | exact Kept.refl _ | apply Kept.alloc | apply Kept.drew | apply kept_add | apply Kept.ext))) hl) ?_; rintro e w' ⟨rfl, y, rfl⟩))
  refine bodyPost_ret (v := .tuple #[.int .i64 0, .int .i64 0, .bool false]) (by simp [results, Try.results26, go_sem]) rfl ⟨rfl, ?_⟩
  exact (by (try simp only [ext_ext]); repeat (first | exact Kept.refl _ | apply Kept.alloc | apply Kept.drew | apply kept_add | apply Kept.ext))
theorem sBestThird_yes (ao : Option Addr) (cap : Nat) (xs : List Card) (w : World) (hx : CardsAt w ao xs) (h : isHand xs = true) :
    Calls Try.prog 25 #[.slice ao xs.length cap] w fun e w' => e = .returned (.tuple #[.int .i64 (btN xs 81).1, .int .i64 (btN xs 81).2, .bool true]) ∧ Kept w w' := by
  have hl27 := (isHand_of h).1
  go_enter Try.func25, Try.ntmps25
  go_wp2_with (first | (go_at_call 27; refine Calls.mono (l2Hand_any _ _ _ _ (by first | assumption | exact CardsAt.kept (by assumption) (by (try simp only [ext_ext]); repeat (first | exact Kept.refl _ | apply Kept.alloc | apply Kept.drew | apply kept_add | apply Kept.ext))) (by omega)) ?_; rintro e w' ⟨rfl, y, rfl⟩) | (go_at_call 51; refine Calls.mono (l9Rest_any _ _ _ _ (by first | assumption | exact CardsAt.kept (by assumption) (by (try simp only [ext_ext]); repeat (first | exact Kept.refl _ | apply Kept.alloc | apply Kept.drew | apply kept_add | apply Kept.ext))) (by omega)) ?_; rintro e w' ⟨v, rfl, ho, z, rfl⟩; obtain ⟨ao', cap', rfl, hx', hcap'⟩ := ho.reads; clear ho))
  have hrl := restK_len xs 81
  have hrc := areC_rest xs 81 (by omega)
  have he : Hid (btL xs ((restK xs 81).take (restK xs 81).length) = btN xs 81) := hid (by rw [List.take_length]; rfl)
  go_loopw [8, 6, 7] (fun i b m wr => ∃ k : Nat, k ≤ (restK xs 81).length ∧ i = .int .i64 k ∧ b = .int .i64 (btL xs ((restK xs 81).take k)).1 ∧ m = .int .i64 (btL xs ((restK xs 81).take k)).2 ∧ Kept w wr ∧ CardsAt wr ao' (restK xs 81)) (fun i _ _ _ => 81 - (intOf i).toNat)
  case atStart => exact ⟨0, by omega, rfl, rfl, rfl, (by (try simp only [ext_ext]); repeat (first | exact Kept.refl _ | apply Kept.alloc | apply Kept.drew | apply kept_add | apply Kept.ext)), hx'.kept (by (try simp only [ext_ext]); repeat (first | exact Kept.refl _ | apply Kept.alloc | apply Kept.drew | apply kept_add | apply Kept.ext))⟩
  case round wr =>
    obtain ⟨k, hk, rfl, rfl, rfl, hkw, hxq⟩ := hrel
    have hkwH := hid hkw
    by_cases hlt : k < (restK xs 81).length
    · obtain ⟨g, off, hae, hg, h1, h2, h3, h4⟩ := hxq k hlt
      have hxr := hx.kept hkw
      clear hkw
      have haeH := hid hae
      subst hae
      have hck := hrc k hlt
      have hb := btL_bd xs ((restK xs 81).take k) hl27
      have ht := thr_bd (c := cx (restK xs 81) k) hl27
      have e1 : Hid (btL xs ((restK xs 81).take (k + 1)) = btStep xs (btL xs ((restK xs 81).take k)) (cx (restK xs 81) k)) := hid (by rw [take_cx _ _ hlt, btL_next])
      have hnb := numC_bd hck
      go_wp2_with (first | (refine wp_region_ext (by kernel_rfl) (by kernel_rfl) ?_; (repeat (go_big_quiet_step (((go_at_call 28; first | exact ext_call (l2Through_any _ _ _ (cx (restK xs 81) k) _ (by first | assumption | exact CardsAt.kept (by assumption) (by (try simp only [ext_ext]); repeat (first | exact Kept.refl _ | apply Kept.alloc | apply Kept.drew | apply kept_add | apply Kept.ext))) (by omega) (areC_hand h)) | exact ext_call2 (l2Through_any _ _ _ (cx (restK xs 81) k) _ (by first | assumption | exact CardsAt.kept (by assumption) (by (try simp only [ext_ext]); repeat (first | exact Kept.refl _ | apply Kept.alloc | apply Kept.drew | apply kept_add | apply Kept.ext))) (by omega) (areC_hand h))))))); refine wpQuiet_end fun z => ?_) | (go_at_call 28; refine Calls.mono (l2Through_any _ _ _ (cx (restK xs 81) k) _ (by first | assumption | exact CardsAt.kept (by assumption) (by (try simp only [ext_ext]); repeat (first | exact Kept.refl _ | apply Kept.alloc | apply Kept.drew | apply kept_add | apply Kept.ext))) (by omega) (areC_hand h)) ?_; rintro e w' ⟨rfl, y, rfl⟩) | (go_at_call 52; refine Calls.mono (l2Number_any _ hck _) ?_; rintro e w' ⟨rfl, y, rfl⟩))
      all_goals
        rename_i hcmp
        go_roundw
        case rel =>
          first
          | exact ⟨k + 1, by omega, by go_num, by rw [e1.out, btStep, if_pos hcmp], by rw [e1.out, btStep, if_pos hcmp], hkwH.out.trans (by (try simp only [ext_ext]); repeat (first | exact Kept.refl _ | apply Kept.alloc | apply Kept.drew | apply kept_add | apply Kept.ext)), hxq.kept (by (try simp only [ext_ext]); repeat (first | exact Kept.refl _ | apply Kept.alloc | apply Kept.drew | apply kept_add | apply Kept.ext))⟩
          | exact ⟨k + 1, by omega, by go_num, by rw [e1.out, btStep, if_neg (by omega)], by rw [e1.out, btStep, if_neg (by omega)], hkwH.out.trans (by (try simp only [ext_ext]); repeat (first | exact Kept.refl _ | apply Kept.alloc | apply Kept.drew | apply kept_add | apply Kept.ext)), hxq.kept (by (try simp only [ext_ext]); repeat (first | exact Kept.refl _ | apply Kept.alloc | apply Kept.drew | apply kept_add | apply Kept.ext))⟩
        case measure => simp [intOf]; omega
    · obtain rfl : k = (restK xs 81).length := by omega
      go_wp2
      refine bodyPost_ret (v := .tuple #[.int .i64 (btL xs ((restK xs 81).take (restK xs 81).length)).1, .int .i64 (btL xs ((restK xs 81).take (restK xs 81).length)).2, .bool true]) (by simp [results, Try.results25, go_sem]) rfl ⟨by rw [he.out], hkwH.out.trans (by (try simp only [ext_ext]); repeat (first | exact Kept.refl _ | apply Kept.alloc | apply Kept.drew | apply kept_add | apply Kept.ext))⟩
theorem iBestThird_yes (ao : Option Addr) (cap : Nat) (xs : List Card) (w : World) (hx : CardsAt w ao xs) (h : isHand xs = true) :
    Calls Try.prog 26 #[.slice ao xs.length cap] w fun e w' => e = .returned (.tuple #[.int .i64 (btN xs 81).1, .int .i64 (btN xs 81).2, .bool true]) ∧ Kept w w' := by
  have hl27 := (isHand_of h).1
  have hc := areC_hand h
  have hd := distC_hand h
  go_enter Try.func26, Try.ntmps26
  go_wp2_with (first | (go_at_call 31; refine Calls.mono (IsHand_any _ _ _ _ (by first | assumption | exact CardsAt.kept (by assumption) (by (try simp only [ext_ext]); repeat (first | exact Kept.refl _ | apply Kept.alloc | apply Kept.drew | apply kept_add | apply Kept.ext))) (by omega)) ?_; rintro e w' ⟨rfl, y, rfl⟩))
  go_loopw [13, 5, 6] (fun i b m wr => ∃ n : Nat, n ≤ 81 ∧ i = .int .i64 n ∧ b = .int .i64 (btN xs n).1 ∧ m = .int .i64 (btN xs n).2 ∧ Kept w wr) (fun i _ _ _ => 81 - (intOf i).toNat)
  case atStart => exact ⟨0, by omega, rfl, rfl, rfl, (by (try simp only [ext_ext]); repeat (first | exact Kept.refl _ | apply Kept.alloc | apply Kept.drew | apply kept_add | apply Kept.ext))⟩
  case round =>
    obtain ⟨n, hn, rfl, rfl, rfl, z, rfl⟩ := hrel
    by_cases hlt : n < 81
    · have hb := btL_bd xs (restK xs n) hl27
      cases hh : hasC xs (cardN n) with
      | true =>
        have e1 := hid (btN_has hh)
        go_wp2_with (first | (go_at_call 34; refine Calls.mono (card_any _ (by omega) (by omega) _) ?_; rintro e w' ⟨rfl, y, rfl⟩) | (go_at_call 53; refine Calls.mono (has_any _ _ _ (cardN n) _ (by first | assumption | exact CardsAt.kept (by assumption) (by (try simp only [ext_ext]); repeat (first | exact Kept.refl _ | apply Kept.alloc | apply Kept.drew | apply kept_add | apply Kept.ext))) (by omega)) ?_; rintro e w' ⟨rfl, y, rfl⟩))
        go_roundw
        case rel => exact ⟨n + 1, by omega, by go_num, by rw [e1.out], by rw [e1.out], (by (try simp only [ext_ext]); repeat (first | exact Kept.refl _ | apply Kept.alloc | apply Kept.drew | apply kept_add | apply Kept.ext))⟩
        case measure => simp [intOf]; omega
      | false =>
        have e1 := hid (btN_no hh)
        have ht := thr_bd (c := cardN n) hl27
        have hb' : -1 ≤ (btN xs n).2 ∧ (btN xs n).2 ≤ 2187 := hb
        go_wp2_with (first | (go_at_call 34; refine Calls.mono (card_any _ (by omega) (by omega) _) ?_; rintro e w' ⟨rfl, y, rfl⟩) | (go_at_call 53; refine Calls.mono (has_any _ _ _ (cardN n) _ (by first | assumption | exact CardsAt.kept (by assumption) (by (try simp only [ext_ext]); repeat (first | exact Kept.refl _ | apply Kept.alloc | apply Kept.drew | apply kept_add | apply Kept.ext))) (by omega)) ?_; rintro e w' ⟨rfl, y, rfl⟩) | (go_at_call 54; refine Calls.mono (pairsFor_any _ _ _ (cardN n) _ (by first | assumption | exact CardsAt.kept (by assumption) (by (try simp only [ext_ext]); repeat (first | exact Kept.refl _ | apply Kept.alloc | apply Kept.drew | apply kept_add | apply Kept.ext))) (by omega) hc hd) ?_; rintro e w' ⟨bo, nn, cap', rfl, hnn, y, rfl⟩))
        all_goals
          rename_i hcmp
          go_roundw
          case rel =>
            first
            | exact ⟨n + 1, by omega, by go_num, by rw [e1.out, btStep, if_pos hcmp, numC_cardN], by rw [e1.out, btStep, if_pos hcmp], (by (try simp only [ext_ext]); repeat (first | exact Kept.refl _ | apply Kept.alloc | apply Kept.drew | apply kept_add | apply Kept.ext))⟩
            | exact ⟨n + 1, by omega, by go_num, by rw [e1.out, btStep, if_neg (by omega)], by rw [e1.out, btStep, if_neg (by omega)], (by (try simp only [ext_ext]); repeat (first | exact Kept.refl _ | apply Kept.alloc | apply Kept.drew | apply kept_add | apply Kept.ext))⟩
          case measure => simp [intOf]; omega
    · obtain rfl : n = 81 := by omega
      go_wp2
      refine bodyPost_ret (v := .tuple #[.int .i64 (btN xs 81).1, .int .i64 (btN xs 81).2, .bool true]) (by simp [results, Try.results26, go_sem]) rfl ⟨rfl, ?_⟩
      exact (by (try simp only [ext_ext]); repeat (first | exact Kept.refl _ | apply Kept.alloc | apply Kept.drew | apply kept_add | apply Kept.ext))
theorem walk_FnExactBestThird (ao : Option Addr) (xs : List Card) (cap : Nat) {w : World} (hx : CardsAt w ao xs) (hl : xs.length ≤ maxLen) (_ : World) :
    Calls Try.prog 8 #[.slice ao xs.length cap] w fun e w' => e = .returned (.bool true) ∧ Kept w w' := by
  have hl' : xs.length ≤ 9223372036854775807 := by unfold maxLen at hl; omega
  by_cases hn : xs.length ≤ 1048576
  · cases hg : isHand xs with
    | false =>
      go_enter Try.func8, Try.ntmps8
      go_wp2_with (first | (go_at_call 9; refine Calls.mono (szIntA4S_any _ _ _ hl' _) ?_; rintro e w' ⟨rfl, rfl⟩) | (go_at_call 11; refine Calls.mono (toIntA4S_any _ _ _ _ (by first | assumption | exact CardsAt.kept (by assumption) (by (try simp only [ext_ext]); repeat (first | exact Kept.refl _ | apply Kept.alloc | apply Kept.drew | apply kept_add | apply Kept.ext))) hn) ?_; rintro e w' ⟨v, rfl, ho, z, rfl⟩; obtain ⟨ao', cap', rfl, hx', hcap'⟩ := ho.reads; clear ho) | (go_at_call 25; refine Calls.mono (sBestThird_no _ _ _ _ (by first | assumption | exact CardsAt.kept (by assumption) (by (try simp only [ext_ext]); repeat (first | exact Kept.refl _ | apply Kept.alloc | apply Kept.drew | apply kept_add | apply Kept.ext))) hn hg) ?_; rintro e w' ⟨rfl, y, rfl⟩) | (go_at_call 26; refine Calls.mono (iBestThird_no _ _ _ _ (by first | assumption | exact CardsAt.kept (by assumption) (by (try simp only [ext_ext]); repeat (first | exact Kept.refl _ | apply Kept.alloc | apply Kept.drew | apply kept_add | apply Kept.ext))) hn hg) ?_; rintro e w' ⟨rfl, y, rfl⟩) | (go_at_call 14; refine Calls.mono (eqIntA4S_any _ _ _ _ _ _ _ (by first | assumption | exact CardsAt.kept (by assumption) (by (try simp only [ext_ext]); repeat (first | exact Kept.refl _ | apply Kept.alloc | apply Kept.drew | apply kept_add | apply Kept.ext))) (by first | assumption | exact CardsAt.kept (by assumption) (by (try simp only [ext_ext]); repeat (first | exact Kept.refl _ | apply Kept.alloc | apply Kept.drew | apply kept_add | apply Kept.ext))) hn hn) ?_; rintro e w' ⟨rfl, y, rfl⟩))
      all_goals
        go_ret
        exact ⟨rfl, (by (try simp only [ext_ext]); repeat (first | exact Kept.refl _ | apply Kept.alloc | apply Kept.drew | apply kept_add | apply Kept.ext))⟩
    | true =>
      go_enter Try.func8, Try.ntmps8
      go_wp2_with (first | (go_at_call 9; refine Calls.mono (szIntA4S_any _ _ _ hl' _) ?_; rintro e w' ⟨rfl, rfl⟩) | (go_at_call 11; refine Calls.mono (toIntA4S_any _ _ _ _ (by first | assumption | exact CardsAt.kept (by assumption) (by (try simp only [ext_ext]); repeat (first | exact Kept.refl _ | apply Kept.alloc | apply Kept.drew | apply kept_add | apply Kept.ext))) hn) ?_; rintro e w' ⟨v, rfl, ho, z, rfl⟩; obtain ⟨ao', cap', rfl, hx', hcap'⟩ := ho.reads; clear ho) | (go_at_call 25; refine Calls.mono (sBestThird_yes _ _ _ _ (by first | assumption | exact CardsAt.kept (by assumption) (by (try simp only [ext_ext]); repeat (first | exact Kept.refl _ | apply Kept.alloc | apply Kept.drew | apply kept_add | apply Kept.ext))) hg) ?_; rintro e w' ⟨rfl, y, rfl⟩) | (go_at_call 26; refine Calls.mono (iBestThird_yes _ _ _ _ (by first | assumption | exact CardsAt.kept (by assumption) (by (try simp only [ext_ext]); repeat (first | exact Kept.refl _ | apply Kept.alloc | apply Kept.drew | apply kept_add | apply Kept.ext))) hg) ?_; rintro e w' ⟨rfl, y, rfl⟩) | (go_at_call 14; refine Calls.mono (eqIntA4S_any _ _ _ _ _ _ _ (by first | assumption | exact CardsAt.kept (by assumption) (by (try simp only [ext_ext]); repeat (first | exact Kept.refl _ | apply Kept.alloc | apply Kept.drew | apply kept_add | apply Kept.ext))) (by first | assumption | exact CardsAt.kept (by assumption) (by (try simp only [ext_ext]); repeat (first | exact Kept.refl _ | apply Kept.alloc | apply Kept.drew | apply kept_add | apply Kept.ext))) hn hn) ?_; rintro e w' ⟨rfl, y, rfl⟩))
      all_goals
        go_ret
        exact ⟨rfl, (by (try simp only [ext_ext]); repeat (first | exact Kept.refl _ | apply Kept.alloc | apply Kept.drew | apply kept_add | apply Kept.ext))⟩
  · go_enter Try.func8, Try.ntmps8
    go_wp2_with (first | (go_at_call 9; refine Calls.mono (szIntA4S_any _ _ _ hl' _) ?_; rintro e w' ⟨rfl, rfl⟩))
    go_ret
    exact ⟨rfl, (by (try simp only [ext_ext]); repeat (first | exact Kept.refl _ | apply Kept.alloc | apply Kept.drew | apply kept_add | apply Kept.ext))⟩
end Go.Proofs.Ytlkjpammglljdab
