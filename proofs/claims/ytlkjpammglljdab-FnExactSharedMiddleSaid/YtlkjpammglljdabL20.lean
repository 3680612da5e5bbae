/- Walk: the law of SharedMiddle. -/
import Derived.Test.YtlkjpammglljdabT16
import Derived.Test.YtlkjpammglljdabT21
namespace Go.Proofs.Ytlkjpammglljdab
open Go.RowKit
def two (xs : List Card) : Bool := isHand xs && decide (2 ≤ xs.length)
/-- The search: the first number of a card with the most lines through it, and how many. -/
def smN (xs : List Card) : Nat → Card × Int
  | 0 => (⟨0, 0, 0, 0⟩, 0)
  | n + 1 => if (smN xs n).2 < thr xs (cardN (n : Int)) then (cardN (n : Int), thr xs (cardN (n : Int))) else smN xs n
termination_by n => n
theorem smN_zero (xs : List Card) : smN xs 0 = (⟨0, 0, 0, 0⟩, 0) := by rw [smN]
theorem smN_next (xs : List Card) (n : Nat) : smN xs (n + 1) = if (smN xs n).2 < thr xs (cardN (n : Int)) then (cardN (n : Int), thr xs (cardN (n : Int))) else smN xs n := by rw [smN]
theorem thr_bd2 {xs : List Card} {c : Card} (h : xs.length ≤ 27) : 0 ≤ thr xs c ∧ thr xs c ≤ 2187 := by
  have := thrOut_bd xs c xs.length (by omega)
  unfold thr; omega
theorem smN_bd (xs : List Card) (h : xs.length ≤ 27) : ∀ n, 0 ≤ (smN xs n).2 ∧ (smN xs n).2 ≤ 2187
  | 0 => by rw [smN_zero]; exact ⟨by decide, by decide⟩
  | n + 1 => by
    rw [smN_next]
    split
    · exact thr_bd2 h
    · exact smN_bd xs h n
/-- What the search finds: either nothing has been there, or the first of the greatest. -/
theorem smN_spec (xs : List Card) : ∀ n, (∀ j : Nat, j < n → thr xs (cardN (j : Int)) ≤ (smN xs n).2) ∧ ((smN xs n = (⟨0, 0, 0, 0⟩, 0)) ∨ ∃ j : Nat, j < n ∧ smN xs n = (cardN (j : Int), thr xs (cardN (j : Int))) ∧ ∀ i : Nat, i < j → thr xs (cardN (i : Int)) < thr xs (cardN (j : Int)))
  | 0 => ⟨fun j hj => absurd hj (Nat.not_lt_zero _), .inl (smN_zero xs)⟩
  | n + 1 => by
    obtain ⟨h1, h2⟩ := smN_spec xs n
    rw [smN_next]
    by_cases h : (smN xs n).2 < thr xs (cardN (n : Int))
    · rw [if_pos h]
      refine ⟨fun j hj => ?_, .inr ⟨n, by omega, rfl, fun i hi => ?_⟩⟩
      · rcases Nat.lt_or_eq_of_le (Nat.le_of_lt_succ hj) with h' | rfl
        · have := h1 j h'; simp only; omega
        · exact Int.le_refl _
      · have := h1 i hi; omega
    · rw [if_neg h]
      refine ⟨fun j hj => ?_, ?_⟩
      · rcases Nat.lt_or_eq_of_le (Nat.le_of_lt_succ hj) with h' | rfl
        · exact h1 j h'
        · omega
      · rcases h2 with h2 | ⟨j, hj, e, hlt⟩
        · exact .inl h2
        · exact .inr ⟨j, by omega, e, hlt⟩
theorem sm_index {xs : List Card} (hc : areC xs) (hd : distC xs) (hl : xs.length ≤ 27) :
    0 ≤ idxOf (fun x => decide (x = maxTo (tl 81 (thT xs xs.length 0)) 80)) (tl 81 (thT xs xs.length 0)) ∧ idxOf (fun x => decide (x = maxTo (tl 81 (thT xs xs.length 0)) 80)) (tl 81 (thT xs xs.length 0)) ≤ 80 ∧
    smN xs 81 = (cardN (idxOf (fun x => decide (x = maxTo (tl 81 (thT xs xs.length 0)) 80)) (tl 81 (thT xs xs.length 0))), maxTo (tl 81 (thT xs xs.length 0)) 80) := by
  have hv : ∀ j : Nat, j ≤ 80 → ix (tl 81 (thT xs xs.length 0)) j = thr xs (cardN (j : Int)) := fun j hj => by rw [tl_ix _ (by omega), thT_thr hc hd hj]
  have hlen := tl_len 81 (thT xs xs.length 0)
  obtain ⟨h1, h2⟩ := smN_spec xs 81
  obtain ⟨m, hm, em⟩ := maxTo_at (tl 81 (thT xs xs.length 0)) 80
  have hge := fun j (hj : j ≤ 80) => maxTo_ge (tl 81 (thT xs xs.length 0)) 80 j hj
  rw [hv m hm] at em
  rcases h2 with e | ⟨j, hj, e, hlt⟩
  · rw [e] at h1 ⊢
    have hb := thr_bd2 (c := cardN (m : Int)) hl
    have h0 := h1 m (by omega)
    simp only at h0
    have hM : maxTo (tl 81 (thT xs xs.length 0)) 80 = 0 := by omega
    have z := hge 0 (by omega)
    rw [hv 0 (by omega), hM] at z
    have hb0 := thr_bd2 (c := cardN ((0 : Nat) : Int)) hl
    rw [hM]
    have ei : idxOf (fun x => decide (x = (0 : Int))) (tl 81 (thT xs xs.length 0)) = (0 : Nat) := idxOf_some (d := 0) (by omega) (decide_eq_true (show ix (tl 81 (thT xs xs.length 0)) 0 = 0 by rw [hv 0 (by omega)]; omega)) (fun j hj => absurd hj (Nat.not_lt_zero _))
    rw [ei]
    exact ⟨by decide, by decide, rfl⟩
  · rw [e] at h1 ⊢
    have h0 := h1 m (by omega)
    simp only at h0
    have z := hge j (by omega)
    rw [hv j (by omega)] at z
    have hM : maxTo (tl 81 (thT xs xs.length 0)) 80 = thr xs (cardN (j : Int)) := by omega
    rw [hM]
    have ei : idxOf (fun x => decide (x = thr xs (cardN (j : Int)))) (tl 81 (thT xs xs.length 0)) = j := idxOf_some (d := 0) (by omega) (decide_eq_true (hv j (by omega))) (fun i hi => decide_eq_false (show ix (tl 81 (thT xs xs.length 0)) i ≠ _ by rw [hv i (by omega)]; have := hlt i hi; omega))
    rw [ei]
    exact ⟨by omega, by omega, rfl⟩
abbrev sharedMiddle (xs : List Card) : Value := .tuple #[(smN xs 81).1.v, .int .i64 (smN xs 81).2, .bool true]
theorem sSharedMiddle_no (ao : Option Addr) (cap : Nat) (xs : List Card) (w : World) (hx : CardsAt w ao xs) (hl : xs.length ≤ 1048576) (h : two xs = false) :
    Calls Try.prog 10 #[.slice ao xs.length cap] w fun e w' => e = .returned (.tuple #[(Card.mk 0 0 0 0).v, .int .i64 0, .bool false]) ∧ Kept w w' := by
  cases hh : isHand xs with
  | false =>
    go_enter Try.func10, Try.ntmps10
    go_wp2_with (first | (go_at_call 27; refine Calls.mono (l2Hand_any _ _ _ _ (by first | assumption | exact CardsAt.kept (by assumption) (by (try simp only [ext_ext]); repeat (first | exact Kept.refl _ | apply Kept.alloc | apply Kept.drew | apply kept_add | apply Kept.ext))) hl) ?_; rintro e w' ⟨rfl, y, rfl⟩))
    refine bodyPost_ret (v := .tuple #[(Card.mk 0 0 0 0).v, .int .i64 0, .bool false]) (by simp [results, Try.results10, go_sem]) rfl ⟨rfl, ?_⟩
    exact (by (try simp only [ext_ext]); repeat (first | exact Kept.refl _ | apply Kept.alloc | apply Kept.drew | apply kept_add | apply Kept.ext))
  | true =>
    have hn : ¬ 2 ≤ xs.length := by simpa [two, hh] using h
    have hn' : xs.length < 2 := by omega
    clear hn h
    go_enter Try.func10, Try.ntmps10
    go_wp2_with (first | (go_at_call 27; refine Calls.mono (l2Hand_any _ _ _ _ (by first | assumption | exact CardsAt.kept (by assumption) (by (try simp only [ext_ext]); repeat (first | exact Kept.refl _ | apply Kept.alloc | apply Kept.drew | apply kept_add | apply Kept.ext))) hl) ?_; rintro e w' ⟨rfl, y, rfl⟩))
    refine bodyPost_ret (v := .tuple #[(Card.mk 0 0 0 0).v, .int .i64 0, .bool false]) (by simp [results, Try.results10, go_sem]) rfl ⟨rfl, ?_⟩
    exact (by (try simp only [ext_ext]); repeat (first | exact Kept.refl _ | apply Kept.alloc | apply Kept.drew | apply kept_add | apply Kept.ext))
theorem iSharedMiddle_no (ao : Option Addr) (cap : Nat) (xs : List Card) (w : World) (hx : CardsAt w ao xs) (hl : xs.length ≤ 1048576) (h : two xs = false) :
    Calls Try.prog 12 #[.slice ao xs.length cap] w fun e w' => e = .returned (.tuple #[(Card.mk 0 0 0 0).v, .int .i64 0, .bool false]) ∧ Kept w w' := by
  cases hh : isHand xs with
  | false =>
    go_enter Try.func12, Try.ntmps12
    go_wp2_with (first | (go_at_call 31; refine Calls.mono (IsHand_any _ _ _ _ (by first | assumption | exact CardsAt.kept (by assumption) (by (try simp only [ext_ext]); repeat (first | exact Kept.refl _ | apply Kept.alloc | apply Kept.drew | apply kept_add | apply Kept.ext))) hl) ?_; rintro e w' ⟨rfl, y, rfl⟩))
    refine bodyPost_ret (v := .tuple #[(Card.mk 0 0 0 0).v, .int .i64 0, .bool false]) (by simp [results, Try.results12, go_sem]) rfl ⟨rfl, ?_⟩
    exact (by (try simp only [ext_ext]); repeat (first | exact Kept.refl _ | apply Kept.alloc | apply Kept.drew | apply kept_add | apply Kept.ext))
  | true =>
    have hn : ¬ 2 ≤ xs.length := by simpa [two, hh] using h
    have hn' : xs.length < 2 := by omega
    clear hn h
    go_enter Try.func12, Try.ntmps12
    go_wp2_with (first | (go_at_call 31; refine Calls.mono (IsHand_any _ _ _ _ (by first | assumption | exact CardsAt.kept (by assumption) (by (try simp only [ext_ext]); repeat (first | exact Kept.refl _ | apply Kept.alloc | apply Kept.drew | apply kept_add | apply Kept.ext))) hl) ?_; rintro e w' ⟨rfl, y, rfl⟩))
    refine bodyPost_ret (v := .tuple #[(Card.mk 0 0 0 0).v, .int .i64 0, .bool false]) (by simp [results, Try.results12, go_sem]) rfl ⟨rfl, ?_⟩
    exact (by (try simp only [ext_ext]); repeat (first | exact Kept.refl _ | apply Kept.alloc | apply Kept.drew | apply kept_add | apply Kept.ext))
theorem sSharedMiddle_yes (ao : Option Addr) (cap : Nat) (xs : List Card) (w : World) (hx : CardsAt w ao xs) (h : two xs = true) :
    Calls Try.prog 10 #[.slice ao xs.length cap] w fun e w' => e = .returned (sharedMiddle xs) ∧ Kept w w' := by
  have hh : isHand xs = true := by simp [two] at h; exact h.1
  have h2 : 2 ≤ xs.length := by simp [two] at h; exact h.2
  have hl27 := (isHand_of hh).1
  have hc := areC_hand hh
  clear h
  go_enter Try.func10, Try.ntmps10
  go_wp2_with (first | (go_at_call 27; refine Calls.mono (l2Hand_any _ _ _ _ (by first | assumption | exact CardsAt.kept (by assumption) (by (try simp only [ext_ext]); repeat (first | exact Kept.refl _ | apply Kept.alloc | apply Kept.drew | apply kept_add | apply Kept.ext))) (by omega)) ?_; rintro e w' ⟨rfl, y, rfl⟩))
  go_loopw [7, 6] (fun i m wr => ∃ n : Nat, n ≤ 81 ∧ i = .int .i64 n ∧ m = .int .i64 (smN xs n).2 ∧ Kept ((ext (w.alloc (.cells #[.int .i64 0, .int .i64 0, .int .i64 0, .int .i64 0] 24)) y).alloc (.cells #[.int .i64 (smN xs n).1.a, .int .i64 (smN xs n).1.b, .int .i64 (smN xs n).1.c, .int .i64 (smN xs n).1.d] 24)) wr) (fun i _ _ => 81 - (intOf i).toNat)
  case atStart => exact ⟨0, by omega, rfl, by rw [smN_zero], by rw [smN_zero]; exact show Kept ((ext (w.alloc (.cells #[.int .i64 0, .int .i64 0, .int .i64 0, .int .i64 0] 24)) y).alloc (.cells #[.int .i64 0, .int .i64 0, .int .i64 0, .int .i64 0] 24)) _ from (by (try simp only [ext_ext]); repeat (first | exact Kept.refl _ | apply Kept.alloc | apply Kept.drew | apply kept_add | apply Kept.ext))⟩
  case round =>
    obtain ⟨n, hn, rfl, rfl, z, rfl⟩ := hrel
    by_cases hlt : n < 81
    · have hb := smN_bd xs hl27 n
      have ht := thr_bd2 (c := cardN (n : Int)) hl27
      have e1 := hid (smN_next xs n)
      go_wp2_with (first | (go_at_call 29; refine Calls.mono (l2At_any _ (by omega) (by omega) _) ?_; rintro e w' ⟨rfl, y, rfl⟩) | (go_at_call 28; refine Calls.mono (l2Through_any _ _ _ (cardN n) _ (by first | assumption | exact CardsAt.kept (by assumption) (by (try simp only [ext_ext]); repeat (first | exact Kept.refl _ | apply Kept.alloc | apply Kept.drew | apply kept_add | apply Kept.ext))) (by omega) hc) ?_; rintro e w' ⟨rfl, y, rfl⟩))
      all_goals
        rename_i hcmp
        go_roundw
        case rel =>
          first
          | exact ⟨n + 1, by omega, by go_num, by rw [e1.out, if_pos hcmp], by rw [e1.out, if_pos hcmp]; exact (by (try simp only [ext_ext]); repeat (first | exact Kept.refl _ | apply Kept.alloc | apply Kept.drew | apply kept_add | apply Kept.ext))⟩
          | exact ⟨n + 1, by omega, by go_num, by rw [e1.out, if_neg (by omega)], by rw [e1.out, if_neg (by omega)]; exact (by (try simp only [ext_ext]); repeat (first | exact Kept.refl _ | apply Kept.alloc | apply Kept.drew | apply kept_add | apply Kept.ext))⟩
        case measure => simp [intOf]; omega
    · obtain rfl : n = 81 := by omega
      go_wp2
      refine bodyPost_ret (v := sharedMiddle xs) (by simp [results, Try.results10, go_sem]) rfl ⟨rfl, ?_⟩
      exact (by (try simp only [ext_ext]); repeat (first | exact Kept.refl _ | apply Kept.alloc | apply Kept.drew | apply kept_add | apply Kept.ext))
theorem sm_key {xs : List Card} (hc : areC xs) (hd : distC xs) (hl27 : xs.length ≤ 27) : ∃ M I : Int, (∀ (ao : Option Addr) (cap : Nat) (w : World), IntsAt w ao (tl 81 (thT xs xs.length 0)) → Calls Try.prog 33 #[.slice ao 81 cap] w fun e w' => e = .returned (.int .i64 M) ∧ Kept w w') ∧
      (∀ (ao : Option Addr) (cap : Nat) (w : World), IntsAt w ao (tl 81 (thT xs xs.length 0)) → Calls Try.prog 35 #[.slice ao 81 cap, .int .i64 M] w fun e w' => e = .returned (.int .i64 I) ∧ Kept w w') ∧ 0 ≤ I ∧ I ≤ 80 ∧ smN xs 81 = (cardN I, M) := by
  obtain ⟨i1, i2, i3⟩ := sm_index hc hd hl27
  refine ⟨maxTo (tl 81 (thT xs xs.length 0)) 80, idxOf (fun x => decide (x = maxTo (tl 81 (thT xs xs.length 0)) 80)) (tl 81 (thT xs xs.length 0)), ?_, ?_, i1, i2, i3⟩
  · intro ao cap w h
    exact maxInts_any ao cap 80 _ w h (tl_len _ _) (by omega)
  · intro ao cap w h
    exact indexIntsN ao cap 81 _ _ w h (tl_len _ _) (by omega)
set_option maxHeartbeats 2000000 in
theorem iSharedMiddle_yes (ao : Option Addr) (cap : Nat) (xs : List Card) (w : World) (hx : CardsAt w ao xs) (hcap : xs.length ≤ cap) (h : two xs = true) :
    Calls Try.prog 12 #[.slice ao xs.length cap] w fun e w' => e = .returned (sharedMiddle xs) ∧ Kept w w' := by
  have hh : isHand xs = true := by simp [two] at h; exact h.1
  have h2 : 2 ≤ xs.length := by simp [two] at h; exact h.2
  have hl27 := (isHand_of hh).1
  have hc := areC_hand hh
  have hd := distC_hand hh
  obtain ⟨M, I, hM, hI, i1, i2, i3⟩ := sm_key hc hd hl27
  have i3H := hid i3
  have hMH := hid hM
  have hIH := hid hI
  clear h i3 hM hI
  go_enter Try.func12, Try.ntmps12
  go_wp2_with (first | (go_at_call 31; refine Calls.mono (IsHand_any _ _ _ _ (by first | assumption | exact CardsAt.kept (by assumption) (by (try simp only [ext_ext]); repeat (first | exact Kept.refl _ | apply Kept.alloc | apply Kept.drew | apply kept_add | apply Kept.ext))) (by omega)) ?_; rintro e w' ⟨rfl, y, rfl⟩) | (go_at_call 32; refine Calls.mono (thirds_any _ _ _ _ (by first | assumption | exact CardsAt.kept (by assumption) (by (try simp only [ext_ext]); repeat (first | exact Kept.refl _ | apply Kept.alloc | apply Kept.drew | apply kept_add | apply Kept.ext))) (by omega) hcap hc) ?_; rintro e w' ⟨rfl, y, rfl⟩) | refine wpList_tab_alloc rfl rfl ?_ | refine wpList_tab_store rfl _ _ rfl _ _ rfl rfl ?_ | (go_at_call 33; refine Calls.mono (hMH.out _ _ _ (intsAt_tab (heap_at (by simp)))) ?_; rintro e w' ⟨rfl, y, rfl⟩) | (go_at_call 35; refine Calls.mono (hIH.out _ _ _ (by refine IntsAt.kept ?_ ⟨_, rfl⟩; exact intsAt_tab (heap_at (by simp)))) ?_; rintro e w' ⟨rfl, y, rfl⟩) | (go_at_call 34; refine Calls.mono (card_any _ i1 i2 _) ?_; rintro e w' ⟨rfl, y, rfl⟩))
  have eM : Hid (sharedMiddle xs = .tuple #[(cardN I).v, .int .i64 M, .bool true]) := hid (by simp only [sharedMiddle, i3H.out])
  refine bodyPost_ret (v := .tuple #[(cardN I).v, .int .i64 M, .bool true]) (by simp [results, Try.results12, go_sem]) rfl ⟨by rw [eM.out], ?_⟩
  exact (by (try simp only [ext_ext]); repeat (first | exact Kept.refl _ | apply Kept.alloc | apply Kept.drew | apply kept_add | apply Kept.ext))
theorem walk_FnExactSharedMiddle (ao : Option Addr) (xs : List Card) (cap : Nat) {w : World} (hx : CardsAt w ao xs) (hl : xs.length ≤ maxLen) (_ : World) :
    Calls Try.prog 3 #[.slice ao xs.length cap] w fun e w' => e = .returned (.bool true) ∧ Kept w w' := by
  have hl' : xs.length ≤ 9223372036854775807 := by unfold maxLen at hl; omega
  by_cases hn : xs.length ≤ 1048576
  · obtain ⟨C, M, ok, hS, hI⟩ : ∃ (C : Card) (M : Int) (ok : Bool), (∀ ao cap w, CardsAt w ao xs → Calls Try.prog 10 #[.slice ao xs.length cap] w fun e w' => e = .returned (.tuple #[C.v, .int .i64 M, .bool ok]) ∧ Kept w w') ∧ (∀ ao cap w, CardsAt w ao xs → xs.length ≤ cap → Calls Try.prog 12 #[.slice ao xs.length cap] w fun e w' => e = .returned (.tuple #[C.v, .int .i64 M, .bool ok]) ∧ Kept w w') := by
      cases hg : two xs with
      | false => exact ⟨⟨0, 0, 0, 0⟩, 0, false, fun _ _ _ hx => sSharedMiddle_no _ _ _ _ hx hn hg, fun _ _ _ hx _ => iSharedMiddle_no _ _ _ _ hx hn hg⟩
      | true => exact ⟨(smN xs 81).1, (smN xs 81).2, true, fun _ _ _ hx => sSharedMiddle_yes _ _ _ _ hx hg, fun _ _ _ hx hc => iSharedMiddle_yes _ _ _ _ hx hc hg⟩
    have hSH := hid hS
    have hIH := hid hI
    clear hS hI
    go_enter Try.func3, Try.ntmps3
    go_wp2_with (first | (go_at_call 9; refine Calls.mono (szIntA4S_any _ _ _ hl' _) ?_; rintro e w' ⟨rfl, rfl⟩) | (go_at_call 11; refine Calls.mono (toIntA4S_any _ _ _ _ (by first | assumption | exact CardsAt.kept (by assumption) (by (try simp only [ext_ext]); repeat (first | exact Kept.refl _ | apply Kept.alloc | apply Kept.drew | apply kept_add | apply Kept.ext))) hn) ?_; rintro e w' ⟨v, rfl, ho, z, rfl⟩; obtain ⟨ao', cap', rfl, hx', hcap'⟩ := ho.reads; clear ho) | (go_at_call 10; refine Calls.mono (hSH.out _ _ _ ((by first | assumption | exact CardsAt.kept (by assumption) (by (try simp only [ext_ext]); repeat (first | exact Kept.refl _ | apply Kept.alloc | apply Kept.drew | apply kept_add | apply Kept.ext))))) ?_; rintro e w' ⟨rfl, y, rfl⟩) | (go_at_call 12; refine Calls.mono (hIH.out _ _ _ (by first | assumption | exact CardsAt.kept (by assumption) (by (try simp only [ext_ext]); repeat (first | exact Kept.refl _ | apply Kept.alloc | apply Kept.drew | apply kept_add | apply Kept.ext))) (by assumption)) ?_; rintro e w' ⟨rfl, y, rfl⟩) | (go_at_call 14; refine Calls.mono (eqIntA4S_any _ _ _ _ _ _ _ (by first | assumption | exact CardsAt.kept (by assumption) (by (try simp only [ext_ext]); repeat (first | exact Kept.refl _ | apply Kept.alloc | apply Kept.drew | apply kept_add | apply Kept.ext))) (by first | assumption | exact CardsAt.kept (by assumption) (by (try simp only [ext_ext]); repeat (first | exact Kept.refl _ | apply Kept.alloc | apply Kept.drew | apply kept_add | apply Kept.ext))) hn hn) ?_; rintro e w' ⟨rfl, y, rfl⟩) | (go_at_call 13; refine Calls.mono (eqIntA4_any _ _ _) ?_; rintro e w' ⟨rfl, y, rfl⟩))
    all_goals
      go_ret
      exact ⟨rfl, (by (try simp only [ext_ext]); repeat (first | exact Kept.refl _ | apply Kept.alloc | apply Kept.drew | apply kept_add | apply Kept.ext))⟩
  · go_enter Try.func3, Try.ntmps3
    go_wp2_with (first | (go_at_call 9; refine Calls.mono (szIntA4S_any _ _ _ hl' _) ?_; rintro e w' ⟨rfl, rfl⟩))
    go_ret
    exact ⟨rfl, (by (try simp only [ext_ext]); repeat (first | exact Kept.refl _ | apply Kept.alloc | apply Kept.drew | apply kept_add | apply Kept.ext))⟩
end Go.Proofs.Ytlkjpammglljdab
