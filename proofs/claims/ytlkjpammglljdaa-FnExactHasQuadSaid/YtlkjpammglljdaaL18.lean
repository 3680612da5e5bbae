/- Walk: the law of HasQuad. -/
import Derived.Test.YtlkjpammglljdaaT16
namespace Go.Proofs.Ytlkjpammglljdaa
open Go.RowKit
def anyQ (xs : List Card) (k : Nat) : Bool := (List.range k).any fun n => decide (1 < thr xs (cardN (n : Int)))
theorem anyQ_next (xs : List Card) (k : Nat) : anyQ xs (k + 1) = (anyQ xs k || decide (1 < thr xs (cardN (k : Int)))) := by simp [anyQ, List.range_succ]
theorem anyQ_yes {xs : List Card} {k : Nat} (hk : k < 81) (h : 1 < thr xs (cardN (k : Int))) : anyQ xs 81 = true :=
  List.any_eq_true.2 ⟨k, List.mem_range.2 hk, decide_eq_true h⟩
theorem anyQ_max {xs : List Card} (hc : areC xs) (hd : distC xs) : decide (2 ≤ maxTo (tl 81 (thT xs xs.length 0)) 80) = anyQ xs 81 := by
  have hv : ∀ j : Nat, j ≤ 80 → ix (tl 81 (thT xs xs.length 0)) j = thr xs (cardN (j : Int)) := fun j hj => by rw [tl_ix _ (by omega), thT_thr hc hd hj]
  cases h : anyQ xs 81 with
  | true =>
    simp only [anyQ, List.any_eq_true, List.mem_range, decide_eq_true_eq] at h
    obtain ⟨j, hj, h⟩ := h
    have := maxTo_ge (tl 81 (thT xs xs.length 0)) 80 j (by omega)
    rw [hv j (by omega)] at this
    exact decide_eq_true (by omega)
  | false =>
    refine decide_eq_false fun hm => ?_
    obtain ⟨j, hj, e⟩ := maxTo_at (tl 81 (thT xs xs.length 0)) 80
    rw [hv j hj] at e
    rw [anyQ_yes (k := j) (by omega) (by omega)] at h
    cases h
theorem sHasQuad_no (ao : Option Addr) (cap : Nat) (xs : List Card) (w : World) (hx : CardsAt w ao xs) (hl : xs.length ≤ 1048576) (h : isHand xs = false) :
    Calls Try.prog 27 #[.slice ao xs.length cap] w fun e w' => e = .returned (.tuple #[.bool false, .bool false]) ∧ Kept w w' := by
  go_enter Try.func27, Try.ntmps27
  go_wp2_with (first | (go_at_call 37; refine Calls.mono (l2Hand_any _ _ _ _ (by first | assumption | exact CardsAt.kept (by assumption) (by (try simp only [ext_ext]); repeat (first | exact Kept.refl _ | apply Kept.alloc | apply Kept.drew | apply kept_add | apply Kept.ext))) hl) ?_; rintro e w' ⟨rfl, y, rfl⟩))
  refine bodyPost_ret (v := .tuple #[.bool false, .bool false]) (by simp [results, Try.results27, go_sem]) rfl ⟨rfl, ?_⟩
  exact (by (try simp only [ext_ext]); repeat (first | exact Kept.refl _ | apply Kept.alloc | apply Kept.drew | apply kept_add | apply Kept.ext))
theorem iHasQuad_no (ao : Option Addr) (cap : Nat) (xs : List Card) (w : World) (hx : CardsAt w ao xs) (hl : xs.length ≤ 1048576) (h : isHand xs = false) :
    Calls Try.prog 28 #[.slice ao xs.length cap] w fun e w' => e = .returned (.tuple #[.bool false, .bool false]) ∧ Kept w w' := by
  go_enter Try.func28, Try.ntmps28
  go_wp2_with (first | (go_at_call 44; refine Calls.mono (IsHand_any _ _ _ _ (by first | assumption | exact CardsAt.kept (by assumption) (by (try simp only [ext_ext]); repeat (first | exact Kept.refl _ | apply Kept.alloc | apply Kept.drew | apply kept_add | apply Kept.ext))) hl) ?_; rintro e w' ⟨rfl, y, rfl⟩))
  refine bodyPost_ret (v := .tuple #[.bool false, .bool false]) (by simp [results, Try.results28, go_sem]) rfl ⟨rfl, ?_⟩
  exact (by (try simp only [ext_ext]); repeat (first | exact Kept.refl _ | apply Kept.alloc | apply Kept.drew | apply kept_add | apply Kept.ext))
theorem sHasQuad_yes (ao : Option Addr) (cap : Nat) (xs : List Card) (w : World) (hx : CardsAt w ao xs) (h : isHand xs = true) :
    Calls Try.prog 27 #[.slice ao xs.length cap] w fun e w' => e = .returned (.tuple #[.bool (anyQ xs 81), .bool true]) ∧ Kept w w' := by
  have hl27 := (isHand_of h).1
  have hc := areC_hand h
  go_enter Try.func27, Try.ntmps27
  go_wp2_with (first | (go_at_call 37; refine Calls.mono (l2Hand_any _ _ _ _ (by first | assumption | exact CardsAt.kept (by assumption) (by (try simp only [ext_ext]); repeat (first | exact Kept.refl _ | apply Kept.alloc | apply Kept.drew | apply kept_add | apply Kept.ext))) (by omega)) ?_; rintro e w' ⟨rfl, y, rfl⟩))
  go_loopw [4] (fun i wr => ∃ n : Nat, n ≤ 81 ∧ i = .int .i64 n ∧ anyQ xs n = false ∧ Kept w wr) (fun i _ => 81 - (intOf i).toNat)
  case atStart => exact ⟨0, by omega, rfl, rfl, (by (try simp only [ext_ext]); repeat (first | exact Kept.refl _ | apply Kept.alloc | apply Kept.drew | apply kept_add | apply Kept.ext))⟩
  case round =>
    obtain ⟨n, hn, rfl, hq, z, rfl⟩ := hrel
    have hqH := hid hq
    clear hq
    have hnx := hid (anyQ_next xs n)
    by_cases hlt : n < 81
    · have hy := fun hh => hid (anyQ_yes (xs := xs) (k := n) hlt hh)
      have hyH := hid hy
      clear hy
      go_wp2_with (first | (go_at_call 51; refine Calls.mono (l2At_any _ (by omega) (by omega) _) ?_; rintro e w' ⟨rfl, y, rfl⟩) | (go_at_call 50; refine Calls.mono (l2Through_any _ _ _ (cardN n) _ (by first | assumption | exact CardsAt.kept (by assumption) (by (try simp only [ext_ext]); repeat (first | exact Kept.refl _ | apply Kept.alloc | apply Kept.drew | apply kept_add | apply Kept.ext))) (by omega) hc) ?_; rintro e w' ⟨rfl, y, rfl⟩))
      · rename_i hcmp
        refine bodyPost_ret (v := .tuple #[.bool true, .bool true]) (by simp [results, Try.results27, go_sem]) rfl ⟨by rw [(hyH.out hcmp).out], (by (try simp only [ext_ext]); repeat (first | exact Kept.refl _ | apply Kept.alloc | apply Kept.drew | apply kept_add | apply Kept.ext))⟩
      · rename_i hcmp
        go_roundw
        case rel => exact ⟨n + 1, by omega, by go_num, by rw [hnx.out, hqH.out, decide_eq_false (by omega)]; rfl, (by (try simp only [ext_ext]); repeat (first | exact Kept.refl _ | apply Kept.alloc | apply Kept.drew | apply kept_add | apply Kept.ext))⟩
        case measure => simp [intOf]; omega
    · obtain rfl : n = 81 := by omega
      go_wp2
      refine bodyPost_ret (v := .tuple #[.bool false, .bool true]) (by simp [results, Try.results27, go_sem]) rfl ⟨by rw [hqH.out], (by (try simp only [ext_ext]); repeat (first | exact Kept.refl _ | apply Kept.alloc | apply Kept.drew | apply kept_add | apply Kept.ext))⟩
theorem iHasQuad_yes (ao : Option Addr) (cap : Nat) (xs : List Card) (w : World) (hx : CardsAt w ao xs) (hcap : xs.length ≤ cap) (h : isHand xs = true) :
    Calls Try.prog 28 #[.slice ao xs.length cap] w fun e w' => e = .returned (.tuple #[.bool (anyQ xs 81), .bool true]) ∧ Kept w w' := by
  have hl27 := (isHand_of h).1
  have hc := areC_hand h
  have hd := distC_hand h
  go_enter Try.func28, Try.ntmps28
  go_wp2_with (first | (go_at_call 44; refine Calls.mono (IsHand_any _ _ _ _ (by first | assumption | exact CardsAt.kept (by assumption) (by (try simp only [ext_ext]); repeat (first | exact Kept.refl _ | apply Kept.alloc | apply Kept.drew | apply kept_add | apply Kept.ext))) (by omega)) ?_; rintro e w' ⟨rfl, y, rfl⟩) | (go_at_call 52; refine Calls.mono (thirds_any _ _ _ _ (by first | assumption | exact CardsAt.kept (by assumption) (by (try simp only [ext_ext]); repeat (first | exact Kept.refl _ | apply Kept.alloc | apply Kept.drew | apply kept_add | apply Kept.ext))) (by omega) hcap hc) ?_; rintro e w' ⟨rfl, y, rfl⟩) | refine wpList_tab_alloc rfl rfl ?_ | refine wpList_tab_store rfl _ _ rfl _ _ rfl rfl ?_ | (go_at_call 53; refine Calls.mono (maxInts_any _ _ 80 (tl 81 (thT xs xs.length 0)) _ (intsAt_tab (heap_at (by simp))) (tl_len _ _) (by omega)) ?_; rintro e w' ⟨rfl, y, rfl⟩))
  refine bodyPost_ret (v := .tuple #[.bool (decide (2 ≤ maxTo (tl 81 (thT xs xs.length 0)) 80)), .bool true]) (by simp [results, Try.results28, go_sem]) rfl ⟨by rw [anyQ_max hc hd], (by (try simp only [ext_ext]); repeat (first | exact Kept.refl _ | apply Kept.alloc | apply Kept.drew | apply kept_add | apply Kept.ext))⟩
theorem walk_FnExactHasQuad (ao : Option Addr) (xs : List Card) (cap : Nat) {w : World} (hx : CardsAt w ao xs) (hl : xs.length ≤ maxLen) (_ : World) :
    Calls Try.prog 7 #[.slice ao xs.length cap] w fun e w' => e = .returned (.bool true) ∧ Kept w w' := by
  have hl' : xs.length ≤ 9223372036854775807 := by unfold maxLen at hl; omega
  by_cases hn : xs.length ≤ 1048576
  · cases hg : isHand xs with
    | false =>
      go_enter Try.func7, Try.ntmps7
      go_wp2_with (first | (go_at_call 17; refine Calls.mono (szIntA4S_any _ _ _ hl' _) ?_; rintro e w' ⟨rfl, rfl⟩) | (go_at_call 19; refine Calls.mono (toIntA4S_any _ _ _ _ (by first | assumption | exact CardsAt.kept (by assumption) (by (try simp only [ext_ext]); repeat (first | exact Kept.refl _ | apply Kept.alloc | apply Kept.drew | apply kept_add | apply Kept.ext))) hn) ?_; rintro e w' ⟨v, rfl, ho, z, rfl⟩; obtain ⟨ao', cap', rfl, hx', hcap'⟩ := ho.reads; clear ho) | (go_at_call 27; refine Calls.mono (sHasQuad_no _ _ _ _ (by first | assumption | exact CardsAt.kept (by assumption) (by (try simp only [ext_ext]); repeat (first | exact Kept.refl _ | apply Kept.alloc | apply Kept.drew | apply kept_add | apply Kept.ext))) hn hg) ?_; rintro e w' ⟨rfl, y, rfl⟩) | (go_at_call 28; refine Calls.mono (iHasQuad_no _ _ _ _ (by first | assumption | exact CardsAt.kept (by assumption) (by (try simp only [ext_ext]); repeat (first | exact Kept.refl _ | apply Kept.alloc | apply Kept.drew | apply kept_add | apply Kept.ext))) hn hg) ?_; rintro e w' ⟨rfl, y, rfl⟩) | (go_at_call 12; refine Calls.mono (eqIntA4S_any _ _ _ _ _ _ _ (by first | assumption | exact CardsAt.kept (by assumption) (by (try simp only [ext_ext]); repeat (first | exact Kept.refl _ | apply Kept.alloc | apply Kept.drew | apply kept_add | apply Kept.ext))) (by first | assumption | exact CardsAt.kept (by assumption) (by (try simp only [ext_ext]); repeat (first | exact Kept.refl _ | apply Kept.alloc | apply Kept.drew | apply kept_add | apply Kept.ext))) hn hn) ?_; rintro e w' ⟨rfl, y, rfl⟩))
      all_goals
        go_ret
        exact ⟨rfl, (by (try simp only [ext_ext]); repeat (first | exact Kept.refl _ | apply Kept.alloc | apply Kept.drew | apply kept_add | apply Kept.ext))⟩
    | true =>
      go_enter Try.func7, Try.ntmps7
      go_wp2_with (first | (go_at_call 17; refine Calls.mono (szIntA4S_any _ _ _ hl' _) ?_; rintro e w' ⟨rfl, rfl⟩) | (go_at_call 19; refine Calls.mono (toIntA4S_any _ _ _ _ (by first | assumption | exact CardsAt.kept (by assumption) (by (try simp only [ext_ext]); repeat (first | exact Kept.refl _ | apply Kept.alloc | apply Kept.drew | apply kept_add | apply Kept.ext))) hn) ?_; rintro e w' ⟨v, rfl, ho, z, rfl⟩; obtain ⟨ao', cap', rfl, hx', hcap'⟩ := ho.reads; clear ho) | (go_at_call 27; refine Calls.mono (sHasQuad_yes _ _ _ _ (by first | assumption | exact CardsAt.kept (by assumption) (by (try simp only [ext_ext]); repeat (first | exact Kept.refl _ | apply Kept.alloc | apply Kept.drew | apply kept_add | apply Kept.ext))) hg) ?_; rintro e w' ⟨rfl, y, rfl⟩) | (go_at_call 28; refine Calls.mono (iHasQuad_yes _ _ _ _ (by first | assumption | exact CardsAt.kept (by assumption) (by (try simp only [ext_ext]); repeat (first | exact Kept.refl _ | apply Kept.alloc | apply Kept.drew | apply kept_add | apply Kept.ext))) (by assumption) hg) ?_; rintro e w' ⟨rfl, y, rfl⟩) | (go_at_call 12; refine Calls.mono (eqIntA4S_any _ _ _ _ _ _ _ (by first | assumption | exact CardsAt.kept (by assumption) (by (try simp only [ext_ext]); repeat (first | exact Kept.refl _ | apply Kept.alloc | apply Kept.drew | apply kept_add | apply Kept.ext))) (by first | assumption | exact CardsAt.kept (by assumption) (by (try simp only [ext_ext]); repeat (first | exact Kept.refl _ | apply Kept.alloc | apply Kept.drew | apply kept_add | apply Kept.ext))) hn hn) ?_; rintro e w' ⟨rfl, y, rfl⟩))
      all_goals
        go_ret
        exact ⟨rfl, (by (try simp only [ext_ext]); repeat (first | exact Kept.refl _ | apply Kept.alloc | apply Kept.drew | apply kept_add | apply Kept.ext))⟩
  · go_enter Try.func7, Try.ntmps7
    go_wp2_with (first | (go_at_call 17; refine Calls.mono (szIntA4S_any _ _ _ hl' _) ?_; rintro e w' ⟨rfl, rfl⟩))
    go_ret
    exact ⟨rfl, (by (try simp only [ext_ext]); repeat (first | exact Kept.refl _ | apply Kept.alloc | apply Kept.drew | apply kept_add | apply Kept.ext))⟩
end Go.Proofs.Ytlkjpammglljdaa
