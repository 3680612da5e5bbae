/- Contracts: the place of a card in a list, whether it is there. -/
import Derived.Test.YtenmnipgnjaheaaT1
namespace Go.Proofs.Ytenmnipgnjaheaa
open Go.RowKit
/-- The place of a card, or -1. -/
def placeC (xs : List Card) (c : Card) : Int := idxOf (fun x => decide (x = c)) xs
def hasC (xs : List Card) (c : Card) : Bool := xs.any fun x => decide (x = c)
theorem placeC_some {xs : List Card} {c : Card} {k : Nat} (hk : k < xs.length) (h : cx xs k = c) (hn : ∀ j, j < k → decide (cx xs j = c) = false) : placeC xs c = k :=
  show idxOf (fun x => decide (x = c)) xs = k from idxOf_some (d := ⟨0, 0, 0, 0⟩) hk (by show decide (cx xs k = c) = true; exact decide_eq_true h) (fun j hj => by show decide (cx xs j = c) = false; exact hn j hj)
theorem placeC_none {xs : List Card} {c : Card} (hn : ∀ j, j < xs.length → decide (cx xs j = c) = false) : placeC xs c = -1 :=
  show idxOf (fun x => decide (x = c)) xs = -1 from idxOf_none (d := ⟨0, 0, 0, 0⟩) (fun j hj => by show decide (cx xs j = c) = false; exact hn j hj)
theorem placeC_has (xs : List Card) (c : Card) : decide (0 ≤ placeC xs c) = hasC xs c := idxOf_any _ xs
theorem placeC_le (xs : List Card) (c : Card) : -1 ≤ placeC xs c ∧ placeC xs c ≤ xs.length := idxOf_le _ xs
theorem l2Place_any (ao : Option Addr) (cap : Nat) (xs : List Card) (c : Card) (w : World) (hx : CardsAt w ao xs) (hl : xs.length ≤ 1048576) :
    Calls Try.prog 64 #[.slice ao xs.length cap, c.v] w fun e w' => e = .returned (.int .i64 (placeC xs c)) ∧ Kept w w' := by
  go_enter Try.func64, Try.ntmps64
  go_wp2
  go_loopw [5] (fun i wr => ∃ k : Nat, k ≤ xs.length ∧ i = .int .i64 k ∧ (∀ j, j < k → decide (cx xs j = c) = false) ∧ Kept (w.alloc (.cells #[.int .i64 c.a, .int .i64 c.b, .int .i64 c.c, .int .i64 c.d] 48)) wr) (fun i _ => xs.length - (intOf i).toNat)
  case atStart => exact ⟨0, Nat.zero_le _, rfl, fun j hj => absurd hj (Nat.not_lt_zero _), (by (try simp only [ext_ext]); repeat (first | exact Kept.refl _ | apply Kept.alloc | apply Kept.drew | apply kept_add | apply Kept.ext))⟩
  case round =>
    obtain ⟨k, hk, rfl, hn, z, rfl⟩ := hrel
    have hnH := hid hn
    clear hn
    by_cases hlt : k < xs.length
    · obtain ⟨g, off, rfl, hg, h1, h2, h3, h4⟩ := hx k hlt
      have g1 : g < w.heap.size + 1 := by omega
      have g2 : g < w.heap.size + 1 + z.os.length := by omega
      go_wp2_with (first | (refine wp_region_ext (by kernel_rfl) (by kernel_rfl) ?_; (repeat (go_big_quiet_step (fail))); refine wpQuiet_end fun z => ?_))
      · rename_i h
        go_ret
        exact ⟨ret_of (by rw [placeC_some hlt (by simpa using h) hnH.out]; rfl), (by (try simp only [ext_ext]); repeat (first | exact Kept.refl _ | apply Kept.alloc | apply Kept.drew | apply kept_add | apply Kept.ext))⟩
      · rename_i h
        go_roundw
        case rel =>
          refine ⟨k + 1, hlt, by go_num, fun j hj => ?_, (by (try simp only [ext_ext]); repeat (first | exact Kept.refl _ | apply Kept.alloc | apply Kept.drew | apply kept_add | apply Kept.ext))⟩
          rcases Nat.lt_or_eq_of_le (Nat.le_of_lt_succ hj) with h' | rfl
          · exact hnH.out j h'
          · simpa using h
        case measure => simp [intOf]; omega
    · go_wp2
      go_ret
      exact ⟨ret_of (by rw [placeC_none fun j hj => hnH.out j (by omega)]; rfl), (by (try simp only [ext_ext]); repeat (first | exact Kept.refl _ | apply Kept.alloc | apply Kept.drew | apply kept_add | apply Kept.ext))⟩
theorem l2Has_any (ao : Option Addr) (cap : Nat) (xs : List Card) (c : Card) (w : World) (hx : CardsAt w ao xs) (hl : xs.length ≤ 1048576) :
    Calls Try.prog 37 #[.slice ao xs.length cap, c.v] w fun e w' => e = .returned (.bool (hasC xs c)) ∧ Kept w w' := by
  go_enter Try.func37, Try.ntmps37
  go_wp2_with (first | (go_at_call 64; refine Calls.mono (l2Place_any _ _ _ c _ (by first | assumption | exact CardsAt.kept (by assumption) (by (try simp only [ext_ext]); repeat (first | exact Kept.refl _ | apply Kept.alloc | apply Kept.drew | apply kept_add | apply Kept.ext))) hl) ?_; rintro e w' ⟨rfl, y, rfl⟩))
  go_ret
  exact ⟨ret_of (congrArg Value.bool (placeC_has xs c)), (by (try simp only [ext_ext]); repeat (first | exact Kept.refl _ | apply Kept.alloc | apply Kept.drew | apply kept_add | apply Kept.ext))⟩
theorem index_cards (ao : Option Addr) (cap : Nat) (xs : List Card) (c : Card) (w : World) (hx : CardsAt w ao xs) (hl : xs.length ≤ 1048576) :
    Calls Try.prog 114 #[.slice ao xs.length cap, c.v] w fun e w' => e = .returned (.int .i64 (placeC xs c)) ∧ Kept w w' := by
  go_enter Try.func114, Try.ntmps114
  go_wp2
  go_loopw [8] (fun i wr => ∃ k : Nat, k ≤ xs.length ∧ i = .int .i64 k ∧ (∀ j, j < k → decide (cx xs j = c) = false) ∧ Kept (w.alloc (.cells #[.int .i64 c.a, .int .i64 c.b, .int .i64 c.c, .int .i64 c.d] 48)) wr) (fun i _ => xs.length - (intOf i).toNat)
  case atStart => exact ⟨0, Nat.zero_le _, rfl, fun j hj => absurd hj (Nat.not_lt_zero _), (by (try simp only [ext_ext]); repeat (first | exact Kept.refl _ | apply Kept.alloc | apply Kept.drew | apply kept_add | apply Kept.ext))⟩
  case round =>
    obtain ⟨k, hk, rfl, hn, z, rfl⟩ := hrel
    have hnH := hid hn
    clear hn
    by_cases hlt : k < xs.length
    · obtain ⟨g, off, rfl, hg, h1, h2, h3, h4⟩ := hx k hlt
      have g1 : g < w.heap.size + 1 := by omega
      have g2 : g < w.heap.size + 1 + z.os.length := by omega
      go_wp2_with (first | (refine wp_region_ext (by kernel_rfl) (by kernel_rfl) ?_; (repeat (go_big_quiet_step (fail))); refine wpQuiet_end fun z => ?_))
      · rename_i h
        go_ret
        exact ⟨ret_of (by rw [placeC_some hlt (by first | exact h.symm | exact (of_decide_eq_true h).symm) hnH.out]; rfl), (by (try simp only [ext_ext]); repeat (first | exact Kept.refl _ | apply Kept.alloc | apply Kept.drew | apply kept_add | apply Kept.ext))⟩
      · rename_i h
        go_roundw
        case rel =>
          refine ⟨k + 1, hlt, by go_num, fun j hj => ?_, (by (try simp only [ext_ext]); repeat (first | exact Kept.refl _ | apply Kept.alloc | apply Kept.drew | apply kept_add | apply Kept.ext))⟩
          rcases Nat.lt_or_eq_of_le (Nat.le_of_lt_succ hj) with h' | rfl
          · exact hnH.out j h'
          · first | exact decide_eq_false (fun e => h e.symm) | exact decide_eq_false (fun e => of_decide_eq_false h e.symm)
        case measure => simp [intOf]; omega
    · go_wp2
      go_ret
      exact ⟨ret_of (by rw [placeC_none fun j hj => hnH.out j (by omega)]; rfl), (by (try simp only [ext_ext]); repeat (first | exact Kept.refl _ | apply Kept.alloc | apply Kept.drew | apply kept_add | apply Kept.ext))⟩
theorem contains_cards (ao : Option Addr) (cap : Nat) (xs : List Card) (c : Card) (w : World) (hx : CardsAt w ao xs) (hl : xs.length ≤ 1048576) :
    Calls Try.prog 101 #[.slice ao xs.length cap, c.v] w fun e w' => e = .returned (.bool (hasC xs c)) ∧ Kept w w' := by
  go_enter Try.func101, Try.ntmps101
  go_wp2_with (first | (go_at_call 114; refine Calls.mono (index_cards _ _ _ c _ (by first | assumption | exact CardsAt.kept (by assumption) (by (try simp only [ext_ext]); repeat (first | exact Kept.refl _ | apply Kept.alloc | apply Kept.drew | apply kept_add | apply Kept.ext))) hl) ?_; rintro e w' ⟨rfl, y, rfl⟩))
  go_ret
  exact ⟨ret_of (congrArg Value.bool (placeC_has xs c)), (by (try simp only [ext_ext]); repeat (first | exact Kept.refl _ | apply Kept.alloc | apply Kept.drew | apply kept_add | apply Kept.ext))⟩
theorem has_any (ao : Option Addr) (cap : Nat) (xs : List Card) (c : Card) (w : World) (hx : CardsAt w ao xs) (hl : xs.length ≤ 1048576) :
    Calls Try.prog 89 #[.slice ao xs.length cap, c.v] w fun e w' => e = .returned (.bool (hasC xs c)) ∧ Kept w w' := by
  go_enter Try.func89, Try.ntmps89
  go_wp2_with (first | (go_at_call 101; refine Calls.mono (contains_cards _ _ _ c _ (by first | assumption | exact CardsAt.kept (by assumption) (by (try simp only [ext_ext]); repeat (first | exact Kept.refl _ | apply Kept.alloc | apply Kept.drew | apply kept_add | apply Kept.ext))) hl) ?_; rintro e w' ⟨rfl, y, rfl⟩))
  go_ret
  exact ⟨rfl, (by (try simp only [ext_ext]); repeat (first | exact Kept.refl _ | apply Kept.alloc | apply Kept.drew | apply kept_add | apply Kept.ext))⟩
end Go.Proofs.Ytenmnipgnjaheaa
