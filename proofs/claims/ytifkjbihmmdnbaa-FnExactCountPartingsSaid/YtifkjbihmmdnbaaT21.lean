/- Contracts: the place of a number among numbers, whether it is there. -/
import Derived.Test.YtifkjbihmmdnbaaC0
import Derived.Test.YtifkjbihmmdnbaaB2
namespace Go.Proofs.Ytifkjbihmmdnbaa
open Go.RowKit
theorem indexInts_any (ao : Option Addr) (cap : Nat) (xs : List Int) (v : Int) (w : World) (hx : IntsAt w ao xs) (hl : xs.length ≤ 1048576) :
    Calls Try.prog 70 #[.slice ao xs.length cap, .int .i64 v] w fun e w' => e = .returned (.int .i64 (idxOf (fun x => decide (x = v)) xs)) ∧ Kept w w' := by
  go_enter Try.func70, Try.ntmps70
  go_wp2
  go_loopw [8] (fun i wr => ∃ k : Nat, k ≤ xs.length ∧ i = .int .i64 k ∧ (∀ j, j < k → decide (ix xs j = v) = false) ∧ Kept w wr) (fun i _ => xs.length - (intOf i).toNat)
  case atStart => exact ⟨0, Nat.zero_le _, rfl, fun j hj => absurd hj (Nat.not_lt_zero _), (by (try simp only [ext_ext]); repeat (first | exact Kept.refl _ | apply Kept.alloc | apply Kept.drew | apply kept_add | apply Kept.ext))⟩
  case round =>
    obtain ⟨k, hk, rfl, hn, z, rfl⟩ := hrel
    have hnH := hid hn
    clear hn
    by_cases hlt : k < xs.length
    · obtain ⟨g, off, rfl, hg, h1⟩ := hx k hlt
      go_wp2_with (first | (refine wp_region_ext (by kernel_rfl) (by kernel_rfl) ?_; (repeat (go_big_quiet_step (fail))); refine wpQuiet_end fun z => ?_))
      · rename_i h
        go_ret
        exact ⟨ret_of (by rw [idxOf_some (d := 0) hlt (by first | exact decide_eq_true h.symm | exact decide_eq_true (of_decide_eq_true h).symm) hnH.out]; rfl), (by (try simp only [ext_ext]); repeat (first | exact Kept.refl _ | apply Kept.alloc | apply Kept.drew | apply kept_add | apply Kept.ext))⟩
      · rename_i h
        go_roundw
        case rel =>
          refine ⟨k + 1, hlt, by go_num, fun j hj => ?_, (by (try simp only [ext_ext]); repeat (first | exact Kept.refl _ | apply Kept.alloc | apply Kept.drew | apply kept_add | apply Kept.ext))⟩
          rcases Nat.lt_or_eq_of_le (Nat.le_of_lt_succ hj) with h' | rfl
          · exact hnH.out j h'
          · first | exact decide_eq_false (fun e => h e.symm) | exact decide_eq_false (fun e => of_decide_eq_false h e.symm)
        case measure => simp [intOf]; omega
    · go_wp2
      go_ret
      exact ⟨ret_of (by rw [idxOf_none (d := 0) fun j hj => hnH.out j (by omega)]; rfl), (by (try simp only [ext_ext]); repeat (first | exact Kept.refl _ | apply Kept.alloc | apply Kept.drew | apply kept_add | apply Kept.ext))⟩
theorem indexIntsN (ao : Option Addr) (cap n : Nat) (xs : List Int) (v : Int) (w : World) (hx : IntsAt w ao xs) (hl : xs.length = n) (hb : n ≤ 1048576) :
    Calls Try.prog 70 #[.slice ao n cap, .int .i64 v] w fun e w' => e = .returned (.int .i64 (idxOf (fun x => decide (x = v)) xs)) ∧ Kept w w' := by
  subst hl
  exact indexInts_any ao cap xs v w hx hb
theorem containsInts_any (ao : Option Addr) (cap : Nat) (xs : List Int) (v : Int) (w : World) (hx : IntsAt w ao xs) (hl : xs.length ≤ 1048576) :
    Calls Try.prog 51 #[.slice ao xs.length cap, .int .i64 v] w fun e w' => e = .returned (.bool (xs.any fun x => decide (x = v))) ∧ Kept w w' := by
  go_enter Try.func51, Try.ntmps51
  go_wp2_with (first | (go_at_call 70; refine Calls.mono (indexInts_any _ _ _ _ _ hx hl) ?_; rintro e w' ⟨rfl, y, rfl⟩))
  go_ret
  exact ⟨ret_of (congrArg Value.bool (idxOf_any _ _)), (by (try simp only [ext_ext]); repeat (first | exact Kept.refl _ | apply Kept.alloc | apply Kept.drew | apply kept_add | apply Kept.ext))⟩
theorem containsIntsN (ao : Option Addr) (cap n : Nat) (xs : List Int) (v : Int) (w : World) (hx : IntsAt w ao xs) (hl : xs.length = n) (hb : n ≤ 1048576) :
    Calls Try.prog 51 #[.slice ao n cap, .int .i64 v] w fun e w' => e = .returned (.bool (xs.any fun x => decide (x = v))) ∧ Kept w w' := by
  subst hl
  exact containsInts_any ao cap xs v w hx hb
end Go.Proofs.Ytifkjbihmmdnbaa
