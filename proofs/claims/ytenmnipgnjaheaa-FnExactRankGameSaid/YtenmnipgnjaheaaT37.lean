/- Contracts: whether a game is valid. -/
import Derived.Test.YtenmnipgnjaheaaT36
namespace Go.Proofs.Ytenmnipgnjaheaa
open Go.RowKit
def all60 (xs : List Int) : Bool := xs.all fun x => inB x 0 60
def gameB (s n : Int) (laid : List Card) (scores wrong : List Int) : Bool := inB (scores.length : Int) 1 4 && decide (wrong.length = scores.length) && all60 scores && all60 wrong && dealB s n laid
theorem all60_no {xs : List Int} {i : Nat} (hi : i < xs.length) (h : inB (ix xs i) 0 60 = false) : all60 xs = false := by
  cases hp : all60 xs with
  | false => rfl
  | true =>
    have := List.all_eq_true.1 hp _ (List.getElem_mem hi)
    rw [← ix_get xs i hi, h] at this; cases this
theorem all60_yes {xs : List Int} (h : ∀ i, i < xs.length → inB (ix xs i) 0 60 = true) : all60 xs = true :=
  List.all_eq_true.2 fun x hx => by
    obtain ⟨i, hi, rfl⟩ := List.mem_iff_getElem.1 hx
    have := h i hi
    rwa [ix_get xs i hi] at this
theorem IsGame_any (s n : Int) (lo so wo : Option Addr) (lc sc wc : Nat) (laid : List Card) (scores wrong : List Int) (w : World) (hx : CardsAt w lo laid) (hy : IntsAt w so scores) (hz : IntsAt w wo wrong)
    (hl : laid.length ≤ 1048576) (hl2 : scores.length ≤ 1048576) (hl3 : wrong.length ≤ 1048576) (hlc : laid.length ≤ lc) :
    Calls Try.prog 48 #[gv s n (.slice lo laid.length lc) (.slice so scores.length sc) (.slice wo wrong.length wc)] w fun e w' => e = .returned (.bool (gameB s n laid scores wrong)) ∧ Kept w w' := by
  cases h1 : inB (scores.length : Int) 1 4
  · have hv : Hid (gameB s n laid scores wrong = false) := hid (by simp [gameB, h1])
    go_enter Try.func48, Try.ntmps48
    go_wp2_with (first | (go_at_call 69; refine Calls.mono (within_any _ _ _ _) ?_; rintro e w' ⟨rfl, rfl⟩))
    go_ret
    exact ⟨ret_of (by rw [hv.out]; rfl), (by (try simp only [ext_ext]); repeat (first | exact Kept.refl _ | apply Kept.alloc | apply Kept.drew | apply kept_add | apply Kept.ext))⟩
  by_cases h2' : wrong.length = scores.length
  rotate_left
  · have hv : Hid (gameB s n laid scores wrong = false) := hid (by simp [gameB, h2'])
    go_enter Try.func48, Try.ntmps48
    go_wp2_with (first | (go_at_call 69; refine Calls.mono (within_any _ _ _ _) ?_; rintro e w' ⟨rfl, rfl⟩))
    go_ret
    exact ⟨ret_of (by rw [hv.out]; rfl), (by (try simp only [ext_ext]); repeat (first | exact Kept.refl _ | apply Kept.alloc | apply Kept.drew | apply kept_add | apply Kept.ext))⟩
  have hS0 := fun w' (hk : Kept w w') => allWithin_any 0 60 so sc scores w' (hy.kept hk) hl2
  have hW0 := fun w' (hk : Kept w w') => allWithin_any 0 60 wo wc wrong w' (hz.kept hk) hl3
  have hD0 := fun w' (hk : Kept w w') => IsDeal_any s n lo lc laid w' (hx.kept hk) hl hlc
  rw [h2'] at hW0
  cases h3 : all60 scores
  · have hv : Hid (gameB s n laid scores wrong = false) := hid (by simp [gameB, h3])
    rw [show (scores.all fun x => inB x 0 60) = false from h3] at hS0
    have hS := hid hS0
    clear hS0 hW0 hD0
    go_enter Try.func48, Try.ntmps48
    go_wp2_with (first | (go_at_call 69; refine Calls.mono (within_any _ _ _ _) ?_; rintro e w' ⟨rfl, rfl⟩) | (go_at_call 70; refine Calls.mono (hS.out _ ((by (try simp only [ext_ext]); repeat (first | exact Kept.refl _ | apply Kept.alloc | apply Kept.drew | apply kept_add | apply Kept.ext)))) ?_; rintro e w' ⟨rfl, y, rfl⟩))
    go_ret
    exact ⟨ret_of (by rw [hv.out]; rfl), (by (try simp only [ext_ext]); repeat (first | exact Kept.refl _ | apply Kept.alloc | apply Kept.drew | apply kept_add | apply Kept.ext))⟩
  rw [show (scores.all fun x => inB x 0 60) = true from h3] at hS0
  have hS := hid hS0
  clear hS0
  cases h4 : all60 wrong
  · have hv : Hid (gameB s n laid scores wrong = false) := hid (by simp [gameB, h4])
    rw [show (wrong.all fun x => inB x 0 60) = false from h4] at hW0
    have hW := hid hW0
    clear hW0 hD0
    go_enter Try.func48, Try.ntmps48
    go_wp2_with (first | (go_at_call 69; refine Calls.mono (within_any _ _ _ _) ?_; rintro e w' ⟨rfl, rfl⟩))
    (go_at_call 70; refine Calls.mono (hS.out _ ((by (try simp only [ext_ext]); repeat (first | exact Kept.refl _ | apply Kept.alloc | apply Kept.drew | apply kept_add | apply Kept.ext)))) ?_; rintro e w' ⟨rfl, y, rfl⟩)
    go_wp2_with (fail)
    (go_at_call 70; refine Calls.mono (hW.out _ ((by (try simp only [ext_ext]); repeat (first | exact Kept.refl _ | apply Kept.alloc | apply Kept.drew | apply kept_add | apply Kept.ext)))) ?_; rintro e w' ⟨rfl, y2, rfl⟩)
    go_wp2_with (fail)
    go_ret
    exact ⟨ret_of (by rw [hv.out]; rfl), (by (try simp only [ext_ext]); repeat (first | exact Kept.refl _ | apply Kept.alloc | apply Kept.drew | apply kept_add | apply Kept.ext))⟩
  have hv : Hid (gameB s n laid scores wrong = dealB s n laid) := hid (by simp [gameB, h1, h2', h3, h4])
  rw [show (wrong.all fun x => inB x 0 60) = true from h4] at hW0
  have hW := hid hW0
  have hD := hid hD0
  clear hW0 hD0
  go_enter Try.func48, Try.ntmps48
  go_wp2_with (first | (go_at_call 69; refine Calls.mono (within_any _ _ _ _) ?_; rintro e w' ⟨rfl, rfl⟩))
  (go_at_call 70; refine Calls.mono (hS.out _ ((by (try simp only [ext_ext]); repeat (first | exact Kept.refl _ | apply Kept.alloc | apply Kept.drew | apply kept_add | apply Kept.ext)))) ?_; rintro e w' ⟨rfl, y, rfl⟩)
  go_wp2_with (fail)
  (go_at_call 70; refine Calls.mono (hW.out _ ((by (try simp only [ext_ext]); repeat (first | exact Kept.refl _ | apply Kept.alloc | apply Kept.drew | apply kept_add | apply Kept.ext)))) ?_; rintro e w' ⟨rfl, y2, rfl⟩)
  go_wp2_with (first | (go_at_call 71; refine Calls.mono (hD.out _ ((by (try simp only [ext_ext]); repeat (first | exact Kept.refl _ | apply Kept.alloc | apply Kept.drew | apply kept_add | apply Kept.ext)))) ?_; rintro e w' ⟨rfl, y, rfl⟩))
  go_ret
  exact ⟨ret_of (by rw [hv.out]; rfl), (by (try simp only [ext_ext]); repeat (first | exact Kept.refl _ | apply Kept.alloc | apply Kept.drew | apply kept_add | apply Kept.ext))⟩
theorem l8Game_any (s n : Int) (lo so wo : Option Addr) (lc sc wc : Nat) (laid : List Card) (scores wrong : List Int) (w : World) (hx : CardsAt w lo laid) (hy : IntsAt w so scores) (hz : IntsAt w wo wrong)
    (hl : laid.length ≤ 1048576) (hl2 : scores.length ≤ 1048576) (_ : wrong.length ≤ 1048576) (hlc : laid.length ≤ lc) :
    Calls Try.prog 43 #[gv s n (.slice lo laid.length lc) (.slice so scores.length sc) (.slice wo wrong.length wc)] w fun e w' => e = .returned (.bool (gameB s n laid scores wrong)) ∧ Kept w w' := by
  have hD0 := fun w' (hk : Kept w w') => l4Deal_any s n lo lc laid w' (hx.kept hk) hl hlc
  cases h5 : dealB s n laid
  · have hv : Hid (gameB s n laid scores wrong = false) := hid (by simp [gameB, h5])
    rw [h5] at hD0
    have hD := hid hD0
    clear hD0
    go_enter Try.func43, Try.ntmps43
    go_wp2_with (first | (go_at_call 67; refine Calls.mono (hD.out _ ((by (try simp only [ext_ext]); repeat (first | exact Kept.refl _ | apply Kept.alloc | apply Kept.drew | apply kept_add | apply Kept.ext)))) ?_; rintro e w' ⟨rfl, y, rfl⟩))
    go_ret
    exact ⟨ret_of (by rw [hv.out]; rfl), (by (try simp only [ext_ext]); repeat (first | exact Kept.refl _ | apply Kept.alloc | apply Kept.drew | apply kept_add | apply Kept.ext))⟩
  rw [h5] at hD0
  have hD := hid hD0
  clear hD0
  cases h1 : inB (scores.length : Int) 1 4
  · have hv : Hid (gameB s n laid scores wrong = false) := hid (by simp [gameB, h1])
    go_enter Try.func43, Try.ntmps43
    go_wp2_with (first | (go_at_call 67; refine Calls.mono (hD.out _ ((by (try simp only [ext_ext]); repeat (first | exact Kept.refl _ | apply Kept.alloc | apply Kept.drew | apply kept_add | apply Kept.ext)))) ?_; rintro e w' ⟨rfl, y, rfl⟩) | (go_at_call 68; refine Calls.mono (l1In_any _ _ _ _) ?_; rintro e w' ⟨rfl, rfl⟩))
    go_ret
    exact ⟨ret_of (by rw [hv.out]; rfl), (by (try simp only [ext_ext]); repeat (first | exact Kept.refl _ | apply Kept.alloc | apply Kept.drew | apply kept_add | apply Kept.ext))⟩
  cases h2 : decide ((wrong.length : Int) = (scores.length : Int))
  · have h2n := of_decide_eq_false h2
    have hne : ((wrong.length : Int) != (scores.length : Int)) = true := by simpa using h2n
    have hv : Hid (gameB s n laid scores wrong = false) := hid (by
      have : ¬ wrong.length = scores.length := by omega
      simp [gameB, this])
    clear h2 h2n
    go_enter Try.func43, Try.ntmps43
    go_wp2_with (first | (go_at_call 67; refine Calls.mono (hD.out _ ((by (try simp only [ext_ext]); repeat (first | exact Kept.refl _ | apply Kept.alloc | apply Kept.drew | apply kept_add | apply Kept.ext)))) ?_; rintro e w' ⟨rfl, y, rfl⟩) | (go_at_call 68; refine Calls.mono (l1In_any _ _ _ _) ?_; rintro e w' ⟨rfl, rfl⟩))
    go_ret
    exact ⟨ret_of (by rw [hv.out]; rfl), (by (try simp only [ext_ext]); repeat (first | exact Kept.refl _ | apply Kept.alloc | apply Kept.drew | apply kept_add | apply Kept.ext))⟩
  have h2' : wrong.length = scores.length := by have := of_decide_eq_true h2; omega
  have hv : Hid (gameB s n laid scores wrong = (all60 scores && all60 wrong)) := hid (by simp [gameB, h1, h2', h5])
  have hne : ((wrong.length : Int) != (scores.length : Int)) = false := by simp [h2']
  have h2H := hid h2'
  clear h2 h2'
  go_enter Try.func43, Try.ntmps43
  go_wp2_with (first | (go_at_call 67; refine Calls.mono (hD.out _ ((by (try simp only [ext_ext]); repeat (first | exact Kept.refl _ | apply Kept.alloc | apply Kept.drew | apply kept_add | apply Kept.ext)))) ?_; rintro e w' ⟨rfl, y, rfl⟩) | (go_at_call 68; refine Calls.mono (l1In_any _ _ _ _) ?_; rintro e w' ⟨rfl, rfl⟩))
  go_loopw [3] (fun i wr => ∃ k : Nat, k ≤ scores.length ∧ i = .int .i64 k ∧ (∀ j, j < k → inB (ix scores j) 0 60 = true ∧ inB (ix wrong j) 0 60 = true) ∧ Kept (w.alloc (.cells #[.int .i64 s, .int .i64 n, .slice lo laid.length lc, .slice so scores.length sc, .slice wo wrong.length wc] 41)) wr) (fun i _ => scores.length - (intOf i).toNat)
  case atStart => exact ⟨0, Nat.zero_le _, rfl, fun j hj => absurd hj (Nat.not_lt_zero _), (by (try simp only [ext_ext]); repeat (first | exact Kept.refl _ | apply Kept.alloc | apply Kept.drew | apply kept_add | apply Kept.ext))⟩
  case round =>
    obtain ⟨k, hk, rfl, hn, z, rfl⟩ := hrel
    have hnH := hid hn
    clear hn
    by_cases hlt : k < scores.length
    · have hlt2 : k < wrong.length := by rw [h2H.out]; exact hlt
      obtain ⟨g, off, rfl, hg, q1⟩ := hy k hlt
      obtain ⟨g2, off2, rfl, hg2, q2⟩ := hz k hlt2
      have g1 : g < w.heap.size + 1 := by omega
      have g3 : g2 < w.heap.size + 1 := by omega
      cases hA : inB (ix scores k) 0 60
      · have hno := hid (all60_no hlt hA)
        go_wp2_with (first | (go_at_call 68; refine Calls.mono (l1In_any _ _ _ _) ?_; rintro e w' ⟨rfl, rfl⟩))
        go_ret
        exact ⟨ret_of (by rw [hv.out, hno.out]; rfl), (by (try simp only [ext_ext]); repeat (first | exact Kept.refl _ | apply Kept.alloc | apply Kept.drew | apply kept_add | apply Kept.ext))⟩
      · cases hB : inB (ix wrong k) 0 60
        · have hno := hid (all60_no hlt2 hB)
          go_wp2_with (first | (go_at_call 68; refine Calls.mono (l1In_any _ _ _ _) ?_; rintro e w' ⟨rfl, rfl⟩))
          go_ret
          exact ⟨ret_of (by rw [hv.out, hno.out, Bool.and_false]; rfl), (by (try simp only [ext_ext]); repeat (first | exact Kept.refl _ | apply Kept.alloc | apply Kept.drew | apply kept_add | apply Kept.ext))⟩
        · have hAH := hid hA
          have hBH := hid hB
          go_wp2_with (first | (go_at_call 68; refine Calls.mono (l1In_any _ _ _ _) ?_; rintro e w' ⟨rfl, rfl⟩))
          go_roundw
          case rel =>
            refine ⟨k + 1, hlt, by go_num, fun j hj => ?_, (by (try simp only [ext_ext]); repeat (first | exact Kept.refl _ | apply Kept.alloc | apply Kept.drew | apply kept_add | apply Kept.ext))⟩
            rcases Nat.lt_or_eq_of_le (Nat.le_of_lt_succ hj) with h' | rfl
            · exact hnH.out j h'
            · exact ⟨hAH.out, hBH.out⟩
          case measure => simp [intOf]; omega
    · have hyes : Hid ((all60 scores && all60 wrong) = true) := hid (by
        rw [all60_yes fun i hi => (hnH.out i (by omega)).1, all60_yes fun i hi => (hnH.out i (by have := h2H.out; omega)).2]; rfl)
      go_wp2
      go_ret
      exact ⟨ret_of (by rw [hv.out, hyes.out]; rfl), (by (try simp only [ext_ext]); repeat (first | exact Kept.refl _ | apply Kept.alloc | apply Kept.drew | apply kept_add | apply Kept.ext))⟩
end Go.Proofs.Ytenmnipgnjaheaa
