/- Walk: the law of CanLead. -/
import Derived.Test.YtifkjbihmmdnbabT40
import Derived.Test.YtifkjbihmmdnbabT39
import Derived.Test.YtifkjbihmmdnbabR3
namespace Go.Proofs.Ytifkjbihmmdnbab
open Go.RowKit
def leadOk (s n : Int) (laid : List Card) (scores wrong : List Int) (p : Int) : Bool := gameB s n laid scores wrong && inB p 0 ((scores.length : Int) - 1)
theorem leadOk_of {s n : Int} {laid : List Card} {scores wrong : List Int} {p : Int} (h : leadOk s n laid scores wrong p = true) : gameB s n laid scores wrong = true ∧ inB p 0 ((scores.length : Int) - 1) = true ∧ ∃ k : Nat, p = k ∧ k < scores.length := by
  simp only [leadOk, Bool.and_eq_true] at h
  have := inB_of h.2
  exact ⟨h.1, h.2, p.toNat, by omega, by omega⟩
theorem sCanLead_no (s n : Int) (lo so wo : Option Addr) (lc sc wc : Nat) (laid : List Card) (scores wrong : List Int) (p : Int) (w : World) (hx : CardsAt w lo laid) (hy : IntsAt w so scores) (hz : IntsAt w wo wrong) (hl : laid.length ≤ 1048576) (hl2 : scores.length ≤ 1048576) (hl3 : wrong.length ≤ 1048576) (hlc : laid.length ≤ lc) (hv : leadOk s n laid scores wrong p = false) :
    Calls Try.prog 16 #[gv s n (.slice lo laid.length lc) (.slice so scores.length sc) (.slice wo wrong.length wc), .int .i64 p] w fun e w' => e = .returned (.tuple #[.bool false, .bool false]) ∧ Kept w w' := by
  have hG0 := fun w' (hk : Kept w w') => l8Game_any s n lo so wo lc sc wc laid scores wrong w' (hx.kept hk) (hy.kept hk) (hz.kept hk) hl hl2 hl3 hlc
  cases hg : gameB s n laid scores wrong
  · rw [hg] at hG0
    have hG := hid hG0
    clear hG0
    go_enter Try.func16, Try.ntmps16
    go_wp2_with (first | (go_at_call 31; refine Calls.mono (hG.out _ ((by (try simp only [ext_ext]); repeat (first | exact Kept.refl _ | apply Kept.alloc | apply Kept.drew | apply kept_add | apply Kept.ext)))) ?_; rintro e w' ⟨rfl, y, rfl⟩))
    refine bodyPost_ret (v := .tuple #[.bool false, .bool false]) (by simp [results, Try.results16, go_sem]) rfl ⟨rfl, ?_⟩
    exact (by (try simp only [ext_ext]); repeat (first | exact Kept.refl _ | apply Kept.alloc | apply Kept.drew | apply kept_add | apply Kept.ext))
  cases hp : inB p 0 ((scores.length : Int) - 1)
  · rw [hg] at hG0
    have hG := hid hG0
    clear hG0
    go_enter Try.func16, Try.ntmps16
    go_wp2_with (first | (go_at_call 31; refine Calls.mono (hG.out _ ((by (try simp only [ext_ext]); repeat (first | exact Kept.refl _ | apply Kept.alloc | apply Kept.drew | apply kept_add | apply Kept.ext)))) ?_; rintro e w' ⟨rfl, y, rfl⟩) | (go_at_call 40; refine Calls.mono (l1In_any _ _ _ _) ?_; rintro e w' ⟨rfl, rfl⟩))
    refine bodyPost_ret (v := .tuple #[.bool false, .bool false]) (by simp [results, Try.results16, go_sem]) rfl ⟨rfl, ?_⟩
    exact (by (try simp only [ext_ext]); repeat (first | exact Kept.refl _ | apply Kept.alloc | apply Kept.drew | apply kept_add | apply Kept.ext))
  · simp [leadOk, hg, hp] at hv
theorem iCanLead_no (s n : Int) (lo so wo : Option Addr) (lc sc wc : Nat) (laid : List Card) (scores wrong : List Int) (p : Int) (w : World) (hx : CardsAt w lo laid) (hy : IntsAt w so scores) (hz : IntsAt w wo wrong) (hl : laid.length ≤ 1048576) (hl2 : scores.length ≤ 1048576) (hl3 : wrong.length ≤ 1048576) (hlc : laid.length ≤ lc) (hv : leadOk s n laid scores wrong p = false) :
    Calls Try.prog 17 #[gv s n (.slice lo laid.length lc) (.slice so scores.length sc) (.slice wo wrong.length wc), .int .i64 p] w fun e w' => e = .returned (.tuple #[.bool false, .bool false]) ∧ Kept w w' := by
  have hG0 := fun w' (hk : Kept w w') => IsGame_any s n lo so wo lc sc wc laid scores wrong w' (hx.kept hk) (hy.kept hk) (hz.kept hk) hl hl2 hl3 hlc
  cases hg : gameB s n laid scores wrong
  · rw [hg] at hG0
    have hG := hid hG0
    clear hG0
    go_enter Try.func17, Try.ntmps17
    go_wp2_with (first | (go_at_call 12; refine Calls.mono (hG.out _ ((by (try simp only [ext_ext]); repeat (first | exact Kept.refl _ | apply Kept.alloc | apply Kept.drew | apply kept_add | apply Kept.ext)))) ?_; rintro e w' ⟨rfl, y, rfl⟩))
    refine bodyPost_ret (v := .tuple #[.bool false, .bool false]) (by simp [results, Try.results17, go_sem]) rfl ⟨rfl, ?_⟩
    exact (by (try simp only [ext_ext]); repeat (first | exact Kept.refl _ | apply Kept.alloc | apply Kept.drew | apply kept_add | apply Kept.ext))
  cases hp : inB p 0 ((scores.length : Int) - 1)
  · rw [hg] at hG0
    have hG := hid hG0
    clear hG0
    go_enter Try.func17, Try.ntmps17
    go_wp2_with (first | (go_at_call 12; refine Calls.mono (hG.out _ ((by (try simp only [ext_ext]); repeat (first | exact Kept.refl _ | apply Kept.alloc | apply Kept.drew | apply kept_add | apply Kept.ext)))) ?_; rintro e w' ⟨rfl, y, rfl⟩) | (go_at_call 43; refine Calls.mono (isPlayer_any _ _ _ _ _ _ _ _ _ _ _ _ _ (by omega)) ?_; rintro e w' ⟨rfl, y, rfl⟩))
    refine bodyPost_ret (v := .tuple #[.bool false, .bool false]) (by simp [results, Try.results17, go_sem]) rfl ⟨rfl, ?_⟩
    exact (by (try simp only [ext_ext]); repeat (first | exact Kept.refl _ | apply Kept.alloc | apply Kept.drew | apply kept_add | apply Kept.ext))
  · simp [leadOk, hg, hp] at hv
theorem sCanLead_yes (s n : Int) (lo so wo : Option Addr) (lc sc wc : Nat) (laid : List Card) (scores wrong : List Int) (p : Int) (w : World) (hx : CardsAt w lo laid) (hy : IntsAt w so scores) (hz : IntsAt w wo wrong) (hl : laid.length ≤ 1048576) (hl2 : scores.length ≤ 1048576) (hl3 : wrong.length ≤ 1048576) (hlc : laid.length ≤ lc) (hv : leadOk s n laid scores wrong p = true) :
    Calls Try.prog 16 #[gv s n (.slice lo laid.length lc) (.slice so scores.length sc) (.slice wo wrong.length wc), .int .i64 p] w fun e w' => e = .returned (.tuple #[.bool (canB (ptsK scores wrong scores.length) scores.length p (aheadI n laid)), .bool true]) ∧ Kept w w' := by
  obtain ⟨hg, hp, k, rfl, hk⟩ := leadOk_of hv
  have hG0 := fun w' (hk : Kept w w') => l8Game_any s n lo so wo lc sc wc laid scores wrong w' (hx.kept hk) (hy.kept hk) (hz.kept hk) hl hl2 hl3 hlc
  rw [hg] at hG0
  have hG := hid hG0
  have hok := gameB_of hg
  have hP := hid (fun w' (hk : Kept w w') => l8Points_any s n lo so wo lc sc wc laid scores wrong w' (hy.kept hk) (hz.kept hk) hok)
  have hA := hid (fun w' => l8Ahead_any s n lo lc laid (.slice so scores.length sc) (.slice wo wrong.length wc) w' hok.n0 hok.n1 hok.laid81 _ _ _ _ _ _ rfl rfl)
  have hab := aheadI_bd hok
  have hpb := ptsK_bd hok
  have hpk := hpb k hk
  have h4 := hok.four
  have hlen := ptsK_len scores wrong scores.length
  have hB := hid (fun po cap w' hx => l8Best_any po cap (ptsK scores wrong scores.length) (k : Int) w' hx (by omega) (by rw [hlen]; exact hpb))
  have hbb := bestK_bd (ptsK scores wrong scores.length) (k : Int) scores.length hpb scores.length (Nat.le_refl _)
  have hcan : Hid (decide (bestK (ptsK scores wrong scores.length) (k : Int) scores.length < ix (ptsK scores wrong scores.length) k + aheadI n laid) = canB (ptsK scores wrong scores.length) scores.length (k : Int) (aheadI n laid)) := hid (by simp [canB])
  rw [hlen] at hB
  have hlenH := hid hlen
  clear hG0 hok hv hg hlen
  have bx := hid (fun (w' : World) (hk : Kept (w.alloc (.cells #[.int .i64 s, .int .i64 n, .slice lo laid.length lc, .slice so scores.length sc, .slice wo wrong.length wc] 32)) w') => (Box5.new (t := 32) s n (.slice lo laid.length lc) (.slice so scores.length sc) (.slice wo wrong.length wc) (rfl : w.heap.size = w.heap.size)).kept hk)
  go_enter Try.func16, Try.ntmps16
  go_wp2_with (first | (go_at_call 31; refine Calls.mono (hG.out _ ((by (try simp only [ext_ext]); repeat (first | exact Kept.refl _ | apply Kept.alloc | apply Kept.drew | apply kept_add | apply Kept.ext)))) ?_; rintro e w' ⟨rfl, y, rfl⟩) | (go_at_call 40; refine Calls.mono (l1In_any _ _ _ _) ?_; rintro e w' ⟨rfl, rfl⟩))
  (go_at_call 41; refine Calls.mono (hP.out _ (by (try simp only [ext_ext]); repeat (first | exact Kept.refl _ | apply Kept.alloc | apply Kept.drew | apply kept_add | apply Kept.ext))) ?_; rintro e w1 ⟨v, rfl, ho, k1⟩)
  have K1 : Kept w w1 := Kept.trans (by (try simp only [ext_ext]); repeat (first | exact Kept.refl _ | apply Kept.alloc | apply Kept.drew | apply kept_add | apply Kept.ext)) k1
  obtain ⟨b0, b1, b2, b3, b4, b5⟩ := bx.out w1 (Kept.trans (by (try simp only [ext_ext]); repeat (first | exact Kept.refl _ | apply Kept.alloc | apply Kept.drew | apply kept_add | apply Kept.ext)) k1)
  obtain ⟨po, pc, rfl, hpo, _⟩ := ho.reads
  obtain ⟨g, off, rfl, hgs, q1⟩ := hpo k (by rw [hlenH.out]; exact hk)
  rw [hlenH.out]
  go_wp2_with (fail)
  (refine wp_region_ext (by kernel_rfl) (by kernel_rfl) ?_; (repeat (go_big_quiet_step (first | (go_at_call 38; first | exact ext_call (hA.out _) | exact ext_call2 (hA.out _)) | (go_at_call 42; first | exact ext_call (hB.out _ _ _ (hpo.kept (by (try simp only [ext_ext]); repeat (first | exact Kept.refl _ | apply Kept.alloc | apply Kept.drew | apply kept_add | apply Kept.ext)))) | exact ext_call2 (hB.out _ _ _ (hpo.kept (by (try simp only [ext_ext]); repeat (first | exact Kept.refl _ | apply Kept.alloc | apply Kept.drew | apply kept_add | apply Kept.ext)))))))); refine wpQuiet_end fun z => ?_)
  go_wp2
  refine bodyPost_ret (v := .tuple #[.bool (decide (bestK (ptsK scores wrong scores.length) (k : Int) scores.length < ix (ptsK scores wrong scores.length) k + aheadI n laid)), .bool true]) (by simp [results, Try.results16, go_sem]) rfl ?_
  exact ⟨by rw [hcan.out], K1.trans (by (try simp only [ext_ext]); repeat (first | exact Kept.refl _ | apply Kept.alloc | apply Kept.drew | apply kept_add | apply Kept.ext))⟩
theorem iCanLead_yes (s n : Int) (lo so wo : Option Addr) (lc sc wc : Nat) (laid : List Card) (scores wrong : List Int) (p : Int) (w : World) (hx : CardsAt w lo laid) (hy : IntsAt w so scores) (hz : IntsAt w wo wrong) (hl : laid.length ≤ 1048576) (hl2 : scores.length ≤ 1048576) (hl3 : wrong.length ≤ 1048576) (hlc : laid.length ≤ lc) (hv : leadOk s n laid scores wrong p = true) :
    Calls Try.prog 17 #[gv s n (.slice lo laid.length lc) (.slice so scores.length sc) (.slice wo wrong.length wc), .int .i64 p] w fun e w' => e = .returned (.tuple #[.bool (canB (ptsK scores wrong scores.length) scores.length p (aheadI n laid)), .bool true]) ∧ Kept w w' := by
  obtain ⟨hg, hp, k, rfl, hk⟩ := leadOk_of hv
  have hG0 := fun w' (hk : Kept w w') => IsGame_any s n lo so wo lc sc wc laid scores wrong w' (hx.kept hk) (hy.kept hk) (hz.kept hk) hl hl2 hl3 hlc
  rw [hg] at hG0
  have hG := hid hG0
  have hok := gameB_of hg
  have hP := hid (fun w' (hk : Kept w w') => points_any s n lo so wo lc sc wc laid scores wrong w' (hy.kept hk) (hz.kept hk) hok)
  have hA := hid (fun w' => ahead_any s n lo lc laid (.slice so scores.length sc) (.slice wo wrong.length wc) w' hok.n0 hok.n1 hok.laid81 _ _ _ _ _ _ rfl rfl)
  have hab := aheadI_bd hok
  have hpb := ptsK_bd hok
  have hpk := hpb k hk
  have hpbH := hid hpb
  have hlen := ptsK_len scores wrong scores.length
  have hcan := hid (canB_eq (ptsK scores wrong scores.length) scores.length (k : Int) (aheadI n laid) (by simp; omega))
  have hlenH := hid hlen
  clear hG0 hok hv hg hlen hpb
  have bx := hid (fun (w' : World) (hk : Kept (w.alloc (.cells #[.int .i64 s, .int .i64 n, .slice lo laid.length lc, .slice so scores.length sc, .slice wo wrong.length wc] 32)) w') => (Box5.new (t := 32) s n (.slice lo laid.length lc) (.slice so scores.length sc) (.slice wo wrong.length wc) (rfl : w.heap.size = w.heap.size)).kept hk)
  go_enter Try.func17, Try.ntmps17
  go_wp2_with (first | (go_at_call 12; refine Calls.mono (hG.out _ ((by (try simp only [ext_ext]); repeat (first | exact Kept.refl _ | apply Kept.alloc | apply Kept.drew | apply kept_add | apply Kept.ext)))) ?_; rintro e w' ⟨rfl, y, rfl⟩) | (go_at_call 43; refine Calls.mono (isPlayer_any _ _ _ _ _ _ _ _ _ _ _ _ _ (by omega)) ?_; rintro e w' ⟨rfl, y, rfl⟩))
  (go_at_call 44; refine Calls.mono (hP.out _ (by (try simp only [ext_ext]); repeat (first | exact Kept.refl _ | apply Kept.alloc | apply Kept.drew | apply kept_add | apply Kept.ext))) ?_; rintro e w1 ⟨v, rfl, ho, k1⟩)
  have K1 : Kept w w1 := Kept.trans (by (try simp only [ext_ext]); repeat (first | exact Kept.refl _ | apply Kept.alloc | apply Kept.drew | apply kept_add | apply Kept.ext)) k1
  obtain ⟨b0, b1, b2, b3, b4, b5⟩ := bx.out w1 (Kept.trans (by (try simp only [ext_ext]); repeat (first | exact Kept.refl _ | apply Kept.alloc | apply Kept.drew | apply kept_add | apply Kept.ext)) k1)
  obtain ⟨po, pc, rfl, hpo, _⟩ := ho.reads
  obtain ⟨g, off, rfl, hgs, q1⟩ := hpo k (by rw [hlenH.out]; exact hk)
  rw [hlenH.out]
  have hsl : scores.length ≤ 1048576 := hl2
  go_wp2_with (fail)
  go_loopw [22] (fun i wr => ∃ j : Nat, j ≤ scores.length ∧ i = .int .i64 j ∧ (∀ m, m < j → (m : Int) ≠ (k : Int) → ix (ptsK scores wrong scores.length) m < ix (ptsK scores wrong scores.length) k + aheadI n laid) ∧ Kept w1 wr) (fun i _ => scores.length - (intOf i).toNat)
  case atStart => exact ⟨0, Nat.zero_le _, rfl, fun m hm => absurd hm (Nat.not_lt_zero _), (by (try simp only [ext_ext]); repeat (first | exact Kept.refl _ | apply Kept.alloc | apply Kept.drew | apply kept_add | apply Kept.ext))⟩
  case round =>
    obtain ⟨j, hj, rfl, hm, z, rfl⟩ := hrel
    have hmH := hid hm
    clear hm
    by_cases hlt : j < scores.length
    · obtain ⟨_, _, he, _, q2⟩ := hpo j (by rw [hlenH.out]; exact hlt)
      cases he
      have hj1 := hpbH.out j hlt
      by_cases he : (j : Int) = (k : Int)
      · have hd : ((j : Int) != (k : Int)) = false := by simp [he]
        go_wp2_with (first | (refine wp_region_ext (by kernel_rfl) (by kernel_rfl) ?_; (repeat (go_big_quiet_step (fail))); refine wpQuiet_end fun z => ?_))
        go_roundw
        case rel =>
          refine ⟨j + 1, hlt, by go_num, fun m hm hne => ?_, (by (try simp only [ext_ext]); repeat (first | exact Kept.refl _ | apply Kept.alloc | apply Kept.drew | apply kept_add | apply Kept.ext))⟩
          rcases Nat.lt_or_eq_of_le (Nat.le_of_lt_succ hm) with h3 | rfl
          · exact hmH.out m h3 hne
          · exact absurd he hne
        case measure => simp [intOf]; omega
      · have hd : ((j : Int) != (k : Int)) = true := by simp [he]
        by_cases hle : ix (ptsK scores wrong scores.length) k + aheadI n laid ≤ ix (ptsK scores wrong scores.length) j
        · have hno : Hid (canB (ptsK scores wrong scores.length) scores.length (k : Int) (aheadI n laid) = false) := hid (by
            cases hc : canB (ptsK scores wrong scores.length) scores.length (k : Int) (aheadI n laid) with
            | false => rfl
            | true => have := hcan.out.1 hc j hlt he; simp at this; omega)
          go_wp2_with (first | (refine wp_region_ext (by kernel_rfl) (by kernel_rfl) ?_; (repeat (go_big_quiet_step (first | (go_at_call 39; first | exact ext_call (hA.out _) | exact ext_call2 (hA.out _))))); refine wpQuiet_end fun z => ?_))
          refine bodyPost_ret (v := .tuple #[.bool false, .bool true]) (by simp [results, Try.results17, go_sem]) rfl ?_
          exact ⟨by rw [hno.out], K1.trans (by (try simp only [ext_ext]); repeat (first | exact Kept.refl _ | apply Kept.alloc | apply Kept.drew | apply kept_add | apply Kept.ext))⟩
        · go_wp2_with (first | (refine wp_region_ext (by kernel_rfl) (by kernel_rfl) ?_; (repeat (go_big_quiet_step (first | (go_at_call 39; first | exact ext_call (hA.out _) | exact ext_call2 (hA.out _))))); refine wpQuiet_end fun z => ?_))
          go_roundw
          case rel =>
            refine ⟨j + 1, hlt, by go_num, fun m hm hne => ?_, (by (try simp only [ext_ext]); repeat (first | exact Kept.refl _ | apply Kept.alloc | apply Kept.drew | apply kept_add | apply Kept.ext))⟩
            rcases Nat.lt_or_eq_of_le (Nat.le_of_lt_succ hm) with h3 | rfl
            · exact hmH.out m h3 hne
            · omega
          case measure => simp [intOf]; omega
    · obtain rfl : j = scores.length := by omega
      have hyes : Hid (canB (ptsK scores wrong scores.length) scores.length (k : Int) (aheadI n laid) = true) := hid (hcan.out.2 (by simpa using hmH.out))
      go_wp2
      refine bodyPost_ret (v := .tuple #[.bool true, .bool true]) (by simp [results, Try.results17, go_sem]) rfl ?_
      exact ⟨by rw [hyes.out], K1.trans (by (try simp only [ext_ext]); repeat (first | exact Kept.refl _ | apply Kept.alloc | apply Kept.drew | apply kept_add | apply Kept.ext))⟩
theorem twoCanLead (s n : Int) (laid : List Card) (scores wrong : List Int) (p : Int) (hl : laid.length ≤ 1048576) (hl2 : scores.length ≤ 1048576) (hl3 : wrong.length ≤ 1048576) :
    ∃ q ok, (∀ (lo so wo : Option Addr) (lc sc wc : Nat) (w : World), CardsAt w lo laid → IntsAt w so scores → IntsAt w wo wrong → laid.length ≤ lc → Calls Try.prog 16 #[gv s n (.slice lo laid.length lc) (.slice so scores.length sc) (.slice wo wrong.length wc), .int .i64 p] w fun e w' => e = .returned (.tuple #[.bool q, .bool ok]) ∧ Kept w w') ∧ (∀ (lo so wo : Option Addr) (lc sc wc : Nat) (w : World), CardsAt w lo laid → IntsAt w so scores → IntsAt w wo wrong → laid.length ≤ lc → Calls Try.prog 17 #[gv s n (.slice lo laid.length lc) (.slice so scores.length sc) (.slice wo wrong.length wc), .int .i64 p] w fun e w' => e = .returned (.tuple #[.bool q, .bool ok]) ∧ Kept w w') := by
  cases hv : leadOk s n laid scores wrong p with
  | false => exact ⟨false, false, fun _ _ _ _ _ _ _ hx hy hz hc => sCanLead_no _ _ _ _ _ _ _ _ _ _ _ _ _ hx hy hz hl hl2 hl3 hc hv, fun _ _ _ _ _ _ _ hx hy hz hc => iCanLead_no _ _ _ _ _ _ _ _ _ _ _ _ _ hx hy hz hl hl2 hl3 hc hv⟩
  | true => exact ⟨_, true, fun _ _ _ _ _ _ _ hx hy hz hc => sCanLead_yes _ _ _ _ _ _ _ _ _ _ _ _ _ hx hy hz hl hl2 hl3 hc hv, fun _ _ _ _ _ _ _ hx hy hz hc => iCanLead_yes _ _ _ _ _ _ _ _ _ _ _ _ _ hx hy hz hl hl2 hl3 hc hv⟩
set_option maxHeartbeats 1000000 in
theorem walk_FnExactCanLead (s n : Int) (lo so wo : Option Addr) (lc sc wc : Nat) (laid : List Card) (scores wrong : List Int) {w : World} (hx : CardsAt w lo laid) (hy : IntsAt w so scores) (hz : IntsAt w wo wrong) (hl : laid.length ≤ maxLen) (hl2 : scores.length ≤ maxLen) (hl3 : wrong.length ≤ maxLen) (p : Int) (_ : World) :
    Calls Try.prog 5 #[gv s n (.slice lo laid.length lc) (.slice so scores.length sc) (.slice wo wrong.length wc), .int .i64 p] w fun e w' => e = .returned (.bool true) ∧ Kept w w' := by
  have b1 : laid.length ≤ 9223372036854775807 := by unfold maxLen at hl; omega
  have b2 : scores.length ≤ 9223372036854775807 := by unfold maxLen at hl2; omega
  have b3 : wrong.length ≤ 9223372036854775807 := by unfold maxLen at hl3; omega
  have hsz := hid (szGame_any s n lo so wo laid.length lc scores.length sc wrong.length wc b1 b2 b3)
  by_cases hn : laid.length + scores.length + wrong.length ≤ 1048576
  · have m1 : laid.length ≤ 1048576 := by omega
    have m2 : scores.length ≤ 1048576 := by omega
    have m3 : wrong.length ≤ 1048576 := by omega
    have hlo : ¬ ((1048576 : Int) - (laid.length : Int) - (scores.length : Int) - (wrong.length : Int) < 0) := by omega
    obtain ⟨q, ok, hS, hI⟩ : ∃ q ok, (∀ (lo so wo : Option Addr) (lc sc wc : Nat) (w : World), CardsAt w lo laid → IntsAt w so scores → IntsAt w wo wrong → laid.length ≤ lc → Calls Try.prog 16 #[gv s n (.slice lo laid.length lc) (.slice so scores.length sc) (.slice wo wrong.length wc), .int .i64 p] w fun e w' => e = .returned (.tuple #[.bool q, .bool ok]) ∧ Kept w w') ∧ (∀ (lo so wo : Option Addr) (lc sc wc : Nat) (w : World), CardsAt w lo laid → IntsAt w so scores → IntsAt w wo wrong → laid.length ≤ lc → Calls Try.prog 17 #[gv s n (.slice lo laid.length lc) (.slice so scores.length sc) (.slice wo wrong.length wc), .int .i64 p] w fun e w' => e = .returned (.tuple #[.bool q, .bool ok]) ∧ Kept w w') := twoCanLead s n laid scores wrong p m1 m2 m3
    have hSH := hid hS
    have hIH := hid hI
    clear hS hI
    go_enter Try.func5, Try.ntmps5
    go_wp2_with (first | (go_at_call 9; refine Calls.mono (hsz.out _) ?_; rintro e w' ⟨rfl, y, rfl⟩))
    (go_at_call 11; refine Calls.mono (toGame_any s n _ _ _ _ _ _ laid scores wrong _ (hx.kept (by (try simp only [ext_ext]); repeat (first | exact Kept.refl _ | apply Kept.alloc | apply Kept.drew | apply kept_add | apply Kept.ext))) (hy.kept (by (try simp only [ext_ext]); repeat (first | exact Kept.refl _ | apply Kept.alloc | apply Kept.drew | apply kept_add | apply Kept.ext))) (hz.kept (by (try simp only [ext_ext]); repeat (first | exact Kept.refl _ | apply Kept.alloc | apply Kept.drew | apply kept_add | apply Kept.ext))) m1 m2 m3) ?_; rintro e w' ⟨lo1, lc1, so1, sc1, wo1, wc1, rfl, p1, p2, p3, _, _, _, z1, rfl⟩)
    obtain ⟨_, _, hv1, x1, k1⟩ := p1.reads
    cases hv1
    obtain ⟨_, _, hv1, x2, _⟩ := p2.reads
    cases hv1
    obtain ⟨_, _, hv1, x3, _⟩ := p3.reads
    cases hv1
    clear p1 p2 p3
    go_wp2_with (fail)
    simp only [ext_ext] at x1 x2 x3
    (go_at_call 16; refine Calls.mono (hSH.out _ _ _ _ _ _ _ x1 x2 x3 k1) ?_; rintro e w' ⟨rfl, y1, rfl⟩)
    clear x1 x2 x3
    go_wp2_with (fail)
    (go_at_call 11; refine Calls.mono (toGame_any s n _ _ _ _ _ _ laid scores wrong _ (hx.kept (by (try simp only [ext_ext]); repeat (first | exact Kept.refl _ | apply Kept.alloc | apply Kept.drew | apply kept_add | apply Kept.ext))) (hy.kept (by (try simp only [ext_ext]); repeat (first | exact Kept.refl _ | apply Kept.alloc | apply Kept.drew | apply kept_add | apply Kept.ext))) (hz.kept (by (try simp only [ext_ext]); repeat (first | exact Kept.refl _ | apply Kept.alloc | apply Kept.drew | apply kept_add | apply Kept.ext))) m1 m2 m3) ?_; rintro e w' ⟨lo2, lc2, so2, sc2, wo2, wc2, rfl, p1, p2, p3, _, _, _, z2, rfl⟩)
    obtain ⟨_, _, hv1, x1, k2⟩ := p1.reads
    cases hv1
    obtain ⟨_, _, hv1, x2, _⟩ := p2.reads
    cases hv1
    obtain ⟨_, _, hv1, x3, _⟩ := p3.reads
    cases hv1
    go_wp2_with (fail)
    simp only [ext_ext] at p1 p2 p3 x1 x2 x3
    (go_at_call 17; refine Calls.mono (hIH.out _ _ _ _ _ _ _ (x1.kept (by (try simp only [ext_ext]); repeat (first | exact Kept.refl _ | apply Kept.alloc | apply Kept.drew | apply kept_add | apply Kept.ext))) (x2.kept (by (try simp only [ext_ext]); repeat (first | exact Kept.refl _ | apply Kept.alloc | apply Kept.drew | apply kept_add | apply Kept.ext))) (x3.kept (by (try simp only [ext_ext]); repeat (first | exact Kept.refl _ | apply Kept.alloc | apply Kept.drew | apply kept_add | apply Kept.ext))) k2) ?_; rintro e w' ⟨rfl, y2, rfl⟩)
    go_wp2_with (fail)
    clear x1 x2 x3 hSH hIH hsz
    go_region_with (first | (go_at_call 11; refine Calls.mono (toGame_any s n _ _ _ _ _ _ laid scores wrong _ (hx.kept (by (try simp only [ext_ext]); repeat (first | exact Kept.refl _ | apply Kept.alloc | apply Kept.drew | apply kept_add | apply Kept.ext))) (hy.kept (by (try simp only [ext_ext]); repeat (first | exact Kept.refl _ | apply Kept.alloc | apply Kept.drew | apply kept_add | apply Kept.ext))) (hz.kept (by (try simp only [ext_ext]); repeat (first | exact Kept.refl _ | apply Kept.alloc | apply Kept.drew | apply kept_add | apply Kept.ext))) m1 m2 m3) ?_; rintro e w' ⟨lo3, lc3, so3, sc3, wo3, wc3, rfl, p4, p5, p6, _, _, _, z3, rfl⟩; simp only [ext_ext] at p4 p5 p6) | (go_at_call 13; refine Calls.mono (eqGame_any s n _ _ _ _ _ _ _ _ _ _ _ _ _ _ laid scores wrong _ (p1.kept (by (try simp only [ext_ext]); repeat (first | exact Kept.refl _ | apply Kept.alloc | apply Kept.drew | apply kept_add | apply Kept.ext))) (p4.kept (by (try simp only [ext_ext]); repeat (first | exact Kept.refl _ | apply Kept.alloc | apply Kept.drew | apply kept_add | apply Kept.ext))) (p2.kept (by (try simp only [ext_ext]); repeat (first | exact Kept.refl _ | apply Kept.alloc | apply Kept.drew | apply kept_add | apply Kept.ext))) (p5.kept (by (try simp only [ext_ext]); repeat (first | exact Kept.refl _ | apply Kept.alloc | apply Kept.drew | apply kept_add | apply Kept.ext))) (p3.kept (by (try simp only [ext_ext]); repeat (first | exact Kept.refl _ | apply Kept.alloc | apply Kept.drew | apply kept_add | apply Kept.ext))) (p6.kept (by (try simp only [ext_ext]); repeat (first | exact Kept.refl _ | apply Kept.alloc | apply Kept.drew | apply kept_add | apply Kept.ext))) m1 m2 m3) ?_; rintro e w' ⟨rfl, y3, rfl⟩))
    all_goals
      go_wp2
      go_ret
      exact ⟨rfl, (by (try simp only [ext_ext]); repeat (first | exact Kept.refl _ | apply Kept.alloc | apply Kept.drew | apply kept_add | apply Kept.ext))⟩
  · go_enter Try.func5, Try.ntmps5
    go_wp2_with (first | (go_at_call 9; refine Calls.mono (hsz.out _) ?_; rintro e w' ⟨rfl, y, rfl⟩))
    go_ret
    exact ⟨rfl, (by (try simp only [ext_ext]); repeat (first | exact Kept.refl _ | apply Kept.alloc | apply Kept.drew | apply kept_add | apply Kept.ext))⟩

end Go.Proofs.Ytifkjbihmmdnbab
