/- Walk: the law of CountCrossings. -/
import Derived.Test.YthiamiilgdkclaaT23
import Derived.Test.YthiamiilgdkclaaT14
import Derived.Test.YthiamiilgdkclaaT17
namespace Go.Proofs.Ythiamiilgdkclaa
open Go.RowKit
/-- What a pair of lines adds. -/
def crossI (xs : List Card) (k : Nat) : Int := rsum k fun i => rsum i fun j => comI (lx (linesC xs) i) (lx (linesC xs) j)
def crossRow (xs : List Card) (i m : Nat) : Int := rsum m fun j => comI (lx (linesC xs) i) (lx (linesC xs) j)
theorem crossI_next (xs : List Card) (k : Nat) : crossI xs (k + 1) = crossI xs k + crossRow xs k k := rfl
theorem crossRow_next (xs : List Card) (i m : Nat) : crossRow xs i (m + 1) = crossRow xs i m + comI (lx (linesC xs) i) (lx (linesC xs) m) := rfl
theorem crossRow_bd (xs : List Card) (i m : Nat) : 0 ≤ crossRow xs i m ∧ crossRow xs i m ≤ m * 3 := rsum_bd fun _ _ => comI_bd _ _
theorem crossI_bd (xs : List Card) (k : Nat) (h : k ≤ 6561) : 0 ≤ crossI xs k ∧ crossI xs k ≤ k * 19683 :=
  rsum_bd fun i hi => by
    have := crossRow_bd xs i i
    unfold crossRow at this
    omega
theorem sCountCrossings_no (ao : Option Addr) (cap : Nat) (xs : List Card) (w : World) (hx : CardsAt w ao xs) (hl : xs.length ≤ 1048576) (h : isHand xs = false) :
    Calls Try.prog 20 #[.slice ao xs.length cap] w fun e w' => e = .returned (.tuple #[.int .i64 0, .bool false]) ∧ Kept w w' := by
  go_enter Try.func20, Try.ntmps20
  go_wp2_with (first | (go_at_call 44; refine Calls.mono (l2Hand_any _ _ _ _ (by first | assumption | exact CardsAt.kept (by assumption) (by (try simp only [ext_ext]); repeat (first | exact Kept.refl _ | apply Kept.alloc | apply Kept.drew | apply kept_add | apply Kept.ext))) hl) ?_; rintro e w' ⟨rfl, y, rfl⟩))
  refine bodyPost_ret (v := .tuple #[.int .i64 0, .bool false]) (by simp [results, Try.results20, go_sem]) rfl ⟨rfl, ?_⟩
  exact (by (try simp only [ext_ext]); repeat (first | exact Kept.refl _ | apply Kept.alloc | apply Kept.drew | apply kept_add | apply Kept.ext))
theorem iCountCrossings_no (ao : Option Addr) (cap : Nat) (xs : List Card) (w : World) (hx : CardsAt w ao xs) (hl : xs.length ≤ 1048576) (h : isHand xs = false) :
    Calls Try.prog 21 #[.slice ao xs.length cap] w fun e w' => e = .returned (.tuple #[.int .i64 0, .bool false]) ∧ Kept w w' := by
  go_enter Try.func21, Try.ntmps21
  go_wp2_with (first | (go_at_call 49; refine Calls.mono (IsHand_any _ _ _ _ (by first | assumption | exact CardsAt.kept (by assumption) (by (try simp only [ext_ext]); repeat (first | exact Kept.refl _ | apply Kept.alloc | apply Kept.drew | apply kept_add | apply Kept.ext))) hl) ?_; rintro e w' ⟨rfl, y, rfl⟩))
  refine bodyPost_ret (v := .tuple #[.int .i64 0, .bool false]) (by simp [results, Try.results21, go_sem]) rfl ⟨rfl, ?_⟩
  exact (by (try simp only [ext_ext]); repeat (first | exact Kept.refl _ | apply Kept.alloc | apply Kept.drew | apply kept_add | apply Kept.ext))
theorem sCountCrossings_yes (ao : Option Addr) (cap : Nat) (xs : List Card) (w : World) (hx : CardsAt w ao xs) (hh : isHand xs = true) :
    Calls Try.prog 20 #[.slice ao xs.length cap] w fun e w' => e = .returned (.tuple #[.int .i64 (crossI xs (linesC xs).length), .bool true]) ∧ Kept w w' := by
  have hl27 := (isHand_of hh).1
  have hc := areC_hand hh
  have hd := distC_hand hh
  have hll := linesC_len xs (by omega)
  go_enter Try.func20, Try.ntmps20
  go_wp2_with (first | (go_at_call 44; refine Calls.mono (l2Hand_any _ _ _ _ (by first | assumption | exact CardsAt.kept (by assumption) (by (try simp only [ext_ext]); repeat (first | exact Kept.refl _ | apply Kept.alloc | apply Kept.drew | apply kept_add | apply Kept.ext))) (by omega)) ?_; rintro e w' ⟨rfl, y, rfl⟩) | (go_at_call 46; refine Calls.mono (l2Lines_any _ _ _ _ (by first | assumption | exact CardsAt.kept (by assumption) (by (try simp only [ext_ext]); repeat (first | exact Kept.refl _ | apply Kept.alloc | apply Kept.drew | apply kept_add | apply Kept.ext))) (by omega) hc) ?_; rintro e w' ⟨v, rfl, ho, z, rfl⟩; obtain ⟨ao', cap', rfl, hx', hcap'⟩ := ho.reads; clear ho))
  go_loopw [6, 4] (fun i s wr => ∃ n : Nat, n ≤ (linesC xs).length ∧ i = .int .i64 n ∧ s = .int .i64 (crossI xs n) ∧ Kept w wr ∧ LinesAt wr ao' (linesC xs)) (fun i _ _ => (linesC xs).length - (intOf i).toNat)
  case atStart => exact ⟨0, Nat.zero_le _, rfl, rfl, (by (try simp only [ext_ext]); repeat (first | exact Kept.refl _ | apply Kept.alloc | apply Kept.drew | apply kept_add | apply Kept.ext)), hx'.kept (by (try simp only [ext_ext]); repeat (first | exact Kept.refl _ | apply Kept.alloc | apply Kept.drew | apply kept_add | apply Kept.ext))⟩
  case round wr =>
    obtain ⟨n, hn, rfl, rfl, hkw, hxl⟩ := hrel
    have hkwH := hid hkw
    clear hkw
    have hb := crossI_bd xs n (by omega)
    by_cases hlt : n < (linesC xs).length
    · go_wp2
      go_loopw [7, 4] (fun j s wr => ∃ m : Nat, m ≤ n ∧ j = .int .i64 m ∧ s = .int .i64 (crossI xs n + crossRow xs n m) ∧ Kept w wr ∧ LinesAt wr ao' (linesC xs)) (fun j _ _ => n - (intOf j).toNat)
      case atStart => exact ⟨0, Nat.zero_le _, rfl, by simp [crossRow, rsum], hkwH.out.trans (by (try simp only [ext_ext]); repeat (first | exact Kept.refl _ | apply Kept.alloc | apply Kept.drew | apply kept_add | apply Kept.ext)), hxl.kept (by (try simp only [ext_ext]); repeat (first | exact Kept.refl _ | apply Kept.alloc | apply Kept.drew | apply kept_add | apply Kept.ext))⟩
      case round wr =>
        obtain ⟨m, hm, rfl, rfl, hkw, hxl⟩ := hrel
        have hkwH := hid hkw
        clear hkw
        have hb2 := crossRow_bd xs n m
        by_cases hlt2 : m < n
        · obtain ⟨gl, ol, rfl, hgl, q1, q2, q3⟩ := hxl n hlt
          obtain ⟨gl', ol', he, hgl', p1, p2, p3⟩ := hxl m (by omega)
          cases he
          have hml : m < (linesC xs).length := by omega
          have hci := comI_lines hc hd hlt2 hlt
          have hcs := comS_lines (a := lx (linesC xs) n) hml
          have hnx := hid (crossRow_next xs n m)
          have hcom : ∀ w, Calls Try.prog 54 #[(lx (linesC xs) n).v, (lx (linesC xs) m).v] w fun e w' => e = .returned (.int .i64 (comI (lx (linesC xs) n) (lx (linesC xs) m))) ∧ Kept w w' := fun w => by
            have := l7Common_any (lx (linesC xs) n) (lx (linesC xs) m) w
            rwa [hcs] at this
          have hcomH := hid hcom
          have hciH := hid hci
          clear hcom hcs hci
          rcases hciH.out with h01 | h01
          all_goals
            have h01H := hid h01
            have hcom1 := hcomH.out
            rw [h01] at hcom1
            clear h01
            have hcom1H := hid hcom1
            clear hcom1
            go_wp2_with (first | (refine wp_region_ext (by kernel_rfl) (by kernel_rfl) ?_; (repeat (go_big_quiet_step (((go_at_call 54; first | exact ext_call (hcom1H.out _) | exact ext_call2 (hcom1H.out _)))))); refine wpQuiet_end fun z => ?_))
            go_roundw
            case rel => exact ⟨m + 1, hlt2, by go_num, by rw [hnx.out, h01H.out]; go_num, hkwH.out.trans (by (try simp only [ext_ext]); repeat (first | exact Kept.refl _ | apply Kept.alloc | apply Kept.drew | apply kept_add | apply Kept.ext)), hxl.kept (by (try simp only [ext_ext]); repeat (first | exact Kept.refl _ | apply Kept.alloc | apply Kept.drew | apply kept_add | apply Kept.ext))⟩
            case measure => simp [intOf]; omega
        · obtain rfl : m = n := by omega
          go_wp2
          go_roundw
          case rel => exact ⟨m + 1, hlt, by go_num, by rw [crossI_next], hkwH.out.trans (by (try simp only [ext_ext]); repeat (first | exact Kept.refl _ | apply Kept.alloc | apply Kept.drew | apply kept_add | apply Kept.ext)), hxl.kept (by (try simp only [ext_ext]); repeat (first | exact Kept.refl _ | apply Kept.alloc | apply Kept.drew | apply kept_add | apply Kept.ext))⟩
          case measure => simp [intOf]; omega
    · obtain rfl : n = (linesC xs).length := by omega
      go_wp2
      refine bodyPost_ret (v := .tuple #[.int .i64 (crossI xs (linesC xs).length), .bool true]) (by simp [results, Try.results20, go_sem]) rfl ?_
      exact ⟨rfl, hkwH.out.trans (by (try simp only [ext_ext]); repeat (first | exact Kept.refl _ | apply Kept.alloc | apply Kept.drew | apply kept_add | apply Kept.ext))⟩
theorem iCountCrossings_yes (ao : Option Addr) (cap : Nat) (xs : List Card) (w : World) (hx : CardsAt w ao xs) (hh : isHand xs = true) :
    Calls Try.prog 21 #[.slice ao xs.length cap] w fun e w' => e = .returned (.tuple #[.int .i64 (crossI xs (linesC xs).length), .bool true]) ∧ Kept w w' := by
  have hl27 := (isHand_of hh).1
  have hc := areC_hand hh
  have hd := distC_hand hh
  have hll := linesC_len xs (by omega)
  go_enter Try.func21, Try.ntmps21
  go_wp2_with (first | (go_at_call 49; refine Calls.mono (IsHand_any _ _ _ _ (by first | assumption | exact CardsAt.kept (by assumption) (by (try simp only [ext_ext]); repeat (first | exact Kept.refl _ | apply Kept.alloc | apply Kept.drew | apply kept_add | apply Kept.ext))) (by omega)) ?_; rintro e w' ⟨rfl, y, rfl⟩) | (go_at_call 51; refine Calls.mono (linesIn_any _ _ _ _ (by first | assumption | exact CardsAt.kept (by assumption) (by (try simp only [ext_ext]); repeat (first | exact Kept.refl _ | apply Kept.alloc | apply Kept.drew | apply kept_add | apply Kept.ext))) (by omega) hc hd) ?_; rintro e w' ⟨v, rfl, ho, z, rfl⟩; obtain ⟨ao', cap', rfl, hx', hcap'⟩ := ho.reads; clear ho))
  go_loopw [17, 5] (fun i s wr => ∃ n : Nat, n ≤ (linesC xs).length ∧ i = .int .i64 n ∧ s = .int .i64 (crossI xs n) ∧ Kept w wr ∧ LinesAt wr ao' (linesC xs)) (fun i _ _ => (linesC xs).length - (intOf i).toNat)
  case atStart => exact ⟨0, Nat.zero_le _, rfl, rfl, (by (try simp only [ext_ext]); repeat (first | exact Kept.refl _ | apply Kept.alloc | apply Kept.drew | apply kept_add | apply Kept.ext)), hx'.kept (by (try simp only [ext_ext]); repeat (first | exact Kept.refl _ | apply Kept.alloc | apply Kept.drew | apply kept_add | apply Kept.ext))⟩
  case round wr =>
    obtain ⟨n, hn, rfl, rfl, hkw, hxl⟩ := hrel
    have hkwH := hid hkw
    clear hkw
    have hb := crossI_bd xs n (by omega)
    by_cases hlt : n < (linesC xs).length
    · obtain ⟨gl, ol, rfl, hgl, q1, q2, q3⟩ := hxl n hlt
      have hnc : n ≤ cap' := by omega
      go_wp2
      go_loopw [26, 5] (fun j s wr' => ∃ m : Nat, m ≤ n ∧ j = .int .i64 m ∧ s = .int .i64 (crossI xs n + crossRow xs n m) ∧ Kept (wr.alloc (.cells #[.int .i64 (lx (linesC xs) n).a, .int .i64 (lx (linesC xs) n).b, .int .i64 (lx (linesC xs) n).c] 69)) wr') (fun j _ _ => n - (intOf j).toNat)
      case atStart => exact ⟨0, Nat.zero_le _, rfl, by simp [crossRow, rsum], (by (try simp only [ext_ext]); repeat (first | exact Kept.refl _ | apply Kept.alloc | apply Kept.drew | apply kept_add | apply Kept.ext))⟩
      case round =>
        obtain ⟨m, hm, rfl, rfl, z, rfl⟩ := hrel
        have hb2 := crossRow_bd xs n m
        by_cases hlt2 : m < n
        · obtain ⟨gl', ol', he, hgl', p1, p2, p3⟩ := hxl m (by omega)
          cases he
          have hml : m < (linesC xs).length := by omega
          have hnx := hid (crossRow_next xs n m)
          have g1 : gl < wr.heap.size + 1 := by omega
          have g2 : gl < wr.heap.size + 1 + z.os.length := by omega
          have hci := comI_bd (lx (linesC xs) n) (lx (linesC xs) m)
          go_wp2_with (first | (go_at_call 55; refine Calls.mono (common_any _ _ _) ?_; rintro e w' ⟨rfl, y, rfl⟩))
          go_roundw
          case rel => exact ⟨m + 1, hlt2, by go_num, by rw [hnx.out]; go_num, (by (try simp only [ext_ext]); repeat (first | exact Kept.refl _ | apply Kept.alloc | apply Kept.drew | apply kept_add | apply Kept.ext))⟩
          case measure => simp [intOf]; omega
        · obtain rfl : m = n := by omega
          go_wp2
          go_roundw
          case rel => exact ⟨m + 1, hlt, by go_num, by rw [crossI_next], hkwH.out.trans (by (try simp only [ext_ext]); repeat (first | exact Kept.refl _ | apply Kept.alloc | apply Kept.drew | apply kept_add | apply Kept.ext)), hxl.kept (by (try simp only [ext_ext]); repeat (first | exact Kept.refl _ | apply Kept.alloc | apply Kept.drew | apply kept_add | apply Kept.ext))⟩
          case measure => simp [intOf]; omega
    · obtain rfl : n = (linesC xs).length := by omega
      go_wp2
      refine bodyPost_ret (v := .tuple #[.int .i64 (crossI xs (linesC xs).length), .bool true]) (by simp [results, Try.results21, go_sem]) rfl ?_
      exact ⟨rfl, hkwH.out.trans (by (try simp only [ext_ext]); repeat (first | exact Kept.refl _ | apply Kept.alloc | apply Kept.drew | apply kept_add | apply Kept.ext))⟩
theorem walk_FnExactCountCrossings (ao : Option Addr) (xs : List Card) (cap : Nat) {w : World} (hx : CardsAt w ao xs) (hl : xs.length ≤ maxLen) (_ : World) :
    Calls Try.prog 5 #[.slice ao xs.length cap] w fun e w' => e = .returned (.bool true) ∧ Kept w w' := by
  have hl' : xs.length ≤ 9223372036854775807 := by unfold maxLen at hl; omega
  by_cases hn : xs.length ≤ 1048576
  · cases hg : isHand xs with
    | false =>
      go_enter Try.func5, Try.ntmps5
      go_wp2_with (first | (go_at_call 14; refine Calls.mono (szIntA4S_any _ _ _ hl' _) ?_; rintro e w' ⟨rfl, rfl⟩) | (go_at_call 16; refine Calls.mono (toIntA4S_any _ _ _ _ (by first | assumption | exact CardsAt.kept (by assumption) (by (try simp only [ext_ext]); repeat (first | exact Kept.refl _ | apply Kept.alloc | apply Kept.drew | apply kept_add | apply Kept.ext))) hn) ?_; rintro e w' ⟨v, rfl, ho, z, rfl⟩; obtain ⟨ao', cap', rfl, hx', hcap'⟩ := ho.reads; clear ho) | (go_at_call 20; refine Calls.mono (sCountCrossings_no _ _ _ _ (by first | assumption | exact CardsAt.kept (by assumption) (by (try simp only [ext_ext]); repeat (first | exact Kept.refl _ | apply Kept.alloc | apply Kept.drew | apply kept_add | apply Kept.ext))) hn hg) ?_; rintro e w' ⟨rfl, y, rfl⟩) | (go_at_call 21; refine Calls.mono (iCountCrossings_no _ _ _ _ (by first | assumption | exact CardsAt.kept (by assumption) (by (try simp only [ext_ext]); repeat (first | exact Kept.refl _ | apply Kept.alloc | apply Kept.drew | apply kept_add | apply Kept.ext))) hn hg) ?_; rintro e w' ⟨rfl, y, rfl⟩) | (go_at_call 19; refine Calls.mono (eqIntA4S_any _ _ _ _ _ _ _ (by first | assumption | exact CardsAt.kept (by assumption) (by (try simp only [ext_ext]); repeat (first | exact Kept.refl _ | apply Kept.alloc | apply Kept.drew | apply kept_add | apply Kept.ext))) (by first | assumption | exact CardsAt.kept (by assumption) (by (try simp only [ext_ext]); repeat (first | exact Kept.refl _ | apply Kept.alloc | apply Kept.drew | apply kept_add | apply Kept.ext))) hn hn) ?_; rintro e w' ⟨rfl, y, rfl⟩))
      all_goals
        go_ret
        exact ⟨rfl, (by (try simp only [ext_ext]); repeat (first | exact Kept.refl _ | apply Kept.alloc | apply Kept.drew | apply kept_add | apply Kept.ext))⟩
    | true =>
      go_enter Try.func5, Try.ntmps5
      go_wp2_with (first | (go_at_call 14; refine Calls.mono (szIntA4S_any _ _ _ hl' _) ?_; rintro e w' ⟨rfl, rfl⟩) | (go_at_call 16; refine Calls.mono (toIntA4S_any _ _ _ _ (by first | assumption | exact CardsAt.kept (by assumption) (by (try simp only [ext_ext]); repeat (first | exact Kept.refl _ | apply Kept.alloc | apply Kept.drew | apply kept_add | apply Kept.ext))) hn) ?_; rintro e w' ⟨v, rfl, ho, z, rfl⟩; obtain ⟨ao', cap', rfl, hx', hcap'⟩ := ho.reads; clear ho) | (go_at_call 20; refine Calls.mono (sCountCrossings_yes _ _ _ _ (by first | assumption | exact CardsAt.kept (by assumption) (by (try simp only [ext_ext]); repeat (first | exact Kept.refl _ | apply Kept.alloc | apply Kept.drew | apply kept_add | apply Kept.ext))) hg) ?_; rintro e w' ⟨rfl, y, rfl⟩) | (go_at_call 21; refine Calls.mono (iCountCrossings_yes _ _ _ _ (by first | assumption | exact CardsAt.kept (by assumption) (by (try simp only [ext_ext]); repeat (first | exact Kept.refl _ | apply Kept.alloc | apply Kept.drew | apply kept_add | apply Kept.ext))) hg) ?_; rintro e w' ⟨rfl, y, rfl⟩) | (go_at_call 19; refine Calls.mono (eqIntA4S_any _ _ _ _ _ _ _ (by first | assumption | exact CardsAt.kept (by assumption) (by (try simp only [ext_ext]); repeat (first | exact Kept.refl _ | apply Kept.alloc | apply Kept.drew | apply kept_add | apply Kept.ext))) (by first | assumption | exact CardsAt.kept (by assumption) (by (try simp only [ext_ext]); repeat (first | exact Kept.refl _ | apply Kept.alloc | apply Kept.drew | apply kept_add | apply Kept.ext))) hn hn) ?_; rintro e w' ⟨rfl, y, rfl⟩))
      all_goals
        go_ret
        exact ⟨rfl, (by (try simp only [ext_ext]); repeat (first | exact Kept.refl _ | apply Kept.alloc | apply Kept.drew | apply kept_add | apply Kept.ext))⟩
  · go_enter Try.func5, Try.ntmps5
    go_wp2_with (first | (go_at_call 14; refine Calls.mono (szIntA4S_any _ _ _ hl' _) ?_; rintro e w' ⟨rfl, rfl⟩))
    go_ret
    exact ⟨rfl, (by (try simp only [ext_ext]); repeat (first | exact Kept.refl _ | apply Kept.alloc | apply Kept.drew | apply kept_add | apply Kept.ext))⟩
end Go.Proofs.Ythiamiilgdkclaa
