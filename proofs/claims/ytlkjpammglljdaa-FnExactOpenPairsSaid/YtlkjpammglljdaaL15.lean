/- Walk: the law of OpenPairs. -/
import Derived.Test.YtlkjpammglljdaaT14
import Derived.Test.YtlkjpammglljdaaT26
namespace Go.Proofs.Ytlkjpammglljdaa
open Go.RowKit
def open01 (xs : List Card) (i k : Nat) : Int := if hasC xs (thirdC (cx xs i) (cx xs k)) = true then 0 else 1
def opRow (xs : List Card) (i m : Nat) : Int := rsum m fun k => open01 xs i k
def opN (xs : List Card) (n : Nat) : Int := rsum n fun i => opRow xs i i
theorem opRow_next (xs : List Card) (i m : Nat) : opRow xs i (m + 1) = opRow xs i m + open01 xs i m := rfl
theorem opN_next (xs : List Card) (n : Nat) : opN xs (n + 1) = opN xs n + opRow xs n n := rfl
theorem open01_bd (xs : List Card) (i k : Nat) : 0 ≤ open01 xs i k ∧ open01 xs i k ≤ 1 := by unfold open01; split <;> omega
theorem opRow_bd (xs : List Card) (i m : Nat) : 0 ≤ opRow xs i m ∧ opRow xs i m ≤ m * 1 := rsum_bd fun k _ => open01_bd _ _ _
theorem opN_bd (xs : List Card) (n : Nat) (h : n ≤ 27) : 0 ≤ opN xs n ∧ opN xs n ≤ n * 27 := rsum_bd fun i hi => by have := opRow_bd xs i i; omega
theorem tri_num (n : Nat) : 2 * rsum n (fun i => (i : Int)) = (n : Int) * ((n : Int) - 1) := by
  induction n with
  | zero => rfl
  | succ n ih =>
    rw [rsum_succ, Int.mul_add, ih, Int.natCast_add, show ((1 : Nat) : Int) = 1 from rfl, show ((n : Int) + 1) - 1 = n by omega, Int.mul_sub, Int.add_mul]
    omega
theorem rsum_ones (n : Nat) : (rsum n fun _ => (1 : Int)) = n := by
  induction n with
  | zero => rfl
  | succ n ih => rw [rsum_succ, ih]; omega
theorem opN_val {xs : List Card} (hc : areC xs) (hd : distC xs) : opN xs xs.length = ((xs.length : Int) * ((xs.length : Int) - 1)) / 2 - 3 * ((linesC xs).length : Int) := by
  have h1 : opN xs xs.length + lowP xs.length (fun i k => has01 xs i k) = rsum xs.length fun i => (i : Int) := by
    unfold opN lowP
    rw [← rsum_add]
    refine rsum_congr fun i _ => ?_
    unfold opRow
    rw [← rsum_add]
    have e : (rsum i fun k => open01 xs i k + has01 xs k i) = rsum i fun _ => 1 := rsum_congr fun k _ => by
      unfold open01 has01
      rw [thirdC_comm (cx xs k) (cx xs i)]
      split <;> rfl
    rw [e, rsum_ones]
  have h2 := tri_num xs.length
  rw [pairs_lines hc hd] at h1
  rw [← h2]
  rw [Int.mul_ediv_cancel_left _ (by decide)]
  omega
theorem sOpenPairs_no (ao : Option Addr) (cap : Nat) (xs : List Card) (w : World) (hx : CardsAt w ao xs) (hl : xs.length ≤ 1048576) (h : isHand xs = false) :
    Calls Try.prog 21 #[.slice ao xs.length cap] w fun e w' => e = .returned (.tuple #[.int .i64 0, .bool false]) ∧ Kept w w' := by
  have h0 : 0 < xs.length := by
    rcases Nat.eq_zero_or_pos xs.length with h' | h'
    · have e : xs = [] := List.eq_nil_of_length_eq_zero h'
      subst e
      exact absurd h (by decide)
    · exact h'
  go_enter Try.func21, Try.ntmps21
  go_wp2
  refine wp_loop_rounds 1 ?_
  rw [rounds_succ]
  go_wp2_with (first | (go_at_call 37; refine Calls.mono (l2Hand_any _ _ _ _ (by first | assumption | exact CardsAt.kept (by assumption) (by (try simp only [ext_ext]); repeat (first | exact Kept.refl _ | apply Kept.alloc | apply Kept.drew | apply kept_add | apply Kept.ext))) hl) ?_; rintro e w' ⟨rfl, y, rfl⟩))
  refine bodyPost_ret (v := .tuple #[.int .i64 0, .bool false]) (by simp [results, Try.results21, go_sem]) rfl ⟨rfl, ?_⟩
  exact (by (try simp only [ext_ext]); repeat (first | exact Kept.refl _ | apply Kept.alloc | apply Kept.drew | apply kept_add | apply Kept.ext))
theorem iOpenPairs_no (ao : Option Addr) (cap : Nat) (xs : List Card) (w : World) (hx : CardsAt w ao xs) (hl : xs.length ≤ 1048576) (h : isHand xs = false) :
    Calls Try.prog 22 #[.slice ao xs.length cap] w fun e w' => e = .returned (.tuple #[.int .i64 0, .bool false]) ∧ Kept w w' := by
  go_enter Try.func22, Try.ntmps22
  go_wp2_with (first | (go_at_call 44; refine Calls.mono (IsHand_any _ _ _ _ (by first | assumption | exact CardsAt.kept (by assumption) (by (try simp only [ext_ext]); repeat (first | exact Kept.refl _ | apply Kept.alloc | apply Kept.drew | apply kept_add | apply Kept.ext))) hl) ?_; rintro e w' ⟨rfl, y, rfl⟩))
  refine bodyPost_ret (v := .tuple #[.int .i64 0, .bool false]) (by simp [results, Try.results22, go_sem]) rfl ⟨rfl, ?_⟩
  exact (by (try simp only [ext_ext]); repeat (first | exact Kept.refl _ | apply Kept.alloc | apply Kept.drew | apply kept_add | apply Kept.ext))
theorem sOpenPairs_yes (ao : Option Addr) (cap : Nat) (xs : List Card) (w : World) (hx : CardsAt w ao xs) (hh : isHand xs = true) :
    Calls Try.prog 21 #[.slice ao xs.length cap] w fun e w' => e = .returned (.tuple #[.int .i64 (opN xs xs.length), .bool true]) ∧ Kept w w' := by
  have hl27 := (isHand_of hh).1
  have hc := areC_hand hh
  go_enter Try.func21, Try.ntmps21
  go_wp2
  go_loopw [5, 4] (fun i s wr => ∃ n : Nat, n ≤ xs.length ∧ i = .int .i64 n ∧ s = .int .i64 (opN xs n) ∧ Kept w wr) (fun i _ _ => xs.length - (intOf i).toNat)
  case atStart => exact ⟨0, Nat.zero_le _, rfl, rfl, (by (try simp only [ext_ext]); repeat (first | exact Kept.refl _ | apply Kept.alloc | apply Kept.drew | apply kept_add | apply Kept.ext))⟩
  case round =>
    obtain ⟨n, hn, rfl, rfl, z, rfl⟩ := hrel
    have hb := opN_bd xs n (by omega)
    by_cases hlt : n < xs.length
    · go_wp2_with (first | (go_at_call 37; refine Calls.mono (l2Hand_any _ _ _ _ (by first | assumption | exact CardsAt.kept (by assumption) (by (try simp only [ext_ext]); repeat (first | exact Kept.refl _ | apply Kept.alloc | apply Kept.drew | apply kept_add | apply Kept.ext))) (by omega)) ?_; rintro e w' ⟨rfl, y, rfl⟩))
      go_loopw [6, 4] (fun j s wr => ∃ m : Nat, m ≤ n ∧ j = .int .i64 m ∧ s = .int .i64 (opN xs n + opRow xs n m) ∧ Kept w wr) (fun j _ _ => n - (intOf j).toNat)
      case atStart => exact ⟨0, Nat.zero_le _, rfl, by simp [opRow, rsum], (by (try simp only [ext_ext]); repeat (first | exact Kept.refl _ | apply Kept.alloc | apply Kept.drew | apply kept_add | apply Kept.ext))⟩
      case round =>
        obtain ⟨m, hm, rfl, rfl, z, rfl⟩ := hrel
        have hb2 := opRow_bd xs n m
        by_cases hlt2 : m < n
        · obtain ⟨g, off, rfl, hg, h1, h2, h3, h4⟩ := hx n hlt
          obtain ⟨g', off', he, hg', p1, p2, p3, p4⟩ := hx m (by omega)
          cases he
          have hml : m < xs.length := by omega
          have hcn := hc n hlt
          have hcm := hc m hml
          have hnx := hid (opRow_next xs n m)
          have ho : Hid (open01 xs n m = if hasC xs (thirdC (cx xs n) (cx xs m)) = true then 0 else 1) := hid rfl
          go_wp2_with (first | (refine wp_region_ext (by kernel_rfl) (by kernel_rfl) ?_; (repeat (go_big_quiet_step (((first | (go_at_call 43; first | exact ext_call (l2Third_any _ _ hcn hcm _) | exact ext_call2 (l2Third_any _ _ hcn hcm _)) | (go_at_call 42; first | exact ext_call (l2Has_any _ _ _ (thirdC (cx xs n) (cx xs m)) _ (by first | assumption | exact CardsAt.kept (by assumption) (by (try simp only [ext_ext]); repeat (first | exact Kept.refl _ | apply Kept.alloc | apply Kept.drew | apply kept_add | apply Kept.ext))) (by omega)) | exact ext_call2 (l2Has_any _ _ _ (thirdC (cx xs n) (cx xs m)) _ (by first | assumption | exact CardsAt.kept (by assumption) (by (try simp only [ext_ext]); repeat (first | exact Kept.refl _ | apply Kept.alloc | apply Kept.drew | apply kept_add | apply Kept.ext))) (by omega)))))))); refine wpQuiet_end fun z => ?_))
          all_goals
            rename_i hcmp
            go_roundw
            case rel =>
              first
              | exact ⟨m + 1, hlt2, by go_num, by rw [hnx.out, ho.out, if_pos (by simpa using hcmp)]; go_num, (by (try simp only [ext_ext]); repeat (first | exact Kept.refl _ | apply Kept.alloc | apply Kept.drew | apply kept_add | apply Kept.ext))⟩
              | exact ⟨m + 1, hlt2, by go_num, by rw [hnx.out, ho.out, if_neg (by simpa using hcmp)]; go_num, (by (try simp only [ext_ext]); repeat (first | exact Kept.refl _ | apply Kept.alloc | apply Kept.drew | apply kept_add | apply Kept.ext))⟩
            case measure => simp [intOf]; omega
        · obtain rfl : m = n := by omega
          go_wp2
          go_roundw
          case rel => exact ⟨m + 1, hlt, by go_num, by rw [opN_next], (by (try simp only [ext_ext]); repeat (first | exact Kept.refl _ | apply Kept.alloc | apply Kept.drew | apply kept_add | apply Kept.ext))⟩
          case measure => simp [intOf]; omega
    · obtain rfl : n = xs.length := by omega
      go_wp2_with (first | (go_at_call 37; refine Calls.mono (l2Hand_any _ _ _ _ (by first | assumption | exact CardsAt.kept (by assumption) (by (try simp only [ext_ext]); repeat (first | exact Kept.refl _ | apply Kept.alloc | apply Kept.drew | apply kept_add | apply Kept.ext))) (by omega)) ?_; rintro e w' ⟨rfl, y, rfl⟩))
      refine bodyPost_ret (v := .tuple #[.int .i64 (opN xs xs.length), .bool true]) (by simp [results, Try.results21, go_sem]) rfl ⟨rfl, ?_⟩
      exact (by (try simp only [ext_ext]); repeat (first | exact Kept.refl _ | apply Kept.alloc | apply Kept.drew | apply kept_add | apply Kept.ext))
theorem iOpenPairs_yes (ao : Option Addr) (cap : Nat) (xs : List Card) (w : World) (hx : CardsAt w ao xs) (hh : isHand xs = true) :
    Calls Try.prog 22 #[.slice ao xs.length cap] w fun e w' => e = .returned (.tuple #[.int .i64 (opN xs xs.length), .bool true]) ∧ Kept w w' := by
  have hl27 := (isHand_of hh).1
  have hc := areC_hand hh
  have hd := distC_hand hh
  have hll := linesC_len xs (by omega)
  have hv := hid (opN_val hc hd)
  have hsq : 0 ≤ (xs.length : Int) * ((xs.length : Int) - 1) ∧ (xs.length : Int) * ((xs.length : Int) - 1) ≤ 702 := by
    rcases Nat.eq_zero_or_pos xs.length with h' | h'
    · rw [h']; decide
    · have h1 : (xs.length : Int) * ((xs.length : Int) - 1) ≤ 27 * ((xs.length : Int) - 1) := Int.mul_le_mul_of_nonneg_right (by omega) (by omega)
      have h2 : 0 ≤ (xs.length : Int) * ((xs.length : Int) - 1) := Int.mul_nonneg (by omega) (by omega)
      omega
  have hw : IntKind.i64.wrap ((xs.length : Int) * ((xs.length : Int) - 1)) = (xs.length : Int) * ((xs.length : Int) - 1) := IntWalk.i64_in _ (by omega)
  go_enter Try.func22, Try.ntmps22
  go_wp2_with (first | (go_at_call 44; refine Calls.mono (IsHand_any _ _ _ _ (by first | assumption | exact CardsAt.kept (by assumption) (by (try simp only [ext_ext]); repeat (first | exact Kept.refl _ | apply Kept.alloc | apply Kept.drew | apply kept_add | apply Kept.ext))) (by omega)) ?_; rintro e w' ⟨rfl, y, rfl⟩) | (go_at_call 45; refine Calls.mono (linesIn_any _ _ _ _ (by first | assumption | exact CardsAt.kept (by assumption) (by (try simp only [ext_ext]); repeat (first | exact Kept.refl _ | apply Kept.alloc | apply Kept.drew | apply kept_add | apply Kept.ext))) (by omega) hc hd) ?_; rintro e w' ⟨v, rfl, ho, z, rfl⟩; obtain ⟨ao', cap', rfl, hx', hcap'⟩ := ho.reads; clear ho))
  refine bodyPost_ret (v := .tuple #[.int .i64 (((xs.length : Int) * ((xs.length : Int) - 1)) / 2 - 3 * ((linesC xs).length : Int)), .bool true]) (by simp [results, Try.results22, go_sem]) rfl ⟨by rw [hv.out], (by (try simp only [ext_ext]); repeat (first | exact Kept.refl _ | apply Kept.alloc | apply Kept.drew | apply kept_add | apply Kept.ext))⟩
theorem walk_FnExactOpenPairs (ao : Option Addr) (xs : List Card) (cap : Nat) {w : World} (hx : CardsAt w ao xs) (hl : xs.length ≤ maxLen) (_ : World) :
    Calls Try.prog 5 #[.slice ao xs.length cap] w fun e w' => e = .returned (.bool true) ∧ Kept w w' := by
  have hl' : xs.length ≤ 9223372036854775807 := by unfold maxLen at hl; omega
  by_cases hn : xs.length ≤ 1048576
  · cases hg : isHand xs with
    | false =>
      go_enter Try.func5, Try.ntmps5
      go_wp2_with (first | (go_at_call 17; refine Calls.mono (szIntA4S_any _ _ _ hl' _) ?_; rintro e w' ⟨rfl, rfl⟩) | (go_at_call 19; refine Calls.mono (toIntA4S_any _ _ _ _ (by first | assumption | exact CardsAt.kept (by assumption) (by (try simp only [ext_ext]); repeat (first | exact Kept.refl _ | apply Kept.alloc | apply Kept.drew | apply kept_add | apply Kept.ext))) hn) ?_; rintro e w' ⟨v, rfl, ho, z, rfl⟩; obtain ⟨ao', cap', rfl, hx', hcap'⟩ := ho.reads; clear ho) | (go_at_call 21; refine Calls.mono (sOpenPairs_no _ _ _ _ (by first | assumption | exact CardsAt.kept (by assumption) (by (try simp only [ext_ext]); repeat (first | exact Kept.refl _ | apply Kept.alloc | apply Kept.drew | apply kept_add | apply Kept.ext))) hn hg) ?_; rintro e w' ⟨rfl, y, rfl⟩) | (go_at_call 22; refine Calls.mono (iOpenPairs_no _ _ _ _ (by first | assumption | exact CardsAt.kept (by assumption) (by (try simp only [ext_ext]); repeat (first | exact Kept.refl _ | apply Kept.alloc | apply Kept.drew | apply kept_add | apply Kept.ext))) hn hg) ?_; rintro e w' ⟨rfl, y, rfl⟩) | (go_at_call 12; refine Calls.mono (eqIntA4S_any _ _ _ _ _ _ _ (by first | assumption | exact CardsAt.kept (by assumption) (by (try simp only [ext_ext]); repeat (first | exact Kept.refl _ | apply Kept.alloc | apply Kept.drew | apply kept_add | apply Kept.ext))) (by first | assumption | exact CardsAt.kept (by assumption) (by (try simp only [ext_ext]); repeat (first | exact Kept.refl _ | apply Kept.alloc | apply Kept.drew | apply kept_add | apply Kept.ext))) hn hn) ?_; rintro e w' ⟨rfl, y, rfl⟩))
      all_goals
        go_ret
        exact ⟨rfl, (by (try simp only [ext_ext]); repeat (first | exact Kept.refl _ | apply Kept.alloc | apply Kept.drew | apply kept_add | apply Kept.ext))⟩
    | true =>
      go_enter Try.func5, Try.ntmps5
      go_wp2_with (first | (go_at_call 17; refine Calls.mono (szIntA4S_any _ _ _ hl' _) ?_; rintro e w' ⟨rfl, rfl⟩) | (go_at_call 19; refine Calls.mono (toIntA4S_any _ _ _ _ (by first | assumption | exact CardsAt.kept (by assumption) (by (try simp only [ext_ext]); repeat (first | exact Kept.refl _ | apply Kept.alloc | apply Kept.drew | apply kept_add | apply Kept.ext))) hn) ?_; rintro e w' ⟨v, rfl, ho, z, rfl⟩; obtain ⟨ao', cap', rfl, hx', hcap'⟩ := ho.reads; clear ho) | (go_at_call 21; refine Calls.mono (sOpenPairs_yes _ _ _ _ (by first | assumption | exact CardsAt.kept (by assumption) (by (try simp only [ext_ext]); repeat (first | exact Kept.refl _ | apply Kept.alloc | apply Kept.drew | apply kept_add | apply Kept.ext))) hg) ?_; rintro e w' ⟨rfl, y, rfl⟩) | (go_at_call 22; refine Calls.mono (iOpenPairs_yes _ _ _ _ (by first | assumption | exact CardsAt.kept (by assumption) (by (try simp only [ext_ext]); repeat (first | exact Kept.refl _ | apply Kept.alloc | apply Kept.drew | apply kept_add | apply Kept.ext))) hg) ?_; rintro e w' ⟨rfl, y, rfl⟩) | (go_at_call 12; refine Calls.mono (eqIntA4S_any _ _ _ _ _ _ _ (by first | assumption | exact CardsAt.kept (by assumption) (by (try simp only [ext_ext]); repeat (first | exact Kept.refl _ | apply Kept.alloc | apply Kept.drew | apply kept_add | apply Kept.ext))) (by first | assumption | exact CardsAt.kept (by assumption) (by (try simp only [ext_ext]); repeat (first | exact Kept.refl _ | apply Kept.alloc | apply Kept.drew | apply kept_add | apply Kept.ext))) hn hn) ?_; rintro e w' ⟨rfl, y, rfl⟩))
      all_goals
        go_ret
        exact ⟨rfl, (by (try simp only [ext_ext]); repeat (first | exact Kept.refl _ | apply Kept.alloc | apply Kept.drew | apply kept_add | apply Kept.ext))⟩
  · go_enter Try.func5, Try.ntmps5
    go_wp2_with (first | (go_at_call 17; refine Calls.mono (szIntA4S_any _ _ _ hl' _) ?_; rintro e w' ⟨rfl, rfl⟩))
    go_ret
    exact ⟨rfl, (by (try simp only [ext_ext]); repeat (first | exact Kept.refl _ | apply Kept.alloc | apply Kept.drew | apply kept_add | apply Kept.ext))⟩
end Go.Proofs.Ytlkjpammglljdaa
