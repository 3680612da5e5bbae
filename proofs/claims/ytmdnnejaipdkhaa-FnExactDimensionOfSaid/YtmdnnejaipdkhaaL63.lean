/- Walk: the laws of IsFlat and DimensionOf. -/
import Derived.Test.YtmdnnejaipdkhaaL62
namespace Go.Proofs.Ytmdnnejaipdkhaa
open Go.RowKit
theorem sIsFlat_no (ao : Option Addr) (cap : Nat) (xs : List Card) (w : World) (hx : CardsAt w ao xs) (hl : xs.length ≤ 1048576) (h : isHand xs = false) :
    Calls Try.prog 21 #[.slice ao xs.length cap] w fun e w' => e = .returned (.tuple #[.bool false, .bool false]) ∧ Kept w w' := by
  go_enter Try.func21, Try.ntmps21
  go_wp2_with (first | (go_at_call 27; refine Calls.mono (l2Hand_any _ _ _ _ (by first | assumption | exact CardsAt.kept (by assumption) (by (try simp only [ext_ext]); repeat (first | exact Kept.refl _ | apply Kept.alloc | apply Kept.drew | apply kept_add | apply Kept.ext))) hl) ?_; rintro e w' ⟨rfl, y, rfl⟩))
  refine bodyPost_ret (v := .tuple #[.bool false, .bool false]) (by simp [results, Try.results21, go_sem]) rfl ⟨rfl, ?_⟩
  exact (by (try simp only [ext_ext]); repeat (first | exact Kept.refl _ | apply Kept.alloc | apply Kept.drew | apply kept_add | apply Kept.ext))
theorem iIsFlat_no (ao : Option Addr) (cap : Nat) (xs : List Card) (w : World) (hx : CardsAt w ao xs) (hl : xs.length ≤ 1048576) (h : isHand xs = false) :
    Calls Try.prog 22 #[.slice ao xs.length cap] w fun e w' => e = .returned (.tuple #[.bool false, .bool false]) ∧ Kept w w' := by
  go_enter Try.func22, Try.ntmps22
  go_wp2_with (first | (go_at_call 29; refine Calls.mono (IsHand_any _ _ _ _ (by first | assumption | exact CardsAt.kept (by assumption) (by (try simp only [ext_ext]); repeat (first | exact Kept.refl _ | apply Kept.alloc | apply Kept.drew | apply kept_add | apply Kept.ext))) hl) ?_; rintro e w' ⟨rfl, y, rfl⟩))
  refine bodyPost_ret (v := .tuple #[.bool false, .bool false]) (by simp [results, Try.results22, go_sem]) rfl ⟨rfl, ?_⟩
  exact (by (try simp only [ext_ext]); repeat (first | exact Kept.refl _ | apply Kept.alloc | apply Kept.drew | apply kept_add | apply Kept.ext))
noncomputable def flatB (xs : List Card) : Bool := decide (0 < xs.length) && decide ((spanC xs).length = xs.length)
theorem l6Flat_any (ao : Option Addr) (cap n : Nat) (xs : List Card) (w : World) (hx : CardsAt w ao xs) (hn : xs.length = n) (hc : ∀ c ∈ xs, isCard c = true) (hl : n ≤ 1000) :
    Calls Try.prog 41 #[.slice ao n cap] w fun e w' => e = .returned (.bool (flatB xs)) ∧ Kept w w' := by
  have hS := hid (fun (w' : World) (hk : Kept w w') => l6Span_any ao cap n xs w' (hx.kept hk) hn hc hl)
  have hf := hid (show flatB xs = (decide (0 < n) && decide ((spanC xs).length = n)) by unfold flatB; rw [hn])
  generalize spanC xs = ss at hS hf
  have hbq := hid (show ((ss.length : Int) == (n : Int)) = decide (ss.length = n) by rw [Bool.eq_iff_iff]; simp only [beq_iff_eq, decide_eq_true_eq]; omega)
  clear hx hn
  by_cases h0 : 0 < n
  · go_enter Try.func41, Try.ntmps41
    go_wp2_with (first | (go_at_call 38; refine Calls.mono (hS.out _ (by (try simp only [ext_ext]); repeat (first | exact Kept.refl _ | apply Kept.alloc | apply Kept.drew | apply kept_add | apply Kept.ext))) ?_; rintro e w' ⟨g, c, rfl, ho, k1⟩))
    go_ret
    exact ⟨ret_of (by rw [hf.out, decide_eq_true h0, Bool.true_and, ← hbq.out]; rfl), Kept.trans (by (try simp only [ext_ext]); repeat (first | exact Kept.refl _ | apply Kept.alloc | apply Kept.drew | apply kept_add | apply Kept.ext)) (k1.trans (by (try simp only [ext_ext]); repeat (first | exact Kept.refl _ | apply Kept.alloc | apply Kept.drew | apply kept_add | apply Kept.ext)))⟩
  · go_enter Try.func41, Try.ntmps41
    go_wp2_with (fail)
    go_ret
    exact ⟨ret_of (by rw [hf.out, decide_eq_false h0]; rfl), (by (try simp only [ext_ext]); repeat (first | exact Kept.refl _ | apply Kept.alloc | apply Kept.drew | apply kept_add | apply Kept.ext))⟩
theorem sIsFlat_yes (ao : Option Addr) (cap : Nat) (xs : List Card) (w : World) (hx : CardsAt w ao xs) (hh : isHand xs = true) :
    Calls Try.prog 21 #[.slice ao xs.length cap] w fun e w' => e = .returned (.tuple #[.bool (flatB xs), .bool true]) ∧ Kept w w' := by
  have hl27 := (isHand_of hh).1
  have hc := areC_hand' hh
  go_enter Try.func21, Try.ntmps21
  go_wp2_with (first | (go_at_call 27; refine Calls.mono (l2Hand_any _ _ _ _ (by first | assumption | exact CardsAt.kept (by assumption) (by (try simp only [ext_ext]); repeat (first | exact Kept.refl _ | apply Kept.alloc | apply Kept.drew | apply kept_add | apply Kept.ext))) (by omega)) ?_; rintro e w' ⟨rfl, y, rfl⟩) | (go_at_call 41; refine Calls.mono (l6Flat_any _ _ _ _ _ (by first | assumption | exact CardsAt.kept (by assumption) (by (try simp only [ext_ext]); repeat (first | exact Kept.refl _ | apply Kept.alloc | apply Kept.drew | apply kept_add | apply Kept.ext))) rfl hc (by omega)) ?_; rintro e w' ⟨rfl, y, rfl⟩))
  refine bodyPost_ret (v := .tuple #[.bool (flatB xs), .bool true]) (by simp [results, Try.results21, go_sem]) rfl ⟨rfl, ?_⟩
  exact (by (try simp only [ext_ext]); repeat (first | exact Kept.refl _ | apply Kept.alloc | apply Kept.drew | apply kept_add | apply Kept.ext))
theorem iIsFlat_yes (ao : Option Addr) (cap : Nat) (xs : List Card) (w : World) (hx : CardsAt w ao xs) (hh : isHand xs = true) :
    Calls Try.prog 22 #[.slice ao xs.length cap] w fun e w' => e = .returned (.tuple #[.bool (flatB xs), .bool true]) ∧ Kept w w' := by
  have hl27 := (isHand_of hh).1
  have hS := hid (fun (w' : World) (hk : Kept w w') => span_any ao cap xs.length xs w' (hx.kept hk) rfl (areC_hand' hh) (by omega))
  have hf := hid (show flatB xs = (decide (0 < xs.length) && decide ((spanC xs).length = xs.length)) from rfl)
  generalize spanC xs = ss at hS hf
  have hbq := hid (show ((ss.length : Int) == (xs.length : Int)) = decide (ss.length = xs.length) by rw [Bool.eq_iff_iff]; simp only [beq_iff_eq, decide_eq_true_eq]; omega)
  by_cases h0 : 0 < xs.length
  · go_enter Try.func22, Try.ntmps22
    go_wp2_with (first | (go_at_call 29; refine Calls.mono (IsHand_any _ _ _ _ (by first | assumption | exact CardsAt.kept (by assumption) (by (try simp only [ext_ext]); repeat (first | exact Kept.refl _ | apply Kept.alloc | apply Kept.drew | apply kept_add | apply Kept.ext))) (by omega)) ?_; rintro e w' ⟨rfl, y, rfl⟩) | (go_at_call 40; refine Calls.mono (hS.out _ (by (try simp only [ext_ext]); repeat (first | exact Kept.refl _ | apply Kept.alloc | apply Kept.drew | apply kept_add | apply Kept.ext))) ?_; rintro e w' ⟨v, rfl, ho, k1⟩; obtain ⟨ao1, cap1, rfl, _, _⟩ := ho.reads))
    refine bodyPost_ret (v := .tuple #[.bool ((ss.length : Int) == (xs.length : Int)), .bool true]) (by simp [results, Try.results22, go_sem]) rfl ?_
    exact ⟨by rw [hf.out, decide_eq_true h0, Bool.true_and, hbq.out], Kept.trans (by (try simp only [ext_ext]); repeat (first | exact Kept.refl _ | apply Kept.alloc | apply Kept.drew | apply kept_add | apply Kept.ext)) (k1.trans (by (try simp only [ext_ext]); repeat (first | exact Kept.refl _ | apply Kept.alloc | apply Kept.drew | apply kept_add | apply Kept.ext)))⟩
  · go_enter Try.func22, Try.ntmps22
    go_wp2_with (first | (go_at_call 29; refine Calls.mono (IsHand_any _ _ _ _ (by first | assumption | exact CardsAt.kept (by assumption) (by (try simp only [ext_ext]); repeat (first | exact Kept.refl _ | apply Kept.alloc | apply Kept.drew | apply kept_add | apply Kept.ext))) (by omega)) ?_; rintro e w' ⟨rfl, y, rfl⟩))
    refine bodyPost_ret (v := .tuple #[.bool false, .bool true]) (by simp [results, Try.results22, go_sem]) rfl ?_
    exact ⟨by rw [hf.out, decide_eq_false h0, Bool.false_and], (by (try simp only [ext_ext]); repeat (first | exact Kept.refl _ | apply Kept.alloc | apply Kept.drew | apply kept_add | apply Kept.ext))⟩
theorem twoIsFlat (xs : List Card) (hn : xs.length ≤ 1048576) : ∃ q ok, (∀ (ao : Option Addr) (cap : Nat) (w : World), CardsAt w ao xs → xs.length ≤ cap → Calls Try.prog 21 #[.slice ao xs.length cap] w fun e w' => e = .returned (.tuple #[.bool q, .bool ok]) ∧ Kept w w') ∧ (∀ (ao : Option Addr) (cap : Nat) (w : World), CardsAt w ao xs → xs.length ≤ cap → Calls Try.prog 22 #[.slice ao xs.length cap] w fun e w' => e = .returned (.tuple #[.bool q, .bool ok]) ∧ Kept w w') := by
  cases hg : isHand xs with
  | false => exact ⟨false, false, fun _ _ _ hx _ => sIsFlat_no _ _ _ _ hx hn hg, fun _ _ _ hx _ => iIsFlat_no _ _ _ _ hx hn hg⟩
  | true => exact ⟨_, true, fun _ _ _ hx _ => sIsFlat_yes _ _ _ _ hx hg, fun _ _ _ hx _ => iIsFlat_yes _ _ _ _ hx hg⟩
set_option maxHeartbeats 1000000 in
theorem walk_FnExactIsFlat (ao : Option Addr) (xs : List Card) (cap : Nat) {w : World} (hx : CardsAt w ao xs) (hl : xs.length ≤ maxLen) (_ : World) :
    Calls Try.prog 6 #[.slice ao xs.length cap] w fun e w' => e = .returned (.bool true) ∧ Kept w w' := by
  have hl' : xs.length ≤ 9223372036854775807 := by unfold maxLen at hl; omega
  by_cases hn : xs.length ≤ 1048576
  · obtain ⟨q, ok, hS, hI⟩ : ∃ q ok, (∀ (ao : Option Addr) (cap : Nat) (w : World), CardsAt w ao xs → xs.length ≤ cap → Calls Try.prog 21 #[.slice ao xs.length cap] w fun e w' => e = .returned (.tuple #[.bool q, .bool ok]) ∧ Kept w w') ∧ (∀ (ao : Option Addr) (cap : Nat) (w : World), CardsAt w ao xs → xs.length ≤ cap → Calls Try.prog 22 #[.slice ao xs.length cap] w fun e w' => e = .returned (.tuple #[.bool q, .bool ok]) ∧ Kept w w') := twoIsFlat xs hn
    have hSH := hid hS
    have hIH := hid hI
    clear hS hI
    go_enter Try.func6, Try.ntmps6
    go_wp2_with (first | (go_at_call 9; refine Calls.mono (szIntA4S_any _ _ _ hl' _) ?_; rintro e w' ⟨rfl, rfl⟩) | (go_at_call 11; refine Calls.mono (toIntA4S_any _ _ _ _ (by first | assumption | exact CardsAt.kept (by assumption) (by (try simp only [ext_ext]); repeat (first | exact Kept.refl _ | apply Kept.alloc | apply Kept.drew | apply kept_add | apply Kept.ext))) hn) ?_; rintro e w' ⟨v, rfl, ho, z, rfl⟩; obtain ⟨ao', cap', rfl, hx', hcap'⟩ := ho.reads; clear ho) | (go_at_call 21; refine Calls.mono (hSH.out _ _ _ (by first | assumption | exact CardsAt.kept (by assumption) (by (try simp only [ext_ext]); repeat (first | exact Kept.refl _ | apply Kept.alloc | apply Kept.drew | apply kept_add | apply Kept.ext))) (by assumption)) ?_; rintro e w' ⟨rfl, y, rfl⟩) | (go_at_call 22; refine Calls.mono (hIH.out _ _ _ (by first | assumption | exact CardsAt.kept (by assumption) (by (try simp only [ext_ext]); repeat (first | exact Kept.refl _ | apply Kept.alloc | apply Kept.drew | apply kept_add | apply Kept.ext))) (by assumption)) ?_; rintro e w' ⟨rfl, y, rfl⟩) | (go_at_call 13; refine Calls.mono (eqIntA4S_any _ _ _ _ _ _ _ (by first | assumption | exact CardsAt.kept (by assumption) (by (try simp only [ext_ext]); repeat (first | exact Kept.refl _ | apply Kept.alloc | apply Kept.drew | apply kept_add | apply Kept.ext))) (by first | assumption | exact CardsAt.kept (by assumption) (by (try simp only [ext_ext]); repeat (first | exact Kept.refl _ | apply Kept.alloc | apply Kept.drew | apply kept_add | apply Kept.ext))) hn hn) ?_; rintro e w' ⟨rfl, y, rfl⟩))
    all_goals
      go_ret
      exact ⟨rfl, (by (try simp only [ext_ext]); repeat (first | exact Kept.refl _ | apply Kept.alloc | apply Kept.drew | apply kept_add | apply Kept.ext))⟩
  · go_enter Try.func6, Try.ntmps6
    go_wp2_with (first | (go_at_call 9; refine Calls.mono (szIntA4S_any _ _ _ hl' _) ?_; rintro e w' ⟨rfl, rfl⟩))
    go_ret
    exact ⟨rfl, (by (try simp only [ext_ext]); repeat (first | exact Kept.refl _ | apply Kept.alloc | apply Kept.drew | apply kept_add | apply Kept.ext))⟩
theorem sDimensionOf_no (ao : Option Addr) (cap : Nat) (xs : List Card) (w : World) (hx : CardsAt w ao xs) (hl : xs.length ≤ 1048576) (h : isHand xs = false) :
    Calls Try.prog 23 #[.slice ao xs.length cap] w fun e w' => e = .returned (.tuple #[.int .i64 0, .bool false]) ∧ Kept w w' := by
  go_enter Try.func23, Try.ntmps23
  go_wp2_with (first | (go_at_call 27; refine Calls.mono (l2Hand_any _ _ _ _ (by first | assumption | exact CardsAt.kept (by assumption) (by (try simp only [ext_ext]); repeat (first | exact Kept.refl _ | apply Kept.alloc | apply Kept.drew | apply kept_add | apply Kept.ext))) hl) ?_; rintro e w' ⟨rfl, y, rfl⟩))
  refine bodyPost_ret (v := .tuple #[.int .i64 0, .bool false]) (by simp [results, Try.results23, go_sem]) rfl ⟨rfl, ?_⟩
  exact (by (try simp only [ext_ext]); repeat (first | exact Kept.refl _ | apply Kept.alloc | apply Kept.drew | apply kept_add | apply Kept.ext))
theorem iDimensionOf_no (ao : Option Addr) (cap : Nat) (xs : List Card) (w : World) (hx : CardsAt w ao xs) (hl : xs.length ≤ 1048576) (h : isHand xs = false) :
    Calls Try.prog 24 #[.slice ao xs.length cap] w fun e w' => e = .returned (.tuple #[.int .i64 0, .bool false]) ∧ Kept w w' := by
  go_enter Try.func24, Try.ntmps24
  go_wp2_with (first | (go_at_call 29; refine Calls.mono (IsHand_any _ _ _ _ (by first | assumption | exact CardsAt.kept (by assumption) (by (try simp only [ext_ext]); repeat (first | exact Kept.refl _ | apply Kept.alloc | apply Kept.drew | apply kept_add | apply Kept.ext))) hl) ?_; rintro e w' ⟨rfl, y, rfl⟩))
  refine bodyPost_ret (v := .tuple #[.int .i64 0, .bool false]) (by simp [results, Try.results24, go_sem]) rfl ⟨rfl, ?_⟩
  exact (by (try simp only [ext_ext]); repeat (first | exact Kept.refl _ | apply Kept.alloc | apply Kept.drew | apply kept_add | apply Kept.ext))
/-- How often a number can be parted by three, less one. -/
def dimF : Nat → Nat → Int → Int
  | 0, _, d => d
  | f + 1, n, d => if n = 0 then d else dimF f (n / 3) (d + 1)
noncomputable def dimN (xs : List Card) : Int := dimF 100 (spanC xs).length (-1)
theorem dimF_zero (f : Nat) (d : Int) : dimF f 0 d = d := by cases f <;> simp [dimF]
theorem dimF_next {f n : Nat} (d : Int) (h : n ≠ 0) : dimF (f + 1) n d = dimF f (n / 3) (d + 1) := by rw [dimF, if_neg h]
theorem l6Dimension_any (ao : Option Addr) (cap n : Nat) (xs : List Card) (w : World) (hx : CardsAt w ao xs) (hn : xs.length = n) (hc : ∀ c ∈ xs, isCard c = true) (hl : n ≤ 1000) :
    Calls Try.prog 42 #[.slice ao n cap] w fun e w' => e = .returned (.int .i64 (dimN xs)) ∧ Kept w w' := by
  have hS := hid (fun (w' : World) (hk : Kept w w') => l6Span_any ao cap n xs w' (hx.kept hk) hn hc hl)
  have h81 := spanC_len xs
  obtain ⟨m, hm⟩ : ∃ m, m = (spanC xs).length := ⟨_, rfl⟩
  obtain ⟨D, hD⟩ : ∃ D, D = dimN xs := ⟨_, rfl⟩
  obtain ⟨F, hF⟩ : ∃ F : Nat, F = 100 := ⟨_, rfl⟩
  have hDf := hid (show dimF F m (-1) = D by rw [hD, hm, hF]; rfl)
  rw [← hm] at h81
  rw [← hD]
  generalize spanC xs = ss at hS hm
  have hmH := hid hm
  have hF2 : 100 ≤ F := by omega
  clear hx hn hD hm hF
  go_enter Try.func42, Try.ntmps42
  go_wp2_with (first | (go_at_call 38; refine Calls.mono (hS.out _ (by (try simp only [ext_ext]); repeat (first | exact Kept.refl _ | apply Kept.alloc | apply Kept.drew | apply kept_add | apply Kept.ext))) ?_; rintro e w' ⟨g, c, rfl, ho, k1⟩; rw [← hmH.out] at *))
  go_loopw [3, 4] (fun s3 s4 wr => ∃ (n f : Nat) (d : Int), s3 = .int .i64 (n : Int) ∧ s4 = .int .i64 d ∧ n < f ∧ n ≤ 81 ∧ d + n ≤ 80 ∧ -1 ≤ d ∧ dimF f n d = D ∧ Kept w wr) (fun s3 _ _ => (intOf s3).toNat)
  case atStart => exact ⟨m, F, -1, by go_num, rfl, by omega, by omega, by omega, by omega, hDf.out, Kept.trans (by (try simp only [ext_ext]); repeat (first | exact Kept.refl _ | apply Kept.alloc | apply Kept.drew | apply kept_add | apply Kept.ext)) (k1.trans (by (try simp only [ext_ext]); repeat (first | exact Kept.refl _ | apply Kept.alloc | apply Kept.drew | apply kept_add | apply Kept.ext)))⟩
  case round =>
    obtain ⟨n, f, d, rfl, rfl, hf, hn, hd1, hd2, hdf, z, rfl⟩ := hrel
    have hdfH := hid hdf
    clear hdf
    by_cases h0 : 0 < n
    · obtain ⟨f1, rfl⟩ : ∃ f1, f = f1 + 1 := ⟨f - 1, by omega⟩
      have hnx := hid (dimF_next (f := f1) d (show n ≠ 0 by omega))
      have hq : (n : Int).tdiv 3 = ((n / 3 : Nat) : Int) := by rw [Int.tdiv_eq_ediv_of_nonneg (by omega)]; omega
      have hw1 : IntKind.i64.wrap ((n / 3 : Nat) : Int) = ((n / 3 : Nat) : Int) := Go.IntWalk.i64_in _ ⟨by omega, by omega⟩
      have hw2 : IntKind.i64.wrap (d + 1) = d + 1 := Go.IntWalk.i64_in _ ⟨by omega, by omega⟩
      go_wp2
      go_roundw
      case rel => exact ⟨n / 3, f1, d + 1, by go_num, by go_num, by omega, by omega, by omega, by omega, by rw [← hnx.out]; exact hdfH.out, (by (try simp only [ext_ext]); repeat (first | exact Kept.refl _ | apply Kept.alloc | apply Kept.drew | apply kept_add | apply Kept.ext))⟩
      case measure => simp [intOf]; omega
    · obtain rfl : n = 0 := by omega
      have he := hid (show d = D by rw [← hdfH.out, dimF_zero])
      go_wp2
      go_ret
      exact ⟨ret_of (by rw [he.out]; rfl), (by (try simp only [ext_ext]); repeat (first | exact Kept.refl _ | apply Kept.alloc | apply Kept.drew | apply kept_add | apply Kept.ext))⟩
theorem sDimensionOf_yes (ao : Option Addr) (cap : Nat) (xs : List Card) (w : World) (hx : CardsAt w ao xs) (hh : isHand xs = true) :
    Calls Try.prog 23 #[.slice ao xs.length cap] w fun e w' => e = .returned (.tuple #[.int .i64 (dimN xs), .bool true]) ∧ Kept w w' := by
  have hl27 := (isHand_of hh).1
  have hc := areC_hand' hh
  go_enter Try.func23, Try.ntmps23
  go_wp2_with (first | (go_at_call 27; refine Calls.mono (l2Hand_any _ _ _ _ (by first | assumption | exact CardsAt.kept (by assumption) (by (try simp only [ext_ext]); repeat (first | exact Kept.refl _ | apply Kept.alloc | apply Kept.drew | apply kept_add | apply Kept.ext))) (by omega)) ?_; rintro e w' ⟨rfl, y, rfl⟩) | (go_at_call 42; refine Calls.mono (l6Dimension_any _ _ _ _ _ (by first | assumption | exact CardsAt.kept (by assumption) (by (try simp only [ext_ext]); repeat (first | exact Kept.refl _ | apply Kept.alloc | apply Kept.drew | apply kept_add | apply Kept.ext))) rfl hc (by omega)) ?_; rintro e w' ⟨rfl, y, rfl⟩))
  refine bodyPost_ret (v := .tuple #[.int .i64 (dimN xs), .bool true]) (by simp [results, Try.results23, go_sem]) rfl ⟨rfl, ?_⟩
  exact (by (try simp only [ext_ext]); repeat (first | exact Kept.refl _ | apply Kept.alloc | apply Kept.drew | apply kept_add | apply Kept.ext))
theorem iDimensionOf_yes (ao : Option Addr) (cap : Nat) (xs : List Card) (w : World) (hx : CardsAt w ao xs) (hh : isHand xs = true) :
    Calls Try.prog 24 #[.slice ao xs.length cap] w fun e w' => e = .returned (.tuple #[.int .i64 (dimN xs), .bool true]) ∧ Kept w w' := by
  have hl27 := (isHand_of hh).1
  have hS := hid (fun (w' : World) (hk : Kept w w') => span_any ao cap xs.length xs w' (hx.kept hk) rfl (areC_hand' hh) (by omega))
  have h81 := spanC_len xs
  obtain ⟨m, hm⟩ : ∃ m, m = (spanC xs).length := ⟨_, rfl⟩
  obtain ⟨D, hD⟩ : ∃ D, D = dimN xs := ⟨_, rfl⟩
  obtain ⟨F, hF⟩ : ∃ F : Nat, F = 100 := ⟨_, rfl⟩
  have hDf := hid (show dimF F m (-1) = D by rw [hD, hm, hF]; rfl)
  rw [← hm] at h81
  rw [← hD]
  generalize spanC xs = ss at hS hm
  have hmH := hid hm
  have hF2 : 100 ≤ F := by omega
  clear hD hm hF
  go_enter Try.func24, Try.ntmps24
  go_wp2_with (first | (go_at_call 29; refine Calls.mono (IsHand_any _ _ _ _ (by first | assumption | exact CardsAt.kept (by assumption) (by (try simp only [ext_ext]); repeat (first | exact Kept.refl _ | apply Kept.alloc | apply Kept.drew | apply kept_add | apply Kept.ext))) (by omega)) ?_; rintro e w' ⟨rfl, y, rfl⟩) | (go_at_call 40; refine Calls.mono (hS.out _ (by (try simp only [ext_ext]); repeat (first | exact Kept.refl _ | apply Kept.alloc | apply Kept.drew | apply kept_add | apply Kept.ext))) ?_; rintro e w' ⟨v, rfl, ho, k1⟩; obtain ⟨ao1, cap1, rfl, _, _⟩ := ho.reads; rw [← hmH.out] at *))
  go_loopw [5, 4] (fun s3 s4 wr => ∃ (n f : Nat) (d : Int), s3 = .int .i64 (n : Int) ∧ s4 = .int .i64 d ∧ n < f ∧ n ≤ 81 ∧ d + n ≤ 80 ∧ -1 ≤ d ∧ dimF f n d = D ∧ Kept w wr) (fun s3 _ _ => (intOf s3).toNat)
  case atStart => exact ⟨m, F, -1, by go_num, rfl, by omega, by omega, by omega, by omega, hDf.out, Kept.trans (by (try simp only [ext_ext]); repeat (first | exact Kept.refl _ | apply Kept.alloc | apply Kept.drew | apply kept_add | apply Kept.ext)) (k1.trans (by (try simp only [ext_ext]); repeat (first | exact Kept.refl _ | apply Kept.alloc | apply Kept.drew | apply kept_add | apply Kept.ext)))⟩
  case round =>
    obtain ⟨n, f, d, rfl, rfl, hf, hn, hd1, hd2, hdf, z, rfl⟩ := hrel
    have hdfH := hid hdf
    clear hdf
    by_cases h0 : 0 < n
    · obtain ⟨f1, rfl⟩ : ∃ f1, f = f1 + 1 := ⟨f - 1, by omega⟩
      have hnx := hid (dimF_next (f := f1) d (show n ≠ 0 by omega))
      have hq : (n : Int).tdiv 3 = ((n / 3 : Nat) : Int) := by rw [Int.tdiv_eq_ediv_of_nonneg (by omega)]; omega
      have hw1 : IntKind.i64.wrap ((n / 3 : Nat) : Int) = ((n / 3 : Nat) : Int) := Go.IntWalk.i64_in _ ⟨by omega, by omega⟩
      have hw2 : IntKind.i64.wrap (d + 1) = d + 1 := Go.IntWalk.i64_in _ ⟨by omega, by omega⟩
      go_wp2
      go_roundw
      case rel => exact ⟨n / 3, f1, d + 1, by go_num, by go_num, by omega, by omega, by omega, by omega, by rw [← hnx.out]; exact hdfH.out, (by (try simp only [ext_ext]); repeat (first | exact Kept.refl _ | apply Kept.alloc | apply Kept.drew | apply kept_add | apply Kept.ext))⟩
      case measure => simp [intOf]; omega
    · obtain rfl : n = 0 := by omega
      have he := hid (show d = D by rw [← hdfH.out, dimF_zero])
      go_wp2
      refine bodyPost_ret (v := .tuple #[.int .i64 d, .bool true]) (by simp [results, Try.results24, go_sem]) rfl ?_
      exact ⟨by rw [he.out], (by (try simp only [ext_ext]); repeat (first | exact Kept.refl _ | apply Kept.alloc | apply Kept.drew | apply kept_add | apply Kept.ext))⟩
theorem twoDimensionOf (xs : List Card) (hn : xs.length ≤ 1048576) : ∃ q ok, (∀ (ao : Option Addr) (cap : Nat) (w : World), CardsAt w ao xs → xs.length ≤ cap → Calls Try.prog 23 #[.slice ao xs.length cap] w fun e w' => e = .returned (.tuple #[.int .i64 q, .bool ok]) ∧ Kept w w') ∧ (∀ (ao : Option Addr) (cap : Nat) (w : World), CardsAt w ao xs → xs.length ≤ cap → Calls Try.prog 24 #[.slice ao xs.length cap] w fun e w' => e = .returned (.tuple #[.int .i64 q, .bool ok]) ∧ Kept w w') := by
  cases hg : isHand xs with
  | false => exact ⟨0, false, fun _ _ _ hx _ => sDimensionOf_no _ _ _ _ hx hn hg, fun _ _ _ hx _ => iDimensionOf_no _ _ _ _ hx hn hg⟩
  | true => exact ⟨_, true, fun _ _ _ hx _ => sDimensionOf_yes _ _ _ _ hx hg, fun _ _ _ hx _ => iDimensionOf_yes _ _ _ _ hx hg⟩
set_option maxHeartbeats 1000000 in
theorem walk_FnExactDimensionOf (ao : Option Addr) (xs : List Card) (cap : Nat) {w : World} (hx : CardsAt w ao xs) (hl : xs.length ≤ maxLen) (_ : World) :
    Calls Try.prog 7 #[.slice ao xs.length cap] w fun e w' => e = .returned (.bool true) ∧ Kept w w' := by
  have hl' : xs.length ≤ 9223372036854775807 := by unfold maxLen at hl; omega
  by_cases hn : xs.length ≤ 1048576
  · obtain ⟨q, ok, hS, hI⟩ : ∃ q ok, (∀ (ao : Option Addr) (cap : Nat) (w : World), CardsAt w ao xs → xs.length ≤ cap → Calls Try.prog 23 #[.slice ao xs.length cap] w fun e w' => e = .returned (.tuple #[.int .i64 q, .bool ok]) ∧ Kept w w') ∧ (∀ (ao : Option Addr) (cap : Nat) (w : World), CardsAt w ao xs → xs.length ≤ cap → Calls Try.prog 24 #[.slice ao xs.length cap] w fun e w' => e = .returned (.tuple #[.int .i64 q, .bool ok]) ∧ Kept w w') := twoDimensionOf xs hn
    have hSH := hid hS
    have hIH := hid hI
    clear hS hI
    go_enter Try.func7, Try.ntmps7
    go_wp2_with (first | (go_at_call 9; refine Calls.mono (szIntA4S_any _ _ _ hl' _) ?_; rintro e w' ⟨rfl, rfl⟩) | (go_at_call 11; refine Calls.mono (toIntA4S_any _ _ _ _ (by first | assumption | exact CardsAt.kept (by assumption) (by (try simp only [ext_ext]); repeat (first | exact Kept.refl _ | apply Kept.alloc | apply Kept.drew | apply kept_add | apply Kept.ext))) hn) ?_; rintro e w' ⟨v, rfl, ho, z, rfl⟩; obtain ⟨ao', cap', rfl, hx', hcap'⟩ := ho.reads; clear ho) | (go_at_call 23; refine Calls.mono (hSH.out _ _ _ (by first | assumption | exact CardsAt.kept (by assumption) (by (try simp only [ext_ext]); repeat (first | exact Kept.refl _ | apply Kept.alloc | apply Kept.drew | apply kept_add | apply Kept.ext))) (by assumption)) ?_; rintro e w' ⟨rfl, y, rfl⟩) | (go_at_call 24; refine Calls.mono (hIH.out _ _ _ (by first | assumption | exact CardsAt.kept (by assumption) (by (try simp only [ext_ext]); repeat (first | exact Kept.refl _ | apply Kept.alloc | apply Kept.drew | apply kept_add | apply Kept.ext))) (by assumption)) ?_; rintro e w' ⟨rfl, y, rfl⟩) | (go_at_call 13; refine Calls.mono (eqIntA4S_any _ _ _ _ _ _ _ (by first | assumption | exact CardsAt.kept (by assumption) (by (try simp only [ext_ext]); repeat (first | exact Kept.refl _ | apply Kept.alloc | apply Kept.drew | apply kept_add | apply Kept.ext))) (by first | assumption | exact CardsAt.kept (by assumption) (by (try simp only [ext_ext]); repeat (first | exact Kept.refl _ | apply Kept.alloc | apply Kept.drew | apply kept_add | apply Kept.ext))) hn hn) ?_; rintro e w' ⟨rfl, y, rfl⟩))
    all_goals
      go_ret
      exact ⟨rfl, (by (try simp only [ext_ext]); repeat (first | exact Kept.refl _ | apply Kept.alloc | apply Kept.drew | apply kept_add | apply Kept.ext))⟩
  · go_enter Try.func7, Try.ntmps7
    go_wp2_with (first | (go_at_call 9; refine Calls.mono (szIntA4S_any _ _ _ hl' _) ?_; rintro e w' ⟨rfl, rfl⟩))
    go_ret
    exact ⟨rfl, (by (try simp only [ext_ext]); repeat (first | exact Kept.refl _ | apply Kept.alloc | apply Kept.drew | apply kept_add | apply Kept.ext))⟩
end Go.Proofs.Ytmdnnejaipdkhaa
