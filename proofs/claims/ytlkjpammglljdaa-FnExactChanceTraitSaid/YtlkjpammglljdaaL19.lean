/- Walk: the law of ChanceTrait. -/
import Derived.Test.YtlkjpammglljdaaT6
namespace Go.Proofs.Ytlkjpammglljdaa
open Go.RowKit
theorem chooseSmall_all : (List.range 28).all (fun c => (List.range 4).all fun n => decide (0 ≤ chooseL c n) && decide (chooseL c n ≤ 2925) && (decide (n ≤ c) || decide (chooseL c n = 0))) = true := by decide +kernel
theorem chooseSmall {c n : Nat} (hc : c ≤ 27) (hn : n ≤ 3) : (0 ≤ chooseL c n ∧ chooseL c n ≤ 2925) ∧ (c < n → chooseL c n = 0) := by
  have h1 := List.all_eq_true.1 chooseSmall_all c (List.mem_range.2 (by omega))
  have h2 := List.all_eq_true.1 h1 n (List.mem_range.2 (by omega))
  simp only [Bool.and_eq_true, Bool.or_eq_true, decide_eq_true_eq] at h2
  exact ⟨h2.1, fun h => h2.2.resolve_left (by omega)⟩
def canTrait (xs : List Card) (t n : Int) : Bool := isHand xs && inB t 0 3 && inB n 1 3 && decide (n ≤ xs.length)
def sameT (xs : List Card) (t n : Nat) : Int := chooseL (cnt (trs xs t) xs.length 0).toNat n + chooseL (cnt (trs xs t) xs.length 1).toNat n + chooseL (cnt (trs xs t) xs.length 2).toNat n
theorem sChanceTrait_no (ao : Option Addr) (cap : Nat) (xs : List Card) (t n : Int) (w : World) (hx : CardsAt w ao xs) (hl : xs.length ≤ 1048576) (h : canTrait xs t n = false) :
    Calls Try.prog 29 #[.slice ao xs.length cap, .int .i64 t, .int .i64 n] w fun e w' => e = .returned (.tuple #[v2 0 0, .bool false]) ∧ Kept w w' := by
  cases hh : isHand xs <;> cases h1 : inB t 0 3 <;> cases h2 : inB n 1 3 <;> cases h3 : decide ((xs.length : Int) < n)
  all_goals first | (exfalso; have h3' := of_decide_eq_false h3; simp [canTrait, hh, h1, h2] at h; omega) | skip
  all_goals
    go_enter Try.func29, Try.ntmps29
    go_wp2_with (first | (go_at_call 37; refine Calls.mono (l2Hand_any _ _ _ _ (by first | assumption | exact CardsAt.kept (by assumption) (by (try simp only [ext_ext]); repeat (first | exact Kept.refl _ | apply Kept.alloc | apply Kept.drew | apply kept_add | apply Kept.ext))) hl) ?_; rintro e w' ⟨rfl, y, rfl⟩) | (go_at_call 54; refine Calls.mono (l1In_any _ _ _ _) ?_; rintro e w' ⟨rfl, rfl⟩))
    refine bodyPost_ret (v := .tuple #[v2 0 0, .bool false]) (by simp [results, Try.results29, go_sem]) rfl ⟨rfl, ?_⟩
    exact (by (try simp only [ext_ext]); repeat (first | exact Kept.refl _ | apply Kept.alloc | apply Kept.drew | apply kept_add | apply Kept.ext))
theorem sChanceTrait_yes (ao : Option Addr) (cap : Nat) (xs : List Card) (t n : Nat) (w : World) (hx : CardsAt w ao xs) (h : canTrait xs t n = true) :
    Calls Try.prog 29 #[.slice ao xs.length cap, .int .i64 t, .int .i64 n] w fun e w' => e = .returned (.tuple #[v2 (cutN (sameT xs t n) (chooseL xs.length n)) (cutD (sameT xs t n) (chooseL xs.length n)), .bool true]) ∧ Kept w w' := by
  obtain ⟨⟨⟨hh, h1⟩, h2⟩, h3⟩ : ((isHand xs = true ∧ inB t 0 3 = true) ∧ inB n 1 3 = true) ∧ (n : Int) ≤ xs.length := by simpa [canTrait] using h
  have hl27 := (isHand_of hh).1
  have hn := inB_of h2
  have ht := inB_of h1
  have hlt : ¬ xs.length < n := by omega
  have hlt' : decide (xs.length < n) = false := decide_eq_false hlt
  clear h
  have hsame : sameT xs t n = chooseL (cnt (trs xs t) xs.length 0).toNat n + chooseL (cnt (trs xs t) xs.length 1).toNat n + chooseL (cnt (trs xs t) xs.length 2).toNat n := rfl
  have b0 := cnt_bd (trs xs t) xs.length 0
  have b1 := cnt_bd (trs xs t) xs.length 1
  have b2 := cnt_bd (trs xs t) xs.length 2
  have hcol : ∀ w', Kept w w' → Calls Try.prog 55 #[.slice ao xs.length cap, .int .i64 t] w' fun e w'' => e = .returned (cnt3 (trs xs t) xs.length) ∧ Kept w' w'' := fun w' hw' => l5Column_any _ _ _ _ _ (hx.kept hw') (by omega) (areC_hand hh) (by omega)
  obtain ⟨c0, hc0⟩ := Int.eq_ofNat_of_zero_le b0.1
  obtain ⟨c1, hc1⟩ := Int.eq_ofNat_of_zero_le b1.1
  obtain ⟨c2, hc2⟩ := Int.eq_ofNat_of_zero_le b2.1
  simp only [cnt3, hc0, hc1, hc2, Int.ofNat_eq_natCast, Int.toNat_natCast] at hsame b0 b1 b2 hcol
  clear hc0 hc1 hc2
  have k0 := chooseSmall (c := c0) (n := n) (by omega) (by omega)
  have k1 := chooseSmall (c := c1) (n := n) (by omega) (by omega)
  have k2 := chooseSmall (c := c2) (n := n) (by omega) (by omega)
  have hsH := hid hsame
  clear hsame
  have z0 := hid k0.2
  have z1 := hid k1.2
  have z2 := hid k2.2
  replace k0 := k0.1
  replace k1 := k1.1
  replace k2 := k2.1
  obtain ⟨_, _, _, h4⟩ := choose_ok (n := xs.length) (i := n) (by omega) (by omega)
  have hpos := choose_pos (n := xs.length) (i := n) (by omega) (by omega) (by omega)
  have hcut : ∀ (m : Int) (w' : World), m = sameT xs t n → Calls Try.prog 57 #[.int .i64 m, .int .i64 (chooseL xs.length n)] w' fun e w'' => e = .returned (v2 (cutN (sameT xs t n) (chooseL xs.length n)) (cutD (sameT xs t n) (chooseL xs.length n))) ∧ Kept w' w'' := fun m w' e => by
    subst e
    exact l9Cut_any _ _ (by have := hsH.out; omega) (by have := hsH.out; omega) hpos h4 _
  go_enter Try.func29, Try.ntmps29
  go_wp2_with (first | (go_at_call 37; refine Calls.mono (l2Hand_any _ _ _ _ (by first | assumption | exact CardsAt.kept (by assumption) (by (try simp only [ext_ext]); repeat (first | exact Kept.refl _ | apply Kept.alloc | apply Kept.drew | apply kept_add | apply Kept.ext))) (by omega)) ?_; rintro e w' ⟨rfl, y, rfl⟩) | (go_at_call 54; refine Calls.mono (l1In_any _ _ _ _) ?_; rintro e w' ⟨rfl, rfl⟩) | (go_at_call 55; refine Calls.mono (hcol _ ((by (try simp only [ext_ext]); repeat (first | exact Kept.refl _ | apply Kept.alloc | apply Kept.drew | apply kept_add | apply Kept.ext)))) ?_; rintro e w' ⟨rfl, y, rfl⟩))
  refine wp_loop_rounds 4 ?_
  iterate 4
    all_goals try rw [rounds_succ]
    all_goals go_wp2_with (first | (go_at_call 56; refine Calls.mono (l9Choose_any _ _ (by omega) (by omega) _) ?_; rintro e w' ⟨rfl, rfl⟩) | (go_at_call 57; refine Calls.mono (hcut _ _ (by have := hsH.out; have := z0.out; have := z1.out; have := z2.out; omega)) ?_; rintro e w' ⟨rfl, y, rfl⟩))
  all_goals
    refine bodyPost_ret (v := .tuple #[v2 (cutN (sameT xs t n) (chooseL xs.length n)) (cutD (sameT xs t n) (chooseL xs.length n)), .bool true]) (by simp [results, Try.results29, go_sem]) rfl ⟨rfl, ?_⟩
    exact (by (try simp only [ext_ext]); repeat (first | exact Kept.refl _ | apply Kept.alloc | apply Kept.drew | apply kept_add | apply Kept.ext))
theorem iChanceTrait_no (ao : Option Addr) (cap : Nat) (xs : List Card) (t n : Int) (w : World) (hx : CardsAt w ao xs) (hl : xs.length ≤ 1048576) (h : canTrait xs t n = false) :
    Calls Try.prog 30 #[.slice ao xs.length cap, .int .i64 t, .int .i64 n] w fun e w' => e = .returned (.tuple #[v2 0 0, .bool false]) ∧ Kept w w' := by
  cases hh : isHand xs <;> cases h1 : inB t 0 3 <;> cases h2 : inB n 1 3 <;> cases h3 : decide ((xs.length : Int) < n)
  all_goals first | (exfalso; have h3' := of_decide_eq_false h3; simp [canTrait, hh, h1, h2] at h; omega) | skip
  all_goals
    go_enter Try.func30, Try.ntmps30
    go_wp2_with (first | (go_at_call 44; refine Calls.mono (IsHand_any _ _ _ _ (by first | assumption | exact CardsAt.kept (by assumption) (by (try simp only [ext_ext]); repeat (first | exact Kept.refl _ | apply Kept.alloc | apply Kept.drew | apply kept_add | apply Kept.ext))) hl) ?_; rintro e w' ⟨rfl, y, rfl⟩) | (go_at_call 58; refine Calls.mono (within_any _ _ _ _) ?_; rintro e w' ⟨rfl, rfl⟩))
    refine bodyPost_ret (v := .tuple #[v2 0 0, .bool false]) (by simp [results, Try.results30, go_sem]) rfl ⟨rfl, ?_⟩
    exact (by (try simp only [ext_ext]); repeat (first | exact Kept.refl _ | apply Kept.alloc | apply Kept.drew | apply kept_add | apply Kept.ext))
theorem iChanceTrait_yes (ao : Option Addr) (cap : Nat) (xs : List Card) (t n : Nat) (w : World) (hx : CardsAt w ao xs) (h : canTrait xs t n = true) :
    Calls Try.prog 30 #[.slice ao xs.length cap, .int .i64 t, .int .i64 n] w fun e w' => e = .returned (.tuple #[v2 (cutN (sameT xs t n) (chooseL xs.length n)) (cutD (sameT xs t n) (chooseL xs.length n)), .bool true]) ∧ Kept w w' := by
  obtain ⟨⟨⟨hh, h1⟩, h2⟩, h3⟩ : ((isHand xs = true ∧ inB t 0 3 = true) ∧ inB n 1 3 = true) ∧ (n : Int) ≤ xs.length := by simpa [canTrait] using h
  have hl27 := (isHand_of hh).1
  have hn := inB_of h2
  have ht := inB_of h1
  have hlt : ¬ xs.length < n := by omega
  have hlt' : decide (xs.length < n) = false := decide_eq_false hlt
  clear h
  have hsame : sameT xs t n = chooseL (cnt (trs xs t) xs.length 0).toNat n + chooseL (cnt (trs xs t) xs.length 1).toNat n + chooseL (cnt (trs xs t) xs.length 2).toNat n := rfl
  have b0 := cnt_bd (trs xs t) xs.length 0
  have b1 := cnt_bd (trs xs t) xs.length 1
  have b2 := cnt_bd (trs xs t) xs.length 2
  go_enter Try.func30, Try.ntmps30
  go_wp2_with (first | (go_at_call 44; refine Calls.mono (IsHand_any _ _ _ _ (by first | assumption | exact CardsAt.kept (by assumption) (by (try simp only [ext_ext]); repeat (first | exact Kept.refl _ | apply Kept.alloc | apply Kept.drew | apply kept_add | apply Kept.ext))) (by omega)) ?_; rintro e w' ⟨rfl, y, rfl⟩) | (go_at_call 58; refine Calls.mono (within_any _ _ _ _) ?_; rintro e w' ⟨rfl, rfl⟩))
  go_loopw [37] (fun i wr => ∃ (k : Nat) (s0 s1 s2 : Int), k ≤ xs.length ∧ s0 = cnt (trs xs t) k 0 ∧ s1 = cnt (trs xs t) k 1 ∧ s2 = cnt (trs xs t) k 2 ∧ i = .int .i64 k ∧
      Kept ((ext (w.alloc (.cells #[.int .i64 0, .int .i64 0] 45)) y).alloc (.cells #[.int .i64 s0, .int .i64 s1, .int .i64 s2] 39)) wr) (fun i _ => xs.length - (intOf i).toNat)
  case atStart => exact ⟨0, 0, 0, 0, Nat.zero_le _, rfl, rfl, rfl, rfl, (by (try simp only [ext_ext]); repeat (first | exact Kept.refl _ | apply Kept.alloc | apply Kept.drew | apply kept_add | apply Kept.ext))⟩
  case round =>
    obtain ⟨k, s0, s1, s2, hk, h0, h1', h2', rfl, z, rfl⟩ := hrel
    have c0 := cnt_bd (trs xs t) k 0
    have c1 := cnt_bd (trs xs t) k 1
    have c2 := cnt_bd (trs xs t) k 2
    rw [← h0] at c0
    rw [← h1'] at c1
    rw [← h2'] at c2
    by_cases hlt : k < xs.length
    · obtain ⟨g, off, rfl, hg, hcc⟩ := hx k hlt
      obtain ⟨q1, q2, q3, q4⟩ := hcc
      have h3v := tr_3 t (areC_hand hh k hlt)
      have g1 : g < w.heap.size + 1 + y.os.length + 1 := by omega
      have g2 : g < w.heap.size + 1 + y.os.length + 1 + z.os.length := by omega
      have e0 := hid h0
      have e1 := hid h1'
      have e2 := hid h2'
      clear h0 h1' h2'
      obtain rfl | rfl | rfl | rfl : t = 0 ∨ t = 1 ∨ t = 2 ∨ t = 3 := by omega
      all_goals
        rcases h3v with hv | hv | hv
        all_goals
          have hvH := hid hv
          simp [tr] at hv
          go_wp2
          go_roundw
          case measure => simp [intOf]; omega
        · exact ⟨k + 1, s0 + 1, s1, s2, hlt, by rw [cnt_next, e0.out]; simp [trs, hvH.out], by rw [cnt_next, e1.out]; simp [trs, hvH.out], by rw [cnt_next, e2.out]; simp [trs, hvH.out], by go_num, (by (try simp only [ext_ext]); repeat (first | exact Kept.refl _ | apply Kept.alloc | apply Kept.drew | apply kept_add | apply Kept.ext))⟩
        · exact ⟨k + 1, s0, s1 + 1, s2, hlt, by rw [cnt_next, e0.out]; simp [trs, hvH.out], by rw [cnt_next, e1.out]; simp [trs, hvH.out], by rw [cnt_next, e2.out]; simp [trs, hvH.out], by go_num, (by (try simp only [ext_ext]); repeat (first | exact Kept.refl _ | apply Kept.alloc | apply Kept.drew | apply kept_add | apply Kept.ext))⟩
        · exact ⟨k + 1, s0, s1, s2 + 1, hlt, by rw [cnt_next, e0.out]; simp [trs, hvH.out], by rw [cnt_next, e1.out]; simp [trs, hvH.out], by rw [cnt_next, e2.out]; simp [trs, hvH.out], by go_num, (by (try simp only [ext_ext]); repeat (first | exact Kept.refl _ | apply Kept.alloc | apply Kept.drew | apply kept_add | apply Kept.ext))⟩
    · obtain rfl : k = xs.length := by omega
      obtain ⟨m0, hc0⟩ := Int.eq_ofNat_of_zero_le b0.1
      obtain ⟨m1, hc1⟩ := Int.eq_ofNat_of_zero_le b1.1
      obtain ⟨m2, hc2⟩ := Int.eq_ofNat_of_zero_le b2.1
      subst h0 h1' h2'
      simp only [hc0, hc1, hc2, Int.ofNat_eq_natCast, Int.toNat_natCast] at hsame b0 b1 b2 ⊢
      have k0 := (chooseSmall (c := m0) (n := n) (by omega) (by omega)).1
      have k1 := (chooseSmall (c := m1) (n := n) (by omega) (by omega)).1
      have k2 := (chooseSmall (c := m2) (n := n) (by omega) (by omega)).1
      clear hc0 hc1 hc2
      obtain ⟨_, _, _, h4⟩ := choose_ok (n := xs.length) (i := n) (by omega) (by omega)
      have hpos := choose_pos (n := xs.length) (i := n) (by omega) (by omega) (by omega)
      have hsH := hid hsame
      clear hsame
      have hcut : ∀ (m : Int) (w' : World), m = sameT xs t n → Calls Try.prog 60 #[.int .i64 m, .int .i64 (chooseL xs.length n)] w' fun e w'' => e = .returned (.tuple #[v2 (cutN (sameT xs t n) (chooseL xs.length n)) (cutD (sameT xs t n) (chooseL xs.length n)), .bool true]) ∧ Kept w' w'' := fun m w' e => by
        subst e
        exact fraction_any _ _ (by have := hsH.out; omega) (by have := hsH.out; omega) hpos h4 _
      have i0 : ∀ w : World, (Instr.index 39 (.agg #[.int .i64 m0, .int .i64 m1, .int .i64 m2]) (.int .i64 0)).run Try.prog w = .ok (.int .i64 m0) w := fun _ => by kernel_rfl
      have i1 : ∀ w : World, (Instr.index 39 (.agg #[.int .i64 m0, .int .i64 m1, .int .i64 m2]) (.int .i64 1)).run Try.prog w = .ok (.int .i64 m1) w := fun _ => by kernel_rfl
      have i2 : ∀ w : World, (Instr.index 39 (.agg #[.int .i64 m0, .int .i64 m1, .int .i64 m2]) (.int .i64 2)).run Try.prog w = .ok (.int .i64 m2) w := fun _ => by kernel_rfl
      go_wp2
      refine wp_loop_rounds 4 ?_
      iterate 4
        all_goals try rw [rounds_succ]
        all_goals go_wp2_with (first | (go_at_call 59; refine Calls.mono (choose_any _ _ (by omega) (by omega) _) ?_; rintro e w' ⟨rfl, rfl⟩) | (go_at_call 60; refine Calls.mono (hcut _ _ (by have := hsH.out; omega)) ?_; rintro e w' ⟨rfl, y, rfl⟩))
      all_goals
        refine bodyPost_ret (v := .tuple #[v2 (cutN (sameT xs t n) (chooseL xs.length n)) (cutD (sameT xs t n) (chooseL xs.length n)), .bool true]) (by simp [results, Try.results30, go_sem]) rfl ⟨rfl, ?_⟩
        exact (by (try simp only [ext_ext]); repeat (first | exact Kept.refl _ | apply Kept.alloc | apply Kept.drew | apply kept_add | apply Kept.ext))
theorem walk_FnExactChanceTrait (ao : Option Addr) (xs : List Card) (cap : Nat) {w : World} (hx : CardsAt w ao xs) (hl : xs.length ≤ maxLen) (t n : Int) (_ : World) :
    Calls Try.prog 8 #[.slice ao xs.length cap, .int .i64 t, .int .i64 n] w fun e w' => e = .returned (.bool true) ∧ Kept w w' := by
  have hl' : xs.length ≤ 9223372036854775807 := by unfold maxLen at hl; omega
  by_cases hn : xs.length ≤ 1048576
  · cases hg : canTrait xs t n with
    | false =>
      go_enter Try.func8, Try.ntmps8
      go_wp2_with (first | (go_at_call 17; refine Calls.mono (szIntA4S_any _ _ _ hl' _) ?_; rintro e w' ⟨rfl, rfl⟩) | (go_at_call 19; refine Calls.mono (toIntA4S_any _ _ _ _ (by first | assumption | exact CardsAt.kept (by assumption) (by (try simp only [ext_ext]); repeat (first | exact Kept.refl _ | apply Kept.alloc | apply Kept.drew | apply kept_add | apply Kept.ext))) hn) ?_; rintro e w' ⟨v, rfl, ho, z, rfl⟩; obtain ⟨ao', cap', rfl, hx', hcap'⟩ := ho.reads; clear ho) | (go_at_call 29; refine Calls.mono (sChanceTrait_no _ _ _ _ _ _ (by first | assumption | exact CardsAt.kept (by assumption) (by (try simp only [ext_ext]); repeat (first | exact Kept.refl _ | apply Kept.alloc | apply Kept.drew | apply kept_add | apply Kept.ext))) hn hg) ?_; rintro e w' ⟨rfl, y, rfl⟩) | (go_at_call 30; refine Calls.mono (iChanceTrait_no _ _ _ _ _ _ (by first | assumption | exact CardsAt.kept (by assumption) (by (try simp only [ext_ext]); repeat (first | exact Kept.refl _ | apply Kept.alloc | apply Kept.drew | apply kept_add | apply Kept.ext))) hn hg) ?_; rintro e w' ⟨rfl, y, rfl⟩) | (go_at_call 31; refine Calls.mono (eqIntA2_any _ _ _ _ _) ?_; rintro e w' ⟨rfl, y, rfl⟩) | (go_at_call 12; refine Calls.mono (eqIntA4S_any _ _ _ _ _ _ _ (by first | assumption | exact CardsAt.kept (by assumption) (by (try simp only [ext_ext]); repeat (first | exact Kept.refl _ | apply Kept.alloc | apply Kept.drew | apply kept_add | apply Kept.ext))) (by first | assumption | exact CardsAt.kept (by assumption) (by (try simp only [ext_ext]); repeat (first | exact Kept.refl _ | apply Kept.alloc | apply Kept.drew | apply kept_add | apply Kept.ext))) hn hn) ?_; rintro e w' ⟨rfl, y, rfl⟩))
      all_goals
        go_ret
        exact ⟨rfl, (by (try simp only [ext_ext]); repeat (first | exact Kept.refl _ | apply Kept.alloc | apply Kept.drew | apply kept_add | apply Kept.ext))⟩
    | true =>
      obtain ⟨⟨⟨_, h1⟩, h2⟩, _⟩ : ((isHand xs = true ∧ inB t 0 3 = true) ∧ inB n 1 3 = true) ∧ n ≤ xs.length := by simpa [canTrait] using hg
      obtain ⟨T, rfl⟩ := Int.eq_ofNat_of_zero_le (inB_of h1).1
      obtain ⟨M, rfl⟩ := Int.eq_ofNat_of_zero_le (show 0 ≤ n by have := (inB_of h2).1; omega)
      go_enter Try.func8, Try.ntmps8
      go_wp2_with (first | (go_at_call 17; refine Calls.mono (szIntA4S_any _ _ _ hl' _) ?_; rintro e w' ⟨rfl, rfl⟩) | (go_at_call 19; refine Calls.mono (toIntA4S_any _ _ _ _ (by first | assumption | exact CardsAt.kept (by assumption) (by (try simp only [ext_ext]); repeat (first | exact Kept.refl _ | apply Kept.alloc | apply Kept.drew | apply kept_add | apply Kept.ext))) hn) ?_; rintro e w' ⟨v, rfl, ho, z, rfl⟩; obtain ⟨ao', cap', rfl, hx', hcap'⟩ := ho.reads; clear ho) | (go_at_call 29; refine Calls.mono (sChanceTrait_yes _ _ _ _ _ _ (by first | assumption | exact CardsAt.kept (by assumption) (by (try simp only [ext_ext]); repeat (first | exact Kept.refl _ | apply Kept.alloc | apply Kept.drew | apply kept_add | apply Kept.ext))) hg) ?_; rintro e w' ⟨rfl, y, rfl⟩) | (go_at_call 30; refine Calls.mono (iChanceTrait_yes _ _ _ _ _ _ (by first | assumption | exact CardsAt.kept (by assumption) (by (try simp only [ext_ext]); repeat (first | exact Kept.refl _ | apply Kept.alloc | apply Kept.drew | apply kept_add | apply Kept.ext))) hg) ?_; rintro e w' ⟨rfl, y, rfl⟩) | (go_at_call 31; refine Calls.mono (eqIntA2_any _ _ _ _ _) ?_; rintro e w' ⟨rfl, y, rfl⟩) | (go_at_call 12; refine Calls.mono (eqIntA4S_any _ _ _ _ _ _ _ (by first | assumption | exact CardsAt.kept (by assumption) (by (try simp only [ext_ext]); repeat (first | exact Kept.refl _ | apply Kept.alloc | apply Kept.drew | apply kept_add | apply Kept.ext))) (by first | assumption | exact CardsAt.kept (by assumption) (by (try simp only [ext_ext]); repeat (first | exact Kept.refl _ | apply Kept.alloc | apply Kept.drew | apply kept_add | apply Kept.ext))) hn hn) ?_; rintro e w' ⟨rfl, y, rfl⟩))
      all_goals
        go_ret
        exact ⟨rfl, (by (try simp only [ext_ext]); repeat (first | exact Kept.refl _ | apply Kept.alloc | apply Kept.drew | apply kept_add | apply Kept.ext))⟩
  · go_enter Try.func8, Try.ntmps8
    go_wp2_with (first | (go_at_call 17; refine Calls.mono (szIntA4S_any _ _ _ hl' _) ?_; rintro e w' ⟨rfl, rfl⟩))
    go_ret
    exact ⟨rfl, (by (try simp only [ext_ext]); repeat (first | exact Kept.refl _ | apply Kept.alloc | apply Kept.drew | apply kept_add | apply Kept.ext))⟩
end Go.Proofs.Ytlkjpammglljdaa
