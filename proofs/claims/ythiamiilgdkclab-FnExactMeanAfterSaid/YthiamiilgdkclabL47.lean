/- Walk: the law of MeanAfter. -/
import Derived.Test.YthiamiilgdkclabT10
import Derived.Test.YthiamiilgdkclabT14
import Derived.Test.YthiamiilgdkclabT15
import Derived.Test.YthiamiilgdkclabT16
import Derived.Test.YthiamiilgdkclabT28
import Derived.Test.YthiamiilgdkclabC2
namespace Go.Proofs.Ythiamiilgdkclab
open Go.RowKit
theorem rs_split (a b : Nat) (f : Nat → Int) : rsum (a + b) f = rsum a f + rsum b fun j => f (a + j) := by
  induction b with
  | zero => simp [rsum]
  | succ b ih => rw [← Nat.add_assoc, rsum_succ, ih, rsum_succ]; omega
theorem rs_none {n : Nat} {f : Nat → Int} (h : ∀ m, m < n → f m = 0) : rsum n f = 0 := by
  rw [rsum_congr (g := fun _ => 0) h, rsum_zero]
theorem rs_one {n j : Nat} {f : Nat → Int} (hj : j < n) (h : ∀ m, m < n → m ≠ j → f m = 0) : rsum n f = f j := by
  obtain ⟨d, rfl⟩ : ∃ d, n = j + (1 + d) := ⟨n - j - 1, by omega⟩
  rw [rs_split, rs_split, rs_none (n := j) fun m hm => h m (by omega) (by omega), rs_none (n := d) fun m hm => h _ (by omega) (by omega)]
  simp [rsum]
theorem rs_le {n : Nat} {f g : Nat → Int} (h : ∀ i, i < n → f i ≤ g i) : rsum n f ≤ rsum n g := by
  induction n with
  | zero => exact Int.le_refl _
  | succ n ih =>
    have := ih fun i hi => h i (by omega)
    have := h n (by omega)
    rw [rsum_succ, rsum_succ]; omega
theorem rs_ones (n : Nat) : (rsum n fun _ => (1 : Int)) = n := by
  induction n with
  | zero => rfl
  | succ n ih => rw [rsum_succ, ih]; omega
def in81 (xs : List Card) (n : Nat) : Int := if hasC xs (cardN (n : Int)) = true then 1 else 0
theorem rest_count (xs : List Card) (k : Nat) : ((restK xs k).length : Int) + rsum k (in81 xs) = k := by
  induction k with
  | zero => rfl
  | succ k ih =>
    rw [restK_next, List.length_append, rsum_succ]
    unfold in81 at ih ⊢
    cases h : hasC xs (cardN (k : Int)) <;> simp [h] at ih ⊢ <;> omega
theorem cardN_inj {n m : Nat} (h : cardN (n : Int) = cardN (m : Int)) : n = m := by
  have h1 := numC_cardN (n := (n : Int))
  rw [h, numC_cardN] at h1
  omega
/-- At least 54 cards are not in a hand. -/
theorem rest_many {xs : List Card} (h : xs.length ≤ 27) : 54 ≤ (restK xs 81).length := by
  have hc := rest_count xs 81
  have hle : rsum 81 (in81 xs) ≤ xs.length := by
    have h1 : rsum 81 (in81 xs) ≤ rsum 81 fun n => rsum xs.length fun j => if cx xs j = cardN (n : Int) then 1 else 0 := by
      refine rs_le fun n _ => ?_
      have hnn : 0 ≤ rsum xs.length fun j => if cx xs j = cardN (n : Int) then (1 : Int) else 0 := (rsum_bd (b := 1) fun j _ => by split <;> omega).1
      unfold in81
      cases hh : hasC xs (cardN (n : Int)) with
      | false => simpa using hnn
      | true =>
        simp only [hasC, List.any_eq_true, decide_eq_true_eq] at hh
        obtain ⟨x, hx, e⟩ := hh
        obtain ⟨j, hj, rfl⟩ := List.mem_iff_getElem.1 hx
        rw [← cx_get xs j hj] at e
        have h2 : rsum xs.length (fun i => if i = j then (1 : Int) else 0) = 1 := by rw [rs_one hj fun m _ hne => if_neg hne]; simp
        have h3 : rsum xs.length (fun i => if i = j then (1 : Int) else 0) ≤ rsum xs.length fun j => if cx xs j = cardN (n : Int) then 1 else 0 := rs_le fun i _ => by
          by_cases hi : i = j
          · subst hi; rw [if_pos rfl, if_pos e]; exact Int.le_refl _
          · rw [if_neg hi]; split <;> omega
        simp only [if_true]
        omega
    rw [rsum_swap] at h1
    have h4 : (rsum xs.length fun j => rsum 81 fun n => if cx xs j = cardN (n : Int) then (1 : Int) else 0) ≤ rsum xs.length fun _ => 1 := by
      refine rs_le fun j _ => ?_
      by_cases he : ∃ n : Nat, n < 81 ∧ cx xs j = cardN (n : Int)
      · obtain ⟨n, hn, e⟩ := he
        rw [rs_one hn fun m hm hne => if_neg fun e' => hne (cardN_inj (e'.symm.trans e))]
        split <;> omega
      · rw [rs_none fun m hm => if_neg fun e => he ⟨m, hm, e⟩]; omega
    rw [rs_ones] at h4
    omega
  omega
/-- Lines through the first cards of a list, and pairs of the rest whose third card is in a hand. -/
def thL (xs l : List Card) (k : Nat) : Int := rsum k fun i => thr xs (cx l i)
def hs01 (xs : List Card) (a b : Card) : Int := if hasC xs (thirdC a b) = true then 1 else 0
def prRow (xs l : List Card) (i m : Nat) : Int := rsum m fun k => hs01 xs (cx l i) (cx l k)
def prN (xs l : List Card) (n : Nat) : Int := rsum n fun i => prRow xs l i i
theorem thL_next (xs l : List Card) (k : Nat) : thL xs l (k + 1) = thL xs l k + thr xs (cx l k) := rfl
theorem prRow_next (xs l : List Card) (i m : Nat) : prRow xs l i (m + 1) = prRow xs l i m + hs01 xs (cx l i) (cx l m) := rfl
theorem prN_next (xs l : List Card) (n : Nat) : prN xs l (n + 1) = prN xs l n + prRow xs l n n := rfl
theorem thr_b {xs : List Card} {c : Card} (h : xs.length ≤ 27) : 0 ≤ thr xs c ∧ thr xs c ≤ 2187 := by
  have := thrOut_bd xs c xs.length (by omega)
  unfold thr; omega
theorem thL_bd {xs l : List Card} (h : xs.length ≤ 27) (k : Nat) : 0 ≤ thL xs l k ∧ thL xs l k ≤ k * 2187 := rsum_bd fun i _ => thr_b h
theorem prRow_bd (xs l : List Card) (i m : Nat) : 0 ≤ prRow xs l i m ∧ prRow xs l i m ≤ m * 1 := rsum_bd fun k _ => by unfold hs01; split <;> omega
theorem prN_bd (xs l : List Card) (n : Nat) (h : n ≤ 81) : 0 ≤ prN xs l n ∧ prN xs l n ≤ n * 81 := rsum_bd fun i hi => by have := prRow_bd xs l i i; omega
theorem thL_append {xs l : List Card} {c : Card} : thL xs (l ++ [c]) (l.length + 1) = thL xs l l.length + thr xs c := by
  unfold thL
  rw [rsum_succ]
  have e : cx (l ++ [c]) l.length = c := by simp [cx]
  rw [e, rsum_congr fun i hi => show thr xs (cx (l ++ [c]) i) = thr xs (cx l i) by
    have : cx (l ++ [c]) i = cx l i := by simp [cx, List.getD, List.getElem?_append_left hi]
    rw [this]]
theorem areC_rest81 (xs : List Card) : areC (restK xs 81) := by
  intro j hj
  have hm := cx_mem hj
  generalize cx (restK xs 81) j = c at hm ⊢
  simp only [restK, List.mem_filter, List.mem_map, List.mem_range] at hm
  obtain ⟨⟨i, hi, rfl⟩, _⟩ := hm
  exact isCard_cardN (by omega) (by omega)
def canAfter (xs : List Card) (n : Int) : Bool := isHand xs && inB n 0 2
def afterN (xs : List Card) (n : Int) : Int × Int :=
  if n = 0 then (((linesC xs).length : Nat), 1)
  else if n = 1 then (((linesC xs).length : Int) * ((restK xs 81).length : Int) + thL xs (restK xs 81) (restK xs 81).length, ((restK xs 81).length : Nat))
  else (((linesC xs).length : Int) * chooseL (restK xs 81).length 2 + thL xs (restK xs 81) (restK xs 81).length * (((restK xs 81).length : Int) - 1) + prN xs (restK xs 81) (restK xs 81).length, chooseL (restK xs 81).length 2)
abbrev meanAfter (xs : List Card) (n : Int) : Value := v2 (cutN (afterN xs n).1 (afterN xs n).2) (cutD (afterN xs n).1 (afterN xs n).2)
theorem gcd_one (a : Int) : gcdI a 1 = 1 := by simp [gcdI]
theorem cut_one (a : Int) : v2 (cutN a 1) (cutD a 1) = v2 a 1 := by
  unfold cutN cutD
  rw [gcd_one, Int.ediv_one, Int.ediv_one]
theorem sMeanAfter_no (ao : Option Addr) (cap : Nat) (xs : List Card) (n : Int) (w : World) (hx : CardsAt w ao xs) (hl : xs.length ≤ 1048576) (h : canAfter xs n = false) :
    Calls Try.prog 27 #[.slice ao xs.length cap, .int .i64 n] w fun e w' => e = .returned (.tuple #[v2 0 0, .bool false]) ∧ Kept w w' := by
  cases hh : isHand xs <;> cases h1 : inB n 0 2
  all_goals first | (exfalso; simp [canAfter, hh, h1] at h; done) | skip
  all_goals
    go_enter Try.func27, Try.ntmps27
    go_wp2_with (first | (go_at_call 29; refine Calls.mono (l2Hand_any _ _ _ _ (by first | assumption | exact CardsAt.kept (by assumption) (by (try simp only [ext_ext]); repeat (first | exact Kept.refl _ | apply Kept.alloc | apply Kept.drew | apply kept_add | apply Kept.ext))) hl) ?_; rintro e w' ⟨rfl, y, rfl⟩) | (go_at_call 37; refine Calls.mono (l1In_any _ _ _ _) ?_; rintro e w' ⟨rfl, rfl⟩))
    refine bodyPost_ret (v := .tuple #[v2 0 0, .bool false]) (by simp [results, Try.results27, go_sem]) rfl ⟨rfl, ?_⟩
    exact (by (try simp only [ext_ext]); repeat (first | exact Kept.refl _ | apply Kept.alloc | apply Kept.drew | apply kept_add | apply Kept.ext))
theorem iMeanAfter_no (ao : Option Addr) (cap : Nat) (xs : List Card) (n : Int) (w : World) (hx : CardsAt w ao xs) (hl : xs.length ≤ 1048576) (h : canAfter xs n = false) :
    Calls Try.prog 28 #[.slice ao xs.length cap, .int .i64 n] w fun e w' => e = .returned (.tuple #[v2 0 0, .bool false]) ∧ Kept w w' := by
  cases hh : isHand xs <;> cases h1 : inB n 0 2
  all_goals first | (exfalso; simp [canAfter, hh, h1] at h; done) | skip
  all_goals
    go_enter Try.func28, Try.ntmps28
    go_wp2_with (first | (go_at_call 33; refine Calls.mono (IsHand_any _ _ _ _ (by first | assumption | exact CardsAt.kept (by assumption) (by (try simp only [ext_ext]); repeat (first | exact Kept.refl _ | apply Kept.alloc | apply Kept.drew | apply kept_add | apply Kept.ext))) hl) ?_; rintro e w' ⟨rfl, y, rfl⟩) | (go_at_call 40; refine Calls.mono (within_any _ _ _ _) ?_; rintro e w' ⟨rfl, rfl⟩))
    refine bodyPost_ret (v := .tuple #[v2 0 0, .bool false]) (by simp [results, Try.results28, go_sem]) rfl ⟨rfl, ?_⟩
    exact (by (try simp only [ext_ext]); repeat (first | exact Kept.refl _ | apply Kept.alloc | apply Kept.drew | apply kept_add | apply Kept.ext))
/-- What both texts ask of the numbers. -/
theorem after_nums {xs : List Card} (h27 : xs.length ≤ 27) : ∃ (r L T P C : Int), r = ((restK xs 81).length : Nat) ∧ L = ((linesC xs).length : Nat) ∧ T = thL xs (restK xs 81) (restK xs 81).length ∧ P = prN xs (restK xs 81) (restK xs 81).length ∧ C = chooseL (restK xs 81).length 2 ∧
    54 ≤ r ∧ r ≤ 81 ∧ 0 ≤ L ∧ L ≤ 6561 ∧ 0 ≤ T ∧ T ≤ 177147 ∧ 0 ≤ P ∧ P ≤ 6561 ∧ 1 ≤ C ∧ C ≤ 3240 ∧ 0 ≤ L * r ∧ L * r ≤ 531441 ∧ 0 ≤ L * C ∧ L * C ≤ 21257640 ∧ 0 ≤ T * (r - 1) ∧ T * (r - 1) ≤ 14171760 := by
  have h1 := rest_many h27
  have h2 := restK_len xs 81
  have h3 := linesC_len xs (by omega)
  have h4 := thL_bd (xs := xs) (l := restK xs 81) h27 (restK xs 81).length
  have h5 := prN_bd xs (restK xs 81) (restK xs 81).length h2
  have h6 := choose_pos (n := (restK xs 81).length) (i := 2) (by omega) (by omega) (by omega)
  have h7 : chooseL (restK xs 81).length 2 ≤ 3240 := by
    have key : (List.range 82).all (fun n => decide (chooseL n 2 ≤ 3240)) = true := by decide +kernel
    exact of_decide_eq_true (List.all_eq_true.1 key _ (List.mem_range.2 (by omega)))
  refine ⟨_, _, _, _, _, rfl, rfl, rfl, rfl, rfl, by omega, by omega, by omega, by omega, h4.1, by omega, h5.1, by omega, h6, h7, ?_, ?_, ?_, ?_, ?_, ?_⟩
  · exact Int.mul_nonneg (by omega) (by omega)
  · exact Int.le_trans (Int.mul_le_mul_of_nonneg_right (show ((linesC xs).length : Int) ≤ 6561 by omega) (by omega)) (by omega)
  · exact Int.mul_nonneg (by omega) (by omega)
  · exact Int.le_trans (Int.mul_le_mul_of_nonneg_right (show ((linesC xs).length : Int) ≤ 6561 by omega) (by omega)) (by omega)
  · exact Int.mul_nonneg h4.1 (by omega)
  · exact Int.le_trans (Int.mul_le_mul_of_nonneg_right (show thL xs (restK xs 81) (restK xs 81).length ≤ 177147 by omega) (by omega)) (by omega)
set_option maxHeartbeats 2000000 in
theorem sMeanAfter_yes (ao : Option Addr) (cap : Nat) (xs : List Card) (n : Int) (w : World) (hx : CardsAt w ao xs) (h : canAfter xs n = true) :
    Calls Try.prog 27 #[.slice ao xs.length cap, .int .i64 n] w fun e w' => e = .returned (.tuple #[meanAfter xs n, .bool true]) ∧ Kept w w' := by
  obtain ⟨hh, hn⟩ : isHand xs = true ∧ inB n 0 2 = true := by simpa [canAfter] using h
  have hl27 := (isHand_of hh).1
  have hc := areC_hand hh
  have hrc := areC_rest81 xs
  have hn012 : n = 0 ∨ n = 1 ∨ n = 2 := by have := inB_of hn; omega
  have m0 : Hid (meanAfter xs 0 = v2 ((linesC xs).length : Nat) 1) := hid (by show v2 (cutN _ 1) (cutD _ 1) = _; exact cut_one _)
  have m1 : Hid (meanAfter xs 1 = v2 (cutN (((linesC xs).length : Int) * ((restK xs 81).length : Int) + thL xs (restK xs 81) (restK xs 81).length) ((restK xs 81).length : Nat)) (cutD (((linesC xs).length : Int) * ((restK xs 81).length : Int) + thL xs (restK xs 81) (restK xs 81).length) ((restK xs 81).length : Nat))) := hid rfl
  have m2 : Hid (meanAfter xs 2 = v2 (cutN (((linesC xs).length : Int) * chooseL (restK xs 81).length 2 + thL xs (restK xs 81) (restK xs 81).length * (((restK xs 81).length : Int) - 1) + prN xs (restK xs 81) (restK xs 81).length) (chooseL (restK xs 81).length 2)) (cutD (((linesC xs).length : Int) * chooseL (restK xs 81).length 2 + thL xs (restK xs 81) (restK xs 81).length * (((restK xs 81).length : Int) - 1) + prN xs (restK xs 81) (restK xs 81).length) (chooseL (restK xs 81).length 2))) := hid rfl
  obtain ⟨r, L, T, P, C, rfl, rfl, rfl, rfl, rfl, a1, a2, a3, a4, a5, a6, a7, a8, a9, a10, a11, a12, a13, a14, a15, a16⟩ := after_nums hl27
  have w1 : IntKind.i64.wrap (((linesC xs).length : Int) * ((restK xs 81).length : Int)) = ((linesC xs).length : Int) * ((restK xs 81).length : Int) := IntWalk.i64_in _ (by omega)
  have w2 : IntKind.i64.wrap (((linesC xs).length : Int) * chooseL (restK xs 81).length 2) = ((linesC xs).length : Int) * chooseL (restK xs 81).length 2 := IntWalk.i64_in _ (by omega)
  have w3 : IntKind.i64.wrap (thL xs (restK xs 81) (restK xs 81).length * (((restK xs 81).length : Int) - 1)) = thL xs (restK xs 81) (restK xs 81).length * (((restK xs 81).length : Int) - 1) := IntWalk.i64_in _ (by omega)
  clear h
  rcases hn012 with rfl | rfl | rfl
  · go_enter Try.func27, Try.ntmps27
    go_wp2_with (first | (go_at_call 29; refine Calls.mono (l2Hand_any _ _ _ _ (by first | assumption | exact CardsAt.kept (by assumption) (by (try simp only [ext_ext]); repeat (first | exact Kept.refl _ | apply Kept.alloc | apply Kept.drew | apply kept_add | apply Kept.ext))) (by omega)) ?_; rintro e w' ⟨rfl, y, rfl⟩) | (go_at_call 37; refine Calls.mono (l1In_any _ _ _ _) ?_; rintro e w' ⟨rfl, rfl⟩) | (go_at_call 39; refine Calls.mono (l2Lines_any _ _ _ _ (by first | assumption | exact CardsAt.kept (by assumption) (by (try simp only [ext_ext]); repeat (first | exact Kept.refl _ | apply Kept.alloc | apply Kept.drew | apply kept_add | apply Kept.ext))) (by omega) hc) ?_; rintro e w' ⟨v, rfl, ho, z, rfl⟩; obtain ⟨ao', cap', rfl, hx', hcap'⟩ := ho.reads; clear ho) | (go_at_call 51; refine Calls.mono (l9Rest_any _ _ _ _ (by first | assumption | exact CardsAt.kept (by assumption) (by (try simp only [ext_ext]); repeat (first | exact Kept.refl _ | apply Kept.alloc | apply Kept.drew | apply kept_add | apply Kept.ext))) (by omega)) ?_; rintro e w' ⟨v, rfl, ho, z, rfl⟩; obtain ⟨ao', cap', rfl, hx', hcap'⟩ := ho.reads; clear ho))
    rw [m0.out]
    refine bodyPost_ret (v := .tuple #[v2 ((linesC xs).length : Nat) 1, .bool true]) (by simp [results, Try.results27, go_sem]) rfl ⟨rfl, ?_⟩
    exact (by (try simp only [ext_ext]); repeat (first | exact Kept.refl _ | apply Kept.alloc | apply Kept.drew | apply kept_add | apply Kept.ext))
  all_goals
    go_enter Try.func27, Try.ntmps27
    go_wp2_with (first | (go_at_call 29; refine Calls.mono (l2Hand_any _ _ _ _ (by first | assumption | exact CardsAt.kept (by assumption) (by (try simp only [ext_ext]); repeat (first | exact Kept.refl _ | apply Kept.alloc | apply Kept.drew | apply kept_add | apply Kept.ext))) (by omega)) ?_; rintro e w' ⟨rfl, y, rfl⟩) | (go_at_call 37; refine Calls.mono (l1In_any _ _ _ _) ?_; rintro e w' ⟨rfl, rfl⟩) | (go_at_call 39; refine Calls.mono (l2Lines_any _ _ _ _ (by first | assumption | exact CardsAt.kept (by assumption) (by (try simp only [ext_ext]); repeat (first | exact Kept.refl _ | apply Kept.alloc | apply Kept.drew | apply kept_add | apply Kept.ext))) (by omega) hc) ?_; rintro e w' ⟨v, rfl, ho, z, rfl⟩; obtain ⟨ao', cap', rfl, hx', hcap'⟩ := ho.reads; clear ho) | (go_at_call 51; refine Calls.mono (l9Rest_any _ _ _ _ (by first | assumption | exact CardsAt.kept (by assumption) (by (try simp only [ext_ext]); repeat (first | exact Kept.refl _ | apply Kept.alloc | apply Kept.drew | apply kept_add | apply Kept.ext))) (by omega)) ?_; rintro e w' ⟨vr, rfl, hor, zr, rfl⟩; obtain ⟨aor, capr, rfl, hxr', hcapr⟩ := hor.reads; clear hor))
    go_loopw [10, 8, 9] (fun i s p wr => ∃ k : Nat, k ≤ (restK xs 81).length ∧ i = .int .i64 k ∧ s = .int .i64 (thL xs (restK xs 81) k) ∧ p = .int .i64 (prN xs (restK xs 81) k) ∧ Kept (w.alloc (.cells #[.int .i64 0, .int .i64 0] 24)) wr ∧ CardsAt wr aor (restK xs 81)) (fun i _ _ _ => 81 - (intOf i).toNat)
    case atStart => exact ⟨0, Nat.zero_le _, rfl, rfl, rfl, (by (try simp only [ext_ext]); repeat (first | exact Kept.refl _ | apply Kept.alloc | apply Kept.drew | apply kept_add | apply Kept.ext)), hxr'.kept (by (try simp only [ext_ext]); repeat (first | exact Kept.refl _ | apply Kept.alloc | apply Kept.drew | apply kept_add | apply Kept.ext))⟩
    case round wr =>
      obtain ⟨k, hk, rfl, rfl, rfl, hkw, hxr⟩ := hrel
      have hb1 := thL_bd (xs := xs) (l := restK xs 81) hl27 k
      have hb2 := prN_bd xs (restK xs 81) k (by omega)
      by_cases hlt : k < (restK xs 81).length
      · have hkwH := hid hkw
        obtain ⟨g, off, rfl, hg, h1, h2, h3, h4⟩ := hxr k hlt
        have hxw := hx.kept (((by (try simp only [ext_ext]); repeat (first | exact Kept.refl _ | apply Kept.alloc | apply Kept.drew | apply kept_add | apply Kept.ext)) : Kept w (w.alloc (.cells #[.int .i64 0, .int .i64 0] 24))).trans hkw)
        clear hkw
        have hck := hrc k hlt
        have hth := hid (thL_next xs (restK xs 81) k)
        have htb := thr_b (c := cx (restK xs 81) k) hl27
        go_wp2_with (first | (go_at_call 52; refine Calls.mono (l2Through_any _ _ _ (cx (restK xs 81) k) _ (hxw.kept (by (try simp only [ext_ext]); repeat (first | exact Kept.refl _ | apply Kept.alloc | apply Kept.drew | apply kept_add | apply Kept.ext))) (by omega) hc) ?_; rintro e w' ⟨rfl, y, rfl⟩))
        go_loopw [11, 9] (fun j p wr => ∃ m : Nat, m ≤ k ∧ j = .int .i64 m ∧ p = .int .i64 (prN xs (restK xs 81) k + prRow xs (restK xs 81) k m) ∧ Kept (w.alloc (.cells #[.int .i64 0, .int .i64 0] 24)) wr ∧ CardsAt wr (some ⟨g, off, none⟩) (restK xs 81)) (fun j _ _ => k - (intOf j).toNat)
        case atStart => exact ⟨0, Nat.zero_le _, rfl, by simp [prRow, rsum], hkwH.out.trans (by (try simp only [ext_ext]); repeat (first | exact Kept.refl _ | apply Kept.alloc | apply Kept.drew | apply kept_add | apply Kept.ext)), hxr.kept (by (try simp only [ext_ext]); repeat (first | exact Kept.refl _ | apply Kept.alloc | apply Kept.drew | apply kept_add | apply Kept.ext))⟩
        case round wr =>
          obtain ⟨m, hm, rfl, rfl, hkw, hxr⟩ := hrel
          have hkwH := hid hkw
          have hxw := hx.kept (((by (try simp only [ext_ext]); repeat (first | exact Kept.refl _ | apply Kept.alloc | apply Kept.drew | apply kept_add | apply Kept.ext)) : Kept w (w.alloc (.cells #[.int .i64 0, .int .i64 0] 24))).trans hkw)
          clear hkw
          have hb3 := prRow_bd xs (restK xs 81) k m
          by_cases hlt2 : m < k
          · obtain ⟨g', off', he, hg', p1, p2, p3, p4⟩ := hxr m (by omega)
            cases he
            obtain ⟨g'', off'', he, _, h1, h2, h3, h4⟩ := hxr k hlt
            cases he
            have hml : m < (restK xs 81).length := by omega
            have hcm := hrc m hml
            have hpn := hid (prRow_next xs (restK xs 81) k m)
            have hs : Hid (hs01 xs (cx (restK xs 81) k) (cx (restK xs 81) m) = if hasC xs (thirdC (cx (restK xs 81) k) (cx (restK xs 81) m)) = true then 1 else 0) := hid rfl
            go_wp2_with (first | (refine wp_region_ext (by kernel_rfl) (by kernel_rfl) ?_; (repeat (go_big_quiet_step (((first | (go_at_call 54; first | exact ext_call (l2Third_any _ _ hck hcm _) | exact ext_call2 (l2Third_any _ _ hck hcm _)) | (go_at_call 53; first | exact ext_call (l2Has_any _ _ _ (thirdC (cx (restK xs 81) k) (cx (restK xs 81) m)) _ (hxw.kept (by (try simp only [ext_ext]); repeat (first | exact Kept.refl _ | apply Kept.alloc | apply Kept.drew | apply kept_add | apply Kept.ext))) (by omega)) | exact ext_call2 (l2Has_any _ _ _ (thirdC (cx (restK xs 81) k) (cx (restK xs 81) m)) _ (hxw.kept (by (try simp only [ext_ext]); repeat (first | exact Kept.refl _ | apply Kept.alloc | apply Kept.drew | apply kept_add | apply Kept.ext))) (by omega)))))))); refine wpQuiet_end fun z => ?_))
            all_goals
              rename_i hcmp
              go_roundw
              case rel =>
                first
                | exact ⟨m + 1, hlt2, by go_num, by rw [hpn.out, hs.out, if_pos hcmp]; go_num, hkwH.out.trans (by (try simp only [ext_ext]); repeat (first | exact Kept.refl _ | apply Kept.alloc | apply Kept.drew | apply kept_add | apply Kept.ext)), hxr.kept (by (try simp only [ext_ext]); repeat (first | exact Kept.refl _ | apply Kept.alloc | apply Kept.drew | apply kept_add | apply Kept.ext))⟩
                | exact ⟨m + 1, hlt2, by go_num, by rw [hpn.out, hs.out, if_neg (by simpa using hcmp)]; go_num, hkwH.out.trans (by (try simp only [ext_ext]); repeat (first | exact Kept.refl _ | apply Kept.alloc | apply Kept.drew | apply kept_add | apply Kept.ext)), hxr.kept (by (try simp only [ext_ext]); repeat (first | exact Kept.refl _ | apply Kept.alloc | apply Kept.drew | apply kept_add | apply Kept.ext))⟩
              case measure => simp [intOf]; omega
          · obtain rfl : m = k := by omega
            go_wp2
            go_roundw
            case rel => exact ⟨m + 1, hlt, by go_num, by rw [hth.out], by rw [prN_next], hkwH.out.trans (by (try simp only [ext_ext]); repeat (first | exact Kept.refl _ | apply Kept.alloc | apply Kept.drew | apply kept_add | apply Kept.ext)), hxr.kept (by (try simp only [ext_ext]); repeat (first | exact Kept.refl _ | apply Kept.alloc | apply Kept.drew | apply kept_add | apply Kept.ext))⟩
            case measure => simp [intOf]; omega
      · obtain rfl : k = (restK xs 81).length := by omega
        obtain ⟨z, rfl⟩ := hkw
        go_wp2_with (first | (go_at_call 55; refine Calls.mono (l9Choose_any (restK xs 81).length 2 (by omega) (by omega) _) ?_; rintro e w' ⟨rfl, rfl⟩) | (go_at_call 30; refine Calls.mono (l9Cut_any _ _ (by omega) (by omega) (by omega) (by omega) _) ?_; rintro e w' ⟨rfl, y, rfl⟩))
        first
        | (rw [m1.out]
           refine bodyPost_ret (v := .tuple #[v2 (cutN (((linesC xs).length : Int) * ((restK xs 81).length : Int) + thL xs (restK xs 81) (restK xs 81).length) ((restK xs 81).length : Nat)) (cutD (((linesC xs).length : Int) * ((restK xs 81).length : Int) + thL xs (restK xs 81) (restK xs 81).length) ((restK xs 81).length : Nat)), .bool true]) (by simp [results, Try.results27, go_sem]) rfl ⟨rfl, ?_⟩
           exact (by (try simp only [ext_ext]); repeat (first | exact Kept.refl _ | apply Kept.alloc | apply Kept.drew | apply kept_add | apply Kept.ext)))
        | (rw [m2.out]
           refine bodyPost_ret (v := .tuple #[v2 (cutN (((linesC xs).length : Int) * chooseL (restK xs 81).length 2 + thL xs (restK xs 81) (restK xs 81).length * (((restK xs 81).length : Int) - 1) + prN xs (restK xs 81) (restK xs 81).length) (chooseL (restK xs 81).length 2)) (cutD (((linesC xs).length : Int) * chooseL (restK xs 81).length 2 + thL xs (restK xs 81) (restK xs 81).length * (((restK xs 81).length : Int) - 1) + prN xs (restK xs 81) (restK xs 81).length) (chooseL (restK xs 81).length 2)), .bool true]) (by simp [results, Try.results27, go_sem]) rfl ⟨rfl, ?_⟩
           exact (by (try simp only [ext_ext]); repeat (first | exact Kept.refl _ | apply Kept.alloc | apply Kept.drew | apply kept_add | apply Kept.ext)))
theorem SideC.newC {w : World} {v : Value} {B : Nat} {cs : List Card} {t : TypeId} (c : Card) {g : Nat} (h : OwnC B w v cs) (hg : g = w.heap.size) : SideC (w.alloc (.cells #[.int .i64 c.a, .int .i64 c.b, .int .i64 c.c, .int .i64 c.d] t)) v g c := by
  have hh := heap_at (o := .cells #[.int .i64 c.a, .int .i64 c.b, .int .i64 c.c, .int .i64 c.d] t) hg
  exact ⟨by simp; omega, ⟨cell_of_row _ g 0 _ t (0, 0) hh, cell_of_row _ g 1 _ t (0, 0) hh, cell_of_row _ g 2 _ t (0, 0) hh, cell_of_row _ g 3 _ t (0, 0) hh⟩, fun e => by have := (h.lt _ e).2; omega⟩
def thK (xs : List Card) (k : Nat) : Int := thL xs (restK xs k) (restK xs k).length
theorem thK_yes {xs : List Card} {k : Nat} (h : hasC xs (cardN k) = true) : restK xs (k + 1) = restK xs k ∧ thK xs (k + 1) = thK xs k := by
  have e : restK xs (k + 1) = restK xs k := by rw [restK_next, if_pos h, List.append_nil]
  exact ⟨e, by unfold thK; rw [e]⟩
theorem thK_no {xs : List Card} {k : Nat} (h : hasC xs (cardN k) = false) : restK xs (k + 1) = restK xs k ++ [cardN k] ∧ thK xs (k + 1) = thK xs k + thr xs (cardN k) := by
  have e : restK xs (k + 1) = restK xs k ++ [cardN k] := by rw [restK_next, if_neg (by simp [h])]
  refine ⟨e, ?_⟩
  unfold thK
  rw [e, List.length_append]
  exact thL_append
set_option maxHeartbeats 4000000 in
theorem iMeanAfter_yes (ao : Option Addr) (cap : Nat) (xs : List Card) (n : Int) (w : World) (hx : CardsAt w ao xs) (h : canAfter xs n = true) :
    Calls Try.prog 28 #[.slice ao xs.length cap, .int .i64 n] w fun e w' => e = .returned (.tuple #[meanAfter xs n, .bool true]) ∧ Kept w w' := by
  obtain ⟨hh, hn⟩ : isHand xs = true ∧ inB n 0 2 = true := by simpa [canAfter] using h
  have hl27 := (isHand_of hh).1
  have hc := areC_hand hh
  have hd := distC_hand hh
  have hrc := areC_rest81 xs
  have hn012 : n = 0 ∨ n = 1 ∨ n = 2 := by have := inB_of hn; omega
  have m0 : Hid (meanAfter xs 0 = v2 (cutN ((linesC xs).length : Nat) 1) (cutD ((linesC xs).length : Nat) 1)) := hid rfl
  have m1 : Hid (meanAfter xs 1 = v2 (cutN (((linesC xs).length : Int) * ((restK xs 81).length : Int) + thL xs (restK xs 81) (restK xs 81).length) ((restK xs 81).length : Nat)) (cutD (((linesC xs).length : Int) * ((restK xs 81).length : Int) + thL xs (restK xs 81) (restK xs 81).length) ((restK xs 81).length : Nat))) := hid rfl
  have m2 : Hid (meanAfter xs 2 = v2 (cutN (((linesC xs).length : Int) * chooseL (restK xs 81).length 2 + thL xs (restK xs 81) (restK xs 81).length * (((restK xs 81).length : Int) - 1) + prN xs (restK xs 81) (restK xs 81).length) (chooseL (restK xs 81).length 2)) (cutD (((linesC xs).length : Int) * chooseL (restK xs 81).length 2 + thL xs (restK xs 81) (restK xs 81).length * (((restK xs 81).length : Int) - 1) + prN xs (restK xs 81) (restK xs 81).length) (chooseL (restK xs 81).length 2))) := hid rfl
  have hthE : Hid (thK xs 81 = thL xs (restK xs 81) (restK xs 81).length) := hid rfl
  obtain ⟨r, L, T, P, C, rfl, rfl, rfl, rfl, rfl, a1, a2, a3, a4, a5, a6, a7, a8, a9, a10, a11, a12, a13, a14, a15, a16⟩ := after_nums hl27
  have w1 : IntKind.i64.wrap (((linesC xs).length : Int) * ((restK xs 81).length : Int)) = ((linesC xs).length : Int) * ((restK xs 81).length : Int) := IntWalk.i64_in _ (by omega)
  have w2 : IntKind.i64.wrap (((linesC xs).length : Int) * chooseL (restK xs 81).length 2) = ((linesC xs).length : Int) * chooseL (restK xs 81).length 2 := IntWalk.i64_in _ (by omega)
  have w3 : IntKind.i64.wrap (thL xs (restK xs 81) (restK xs 81).length * (((restK xs 81).length : Int) - 1)) = thL xs (restK xs 81) (restK xs 81).length * (((restK xs 81).length : Int) - 1) := IntWalk.i64_in _ (by omega)
  clear h
  go_enter Try.func28, Try.ntmps28
  go_wp2_with (first | (go_at_call 33; refine Calls.mono (IsHand_any _ _ _ _ (by first | assumption | exact CardsAt.kept (by assumption) (by (try simp only [ext_ext]); repeat (first | exact Kept.refl _ | apply Kept.alloc | apply Kept.drew | apply kept_add | apply Kept.ext))) (by omega)) ?_; rintro e w' ⟨rfl, y, rfl⟩) | (go_at_call 40; refine Calls.mono (within_any _ _ _ _) ?_; rintro e w' ⟨rfl, rfl⟩))
  go_loopw [28, 6, 7] (fun i v s wr => ∃ k : Nat, k ≤ 81 ∧ i = .int .i64 k ∧ OwnC (w.heap.size + 1) wr v (restK xs k) ∧ s = .int .i64 (thK xs k) ∧ Kept (w.alloc (.cells #[.int .i64 0, .int .i64 0] 24)) wr) (fun i _ _ _ => 81 - (intOf i).toNat)
  case atStart => exact ⟨0, by omega, rfl, show OwnC _ _ _ [] from ownC_nil (by omega) (heap_at (by simp)), rfl, (by (try simp only [ext_ext]); repeat (first | exact Kept.refl _ | apply Kept.alloc | apply Kept.drew | apply kept_add | apply Kept.ext))⟩
  case round wr =>
    obtain ⟨k, hk, rfl, hown, rfl, hkw⟩ := hrel
    have hownH := hid hown
    have hkwH := hid hkw
    have hlen := hid (restK_len xs k)
    have htb := thL_bd (xs := xs) (l := restK xs k) hl27 (restK xs k).length
    have htb2 : 0 ≤ thK xs k ∧ thK xs k ≤ 177147 := by have := restK_len xs k; exact ⟨htb.1, by unfold thK; omega⟩
    clear htb
    by_cases hlt : k < 81
    · have hxw := hx.kept (((by (try simp only [ext_ext]); repeat (first | exact Kept.refl _ | apply Kept.alloc | apply Kept.drew | apply kept_add | apply Kept.ext)) : Kept w (w.alloc (.cells #[.int .i64 0, .int .i64 0] 24))).trans hkw)
      have hws := hkw.below.size
      have hws2 : w.heap.size + 1 ≤ wr.heap.size := by simpa using hws
      clear hkw hown hws
      have htr := thr_b (c := cardN k) hl27
      cases hp : hasC xs (cardN k)
      · obtain ⟨e1, e2⟩ := thK_no hp
        have e1H := hid e1
        have e2H := hid e2
        clear e1 e2
        go_wp2_with (first | (go_at_call 56; refine Calls.mono (card_any _ (by omega) (by omega) _) ?_; rintro e w' ⟨rfl, y, rfl⟩) | (go_at_call 57; refine Calls.mono (has_any _ _ _ (cardN k) _ (hxw.kept (by (try simp only [ext_ext]); repeat (first | exact Kept.refl _ | apply Kept.alloc | apply Kept.drew | apply kept_add | apply Kept.ext))) (by omega)) ?_; rintro e w' ⟨rfl, y, rfl⟩) | (at_builtin; refine wpList_append_card_at rfl _ _ rfl (w.alloc (.cells #[.int .i64 0, .int .i64 0] 24)) (w.heap.size + 1) _ _ rfl (hownH.out.kept (by (try simp only [ext_ext]); repeat (first | exact Kept.refl _ | apply Kept.alloc | apply Kept.drew | apply kept_add | apply Kept.ext))) (hkwH.out.trans (by (try simp only [ext_ext]); repeat (first | exact Kept.refl _ | apply Kept.alloc | apply Kept.drew | apply kept_add | apply Kept.ext))) (by simp) (by simp; omega) _ _ (cardN k) rfl ?_ (by have := hlen.out; omega) ?_; rotate_left; intro v' w' hown' hkw' hgr' hat'; obtain ⟨s0, ⟨s1, s2, s3, s4⟩, _⟩ := SideC.grown (SideC.kept (SideC.newC (cardN k) (hownH.out.kept (by (try simp only [ext_ext]); repeat (first | exact Kept.refl _ | apply Kept.alloc | apply Kept.drew | apply kept_add | apply Kept.ext))) rfl) (((Kept.refl _).ext _).alloc _)) hgr' hat'; simp only [ext_size, Nat.zero_add] at s0 s1 s2 s3 s4; have hxw2 := hx.kept (((by (try simp only [ext_ext]); repeat (first | exact Kept.refl _ | apply Kept.alloc | apply Kept.drew | apply kept_add | apply Kept.ext)) : Kept w (w.alloc (.cells #[.int .i64 0, .int .i64 0] 24))).trans hkw')) | (go_at_call 58; refine Calls.mono (pairsFor_any _ _ _ (cardN k) _ (by first | assumption | exact CardsAt.kept (by assumption) (by (try simp only [ext_ext]); repeat (first | exact Kept.refl _ | apply Kept.alloc | apply Kept.drew | apply kept_add | apply Kept.ext))) (by omega) hc hd) ?_; rintro e w' ⟨bo, nn, cap', rfl, hnn, y, rfl⟩))
        case refine_1 => exact cardCells_new _ (by simp)
        go_roundw
        case rel => exact ⟨k + 1, by omega, by go_num, by rw [e1H.out]; exact hown'.kept (by (try simp only [ext_ext]); repeat (first | exact Kept.refl _ | apply Kept.alloc | apply Kept.drew | apply kept_add | apply Kept.ext)), by rw [e2H.out], hkw'.trans (by (try simp only [ext_ext]); repeat (first | exact Kept.refl _ | apply Kept.alloc | apply Kept.drew | apply kept_add | apply Kept.ext))⟩
        case measure => simp [intOf]; omega
      · obtain ⟨e1, e2⟩ := thK_yes hp
        have e1H := hid e1
        have e2H := hid e2
        clear e1 e2
        go_wp2_with (first | (go_at_call 56; refine Calls.mono (card_any _ (by omega) (by omega) _) ?_; rintro e w' ⟨rfl, y, rfl⟩) | (go_at_call 57; refine Calls.mono (has_any _ _ _ (cardN k) _ (hxw.kept (by (try simp only [ext_ext]); repeat (first | exact Kept.refl _ | apply Kept.alloc | apply Kept.drew | apply kept_add | apply Kept.ext))) (by omega)) ?_; rintro e w' ⟨rfl, y, rfl⟩))
        go_roundw
        case rel => exact ⟨k + 1, by omega, by go_num, by rw [e1H.out]; exact hownH.out.kept (by (try simp only [ext_ext]); repeat (first | exact Kept.refl _ | apply Kept.alloc | apply Kept.drew | apply kept_add | apply Kept.ext)), by rw [e2H.out], hkwH.out.trans (by (try simp only [ext_ext]); repeat (first | exact Kept.refl _ | apply Kept.alloc | apply Kept.drew | apply kept_add | apply Kept.ext))⟩
        case measure => simp [intOf]; omega
    · obtain rfl : k = 81 := by omega
      obtain ⟨aor, capr, hvr, hxr, hcr⟩ := hown.reads
      subst hvr
      rw [hthE.out]
      have hxw := hx.kept (((by (try simp only [ext_ext]); repeat (first | exact Kept.refl _ | apply Kept.alloc | apply Kept.drew | apply kept_add | apply Kept.ext)) : Kept w (w.alloc (.cells #[.int .i64 0, .int .i64 0] 24))).trans hkw)
      clear hown htb2
      rcases hn012 with rfl | rfl | rfl
      · obtain ⟨z, rfl⟩ := hkw
        go_wp2_with (first | (go_at_call 41; refine Calls.mono (linesIn_any _ _ _ _ (hxw.kept (by (try simp only [ext_ext]); repeat (first | exact Kept.refl _ | apply Kept.alloc | apply Kept.drew | apply kept_add | apply Kept.ext))) (by omega) hc hd) ?_; rintro e w' ⟨vl, rfl, hol, zl, rfl⟩; obtain ⟨al, cl, rfl, _, _⟩ := hol.reads) | (go_at_call 34; refine Calls.mono (fraction_any _ _ (by omega) (by omega) (by omega) (by omega) _) ?_; rintro e w' ⟨rfl, y, rfl⟩))
        rw [m0.out]
        refine bodyPost_ret (v := .tuple #[v2 (cutN ((linesC xs).length : Nat) 1) (cutD ((linesC xs).length : Nat) 1), .bool true]) (by simp [results, Try.results28, go_sem]) rfl ⟨rfl, ?_⟩
        exact (by (try simp only [ext_ext]); repeat (first | exact Kept.refl _ | apply Kept.alloc | apply Kept.drew | apply kept_add | apply Kept.ext))
      · obtain ⟨z, rfl⟩ := hkw
        go_wp2_with (first | (go_at_call 41; refine Calls.mono (linesIn_any _ _ _ _ (hxw.kept (by (try simp only [ext_ext]); repeat (first | exact Kept.refl _ | apply Kept.alloc | apply Kept.drew | apply kept_add | apply Kept.ext))) (by omega) hc hd) ?_; rintro e w' ⟨vl, rfl, hol, zl, rfl⟩; obtain ⟨al, cl, rfl, _, _⟩ := hol.reads) | (go_at_call 34; refine Calls.mono (fraction_any _ _ (by omega) (by omega) (by omega) (by omega) _) ?_; rintro e w' ⟨rfl, y, rfl⟩))
        rw [m1.out]
        refine bodyPost_ret (v := .tuple #[v2 (cutN (((linesC xs).length : Int) * ((restK xs 81).length : Int) + thL xs (restK xs 81) (restK xs 81).length) ((restK xs 81).length : Nat)) (cutD (((linesC xs).length : Int) * ((restK xs 81).length : Int) + thL xs (restK xs 81) (restK xs 81).length) ((restK xs 81).length : Nat)), .bool true]) (by simp [results, Try.results28, go_sem]) rfl ⟨rfl, ?_⟩
        exact (by (try simp only [ext_ext]); repeat (first | exact Kept.refl _ | apply Kept.alloc | apply Kept.drew | apply kept_add | apply Kept.ext))
      · go_wp2_with (first | (go_at_call 41; refine Calls.mono (linesIn_any _ _ _ _ (hxw.kept (by (try simp only [ext_ext]); repeat (first | exact Kept.refl _ | apply Kept.alloc | apply Kept.drew | apply kept_add | apply Kept.ext))) (by omega) hc hd) ?_; rintro e w' ⟨vl, rfl, hol, zl, rfl⟩; obtain ⟨al, cl, rfl, _, _⟩ := hol.reads) | (go_at_call 59; refine Calls.mono (choose_any (restK xs 81).length 2 (by omega) (by omega) _) ?_; rintro e w' ⟨rfl, rfl⟩))
        go_loopw [75, 13] (fun i p wr' => ∃ k : Nat, k ≤ (restK xs 81).length ∧ i = .int .i64 k ∧ p = .int .i64 (prN xs (restK xs 81) k) ∧ Kept (w.alloc (.cells #[.int .i64 0, .int .i64 0] 24)) wr' ∧ CardsAt wr' aor (restK xs 81)) (fun i _ _ => 81 - (intOf i).toNat)
        case atStart => exact ⟨0, Nat.zero_le _, rfl, rfl, hkwH.out.trans (by (try simp only [ext_ext]); repeat (first | exact Kept.refl _ | apply Kept.alloc | apply Kept.drew | apply kept_add | apply Kept.ext)), hxr.kept (by (try simp only [ext_ext]); repeat (first | exact Kept.refl _ | apply Kept.alloc | apply Kept.drew | apply kept_add | apply Kept.ext))⟩
        case round wr =>
          obtain ⟨k, hk, rfl, rfl, hkw, hxr⟩ := hrel
          have hb2 := prN_bd xs (restK xs 81) k (by omega)
          by_cases hlt : k < (restK xs 81).length
          · have hkwH := hid hkw
            obtain ⟨g, off, rfl, hg, h1, h2, h3, h4⟩ := hxr k hlt
            have hxw := hx.kept (((by (try simp only [ext_ext]); repeat (first | exact Kept.refl _ | apply Kept.alloc | apply Kept.drew | apply kept_add | apply Kept.ext)) : Kept w (w.alloc (.cells #[.int .i64 0, .int .i64 0] 24))).trans hkw)
            clear hkw
            have hck := hrc k hlt
            have hkc : k ≤ capr := by omega
            go_wp2
            go_loopw [84, 13] (fun j p wr' => ∃ m : Nat, m ≤ k ∧ j = .int .i64 m ∧ p = .int .i64 (prN xs (restK xs 81) k + prRow xs (restK xs 81) k m) ∧ Kept (wr.alloc (.cells #[.int .i64 (cx (restK xs 81) k).a, .int .i64 (cx (restK xs 81) k).b, .int .i64 (cx (restK xs 81) k).c, .int .i64 (cx (restK xs 81) k).d] 42)) wr') (fun j _ _ => k - (intOf j).toNat)
            case atStart => exact ⟨0, Nat.zero_le _, rfl, by simp [prRow, rsum], (by (try simp only [ext_ext]); repeat (first | exact Kept.refl _ | apply Kept.alloc | apply Kept.drew | apply kept_add | apply Kept.ext))⟩
            case round =>
              obtain ⟨m, hm, rfl, rfl, z, rfl⟩ := hrel
              have hb3 := prRow_bd xs (restK xs 81) k m
              by_cases hlt2 : m < k
              · obtain ⟨g', off', he, hg', p1, p2, p3, p4⟩ := hxr m (by omega)
                cases he
                have hml : m < (restK xs 81).length := by omega
                have hcm := hrc m hml
                have hpn := hid (prRow_next xs (restK xs 81) k m)
                have hs : Hid (hs01 xs (cx (restK xs 81) k) (cx (restK xs 81) m) = if hasC xs (thirdC (cx (restK xs 81) k) (cx (restK xs 81) m)) = true then 1 else 0) := hid rfl
                have g1 : g < wr.heap.size + 1 := by omega
                have g2 : g < wr.heap.size + 1 + z.os.length := by omega
                go_wp2_with (first | (go_at_call 60; refine Calls.mono (third_any _ _ hck hcm _) ?_; rintro e w' ⟨rfl, y, rfl⟩) | (go_at_call 57; refine Calls.mono (has_any _ _ _ (thirdC (cx (restK xs 81) k) (cx (restK xs 81) m)) _ (hxw.kept (by (try simp only [ext_ext]); repeat (first | exact Kept.refl _ | apply Kept.alloc | apply Kept.drew | apply kept_add | apply Kept.ext))) (by omega)) ?_; rintro e w' ⟨rfl, y, rfl⟩))
                all_goals
                  rename_i hcmp
                  go_roundw
                  case rel =>
                    first
                    | exact ⟨m + 1, hlt2, by go_num, by rw [hpn.out, hs.out, if_pos hcmp]; go_num, (by (try simp only [ext_ext]); repeat (first | exact Kept.refl _ | apply Kept.alloc | apply Kept.drew | apply kept_add | apply Kept.ext))⟩
                    | exact ⟨m + 1, hlt2, by go_num, by rw [hpn.out, hs.out, if_neg (by simpa using hcmp)]; go_num, (by (try simp only [ext_ext]); repeat (first | exact Kept.refl _ | apply Kept.alloc | apply Kept.drew | apply kept_add | apply Kept.ext))⟩
                  case measure => simp [intOf]; omega
              · obtain rfl : m = k := by omega
                go_wp2
                go_roundw
                case rel => exact ⟨m + 1, hlt, by go_num, by rw [prN_next], hkwH.out.trans (by (try simp only [ext_ext]); repeat (first | exact Kept.refl _ | apply Kept.alloc | apply Kept.drew | apply kept_add | apply Kept.ext)), hxr.kept (by (try simp only [ext_ext]); repeat (first | exact Kept.refl _ | apply Kept.alloc | apply Kept.drew | apply kept_add | apply Kept.ext))⟩
                case measure => simp [intOf]; omega
          · obtain rfl : k = (restK xs 81).length := by omega
            obtain ⟨z, rfl⟩ := hkw
            go_wp2_with (first | (go_at_call 34; refine Calls.mono (fraction_any _ _ (by omega) (by omega) (by omega) (by omega) _) ?_; rintro e w' ⟨rfl, y, rfl⟩))
            rw [m2.out]
            refine bodyPost_ret (v := .tuple #[v2 (cutN (((linesC xs).length : Int) * chooseL (restK xs 81).length 2 + thL xs (restK xs 81) (restK xs 81).length * (((restK xs 81).length : Int) - 1) + prN xs (restK xs 81) (restK xs 81).length) (chooseL (restK xs 81).length 2)) (cutD (((linesC xs).length : Int) * chooseL (restK xs 81).length 2 + thL xs (restK xs 81) (restK xs 81).length * (((restK xs 81).length : Int) - 1) + prN xs (restK xs 81) (restK xs 81).length) (chooseL (restK xs 81).length 2)), .bool true]) (by simp [results, Try.results28, go_sem]) rfl ⟨rfl, ?_⟩
            exact (by (try simp only [ext_ext]); repeat (first | exact Kept.refl _ | apply Kept.alloc | apply Kept.drew | apply kept_add | apply Kept.ext))
theorem walk_FnExactMeanAfter (ao : Option Addr) (xs : List Card) (cap : Nat) {w : World} (hx : CardsAt w ao xs) (hl : xs.length ≤ maxLen) (n : Int) (_ : World) :
    Calls Try.prog 8 #[.slice ao xs.length cap, .int .i64 n] w fun e w' => e = .returned (.bool true) ∧ Kept w w' := by
  have hl' : xs.length ≤ 9223372036854775807 := by unfold maxLen at hl; omega
  by_cases hn : xs.length ≤ 1048576
  · cases hg : canAfter xs n with
    | false =>
      go_enter Try.func8, Try.ntmps8
      go_wp2_with (first | (go_at_call 9; refine Calls.mono (szIntA4S_any _ _ _ hl' _) ?_; rintro e w' ⟨rfl, rfl⟩) | (go_at_call 11; refine Calls.mono (toIntA4S_any _ _ _ _ (by first | assumption | exact CardsAt.kept (by assumption) (by (try simp only [ext_ext]); repeat (first | exact Kept.refl _ | apply Kept.alloc | apply Kept.drew | apply kept_add | apply Kept.ext))) hn) ?_; rintro e w' ⟨v, rfl, ho, z, rfl⟩; obtain ⟨ao', cap', rfl, hx', hcap'⟩ := ho.reads; clear ho) | (go_at_call 27; refine Calls.mono (sMeanAfter_no _ _ _ n _ (by first | assumption | exact CardsAt.kept (by assumption) (by (try simp only [ext_ext]); repeat (first | exact Kept.refl _ | apply Kept.alloc | apply Kept.drew | apply kept_add | apply Kept.ext))) hn hg) ?_; rintro e w' ⟨rfl, y, rfl⟩) | (go_at_call 28; refine Calls.mono (iMeanAfter_no _ _ _ n _ (by first | assumption | exact CardsAt.kept (by assumption) (by (try simp only [ext_ext]); repeat (first | exact Kept.refl _ | apply Kept.alloc | apply Kept.drew | apply kept_add | apply Kept.ext))) hn hg) ?_; rintro e w' ⟨rfl, y, rfl⟩) | (go_at_call 14; refine Calls.mono (eqIntA4S_any _ _ _ _ _ _ _ (by first | assumption | exact CardsAt.kept (by assumption) (by (try simp only [ext_ext]); repeat (first | exact Kept.refl _ | apply Kept.alloc | apply Kept.drew | apply kept_add | apply Kept.ext))) (by first | assumption | exact CardsAt.kept (by assumption) (by (try simp only [ext_ext]); repeat (first | exact Kept.refl _ | apply Kept.alloc | apply Kept.drew | apply kept_add | apply Kept.ext))) hn hn) ?_; rintro e w' ⟨rfl, y, rfl⟩) | (go_at_call 13; refine Calls.mono (eqIntA2_any _ _ _ _ _) ?_; rintro e w' ⟨rfl, y, rfl⟩))
      all_goals
        go_ret
        exact ⟨rfl, (by (try simp only [ext_ext]); repeat (first | exact Kept.refl _ | apply Kept.alloc | apply Kept.drew | apply kept_add | apply Kept.ext))⟩
    | true =>
      go_enter Try.func8, Try.ntmps8
      go_wp2_with (first | (go_at_call 9; refine Calls.mono (szIntA4S_any _ _ _ hl' _) ?_; rintro e w' ⟨rfl, rfl⟩) | (go_at_call 11; refine Calls.mono (toIntA4S_any _ _ _ _ (by first | assumption | exact CardsAt.kept (by assumption) (by (try simp only [ext_ext]); repeat (first | exact Kept.refl _ | apply Kept.alloc | apply Kept.drew | apply kept_add | apply Kept.ext))) hn) ?_; rintro e w' ⟨v, rfl, ho, z, rfl⟩; obtain ⟨ao', cap', rfl, hx', hcap'⟩ := ho.reads; clear ho) | (go_at_call 27; refine Calls.mono (sMeanAfter_yes _ _ _ n _ (by first | assumption | exact CardsAt.kept (by assumption) (by (try simp only [ext_ext]); repeat (first | exact Kept.refl _ | apply Kept.alloc | apply Kept.drew | apply kept_add | apply Kept.ext))) hg) ?_; rintro e w' ⟨rfl, y, rfl⟩) | (go_at_call 28; refine Calls.mono (iMeanAfter_yes _ _ _ n _ (by first | assumption | exact CardsAt.kept (by assumption) (by (try simp only [ext_ext]); repeat (first | exact Kept.refl _ | apply Kept.alloc | apply Kept.drew | apply kept_add | apply Kept.ext))) hg) ?_; rintro e w' ⟨rfl, y, rfl⟩) | (go_at_call 14; refine Calls.mono (eqIntA4S_any _ _ _ _ _ _ _ (by first | assumption | exact CardsAt.kept (by assumption) (by (try simp only [ext_ext]); repeat (first | exact Kept.refl _ | apply Kept.alloc | apply Kept.drew | apply kept_add | apply Kept.ext))) (by first | assumption | exact CardsAt.kept (by assumption) (by (try simp only [ext_ext]); repeat (first | exact Kept.refl _ | apply Kept.alloc | apply Kept.drew | apply kept_add | apply Kept.ext))) hn hn) ?_; rintro e w' ⟨rfl, y, rfl⟩) | (go_at_call 13; refine Calls.mono (eqIntA2_any _ _ _ _ _) ?_; rintro e w' ⟨rfl, y, rfl⟩))
      all_goals
        go_ret
        exact ⟨rfl, (by (try simp only [ext_ext]); repeat (first | exact Kept.refl _ | apply Kept.alloc | apply Kept.drew | apply kept_add | apply Kept.ext))⟩
  · go_enter Try.func8, Try.ntmps8
    go_wp2_with (first | (go_at_call 9; refine Calls.mono (szIntA4S_any _ _ _ hl' _) ?_; rintro e w' ⟨rfl, rfl⟩))
    go_ret
    exact ⟨rfl, (by (try simp only [ext_ext]); repeat (first | exact Kept.refl _ | apply Kept.alloc | apply Kept.drew | apply kept_add | apply Kept.ext))⟩
end Go.Proofs.Ythiamiilgdkclab
