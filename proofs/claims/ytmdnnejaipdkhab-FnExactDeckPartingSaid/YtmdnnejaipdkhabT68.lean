/- Contracts: the lines in the direction of a card. -/
import Derived.Test.YtmdnnejaipdkhabT67
import Derived.Test.YtmdnnejaipdkhabT2
import Derived.Test.YtmdnnejaipdkhabT7
import Derived.Test.YtmdnnejaipdkhabT9
import Derived.Test.YtmdnnejaipdkhabT19
import Derived.Test.YtmdnnejaipdkhabT20
import Derived.Test.YtmdnnejaipdkhabC2
import Derived.Deep.CutRange
import Derived.Deep.RegionHeld
namespace Go.Proofs.Ytmdnnejaipdkhab
open Go.RowKit
@[go_sem] theorem equalIn_card0d (x : Card) (w : World) : (Op.equalIn 10000 29 x.v (.agg #[.int .i64 0, .int .i64 0, .int .i64 0, .int .i64 0])).run Try.prog w = .ok (decide (x = ⟨0, 0, 0, 0⟩)) w := equalIn_card x ⟨0, 0, 0, 0⟩ w
theorem isZero_num (x : Card) (hx : isCard x = true) : decide (x = ⟨0, 0, 0, 0⟩) = (numC x == 0) := by
  obtain ⟨x1, x2, x3, x4⟩ := isCard_of hx
  obtain ⟨a, b, c, d⟩ := x
  rw [ibeq]
  simp only [Card.mk.injEq, numC] at *
  apply decide_eq_decide.2
  omega
theorem cc_kept {w w' : World} {g o : Nat} {c : Card} (h : CardCells w g o c) (hg : g < w.heap.size) (hk : Kept w w') : CardCells w' g o c := by
  obtain ⟨a, b, cc, d⟩ := h
  exact ⟨(hk.below.cell (p := ⟨_, _, none⟩) hg).trans a, (hk.below.cell (p := ⟨_, _, none⟩) hg).trans b, (hk.below.cell (p := ⟨_, _, none⟩) hg).trans cc, (hk.below.cell (p := ⟨_, _, none⟩) hg).trans d⟩
def dirB (c : Card) : Bool := isCard c && !(numC c == 0)
/-- The line in the direction of a card at the card with a number, told at its least card alone. -/
def dpR (c : Card) (n : Nat) : List Ln :=
  if (n : Int) < numC (sumA (cardN n) c) ∧ (n : Int) < numC (sumA (sumA (cardN n) c) c) then [⟨n, min (numC (sumA (cardN n) c)) (numC (sumA (sumA (cardN n) c) c)), max (numC (sumA (cardN n) c)) (numC (sumA (sumA (cardN n) c) c))⟩] else []
def dpL (c : Card) : Nat → List Ln
  | 0 => []
  | n + 1 => dpL c n ++ dpR c n
theorem dpL_next (c : Card) (n : Nat) : dpL c (n + 1) = dpL c n ++ dpR c n := rfl
theorem dpL_len (c : Card) : ∀ n, (dpL c n).length ≤ n
  | 0 => Nat.le_refl _
  | n + 1 => by
    have h := dpL_len c n
    have h2 : (dpR c n).length ≤ 1 := by unfold dpR; split <;> simp
    rw [dpL_next, List.length_append]; omega
theorem sumC_two (x c : Card) (hx : isCard x = true) : sumC [x, c] = sumA x c := by
  obtain ⟨x1, x2, x3, x4⟩ := isCard_of hx
  obtain ⟨a, b, cc, d⟩ := x
  simp only at x1 x2 x3 x4
  simp only [sumC, List.foldl, sumA, Card.mk.injEq]
  omega
theorem l7Plus_any (x c : Card) (hx : isCard x = true) (hc : isCard c = true) (w : World) : Calls Try.prog 36 #[x.v, c.v] w fun e w' => e = .returned (sumA x c).v ∧ Kept w w' := by
  obtain ⟨x1, x2, x3, x4⟩ := isCard_of hx
  obtain ⟨y1, y2, y3, y4⟩ := isCard_of hc
  have e1 : (x.a + c.a).tmod 3 = (x.a + c.a) % 3 := Int.tmod_eq_emod_of_nonneg (by omega)
  have e2 : (x.b + c.b).tmod 3 = (x.b + c.b) % 3 := Int.tmod_eq_emod_of_nonneg (by omega)
  have e3 : (x.c + c.c).tmod 3 = (x.c + c.c) % 3 := Int.tmod_eq_emod_of_nonneg (by omega)
  have e4 : (x.d + c.d).tmod 3 = (x.d + c.d) % 3 := Int.tmod_eq_emod_of_nonneg (by omega)
  go_enter Try.func36, Try.ntmps36
  go_wp2
  refine wp_loop_rounds 5 ?_
  iterate 5
    (all_goals try rw [rounds_succ])
    go_wp2_with (first | (refine wp_region_ext_tail 10 (by kernel_rfl) (by kernel_rfl) ?_; simp only [List.take_succ_cons, List.take_zero, List.drop_succ_cons, List.drop_zero]; (repeat (go_big_quiet_step ((fail)))); refine wpQuiet_tail fun z => ?_))
  refine bodyPost_ret (v := (sumA x c).v) (by simp [results, Try.results36, go_sem, sumA]) rfl ⟨rfl, ?_⟩
  exact (by (try simp only [ext_ext]); repeat (first | exact Kept.refl _ | apply Kept.alloc | apply Kept.drew | apply kept_add | apply Kept.ext))
theorem l1Least_any (a b : Int) (w : World) :
    Calls Try.prog 38 #[.int .i64 a, .int .i64 b] w fun e w' => e = .returned (.int .i64 (min a b)) ∧ w = w' := by
  by_cases h : a < b
  all_goals
    go_enter Try.func38, Try.ntmps38
    go_wp2
    go_ret
    exact ⟨ret_of (congrArg (Value.int .i64) (by omega)), rfl⟩
theorem sDeckParting_no (c : Card) (w : World) (h : dirB c = false) :
    Calls Try.prog 11 #[c.v] w (RetLT w false []) := by
  cases hc : isCard c with
  | false =>
    go_enter Try.func11, Try.ntmps11
    go_wp2_with (first | (go_at_call 34; refine Calls.mono (l2Card_any _ _) ?_; rintro e w' ⟨rfl, y, rfl⟩))
    refine bodyPost_ret (v := .tuple #[.slice (some ⟨w.heap.size + 1, 0, none⟩) 0 0, .bool false]) (by simp [results, Try.results11, go_sem]) rfl ?_
    exact ⟨_, rfl, ownL_nil (by omega) ((ext_heap _ _ _ (by simp)).trans (heap_at (by simp))), (by (try simp only [ext_ext]); repeat (first | exact Kept.refl _ | apply Kept.alloc | apply Kept.drew | apply kept_add | apply Kept.ext))⟩
  | true =>
    have h0 : decide (c = ⟨0, 0, 0, 0⟩) = true := by rw [isZero_num c hc]; simpa [dirB, hc] using h
    go_enter Try.func11, Try.ntmps11
    go_wp2_with (first | (go_at_call 34; refine Calls.mono (l2Card_any _ _) ?_; rintro e w' ⟨rfl, y, rfl⟩))
    refine bodyPost_ret (v := .tuple #[.slice (some ⟨w.heap.size + 1, 0, none⟩) 0 0, .bool false]) (by simp [results, Try.results11, go_sem]) rfl ?_
    exact ⟨_, rfl, ownL_nil (by omega) ((ext_heap _ _ _ (by simp)).trans (heap_at (by simp))), (by (try simp only [ext_ext]); repeat (first | exact Kept.refl _ | apply Kept.alloc | apply Kept.drew | apply kept_add | apply Kept.ext))⟩
theorem iDeckParting_no (c : Card) (w : World) (h : dirB c = false) :
    Calls Try.prog 13 #[c.v] w (RetLT w false []) := by
  cases hc : isCard c with
  | false =>
    go_enter Try.func13, Try.ntmps13
    go_wp2_with (first | (go_at_call 40; refine Calls.mono (IsCard_any _ _) ?_; rintro e w' ⟨rfl, y, rfl⟩))
    refine bodyPost_ret (v := .tuple #[.slice none 0 0, .bool false]) (by simp [results, Try.results13, go_sem]) rfl ?_
    exact ⟨_, rfl, ownL_none _ _, (by (try simp only [ext_ext]); repeat (first | exact Kept.refl _ | apply Kept.alloc | apply Kept.drew | apply kept_add | apply Kept.ext))⟩
  | true =>
    have h0 : (numC c == 0) = true := by simpa [dirB, hc] using h
    go_enter Try.func13, Try.ntmps13
    go_wp2_with (first | (go_at_call 40; refine Calls.mono (IsCard_any _ _) ?_; rintro e w' ⟨rfl, y, rfl⟩) | (go_at_call 31; refine Calls.mono (number_any _ hc _) ?_; rintro e w' ⟨rfl, y, rfl⟩))
    refine bodyPost_ret (v := .tuple #[.slice none 0 0, .bool false]) (by simp [results, Try.results13, go_sem]) rfl ?_
    exact ⟨_, rfl, ownL_none _ _, (by (try simp only [ext_ext]); repeat (first | exact Kept.refl _ | apply Kept.alloc | apply Kept.drew | apply kept_add | apply Kept.ext))⟩
set_option maxHeartbeats 1000000 in
theorem sDeckParting_yes (c : Card) (w : World) (h : dirB c = true) :
    Calls Try.prog 11 #[c.v] w (RetLT w true (dpL c 81)) := by
  obtain ⟨hc, hz⟩ : isCard c = true ∧ (numC c == 0) = false := by simpa [dirB] using h
  have h0 : decide (c = ⟨0, 0, 0, 0⟩) = false := by rw [isZero_num c hc]; exact hz
  have hL := hid (l2Card_any c)
  rw [hc] at hL
  obtain ⟨W, hW⟩ : ∃ W, W = w.alloc (.cells #[.int .i64 c.a, .int .i64 c.b, .int .i64 c.c, .int .i64 c.d] 29) := ⟨_, rfl⟩
  have hWs := hid (show W.heap.size = w.heap.size + 1 by rw [hW]; simp)
  have hWc := hid (show CardCells W w.heap.size 0 c by rw [hW]; exact cardCells_new c rfl)
  have kWH := hid (show Kept w W by rw [hW]; exact (by (try simp only [ext_ext]); repeat (first | exact Kept.refl _ | apply Kept.alloc | apply Kept.drew | apply kept_add | apply Kept.ext)))
  have hWH := hid hW
  have h0H := hid h0
  clear hW h hz h0
  go_enter Try.func11, Try.ntmps11
  have h0 := h0H.out
  go_wp2_with (first | (go_at_call 34; refine Calls.mono (hL.out _) ?_; rintro e w' ⟨rfl, y, rfl⟩))
  clear h0
  rw [← hWH.out]
  have hsz := hWs.out
  go_loopw [5, 4] (fun a v wr => ∃ n : Nat, n ≤ 81 ∧ a = .int .i64 n ∧ OwnL W.heap.size wr v (dpL c n) ∧ Kept W wr) (fun a _ _ => 81 - (intOf a).toNat)
  case atStart => exact ⟨0, by omega, rfl, show OwnL _ _ _ [] from ownL_nil (by omega) ((ext_heap _ _ _ (by simp [hsz])).trans (heap_at (by simp [hsz]))), (by (try simp only [ext_ext]); repeat (first | exact Kept.refl _ | apply Kept.alloc | apply Kept.drew | apply kept_add | apply Kept.ext))⟩
  case round =>
    obtain ⟨n, hn, rfl, ho, hkw⟩ := hrel
    have hoH := hid ho
    have hkwH := hid hkw
    have hlen := hid (dpL_len c n)
    have hnx := hid (dpL_next c n)
    obtain ⟨c0, c1, c2, c3⟩ := cc_kept hWc.out (by omega) hkw
    simp only [Nat.zero_add] at c0 c1 c2 c3
    have hbs : w.heap.size < wr.heap.size := by have := hkw.below.size; omega
    clear ho hkw
    by_cases hlt : n < 81
    · obtain ⟨x, hxe⟩ : ∃ x, x = cardN n := ⟨_, rfl⟩
      have hxC : isCard x = true := by rw [hxe]; exact isCard_cardN (by omega) (by omega)
      have hA := hid (fun w' => l2At_any (n : Int) (by omega) (by omega) w')
      have hdr : Hid (dpR c n = if (n : Int) < numC (sumA (cardN n) c) ∧ (n : Int) < numC (sumA (sumA (cardN n) c) c) then [⟨n, min (numC (sumA (cardN n) c)) (numC (sumA (sumA (cardN n) c) c)), max (numC (sumA (cardN n) c)) (numC (sumA (sumA (cardN n) c) c))⟩] else []) := hid rfl
      rw [← hxe] at hA hdr
      clear hxe
      have hP1 := hid (fun w' => l7Plus_any x c hxC hc w')
      have hyC := isCard_sumA x c
      have hy2C := isCard_sumA (sumA x c) c
      have hb1 := numC_bd hyC
      have hb2 := numC_bd hy2C
      by_cases q1 : (n : Int) < numC (sumA x c)
      · by_cases q2 : (n : Int) < numC (sumA (sumA x c) c)
        · have hone := hid (show dpR c n = [⟨n, min (numC (sumA x c)) (numC (sumA (sumA x c) c)), max (numC (sumA x c)) (numC (sumA (sumA x c) c))⟩] by rw [hdr.out, if_pos ⟨q1, q2⟩])
          go_wp2_with (first | (go_at_call 35; refine Calls.mono (hA.out _) ?_; rintro e w' ⟨rfl, y, rfl⟩) | (go_at_call 36; refine Calls.mono (hP1.out _) ?_; rintro e w' ⟨rfl, y, rfl⟩) | (refine wp_region_ext (by kernel_rfl) (by kernel_rfl) ?_; (repeat (go_big_quiet_step (((first | (go_at_call 37; first | exact ext_call (l2Number_any _ (by assumption) _) | exact ext_call2 (l2Number_any _ (by assumption) _)) | (go_at_call 36; first | exact ext_call (l7Plus_any _ _ (by assumption) (by assumption) _) | exact ext_call2 (l7Plus_any _ _ (by assumption) (by assumption) _))))))); refine wpQuiet_end fun z => ?_) | (go_at_call 38; refine Calls.mono (l1Least_any _ _ _) ?_; rintro e w' ⟨rfl, rfl⟩) | (go_at_call 39; refine Calls.mono (l1Most_any _ _ _) ?_; rintro e w' ⟨rfl, rfl⟩) | (at_builtin; refine wpList_append_ln_at rfl _ _ rfl W W.heap.size _ (dpL c n) rfl (hoH.out.kept (by (try simp only [ext_ext]); repeat (first | exact Kept.refl _ | apply Kept.alloc | apply Kept.drew | apply kept_add | apply Kept.ext))) (hkwH.out.trans (by (try simp only [ext_ext]); repeat (first | exact Kept.refl _ | apply Kept.alloc | apply Kept.drew | apply kept_add | apply Kept.ext))) (Nat.le_refl _) (Kept.below (hkwH.out.trans (by (try simp only [ext_ext]); repeat (first | exact Kept.refl _ | apply Kept.alloc | apply Kept.drew | apply kept_add | apply Kept.ext)))).size _ _ ⟨n, min (numC (sumA x c)) (numC (sumA (sumA x c) c)), max (numC (sumA x c)) (numC (sumA (sumA x c) c))⟩ rfl (lnCells_new (⟨n, min (numC (sumA x c)) (numC (sumA (sumA x c) c)), max (numC (sumA x c)) (numC (sumA (sumA x c) c))⟩ : Ln) (by simp)) (by have := hlen.out; omega) ?_; intro v' w1 hown1 hk1 hg1 hat1))
          go_roundw
          case rel => exact ⟨n + 1, hlt, by go_num, by rw [hnx.out, hone.out]; exact hown1, hk1⟩
          case measure => simp [intOf]; omega
        · have hone := hid (show dpR c n = [] by rw [hdr.out, if_neg (fun e => q2 e.2)])
          go_wp2_with (first | (go_at_call 35; refine Calls.mono (hA.out _) ?_; rintro e w' ⟨rfl, y, rfl⟩) | (go_at_call 36; refine Calls.mono (hP1.out _) ?_; rintro e w' ⟨rfl, y, rfl⟩) | (refine wp_region_ext (by kernel_rfl) (by kernel_rfl) ?_; (repeat (go_big_quiet_step (((first | (go_at_call 37; first | exact ext_call (l2Number_any _ (by assumption) _) | exact ext_call2 (l2Number_any _ (by assumption) _)) | (go_at_call 36; first | exact ext_call (l7Plus_any _ _ (by assumption) (by assumption) _) | exact ext_call2 (l7Plus_any _ _ (by assumption) (by assumption) _))))))); refine wpQuiet_end fun z => ?_) | (go_at_call 38; refine Calls.mono (l1Least_any _ _ _) ?_; rintro e w' ⟨rfl, rfl⟩) | (go_at_call 39; refine Calls.mono (l1Most_any _ _ _) ?_; rintro e w' ⟨rfl, rfl⟩) | (at_builtin; refine wpList_append_ln_at rfl _ _ rfl W W.heap.size _ (dpL c n) rfl (hoH.out.kept (by (try simp only [ext_ext]); repeat (first | exact Kept.refl _ | apply Kept.alloc | apply Kept.drew | apply kept_add | apply Kept.ext))) (hkwH.out.trans (by (try simp only [ext_ext]); repeat (first | exact Kept.refl _ | apply Kept.alloc | apply Kept.drew | apply kept_add | apply Kept.ext))) (Nat.le_refl _) (Kept.below (hkwH.out.trans (by (try simp only [ext_ext]); repeat (first | exact Kept.refl _ | apply Kept.alloc | apply Kept.drew | apply kept_add | apply Kept.ext)))).size _ _ ⟨n, min (numC (sumA x c)) (numC (sumA (sumA x c) c)), max (numC (sumA x c)) (numC (sumA (sumA x c) c))⟩ rfl (lnCells_new (⟨n, min (numC (sumA x c)) (numC (sumA (sumA x c) c)), max (numC (sumA x c)) (numC (sumA (sumA x c) c))⟩ : Ln) (by simp)) (by have := hlen.out; omega) ?_; intro v' w1 hown1 hk1 hg1 hat1))
          go_roundw
          case rel => exact ⟨n + 1, hlt, by go_num, by rw [hnx.out, hone.out, List.append_nil]; exact hoH.out.kept (by (try simp only [ext_ext]); repeat (first | exact Kept.refl _ | apply Kept.alloc | apply Kept.drew | apply kept_add | apply Kept.ext)), hkwH.out.trans (by (try simp only [ext_ext]); repeat (first | exact Kept.refl _ | apply Kept.alloc | apply Kept.drew | apply kept_add | apply Kept.ext))⟩
          case measure => simp [intOf]; omega
      · have hone := hid (show dpR c n = [] by rw [hdr.out, if_neg (fun e => q1 e.1)])
        go_wp2_with (first | (go_at_call 35; refine Calls.mono (hA.out _) ?_; rintro e w' ⟨rfl, y, rfl⟩) | (go_at_call 36; refine Calls.mono (hP1.out _) ?_; rintro e w' ⟨rfl, y, rfl⟩) | (refine wp_region_ext (by kernel_rfl) (by kernel_rfl) ?_; (repeat (go_big_quiet_step (((first | (go_at_call 37; first | exact ext_call (l2Number_any _ (by assumption) _) | exact ext_call2 (l2Number_any _ (by assumption) _)) | (go_at_call 36; first | exact ext_call (l7Plus_any _ _ (by assumption) (by assumption) _) | exact ext_call2 (l7Plus_any _ _ (by assumption) (by assumption) _))))))); refine wpQuiet_end fun z => ?_) | (go_at_call 38; refine Calls.mono (l1Least_any _ _ _) ?_; rintro e w' ⟨rfl, rfl⟩) | (go_at_call 39; refine Calls.mono (l1Most_any _ _ _) ?_; rintro e w' ⟨rfl, rfl⟩) | (at_builtin; refine wpList_append_ln_at rfl _ _ rfl W W.heap.size _ (dpL c n) rfl (hoH.out.kept (by (try simp only [ext_ext]); repeat (first | exact Kept.refl _ | apply Kept.alloc | apply Kept.drew | apply kept_add | apply Kept.ext))) (hkwH.out.trans (by (try simp only [ext_ext]); repeat (first | exact Kept.refl _ | apply Kept.alloc | apply Kept.drew | apply kept_add | apply Kept.ext))) (Nat.le_refl _) (Kept.below (hkwH.out.trans (by (try simp only [ext_ext]); repeat (first | exact Kept.refl _ | apply Kept.alloc | apply Kept.drew | apply kept_add | apply Kept.ext)))).size _ _ ⟨n, min (numC (sumA x c)) (numC (sumA (sumA x c) c)), max (numC (sumA x c)) (numC (sumA (sumA x c) c))⟩ rfl (lnCells_new (⟨n, min (numC (sumA x c)) (numC (sumA (sumA x c) c)), max (numC (sumA x c)) (numC (sumA (sumA x c) c))⟩ : Ln) (by simp)) (by have := hlen.out; omega) ?_; intro v' w1 hown1 hk1 hg1 hat1))
        go_roundw
        case rel => exact ⟨n + 1, hlt, by go_num, by rw [hnx.out, hone.out, List.append_nil]; exact hoH.out.kept (by (try simp only [ext_ext]); repeat (first | exact Kept.refl _ | apply Kept.alloc | apply Kept.drew | apply kept_add | apply Kept.ext)), hkwH.out.trans (by (try simp only [ext_ext]); repeat (first | exact Kept.refl _ | apply Kept.alloc | apply Kept.drew | apply kept_add | apply Kept.ext))⟩
        case measure => simp [intOf]; omega
    · obtain rfl : n = 81 := by omega
      obtain ⟨oo, ocap, hv, _, _⟩ := hoH.out.reads
      subst hv
      go_wp2
      refine bodyPost_ret (v := .tuple #[.slice oo (dpL c 81).length ocap, .bool true]) (by simp [results, Try.results11, go_sem]) rfl ?_
      exact ⟨_, rfl, (hoH.out.kept (by (try simp only [ext_ext]); repeat (first | exact Kept.refl _ | apply Kept.alloc | apply Kept.drew | apply kept_add | apply Kept.ext))).mono (by omega), kWH.out.trans (hkwH.out.trans (by (try simp only [ext_ext]); repeat (first | exact Kept.refl _ | apply Kept.alloc | apply Kept.drew | apply kept_add | apply Kept.ext)))⟩
end Go.Proofs.Ytmdnnejaipdkhab
