/- Walk: the law of CountPlanes: the program's count. -/
import Derived.Test.YtenmnipgnjaheaaL65
import Derived.Test.YtenmnipgnjaheaaL62
namespace Go.Proofs.Ytenmnipgnjaheaa
open Go.RowKit
/-- The first places of a square lie in a hand. -/
def okT (xs : List Card) (x y z : Card) (t : Nat) : Bool := planeC x y z && (List.range t).all fun j => decide (ptC x y z j ∈ xs)
theorem okT_next (xs : List Card) (x y z : Card) (t : Nat) : okT xs x y z (t + 1) = (okT xs x y z t && decide (ptC x y z t ∈ xs)) := by
  unfold okT
  rw [List.range_succ, List.all_append]
  simp [Bool.and_assoc]
theorem okT_zero (xs : List Card) (x y z : Card) : okT xs x y z 0 = planeC x y z := by simp [okT]
theorem okT_good (xs : List Card) (x y z : Card) : okT xs x y z 9 = goodB xs x y z := by
  unfold okT goodB
  congr 1
  rw [Bool.eq_iff_iff, List.all_eq_true, decide_eq_true_eq]
  constructor
  · intro h p hp
    obtain ⟨i, hi, rfl⟩ := planeL_mem.1 hp
    exact of_decide_eq_true (h i (List.mem_range.2 hi))
  · intro h i hi
    exact decide_eq_true (h _ (planeL_mem.2 ⟨i, List.mem_range.1 hi, rfl⟩))
theorem okT_plane {xs : List Card} {x y z : Card} {t : Nat} (h : okT xs x y z t = true) : planeC x y z = true := by
  simp only [okT, Bool.and_eq_true] at h; exact h.1
/-- A card of a row of 36 numbers. -/
def sqC (f : Nat → Int) (t : Nat) : Card := ⟨f (t * 4), f (t * 4 + 1), f (t * 4 + 2), f (t * 4 + 3)⟩
theorem sqC_pt (x y z : Card) {t : Nat} (ht : t < 9) : sqC (sqF x y z 36) t = ptC x y z t := by
  have h : ∀ j, j < 4 → sqF x y z 36 (t * 4 + j) = sqT (x.get j) (y.get j) (z.get j) (t : Int) := fun j hj => by
    unfold sqF
    rw [if_pos (by omega), show (t * 4 + j) % 4 = j by omega, show (t * 4 + j) / 4 = t by omega]
  exact cardEq (h 0 (by omega)) (h 1 (by omega)) (h 2 (by omega)) (h 3 (by omega))
theorem sq_index (f : Nat → Int) (t : Nat) (ht : t < 9) (w : World) : (Instr.index 64 (.agg (tab 36 f)) (.int .i64 (t : Int))).run Try.prog w = .ok (sqC f t).v w := by
  obtain rfl | rfl | rfl | rfl | rfl | rfl | rfl | rfl | rfl : t = 0 ∨ t = 1 ∨ t = 2 ∨ t = 3 ∨ t = 4 ∨ t = 5 ∨ t = 6 ∨ t = 7 ∨ t = 8 := by omega
  all_goals kernel_rfl
/-- The table of a hand's cards, being written. -/
structure InW (W : World) (gi : Nat) (zs : List Card) (w : World) : Prop where
  tin : w.heap[gi]? = some (.cells (tabB (inF zs)) 62 (0, 0))
  kept : Kept W w
  hgi : W.heap.size ≤ gi
theorem InW.put {W w w2 : World} {gi n : Nat} {zs : List Card} {c : Card} (h : InW W gi zs w) (hc : isCard c = true) (hn : numC c = (n : Int)) (hk : Kept (w.setCell ⟨gi, n, none⟩ (.bool true)) w2) : InW W gi (zs ++ [c]) w2 := by
  have hlt : gi < w.heap.size := (Array.getElem?_eq_some_iff.1 h.tin).1
  refine ⟨?_, (h.kept.setCell h.hgi _).trans hk, h.hgi⟩
  rw [hk.below.block gi (by simpa using hlt), heap_setCell_same _ _ _ _ _ _ h.tin, tabB_set _ (inF (zs ++ [c])) _ (fun j _ => inF_next hc hn j)]
set_option maxHeartbeats 4000000 in
set_option maxRecDepth 20000 in
theorem iCountPlanes_yes (ao : Option Addr) (cap : Nat) (xs : List Card) (w : World) (hx : CardsAt w ao xs) (hcap : xs.length ≤ cap) (hh : isHand xs = true) :
    Calls Try.prog 15 #[.slice ao xs.length cap] w fun e w' => e = .returned (.tuple #[.int .i64 (cS xs xs.length : Nat), .bool true]) ∧ Kept w w' := by
  have hl27 := (isHand_of hh).1
  have hcH := hid (areC_hand hh)
  have heqH := hid (planes_eq (asc_hand hh) (fun c hc => areC_hand' hh c hc))
  have hxH := hid hx
  have hHand := hid (fun (w' : World) (hk : Kept w w') => IsHand_any ao cap xs w' (hx.kept hk) (by omega))
  rw [hh] at hHand
  obtain ⟨n, hn⟩ : ∃ n, n = xs.length := ⟨_, rfl⟩
  have hnH := hid hn
  rw [← hn] at hl27 hHand hcap ⊢
  clear hx hn hh
  have hin0 : inF [] = fun _ => false := by funext n; simp [inF]
  go_enter Try.func15, Try.ntmps15
  go_wp2_with (first | (go_at_call 30; refine Calls.mono (hHand.out _ ((by (try simp only [ext_ext]); repeat (first | exact Kept.refl _ | apply Kept.alloc | apply Kept.drew | apply kept_add | apply Kept.ext)))) ?_; rintro e w' ⟨rfl, y, rfl⟩) | refine wpList_tabB_build rfl rfl ?_ | refine wpList_tabB_alloc rfl rfl ?_ | refine wpList_tabB_store rfl _ _ rfl _ _ rfl rfl ?_)
  obtain ⟨gi, hgi⟩ : ∃ gi, gi = w.heap.size + y.os.length := ⟨_, rfl⟩
  have hW0 := hid (show InW w gi [] ((ext w y).alloc (.cells (tabB fun _ => false) 62)) from ⟨by rw [hin0]; exact heap_at (by rw [hgi]; simp), (by (try simp only [ext_ext]); repeat (first | exact Kept.refl _ | apply Kept.alloc | apply Kept.drew | apply kept_add | apply Kept.ext)), by omega⟩)
  rw [← hgi]
  clear hgi hin0
  go_loopw [24] (fun s24 wr => ∃ k : Nat, k ≤ n ∧ s24 = .int .i64 (k : Int) ∧ InW w gi (xs.take k) wr) (fun s24 _ => n - (intOf s24).toNat)
  case atStart => exact ⟨0, by omega, by go_num, hW0.out⟩
  case round =>
    obtain ⟨w0, hw0⟩ : ∃ w0, w0 = wr := ⟨_, rfl⟩
    subst hw0
    obtain ⟨k, hk, rfl, hI⟩ := hrel
    have hIH := hid hI
    have hlt0 : gi < w0.heap.size := (Array.getElem?_eq_some_iff.1 hI.tin).1
    by_cases hkn : k < n
    · obtain ⟨g, off, rfl, hg, a1, a2, a3, a4⟩ := (hxH.out.kept hI.kept) k (by rw [← hnH.out]; exact hkn)
      have hck := hcH.out k (by rw [← hnH.out]; exact hkn)
      obtain ⟨q, hq⟩ : ∃ q : Nat, numC (cx xs k) = (q : Int) := ⟨(numC (cx xs k)).toNat, (Int.toNat_of_nonneg (numC_bd hck).1).symm⟩
      have hq81 : q < 81 := by have := (numC_bd hck).2; omega
      have hN := hid (fun w' => number_any (cx xs k) hck w')
      rw [hq] at hN
      have hqH := hid hq
      have hcell : w0.cell? ⟨gi, q, none⟩ = some (.bool (inF (xs.take k) q)) := by rw [cell_of_row _ _ _ _ _ _ hI.tin, tabB_get _ hq81]
      have hcf : w0.frozen? ⟨gi, q, none⟩ = false := frozen_of_row _ _ _ _ _ hI.tin
      have htk := hid (show xs.take (k + 1) = xs.take k ++ [cx xs k] by rw [List.take_succ_eq_append_getElem (by rw [← hnH.out]; exact hkn), cx_get _ _ (by rw [← hnH.out]; exact hkn)])
      clear hI hq
      go_wp2_with (first | (go_at_call 39; refine Calls.mono (hN.out _) ?_; rintro e w' ⟨rfl, y, rfl⟩))
      go_roundw
      case rel => exact ⟨k + 1, by omega, by go_num, by rw [htk.out]; exact hIH.out.put (n := q) hck hqH.out (by (try simp only [ext_ext]); repeat (first | exact Kept.refl _ | apply Kept.alloc | apply Kept.drew | apply kept_add | apply Kept.ext))⟩
      case measure => simp [intOf]; omega
    · have hI2 : InW w gi xs w0 := by rw [List.take_of_length_le (by rw [← hnH.out]; omega)] at hI; exact hI
      have hI2H := hid hI2
      have hT := hid (fun (w' : World) (hk : Kept w0 w') (q : Nat) (hq : q < 81) => show w'.cell? ⟨gi, q, none⟩ = some (.bool (inF xs q)) from by
        rw [cell_of_row _ _ _ _ _ _ ((hk.below.block gi hlt0).trans hI2.tin), tabB_get _ hq])
      have hx0 := hid (hxH.out.kept hI2.kept)
      have hk0 := hid hI2.kept
      have hst1 : gS xs 0 = 0 := rfl
      clear hI hI2
      go_wp2_with (fail)
      go_loopw [34, 7] (fun s34 s7 wr => ∃ i : Nat, i ≤ n ∧ s34 = .int .i64 (i : Int) ∧ s7 = .int .i64 (gS xs i : Nat) ∧ Kept w0 wr) (fun s34 _ _ => n - (intOf s34).toNat)
      case atStart => exact ⟨0, by omega, by go_num, rfl, (by (try simp only [ext_ext]); repeat (first | exact Kept.refl _ | apply Kept.alloc | apply Kept.drew | apply kept_add | apply Kept.ext))⟩
      case round =>
        obtain ⟨w1, hw1⟩ : ∃ w1, w1 = wr := ⟨_, rfl⟩
        subst hw1
        obtain ⟨i, hi, rfl, rfl, k1⟩ := hrel
        have k1H := hid k1
        have hb1 : gS xs i ≤ 19683 := gS_le (by omega)
        have hnx1 := hid (gS_next xs i)
        obtain ⟨A, hA⟩ : ∃ A, A = gS xs i := ⟨_, rfl⟩
        rw [← hA] at hb1 hnx1 ⊢
        have hAH := hid hA
        clear hA
        by_cases hin : i < n
        · obtain ⟨g, off, rfl, hg, a1, a2, a3, a4⟩ := (hx0.out.kept k1) i (by rw [← hnH.out]; exact hin)
          have hci := hcH.out i (by rw [← hnH.out]; exact hin)
          have hcp1 : (i : Int) ≤ (cap : Int) := by omega
          have hcp2 : i ≤ cap := by omega
          have kA := hid (k1.trans ((Kept.refl w1).alloc (.cells #[.int .i64 (cx xs i).a, .int .i64 (cx xs i).b, .int .i64 (cx xs i).c, .int .i64 (cx xs i).d] T4)))
          clear k1
          go_wp2_with (fail)
          go_loopw [43, 7] (fun s43 s7 wr => ∃ j : Nat, j ≤ i ∧ s43 = .int .i64 (j : Int) ∧ s7 = .int .i64 ((A + gJ xs i j : Nat) : Int) ∧ Kept (w1.alloc (.cells #[.int .i64 (cx xs i).a, .int .i64 (cx xs i).b, .int .i64 (cx xs i).c, .int .i64 (cx xs i).d] T4)) wr) (fun s43 _ _ => n - (intOf s43).toNat)
          case atStart => exact ⟨0, by omega, by go_num, rfl, (by (try simp only [ext_ext]); repeat (first | exact Kept.refl _ | apply Kept.alloc | apply Kept.drew | apply kept_add | apply Kept.ext))⟩
          case round =>
            obtain ⟨w2, hw2⟩ : ∃ w2, w2 = wr := ⟨_, rfl⟩
            subst hw2
            obtain ⟨j, hj, rfl, rfl, k2⟩ := hrel
            have k2H := hid k2
            have hb2 : gJ xs i j ≤ 729 := gJ_le (by omega)
            have hnx2 := hid (gJ_next xs i j)
            obtain ⟨B, hB⟩ : ∃ B, B = gJ xs i j := ⟨_, rfl⟩
            rw [← hB] at hb2 hnx2 ⊢
            have hBH := hid hB
            clear hB
            have hgA : w1.heap.size < w2.heap.size := by have := k2.below.size; simp at this; omega
            by_cases hji : j < i
            · obtain ⟨_, _, e1, hg2, b1, b2, b3, b4⟩ := (hx0.out.kept (kA.out.trans k2)) j (by rw [← hnH.out]; omega)
              cases e1
              have hcj := hcH.out j (by rw [← hnH.out]; omega)
              have hcp3 : (j : Int) ≤ (cap : Int) := by omega
              have hcp4 : j ≤ cap := by omega
              have kB := hid ((kA.out.trans k2).trans ((Kept.refl w2).alloc (.cells #[.int .i64 (cx xs j).a, .int .i64 (cx xs j).b, .int .i64 (cx xs j).c, .int .i64 (cx xs j).d] T4)))
              have cA := hid (fun w' (hk : Kept (w2.alloc (.cells #[.int .i64 (cx xs j).a, .int .i64 (cx xs j).b, .int .i64 (cx xs j).c, .int .i64 (cx xs j).d] T4)) w') => cardCells_kept (cardCells_new (t := T4) (cx xs i) (rfl : w1.heap.size = w1.heap.size)) (by simp) (k2.trans (((Kept.refl w2).alloc (.cells #[.int .i64 (cx xs j).a, .int .i64 (cx xs j).b, .int .i64 (cx xs j).c, .int .i64 (cx xs j).d] T4)).trans hk)))
              clear k2
              go_wp2_with (fail)
              go_loopw [52, 7] (fun s52 s7 wr => ∃ c : Nat, c ≤ j ∧ s52 = .int .i64 (c : Int) ∧ s7 = .int .i64 ((A + B + gK xs i j c : Nat) : Int) ∧ Kept (w2.alloc (.cells #[.int .i64 (cx xs j).a, .int .i64 (cx xs j).b, .int .i64 (cx xs j).c, .int .i64 (cx xs j).d] T4)) wr) (fun s52 _ _ => n - (intOf s52).toNat)
              case atStart => exact ⟨0, by omega, by go_num, rfl, (by (try simp only [ext_ext]); repeat (first | exact Kept.refl _ | apply Kept.alloc | apply Kept.drew | apply kept_add | apply Kept.ext))⟩
              case round =>
                obtain ⟨w3, hw3⟩ : ∃ w3, w3 = wr := ⟨_, rfl⟩
                subst hw3
                obtain ⟨c, hc, rfl, rfl, k3⟩ := hrel
                have k3H := hid k3
                have hb3 : gK xs i j c ≤ 27 := Nat.le_trans (gK_le _ _ _ _) (by omega)
                have hnx3 := hid (gK_next xs i j c)
                obtain ⟨C, hC⟩ : ∃ C, C = gK xs i j c := ⟨_, rfl⟩
                rw [← hC] at hb3 hnx3 ⊢
                have hCH := hid hC
                clear hC
                by_cases hcj2 : c < j
                · obtain ⟨_, _, e1, hg3, c1, c2, c3, c4⟩ := (hx0.out.kept (kB.out.trans k3)) c (by rw [← hnH.out]; omega)
                  cases e1
                  obtain ⟨p1, p2, p3, p4⟩ := cA.out w3 k3
                  obtain ⟨q1, q2, q3, q4⟩ := cardCells_kept (cardCells_new (t := T4) (cx xs j) (rfl : w2.heap.size = w2.heap.size)) (by simp) k3
                  simp only [Nat.zero_add] at p2 p3 p4 q2 q3 q4
                  have hs2 : w2.heap.size < w3.heap.size := by have := k3.below.size; simp at this; omega
                  have hs1 : w1.heap.size < w3.heap.size := by omega
                  obtain ⟨f, hM, hf⟩ : ∃ f : Nat → Int, (∀ w', Calls Try.prog 40 #[(cx xs i).v, (cx xs j).v, (cx xs c).v] w' fun e w'' => e = .returned (.tuple #[.agg (tab 36 f), .bool (okT xs (cx xs i) (cx xs j) (cx xs c) 0)]) ∧ Kept w' w'') ∧ (planeC (cx xs i) (cx xs j) (cx xs c) = true → ∀ t, t < 9 → sqC f t = ptC (cx xs i) (cx xs j) (cx xs c) t) := by
                    rw [okT_zero]
                    cases hp : planeC (cx xs i) (cx xs j) (cx xs c) with
                    | false => exact ⟨fun _ => 0, fun w' => iMagicSquare_no _ _ _ hp w', fun e => by cases e⟩
                    | true => exact ⟨_, fun w' => iMagicSquare_yes _ _ _ hp w', fun _ t ht => sqC_pt _ _ _ ht⟩
                  have hMH := hid hM
                  have hfH := hid hf
                  have hgood := hid (okT_good xs (cx xs i) (cx xs j) (cx xs c))
                  have hK3 := hid (kB.out.trans k3)
                  clear hM hf k3
                  go_wp2_with (first | (go_at_call 40; refine Calls.mono (hMH.out _) ?_; rintro e w' ⟨rfl, y, rfl⟩) | refine wpList_sq_alloc rfl rfl ?_ | refine wpList_sq_store rfl _ _ rfl (fun _ => 0) f (by first | rfl | simp) rfl ?_ | refine wpList_sq_load rfl _ rfl _ f rfl (heap_at (by first | rfl | simp)) ?_)
                  go_loopw [64, 15] (fun s64 s15 wr => ∃ t : Nat, t ≤ 9 ∧ s64 = .int .i64 (t : Int) ∧ s15 = .bool (okT xs (cx xs i) (cx xs j) (cx xs c) t) ∧ Kept w3 wr) (fun s64 _ _ => 9 - (intOf s64).toNat)
                  case atStart => exact ⟨0, by omega, by go_num, rfl, (by (try simp only [ext_ext]); repeat (first | exact Kept.refl _ | apply Kept.alloc | apply Kept.drew | apply kept_add | apply Kept.ext))⟩
                  case round =>
                    obtain ⟨t, ht, rfl, rfl, k5⟩ := hrel
                    have k5H := hid k5
                    have hnx5 := hid (okT_next xs (cx xs i) (cx xs j) (cx xs c) t)
                    by_cases ht9 : t < 9
                    · have hidx := fun w' => sq_index f t ht9 w'
                      cases hok : okT xs (cx xs i) (cx xs j) (cx xs c) t with
                      | true =>
                        rw [hfH.out (okT_plane hok) t ht9] at hidx
                        rw [hok, Bool.true_and] at hnx5
                        have hpc : isCard (ptC (cx xs i) (cx xs j) (cx xs c) t) = true := ptC_card _ _ _ _
                        obtain ⟨P, hP⟩ : ∃ P, P = ptC (cx xs i) (cx xs j) (cx xs c) t := ⟨_, rfl⟩
                        rw [← hP] at hidx hnx5 hpc
                        obtain ⟨q, hq⟩ : ∃ q : Nat, numC P = (q : Int) := ⟨(numC P).toNat, (Int.toNat_of_nonneg (numC_bd hpc).1).symm⟩
                        have hq81 : q < 81 := by have := (numC_bd hpc).2; omega
                        have hN := hid (fun w' => number_any P hpc w')
                        rw [hq] at hN
                        have hv := hid (inF_card (zs := xs) hpc hq)
                        have hcell := hT.out wr (hK3.out.trans k5) q hq81
                        have hgi5 : gi < wr.heap.size := Nat.lt_of_lt_of_le hlt0 (hK3.out.trans k5).below.size
                        rw [hv.out] at hcell
                        have hnx5H := hid hnx5.out
                        clear k5 hP hq hok
                        go_wp2_with (first | (go_at_call 39; refine Calls.mono (hN.out _) ?_; rintro e w' ⟨rfl, y, rfl⟩))
                        go_roundw
                        case rel => exact ⟨t + 1, by omega, by go_num, by rw [hnx5H.out], k5H.out.trans (by (try simp only [ext_ext]); repeat (first | exact Kept.refl _ | apply Kept.alloc | apply Kept.drew | apply kept_add | apply Kept.ext))⟩
                        case measure => simp [intOf]; omega
                      | false =>
                        rw [hok, Bool.false_and] at hnx5
                        clear k5 hok
                        go_wp2_with (fail)
                        go_roundw
                        case rel => exact ⟨t + 1, by omega, by go_num, by rw [hnx5.out], k5H.out.trans (by (try simp only [ext_ext]); repeat (first | exact Kept.refl _ | apply Kept.alloc | apply Kept.drew | apply kept_add | apply Kept.ext))⟩
                        case measure => simp [intOf]; omega
                    · obtain rfl : t = 9 := by omega
                      cases hgd : goodB xs (cx xs i) (cx xs j) (cx xs c) with
                      | true =>
                        have hz := hid (show gI xs i j c = 1 by unfold gI; rw [if_pos hgd])
                        have hwr : IntKind.i64.wrap (((A : Int) + (B : Int) + (C : Int)) + 1) = (A : Int) + (B : Int) + (C : Int) + 1 := Go.IntWalk.i64_in _ ⟨by omega, by omega⟩
                        rw [hgood.out, hgd]
                        clear k5 hgd
                        go_wp2_with (fail)
                        go_roundw
                        case rel => exact ⟨c + 1, by omega, by go_num, by rw [hnx3.out, hz.out]; go_num, k3H.out.trans (k5H.out.trans (by (try simp only [ext_ext]); repeat (first | exact Kept.refl _ | apply Kept.alloc | apply Kept.drew | apply kept_add | apply Kept.ext)))⟩
                        case measure => simp [intOf]; omega
                      | false =>
                        have hz := hid (show gI xs i j c = 0 by unfold gI; rw [if_neg (by rw [hgd]; simp)])
                        rw [hgood.out, hgd]
                        clear k5 hgd
                        go_wp2_with (fail)
                        go_roundw
                        case rel => exact ⟨c + 1, by omega, by go_num, by rw [hnx3.out, hz.out]; go_num, k3H.out.trans (k5H.out.trans (by (try simp only [ext_ext]); repeat (first | exact Kept.refl _ | apply Kept.alloc | apply Kept.drew | apply kept_add | apply Kept.ext)))⟩
                        case measure => simp [intOf]; omega
                · obtain rfl : c = j := by omega
                  clear k3
                  go_wp2_with (fail)
                  go_roundw
                  case rel => exact ⟨c + 1, by omega, by go_num, by rw [hnx2.out, ← hCH.out]; go_num, k2H.out.trans (((Kept.refl w2).alloc _).trans (k3H.out.trans (by (try simp only [ext_ext]); repeat (first | exact Kept.refl _ | apply Kept.alloc | apply Kept.drew | apply kept_add | apply Kept.ext))))⟩
                  case measure => simp [intOf]; omega
            · obtain rfl : j = i := by omega
              clear k2
              go_wp2_with (fail)
              go_roundw
              case rel => exact ⟨j + 1, by omega, by go_num, by rw [hnx1.out, ← hBH.out], kA.out.trans (k2H.out.trans (by (try simp only [ext_ext]); repeat (first | exact Kept.refl _ | apply Kept.alloc | apply Kept.drew | apply kept_add | apply Kept.ext)))⟩
              case measure => simp [intOf]; omega
        · obtain rfl : i = n := by omega
          have hdiv : (A : Int).tdiv 72 = ((cS xs i : Nat) : Int) := by
            have h := heqH.out
            rw [← hnH.out, ← hAH.out] at h
            rw [Int.tdiv_eq_ediv_of_nonneg (by omega), h]; omega
          have hcb : cS xs i ≤ 19683 := cS_le (by rw [← hnH.out]; exact hl27) (by omega)
          have hwr : IntKind.i64.wrap ((cS xs i : Nat) : Int) = ((cS xs i : Nat) : Int) := Go.IntWalk.i64_in _ ⟨by omega, by omega⟩
          obtain ⟨S, hS⟩ : ∃ S, S = cS xs i := ⟨_, rfl⟩
          rw [← hS] at hdiv hwr hcb
          have hSH := hid hS
          clear k1 hS
          go_wp2
          refine bodyPost_ret (v := .tuple #[.int .i64 (S : Nat), .bool true]) (by simp [results, Try.results15, go_sem]) rfl ?_
          exact ⟨by rw [hSH.out], hk0.out.trans (k1H.out.trans (by (try simp only [ext_ext]); repeat (first | exact Kept.refl _ | apply Kept.alloc | apply Kept.drew | apply kept_add | apply Kept.ext)))⟩
theorem twoCountPlanes (xs : List Card) (hn : xs.length ≤ 1048576) : ∃ q ok, (∀ (ao : Option Addr) (cap : Nat) (w : World), CardsAt w ao xs → xs.length ≤ cap → Calls Try.prog 14 #[.slice ao xs.length cap] w fun e w' => e = .returned (.tuple #[.int .i64 q, .bool ok]) ∧ Kept w w') ∧ (∀ (ao : Option Addr) (cap : Nat) (w : World), CardsAt w ao xs → xs.length ≤ cap → Calls Try.prog 15 #[.slice ao xs.length cap] w fun e w' => e = .returned (.tuple #[.int .i64 q, .bool ok]) ∧ Kept w w') := by
  cases hg : isHand xs with
  | false => exact ⟨0, false, fun _ _ _ hx _ => sCountPlanes_no _ _ _ _ hx hn hg, fun _ _ _ hx _ => iCountPlanes_no _ _ _ _ hx hn hg⟩
  | true => exact ⟨_, true, fun _ _ _ hx _ => sCountPlanes_yes _ _ _ _ hx hg, fun _ _ _ hx hc => iCountPlanes_yes _ _ _ _ hx hc hg⟩
set_option maxHeartbeats 1000000 in
theorem walk_FnExactCountPlanes (ao : Option Addr) (xs : List Card) (cap : Nat) {w : World} (hx : CardsAt w ao xs) (hl : xs.length ≤ maxLen) (_ : World) :
    Calls Try.prog 4 #[.slice ao xs.length cap] w fun e w' => e = .returned (.bool true) ∧ Kept w w' := by
  have hl' : xs.length ≤ 9223372036854775807 := by unfold maxLen at hl; omega
  by_cases hn : xs.length ≤ 1048576
  · obtain ⟨q, ok, hS, hI⟩ : ∃ q ok, (∀ (ao : Option Addr) (cap : Nat) (w : World), CardsAt w ao xs → xs.length ≤ cap → Calls Try.prog 14 #[.slice ao xs.length cap] w fun e w' => e = .returned (.tuple #[.int .i64 q, .bool ok]) ∧ Kept w w') ∧ (∀ (ao : Option Addr) (cap : Nat) (w : World), CardsAt w ao xs → xs.length ≤ cap → Calls Try.prog 15 #[.slice ao xs.length cap] w fun e w' => e = .returned (.tuple #[.int .i64 q, .bool ok]) ∧ Kept w w') := twoCountPlanes xs hn
    have hSH := hid hS
    have hIH := hid hI
    clear hS hI
    go_enter Try.func4, Try.ntmps4
    go_wp2_with (first | (go_at_call 7; refine Calls.mono (szIntA4S_any _ _ _ hl' _) ?_; rintro e w' ⟨rfl, rfl⟩) | (go_at_call 9; refine Calls.mono (toIntA4S_any _ _ _ _ (by first | assumption | exact CardsAt.kept (by assumption) (by (try simp only [ext_ext]); repeat (first | exact Kept.refl _ | apply Kept.alloc | apply Kept.drew | apply kept_add | apply Kept.ext))) hn) ?_; rintro e w' ⟨v, rfl, ho, z, rfl⟩; obtain ⟨ao', cap', rfl, hx', hcap'⟩ := ho.reads; clear ho) | (go_at_call 14; refine Calls.mono (hSH.out _ _ _ (by first | assumption | exact CardsAt.kept (by assumption) (by (try simp only [ext_ext]); repeat (first | exact Kept.refl _ | apply Kept.alloc | apply Kept.drew | apply kept_add | apply Kept.ext))) (by assumption)) ?_; rintro e w' ⟨rfl, y, rfl⟩) | (go_at_call 15; refine Calls.mono (hIH.out _ _ _ (by first | assumption | exact CardsAt.kept (by assumption) (by (try simp only [ext_ext]); repeat (first | exact Kept.refl _ | apply Kept.alloc | apply Kept.drew | apply kept_add | apply Kept.ext))) (by assumption)) ?_; rintro e w' ⟨rfl, y, rfl⟩) | (go_at_call 11; refine Calls.mono (eqIntA4S_any _ _ _ _ _ _ _ (by first | assumption | exact CardsAt.kept (by assumption) (by (try simp only [ext_ext]); repeat (first | exact Kept.refl _ | apply Kept.alloc | apply Kept.drew | apply kept_add | apply Kept.ext))) (by first | assumption | exact CardsAt.kept (by assumption) (by (try simp only [ext_ext]); repeat (first | exact Kept.refl _ | apply Kept.alloc | apply Kept.drew | apply kept_add | apply Kept.ext))) hn hn) ?_; rintro e w' ⟨rfl, y, rfl⟩))
    all_goals
      go_ret
      exact ⟨rfl, (by (try simp only [ext_ext]); repeat (first | exact Kept.refl _ | apply Kept.alloc | apply Kept.drew | apply kept_add | apply Kept.ext))⟩
  · go_enter Try.func4, Try.ntmps4
    go_wp2_with (first | (go_at_call 7; refine Calls.mono (szIntA4S_any _ _ _ hl' _) ?_; rintro e w' ⟨rfl, rfl⟩))
    go_ret
    exact ⟨rfl, (by (try simp only [ext_ext]); repeat (first | exact Kept.refl _ | apply Kept.alloc | apply Kept.drew | apply kept_add | apply Kept.ext))⟩
end Go.Proofs.Ytenmnipgnjaheaa
