/- Walk: the law of FixedCards. -/
import Derived.Test.YtjlaoocomkonhaaT96
import Derived.Test.YtjlaoocomkonhaaT7
import Derived.Deep.CutRange
namespace Go.Proofs.Ytjlaoocomkonhaa
open Go.RowKit
/-- The first numbers of cards that are their own images. -/
def fixL (im : Card → Card) (k : Nat) : List Int := ((List.range k).filter fun n : Nat => decide (im (cardN (n : Int)) = cardN (n : Int))).map fun n : Nat => (n : Int)
theorem fixL_next (im : Card → Card) (k : Nat) : fixL im (k + 1) = fixL im k ++ if decide (im (cardN (k : Int)) = cardN (k : Int)) = true then [(k : Int)] else [] := by
  simp only [fixL, List.range_succ, List.filter_append, List.map_append]
  congr 1
  by_cases h : im (cardN (k : Int)) = cardN (k : Int) <;> simp [h]
theorem fixL_len (im : Card → Card) (k : Nat) : (fixL im k).length ≤ k := by
  unfold fixL
  rw [List.length_map]
  refine Nat.le_trans (List.length_filter_le _ _) ?_
  simp
theorem sFixedCards_no (f : Nat → Int) (w : World) (h : mapB f = false) : Calls Try.prog 17 #[mpv f] w (RetIT w false []) := by
  have hM := hid (l5Map_any f)
  rw [h] at hM
  go_enter Try.func17, Try.ntmps17
  go_wp2_with (first | (go_at_call 38; refine Calls.mono (hM.out _) ?_; rintro e w' ⟨rfl, y, rfl⟩))
  refine bodyPost_ret (v := .tuple #[.slice (some ⟨w.heap.size + 1, 0, none⟩) 0 0, .bool false]) (by simp [results, Try.results17, go_sem]) rfl ?_
  exact ⟨_, rfl, ownI_nil (by omega) ((ext_heap _ _ _ (by simp)).trans (heap_at (by simp))), (by (try simp only [ext_ext]); repeat (first | exact Kept.refl _ | apply Kept.alloc | apply Kept.drew | apply kept_add | apply Kept.ext))⟩
theorem iFixedCards_no (f : Nat → Int) (w : World) (h : mapB f = false) : Calls Try.prog 18 #[mpv f] w (RetIT w false []) := by
  have hM := hid (IsMap_any f)
  rw [h] at hM
  go_enter Try.func18, Try.ntmps18
  go_wp2_with (first | (go_at_call 41; refine Calls.mono (hM.out _) ?_; rintro e w' ⟨rfl, y, rfl⟩))
  refine bodyPost_ret (v := .tuple #[.slice none 0 0, .bool false]) (by simp [results, Try.results18, go_sem]) rfl ?_
  exact ⟨_, rfl, ownI_none _ _, (by (try simp only [ext_ext]); repeat (first | exact Kept.refl _ | apply Kept.alloc | apply Kept.drew | apply kept_add | apply Kept.ext))⟩
set_option maxHeartbeats 1000000 in
set_option maxRecDepth 20000 in
theorem sFixedCards_yes (f : Nat → Int) (w : World) (h : mapB f = true) : Calls Try.prog 17 #[mpv f] w (RetIT w true (fixL (imgC f) 81)) := by
  have hV := hid (l5Map_any f)
  rw [h] at hV
  have hT0 := fun c (hc : isCard c = true) w' => l5Card_any f c h hc w'
  obtain ⟨im, him⟩ : ∃ im, im = imgC f := ⟨_, rfl⟩
  rw [← him] at hT0 ⊢
  have hT := hid hT0
  obtain ⟨W, hW⟩ : ∃ W, W = w.alloc (.cells #[.int .i64 (f 0), .int .i64 (f 1), .int .i64 (f 2), .int .i64 (f 3), .int .i64 (f 4), .int .i64 (f 5), .int .i64 (f 6), .int .i64 (f 7), .int .i64 (f 8), .int .i64 (f 9), .int .i64 (f 10), .int .i64 (f 11), .int .i64 (f 12), .int .i64 (f 13), .int .i64 (f 14), .int .i64 (f 15)] 35) := ⟨_, rfl⟩
  have hM := hid (fun w' (hk : Kept W w') => (show BoxM W w.heap.size f by rw [hW]; exact BoxM.new f rfl).kept hk)
  have kw := hid (show Kept w W by rw [hW]; exact (by (try simp only [ext_ext]); repeat (first | exact Kept.refl _ | apply Kept.alloc | apply Kept.drew | apply kept_add | apply Kept.ext)))
  have hWs := hid (show W.heap.size = w.heap.size + 1 by rw [hW]; simp)
  have hWH := hid hW
  clear h hT0 him hW
  go_enter Try.func17, Try.ntmps17
  go_wp2_with (first | (go_at_call 38; refine Calls.mono (hV.out _) ?_; rintro e w' ⟨rfl, y, rfl⟩))
  rw [← hWH.out]
  have hsz := hWs.out
  have hz0H := hid (show OwnI (w.heap.size + 1) (ext (W.alloc (.cells #[] 3)) y) (.slice (some ⟨w.heap.size + 1, 0, none⟩) 0 0) [] from ownI_nil (Nat.le_refl _) ((ext_heap _ _ _ (by simp; omega)).trans (heap_at (by omega))))
  go_loopw [5, 4] (fun s5 s4 wr => ∃ k : Nat, k ≤ 81 ∧ s5 = .int .i64 (k : Int) ∧ OwnI (w.heap.size + 1) wr s4 (fixL im k) ∧ Kept W wr) (fun s5 _ _ => 81 - (intOf s5).toNat)
  case atStart => exact ⟨0, by omega, rfl, hz0H.out, (by (try simp only [ext_ext]); repeat (first | exact Kept.refl _ | apply Kept.alloc | apply Kept.drew | apply kept_add | apply Kept.ext))⟩
  case round =>
    obtain ⟨w0, hw0⟩ : ∃ w0, w0 = wr := ⟨_, rfl⟩
    subst hw0
    obtain ⟨k, hk, rfl, hown, hkw⟩ := hrel
    have hownH := hid hown
    have hkwH := hid hkw
    have hM0 := hM.out w0 hkw
    have hgs := hM0.1
    obtain ⟨m0, m1, m2, m3, m4, m5, m6, m7, m8, m9, m10, m11, m12, m13, m14, m15⟩ := hM0.cells
    have hnx := hid (fixL_next im k)
    have hll := hid (fixL_len im k)
    obtain ⟨ao, cap, rfl, _, _⟩ := hown.reads
    have hws : w.heap.size + 1 ≤ w0.heap.size := by have := hkw.below.size; have := hWs.out; omega
    clear hown hkw hM0
    by_cases hlt : k < 81
    · have hA := hid (fun w' => l2At_any (k : Int) (by omega) (by omega) w')
      have hxC := isCard_cardN (n := (k : Int)) (by omega) (by omega)
      obtain ⟨x, hx⟩ : ∃ x, x = cardN (k : Int) := ⟨_, rfl⟩
      rw [← hx] at hA hxC hnx
      clear hx
      have hTx := hid (fun w' => hT.out x hxC w')
      obtain ⟨y1, hy1⟩ : ∃ y1, y1 = im x := ⟨_, rfl⟩
      rw [← hy1] at hTx hnx
      clear hy1
      cases hd : decide (y1 = x) with
      | true =>
        rw [hd] at hnx
        have hn2 := hid (show fixL im (k + 1) = fixL im k ++ [(k : Int)] by rw [hnx.out]; rfl)
        go_wp2_with (first | (refine wp_region_ext (by kernel_rfl) (by kernel_rfl) ?_; (repeat (go_big_quiet_step ((first | (go_at_call 44; first | exact ext_call (hA.out _) | exact ext_call2 (hA.out _)) | (go_at_call 43; first | exact ext_call (hTx.out _) | exact ext_call2 (hTx.out _)))))); refine wpQuiet_end fun z => ?_) | (go_at_call 44; refine Calls.mono (hA.out _) ?_; rintro e w' ⟨rfl, y, rfl⟩) | (at_builtin; refine wpList_append_int rfl _ _ rfl W (w.heap.size + 1) _ _ rfl (hownH.out.kept (by (try simp only [ext_ext]); repeat (first | exact Kept.refl _ | apply Kept.alloc | apply Kept.drew | apply kept_add | apply Kept.ext))) (hkwH.out.trans (by (try simp only [ext_ext]); repeat (first | exact Kept.refl _ | apply Kept.alloc | apply Kept.drew | apply kept_add | apply Kept.ext))) (by have := hWs.out; omega) (by simp; omega) _ _ (k : Int) rfl (cell_of_row _ _ 0 _ _ (0, 0) (heap_at (by simp))) (by have := hll.out; omega) ?_; intro v' w' hown' hkw' hgr' hat'))
        go_roundw
        case rel => exact ⟨k + 1, by omega, by go_num, by rw [hn2.out]; exact hown', hkw'⟩
        case measure => simp [intOf]; omega
      | false =>
        rw [hd] at hnx
        have hn2 := hid (show fixL im (k + 1) = fixL im k by rw [hnx.out]; simp)
        go_wp2_with (first | (refine wp_region_ext (by kernel_rfl) (by kernel_rfl) ?_; (repeat (go_big_quiet_step ((first | (go_at_call 44; first | exact ext_call (hA.out _) | exact ext_call2 (hA.out _)) | (go_at_call 43; first | exact ext_call (hTx.out _) | exact ext_call2 (hTx.out _)))))); refine wpQuiet_end fun z => ?_) | (go_at_call 44; refine Calls.mono (hA.out _) ?_; rintro e w' ⟨rfl, y, rfl⟩))
        go_roundw
        case rel => exact ⟨k + 1, by omega, by go_num, by rw [hn2.out]; exact hownH.out.kept (by (try simp only [ext_ext]); repeat (first | exact Kept.refl _ | apply Kept.alloc | apply Kept.drew | apply kept_add | apply Kept.ext)), hkwH.out.trans (by (try simp only [ext_ext]); repeat (first | exact Kept.refl _ | apply Kept.alloc | apply Kept.drew | apply kept_add | apply Kept.ext))⟩
        case measure => simp [intOf]; omega
    · obtain rfl : k = 81 := by omega
      go_wp2
      refine bodyPost_ret (v := .tuple #[.slice ao (fixL im 81).length cap, .bool true]) (by simp [results, Try.results17, go_sem]) rfl ?_
      exact ⟨_, rfl, (hownH.out.kept (by (try simp only [ext_ext]); repeat (first | exact Kept.refl _ | apply Kept.alloc | apply Kept.drew | apply kept_add | apply Kept.ext))).mono (by omega), (kw.out.trans hkwH.out).trans (by (try simp only [ext_ext]); repeat (first | exact Kept.refl _ | apply Kept.alloc | apply Kept.drew | apply kept_add | apply Kept.ext))⟩
set_option maxHeartbeats 1000000 in
set_option maxRecDepth 20000 in
theorem iFixedCards_yes (f : Nat → Int) (w : World) (h : mapB f = true) : Calls Try.prog 18 #[mpv f] w (RetIT w true (fixL (imgC f) 81)) := by
  have hV := hid (IsMap_any f)
  rw [h] at hV
  have hT0 := fun c (hc : isCard c = true) w' => image_any f c h hc w'
  obtain ⟨im, him⟩ : ∃ im, im = imgC f := ⟨_, rfl⟩
  rw [← him] at hT0 ⊢
  have hT := hid hT0
  obtain ⟨W, hW⟩ : ∃ W, W = w.alloc (.cells #[.int .i64 (f 0), .int .i64 (f 1), .int .i64 (f 2), .int .i64 (f 3), .int .i64 (f 4), .int .i64 (f 5), .int .i64 (f 6), .int .i64 (f 7), .int .i64 (f 8), .int .i64 (f 9), .int .i64 (f 10), .int .i64 (f 11), .int .i64 (f 12), .int .i64 (f 13), .int .i64 (f 14), .int .i64 (f 15)] 35) := ⟨_, rfl⟩
  have hM := hid (fun w' (hk : Kept W w') => (show BoxM W w.heap.size f by rw [hW]; exact BoxM.new f rfl).kept hk)
  have kw := hid (show Kept w W by rw [hW]; exact (by (try simp only [ext_ext]); repeat (first | exact Kept.refl _ | apply Kept.alloc | apply Kept.drew | apply kept_add | apply Kept.ext)))
  have hWs := hid (show W.heap.size = w.heap.size + 1 by rw [hW]; simp)
  have hWH := hid hW
  clear h hT0 him hW
  go_enter Try.func18, Try.ntmps18
  go_wp2_with (first | (go_at_call 41; refine Calls.mono (hV.out _) ?_; rintro e w' ⟨rfl, y, rfl⟩))
  rw [← hWH.out]
  have hsz := hWs.out
  have hz0H := hid (show OwnI (w.heap.size + 1) ((ext W y).alloc (.cells #[] 3)) (.slice (some ⟨w.heap.size + 1 + y.os.length, 0, none⟩) 0 0) [] from ownI_nil (by omega) (heap_at (by simp; omega)))
  go_loopw [11, 4] (fun s11 s4 wr => ∃ k : Nat, k ≤ 81 ∧ s11 = .int .i64 (k : Int) ∧ OwnI (w.heap.size + 1) wr s4 (fixL im k) ∧ Kept W wr) (fun s11 _ _ => 81 - (intOf s11).toNat)
  case atStart => exact ⟨0, by omega, rfl, hz0H.out, (by (try simp only [ext_ext]); repeat (first | exact Kept.refl _ | apply Kept.alloc | apply Kept.drew | apply kept_add | apply Kept.ext))⟩
  case round =>
    obtain ⟨w0, hw0⟩ : ∃ w0, w0 = wr := ⟨_, rfl⟩
    subst hw0
    obtain ⟨k, hk, rfl, hown, hkw⟩ := hrel
    have hownH := hid hown
    have hkwH := hid hkw
    have hM0 := hM.out w0 hkw
    have hgs := hM0.1
    obtain ⟨m0, m1, m2, m3, m4, m5, m6, m7, m8, m9, m10, m11, m12, m13, m14, m15⟩ := hM0.cells
    have hnx := hid (fixL_next im k)
    have hll := hid (fixL_len im k)
    obtain ⟨ao, cap, rfl, _, _⟩ := hown.reads
    have hws : w.heap.size + 1 ≤ w0.heap.size := by have := hkw.below.size; have := hWs.out; omega
    clear hown hkw hM0
    by_cases hlt : k < 81
    · have hA := hid (fun w' => card_any (k : Int) (by omega) (by omega) w')
      have hxC := isCard_cardN (n := (k : Int)) (by omega) (by omega)
      obtain ⟨x, hx⟩ : ∃ x, x = cardN (k : Int) := ⟨_, rfl⟩
      rw [← hx] at hA hxC hnx
      clear hx
      have hTx := hid (fun w' => hT.out x hxC w')
      obtain ⟨y1, hy1⟩ : ∃ y1, y1 = im x := ⟨_, rfl⟩
      rw [← hy1] at hTx hnx
      clear hy1
      cases hd : decide (y1 = x) with
      | true =>
        rw [hd] at hnx
        have hn2 := hid (show fixL im (k + 1) = fixL im k ++ [(k : Int)] by rw [hnx.out]; rfl)
        go_wp2_with (first | (refine wp_region_ext (by kernel_rfl) (by kernel_rfl) ?_; (repeat (go_big_quiet_step ((first | (go_at_call 45; first | exact ext_call (hA.out _) | exact ext_call2 (hA.out _)) | (go_at_call 46; first | exact ext_call (hTx.out _) | exact ext_call2 (hTx.out _)))))); refine wpQuiet_end fun z => ?_) | (go_at_call 45; refine Calls.mono (hA.out _) ?_; rintro e w' ⟨rfl, y, rfl⟩) | (at_builtin; refine wpList_append_int rfl _ _ rfl W (w.heap.size + 1) _ _ rfl (hownH.out.kept (by (try simp only [ext_ext]); repeat (first | exact Kept.refl _ | apply Kept.alloc | apply Kept.drew | apply kept_add | apply Kept.ext))) (hkwH.out.trans (by (try simp only [ext_ext]); repeat (first | exact Kept.refl _ | apply Kept.alloc | apply Kept.drew | apply kept_add | apply Kept.ext))) (by have := hWs.out; omega) (by simp; omega) _ _ (k : Int) rfl (cell_of_row _ _ 0 _ _ (0, 0) (heap_at (by simp))) (by have := hll.out; omega) ?_; intro v' w' hown' hkw' hgr' hat'))
        go_roundw
        case rel => exact ⟨k + 1, by omega, by go_num, by rw [hn2.out]; exact hown', hkw'⟩
        case measure => simp [intOf]; omega
      | false =>
        rw [hd] at hnx
        have hn2 := hid (show fixL im (k + 1) = fixL im k by rw [hnx.out]; simp)
        go_wp2_with (first | (refine wp_region_ext (by kernel_rfl) (by kernel_rfl) ?_; (repeat (go_big_quiet_step ((first | (go_at_call 45; first | exact ext_call (hA.out _) | exact ext_call2 (hA.out _)) | (go_at_call 46; first | exact ext_call (hTx.out _) | exact ext_call2 (hTx.out _)))))); refine wpQuiet_end fun z => ?_) | (go_at_call 45; refine Calls.mono (hA.out _) ?_; rintro e w' ⟨rfl, y, rfl⟩))
        go_roundw
        case rel => exact ⟨k + 1, by omega, by go_num, by rw [hn2.out]; exact hownH.out.kept (by (try simp only [ext_ext]); repeat (first | exact Kept.refl _ | apply Kept.alloc | apply Kept.drew | apply kept_add | apply Kept.ext)), hkwH.out.trans (by (try simp only [ext_ext]); repeat (first | exact Kept.refl _ | apply Kept.alloc | apply Kept.drew | apply kept_add | apply Kept.ext))⟩
        case measure => simp [intOf]; omega
    · obtain rfl : k = 81 := by omega
      go_wp2
      refine bodyPost_ret (v := .tuple #[.slice ao (fixL im 81).length cap, .bool true]) (by simp [results, Try.results18, go_sem]) rfl ?_
      exact ⟨_, rfl, (hownH.out.kept (by (try simp only [ext_ext]); repeat (first | exact Kept.refl _ | apply Kept.alloc | apply Kept.drew | apply kept_add | apply Kept.ext))).mono (by omega), (kw.out.trans hkwH.out).trans (by (try simp only [ext_ext]); repeat (first | exact Kept.refl _ | apply Kept.alloc | apply Kept.drew | apply kept_add | apply Kept.ext))⟩
theorem twoFixedCards (f : Nat → Int) : ∃ ok ls, (∀ w, Calls Try.prog 17 #[mpv f] w (RetIT w ok ls)) ∧ (∀ w, Calls Try.prog 18 #[mpv f] w (RetIT w ok ls)) ∧ ls.length ≤ 1048576 := by
  cases h : mapB f with
  | false => exact ⟨false, [], fun w => sFixedCards_no f w h, fun w => iFixedCards_no f w h, by simp⟩
  | true => exact ⟨true, _, fun w => sFixedCards_yes f w h, fun w => iFixedCards_yes f w h, by have := fixL_len (imgC f) 81; omega⟩
set_option maxHeartbeats 1000000 in
set_option maxRecDepth 20000 in
theorem walk_FnExactFixedCards (f : Nat → Int) (w : World) : Calls Try.prog 5 #[mpv f] w fun e w' => e = .returned (.bool true) ∧ Kept w w' := by
  obtain ⟨ok, ls, hS, hI, hll⟩ := twoFixedCards f
  have hSH := hid hS
  have hIH := hid hI
  have hT := hid (toMap_any f)
  have p2 : ¬ ((1 : Int) + (ls.length : Int) < 0) := by omega
  have hM := hid (fun w' (hk : Kept (w.alloc (.cells #[.int .i64 (f 0), .int .i64 (f 1), .int .i64 (f 2), .int .i64 (f 3), .int .i64 (f 4), .int .i64 (f 5), .int .i64 (f 6), .int .i64 (f 7), .int .i64 (f 8), .int .i64 (f 9), .int .i64 (f 10), .int .i64 (f 11), .int .i64 (f 12), .int .i64 (f 13), .int .i64 (f 14), .int .i64 (f 15)] 33)) w') => (BoxM.new (t := 33) f (rfl : w.heap.size = w.heap.size)).kept hk)
  have KB := hid (show Kept w (w.alloc (.cells #[.int .i64 (f 0), .int .i64 (f 1), .int .i64 (f 2), .int .i64 (f 3), .int .i64 (f 4), .int .i64 (f 5), .int .i64 (f 6), .int .i64 (f 7), .int .i64 (f 8), .int .i64 (f 9), .int .i64 (f 10), .int .i64 (f 11), .int .i64 (f 12), .int .i64 (f 13), .int .i64 (f 14), .int .i64 (f 15)] 33)) from (by (try simp only [ext_ext]); repeat (first | exact Kept.refl _ | apply Kept.alloc | apply Kept.drew | apply kept_add | apply Kept.ext)))
  clear hS hI
  go_enter Try.func5, Try.ntmps5
  go_wp2_with (first | (go_at_call 15; refine Calls.mono (hT.out _) ?_; rintro e w' ⟨rfl, y, rfl⟩))
  (go_at_call 17; refine Calls.mono (hSH.out _) ?_; rintro e w2 ⟨v2, rfl, ho2, k2⟩)
  have K2 : Kept (w.alloc (.cells #[.int .i64 (f 0), .int .i64 (f 1), .int .i64 (f 2), .int .i64 (f 3), .int .i64 (f 4), .int .i64 (f 5), .int .i64 (f 6), .int .i64 (f 7), .int .i64 (f 8), .int .i64 (f 9), .int .i64 (f 10), .int .i64 (f 11), .int .i64 (f 12), .int .i64 (f 13), .int .i64 (f 14), .int .i64 (f 15)] 33)) w2 := Kept.trans (by (try simp only [ext_ext]); repeat (first | exact Kept.refl _ | apply Kept.alloc | apply Kept.drew | apply kept_add | apply Kept.ext)) k2
  have hM2 := hM.out _ K2
  have hg2 := hM2.1
  obtain ⟨m0, m1, m2, m3, m4, m5, m6, m7, m8, m9, m10, m11, m12, m13, m14, m15⟩ := hM2.cells
  clear hM2 k2
  go_wp2_with (first | (go_at_call 15; refine Calls.mono (hT.out _) ?_; rintro e w' ⟨rfl, y, rfl⟩))
  (go_at_call 18; refine Calls.mono (hIH.out _) ?_; rintro e w4 ⟨v4, rfl, ho4, k4⟩)
  have k24 : Kept w2 w4 := Kept.trans (by (try simp only [ext_ext]); repeat (first | exact Kept.refl _ | apply Kept.alloc | apply Kept.drew | apply kept_add | apply Kept.ext)) k4
  have ho4 := ho4.mono (B' := w2.heap.size) (show Kept w2 _ from (by (try simp only [ext_ext]); repeat (first | exact Kept.refl _ | apply Kept.alloc | apply Kept.drew | apply kept_add | apply Kept.ext))).below.size
  clear m0 m1 m2 m3 m4 m5 m6 m7 m8 m9 m10 m11 m12 m13 m14 m15 hg2 k4
  have n24 : ∀ g, v2.ownBlock = some g → v4.ownBlock ≠ some g := fun g h h' => by have := (ho2.lt g h).2; have := (ho4.lt g h').1; omega
  go_wp2_with (fail)
  (go_at_call 19; refine Calls.mono (eqI_any _ _ _ _ _ _ ho4 (ho2.kept k24) hll) ?_; rintro e w5 ⟨rfl, k5⟩)
  go_wp2_with (fail)
  (go_at_call 20; refine Calls.mono (markIntS_any _ _ _ _ 1 _ (ho4.kept k5) hll (by decide) (by decide)) ?_; rintro e w10 ⟨rfl, ho10, g10⟩)
  have hb4 : (w.alloc (.cells #[.int .i64 (f 0), .int .i64 (f 1), .int .i64 (f 2), .int .i64 (f 3), .int .i64 (f 4), .int .i64 (f 5), .int .i64 (f 6), .int .i64 (f 7), .int .i64 (f 8), .int .i64 (f 9), .int .i64 (f 10), .int .i64 (f 11), .int .i64 (f 12), .int .i64 (f 13), .int .i64 (f 14), .int .i64 (f 15)] 33)).heap.size ≤ w2.heap.size := K2.below.size
  have K10 : Kept (w.alloc (.cells #[.int .i64 (f 0), .int .i64 (f 1), .int .i64 (f 2), .int .i64 (f 3), .int .i64 (f 4), .int .i64 (f 5), .int .i64 (f 6), .int .i64 (f 7), .int .i64 (f 8), .int .i64 (f 9), .int .i64 (f 10), .int .i64 (f 11), .int .i64 (f 12), .int .i64 (f 13), .int .i64 (f 14), .int .i64 (f 15)] 33)) w10 := (((K2.trans k24).trans k5).grown g10 fun b hb => by have := (ho4.lt b hb).1; omega)
  have ho2m := ((ho2.kept (k24.trans k5)).grown g10 n24)
  go_wp2_with (fail)
  (go_at_call 21; refine Calls.mono (heldIntS_any _ _ _ 1 _ ho10 hll (by decide) (by decide)) ?_; rintro e w11 ⟨rfl, k11⟩)
  have hM11 := hM.out _ (K10.trans k11)
  have hg11 := hM11.1
  obtain ⟨m0, m1, m2, m3, m4, m5, m6, m7, m8, m9, m10, m11, m12, m13, m14, m15⟩ := hM11.cells
  clear hM11
  go_wp2_with (first | (go_at_call 15; refine Calls.mono (hT.out _) ?_; rintro e w' ⟨rfl, y, rfl⟩))
  (go_at_call 18; refine Calls.mono (hIH.out _) ?_; rintro e w13 ⟨v13, rfl, ho13, k13⟩)
  have k1113 : Kept w11 w13 := Kept.trans (by (try simp only [ext_ext]); repeat (first | exact Kept.refl _ | apply Kept.alloc | apply Kept.drew | apply kept_add | apply Kept.ext)) k13
  clear m0 m1 m2 m3 m4 m5 m6 m7 m8 m9 m10 m11 m12 m13 m14 m15 hg11 k13
  go_wp2_with (fail)
  (go_at_call 19; refine Calls.mono (eqI_any _ _ _ _ _ _ ho13 ((ho2m.kept k11).kept k1113) hll) ?_; rintro e w14 ⟨rfl, k14⟩)
  go_wp2_with (fail)
  (go_at_call 21; refine Calls.mono (heldIntS_any _ _ _ 1 _ (row_kept ho10 (k11.trans (k1113.trans k14))) hll (by decide) (by decide)) ?_; rintro e w15 ⟨rfl, k15⟩)
  go_wp2_with (fail)
  go_ret
  exact ⟨rfl, KB.out.trans (K10.trans (k11.trans (k1113.trans (k14.trans k15))))⟩
end Go.Proofs.Ytjlaoocomkonhaa
