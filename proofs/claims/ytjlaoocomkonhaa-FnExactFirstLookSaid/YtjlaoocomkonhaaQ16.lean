/- Walk: the law of MapHand. -/
import Derived.Test.YtjlaoocomkonhaaQ15
import Derived.Test.YtjlaoocomkonhaaQ10
import Derived.Test.YtjlaoocomkonhaaQ04
import Derived.Deep.CutRange
namespace Go.Proofs.Ytjlaoocomkonhaa
open Go.RowKit
set_option maxHeartbeats 1000000 in
set_option maxRecDepth 20000 in
theorem l5Hand_any (f : Nat → Int) (ao : Option Addr) (cap n : Nat) (xs : List Card) (w : World) (hm : mapB f = true) (hx : CardsAt w ao xs) (hn : xs.length = n) (hl : n ≤ 27) (hc : ∀ c ∈ xs, isCard c = true) (hnd : xs.Nodup) :
    Calls Try.prog 27 #[mpv f, .slice ao n cap] w (RetP w (imgL f xs)) := by
  have hT0 := fun c (hc : isCard c = true) w' => l5Card_any f c hm hc w'
  have hcm := fun k => map_cards hm (xs := xs.take k) (fun c h => hc c (List.mem_of_mem_take h))
  have hnm := fun k => map_nodup hm (xs := xs.take k) (fun c h => hc c (List.mem_of_mem_take h)) (hnd.sublist (List.take_sublist _ _))
  have hyc := fun c (h : isCard c = true) => isCard_img hm h
  obtain ⟨im, him⟩ : ∃ im, im = imgC f := ⟨_, rfl⟩
  have hL := hid (show imgL f xs = srt (xs.map im) by rw [him]; rfl)
  rw [← him] at hT0 hcm hnm hyc
  rw [hL.out]
  have hT := hid hT0
  have hcmH := hid hcm
  have hycH := hid hyc
  have hlenH := hid (fun k (h : k ≤ n) => show (srt ((xs.take k).map im)).length = k by rw [srt_len_nodup (hcm k) (hnm k), List.length_map, List.length_take]; omega)
  obtain ⟨W, hW⟩ : ∃ W, W = w.alloc (.cells #[.int .i64 (f 0), .int .i64 (f 1), .int .i64 (f 2), .int .i64 (f 3), .int .i64 (f 4), .int .i64 (f 5), .int .i64 (f 6), .int .i64 (f 7), .int .i64 (f 8), .int .i64 (f 9), .int .i64 (f 10), .int .i64 (f 11), .int .i64 (f 12), .int .i64 (f 13), .int .i64 (f 14), .int .i64 (f 15)] 35) := ⟨_, rfl⟩
  have hM := hid (fun w' (hk : Kept W w') => (show BoxM W w.heap.size f by rw [hW]; exact BoxM.new f rfl).kept hk)
  have kw := hid (show Kept w W by rw [hW]; exact (by (try simp only [ext_ext]); repeat (first | exact Kept.refl _ | apply Kept.alloc | apply Kept.drew | apply kept_add | apply Kept.ext)))
  have hWs := hid (show W.heap.size = w.heap.size + 1 by rw [hW]; simp)
  have hWH := hid hW
  have hxH := hid (hx.kept kw.out)
  have hnH := hid hn
  have hcH := hid hc
  clear hm hT0 him hW hx hn hc hnd hcm hnm hyc
  go_enter Try.func27, Try.ntmps27
  go_wp2_with (fail)
  rw [← hWH.out]
  have hz0H := hid (show OwnC W.heap.size (W.alloc (.cells #[] T4)) (.slice (some ⟨w.heap.size + 1, 0, none⟩) 0 0) (srt ((xs.take 0).map im)) by
    rw [List.take_zero, List.map_nil, srt_nil2]; exact ownC_nil (by have := hWs.out; omega) (heap_at (by rw [hWs.out])))
  go_loopw [6, 5] (fun s6 s5 wr => ∃ k : Nat, k ≤ n ∧ s6 = .int .i64 (k : Int) ∧ (∃ g cap, s5 = .slice (some ⟨g, 0, none⟩) k cap) ∧ OwnC W.heap.size wr s5 (srt ((xs.take k).map im)) ∧ Kept W wr) (fun s6 _ _ => n - (intOf s6).toNat)
  case atStart => exact ⟨0, by omega, rfl, ⟨_, _, rfl⟩, hz0H.out, (by (try simp only [ext_ext]); repeat (first | exact Kept.refl _ | apply Kept.alloc | apply Kept.drew | apply kept_add | apply Kept.ext))⟩
  case round =>
    obtain ⟨w0, hw0⟩ : ∃ w0, w0 = wr := ⟨_, rfl⟩
    subst hw0
    obtain ⟨k, hk, rfl, ⟨g5, cap5, rfl⟩, hown, hkw⟩ := hrel
    have hownH := hid hown
    have hkwH := hid hkw
    by_cases hlt : k < n
    · have hM0 := hM.out w0 hkw
      have hgs := hM0.1
      obtain ⟨m0, m1, m2, m3, m4, m5, m6, m7, m8, m9, m10, m11, m12, m13, m14, m15⟩ := hM0.cells
      obtain ⟨g, off, rfl, hg, a1, a2, a3, a4⟩ := (hxH.out.kept hkw) k (by rw [hnH.out]; exact hlt)
      have hck := hcH.out _ (cx_mem (by rw [hnH.out]; exact hlt : k < xs.length))
      have hy1c := hycH.out _ hck
      have hnx := hid (show (xs.take (k + 1)).map im = (xs.take k).map im ++ [im (cx xs k)] by rw [take_cx xs k (by rw [hnH.out]; exact hlt), List.map_append]; rfl)
      have hTx := hid (fun w' => hT.out (cx xs k) hck w')
      obtain ⟨y1, hy1⟩ : ∃ y1, y1 = im (cx xs k) := ⟨_, rfl⟩
      rw [← hy1] at hTx hnx hy1c
      have hnx2 := hid (show srt (y1 :: srt ((xs.take k).map im)) = srt ((xs.take (k + 1)).map im) by rw [hnx.out]; exact srt_put2 (hcmH.out k) y1)
      obtain ⟨_, _, hv, hx5, hcap5⟩ := hown.reads
      rw [hlenH.out k hk] at hcap5
      rw [hlenH.out k hk] at hv
      cases hv
      have hP := hid (fun w' (hk' : Kept w0 w') => l2Put_any g5 0 cap5 k (srt ((xs.take k).map im)) y1 w' (hx5.kept hk') (hlenH.out k hk) (fun c hc => hcmH.out k c ((srt_mem (hcmH.out k) c).1 hc)) (srt_asc _) hy1c (by omega) hcap5)
      rw [hnx2.out] at hP
      have hlen2 := hid (hlenH.out (k + 1) (by omega))
      obtain ⟨L2, hL2⟩ : ∃ L2, L2 = srt ((xs.take (k + 1)).map im) := ⟨_, rfl⟩
      rw [← hL2] at hP hlen2
      have hL2H := hid hL2
      clear hL2
      clear hy1 hown hkw hM0 hx5
      go_wp2_with (first | (refine wp_region_ext_tail 7 (by kernel_rfl) (by kernel_rfl) ?_; simp only [List.take_succ_cons, List.take_zero, List.drop_succ_cons, List.drop_zero]; (repeat (go_big_quiet_step (((go_at_call 43; first | exact ext_call (hTx.out _) | exact ext_call2 (hTx.out _)))))); refine wpQuiet_tail fun z => ?_) | (go_at_call 52; refine Calls.mono (hP.out _ (by (try simp only [ext_ext]); repeat (first | assumption | exact Kept.refl _ | apply Kept.alloc | apply Kept.drew | apply kept_add | apply Kept.ext))) ?_; rintro e w9 ⟨g9, cap9, rfl, ho9, k9⟩; rw [hlen2.out] at ho9 ⊢))
      have ho9' := OwnC.mono (B' := W.heap.size) ho9 (hkwH.out.trans (show Kept w0 _ from (by (try simp only [ext_ext]); repeat (first | assumption | exact Kept.refl _ | apply Kept.alloc | apply Kept.drew | apply kept_add | apply Kept.ext)))).below.size
      rw [hL2H.out] at ho9'
      go_roundw
      case rel => exact ⟨k + 1, by omega, by go_num, ⟨_, _, rfl⟩, ho9', hkwH.out.trans (Kept.trans (by (try simp only [ext_ext]); repeat (first | assumption | exact Kept.refl _ | apply Kept.alloc | apply Kept.drew | apply kept_add | apply Kept.ext)) k9)⟩
      case measure => simp [intOf]; omega
    · obtain rfl : k = n := by omega
      have hfull := hid (show xs.take k = xs by rw [List.take_of_length_le (by rw [hnH.out]; omega)])
      have hlen := hid (hlenH.out k (Nat.le_refl _))
      rw [hfull.out] at hlen hownH
      clear hown hkw
      go_wp2
      refine bodyPost_ret (v := .slice (some ⟨g5, 0, none⟩) k cap5) (by simp [results, Try.results27, go_sem]) rfl ?_
      exact ⟨g5, cap5, by rw [hlen.out], by rw [hlen.out]; exact OwnC.mono (hownH.out.kept (by (try simp only [ext_ext]); repeat (first | exact Kept.refl _ | apply Kept.alloc | apply Kept.drew | apply kept_add | apply Kept.ext))) kw.out.below.size, (kw.out.trans hkwH.out).trans (by (try simp only [ext_ext]); repeat (first | exact Kept.refl _ | apply Kept.alloc | apply Kept.drew | apply kept_add | apply Kept.ext))⟩
def mhB (f : Nat → Int) (xs : List Card) : Bool := mapB f && isHand xs
theorem hand_cards {xs : List Card} (h : isHand xs = true) : ∀ c ∈ xs, isCard c = true := fun c hc => by
  obtain ⟨i, hi, rfl⟩ := List.getElem_of_mem hc
  have := areC_hand h i hi
  rwa [cx_get _ _ hi] at this
theorem hand_nodup {xs : List Card} (h : isHand xs = true) : xs.Nodup := nodup_dist.2 (distC_hand h)
theorem sMapHand_no (f : Nat → Int) (ao : Option Addr) (xs : List Card) (cap : Nat) (w : World) (hx : CardsAt w ao xs) (hn : xs.length ≤ 1048576) (h : mhB f xs = false) : Calls Try.prog 14 #[mpv f, .slice ao xs.length cap] w (RetCT w false []) := by
  have hM := hid (l5Map_any f)
  cases hm : mapB f with
  | false =>
    rw [hm] at hM
    go_enter Try.func14, Try.ntmps14
    go_wp2_with (first | (go_at_call 38; refine Calls.mono (hM.out _) ?_; rintro e w' ⟨rfl, y, rfl⟩))
    refine bodyPost_ret (v := .tuple #[.slice (some ⟨w.heap.size + 1 + y.os.length, 0, none⟩) 0 0, .bool false]) (by simp [results, Try.results14, go_sem]) rfl ?_
    exact ⟨_, rfl, ownC_nil (by omega) (heap_at (by simp)), (by (try simp only [ext_ext]); repeat (first | exact Kept.refl _ | apply Kept.alloc | apply Kept.drew | apply kept_add | apply Kept.ext))⟩
  | true =>
    have hh : isHand xs = false := by unfold mhB at h; rw [hm, Bool.true_and] at h; exact h
    have hH := hid (fun w' (hk : Kept w w') => l2Hand_any ao cap xs w' (hx.kept hk) hn)
    rw [hm] at hM
    rw [hh] at hH
    go_enter Try.func14, Try.ntmps14
    go_wp2_with (first | (go_at_call 38; refine Calls.mono (hM.out _) ?_; rintro e w' ⟨rfl, y1, rfl⟩) | (go_at_call 39; refine Calls.mono (hH.out _ ((by (try simp only [ext_ext]); repeat (first | exact Kept.refl _ | apply Kept.alloc | apply Kept.drew | apply kept_add | apply Kept.ext)))) ?_; rintro e w' ⟨rfl, y, rfl⟩))
    refine bodyPost_ret (v := .tuple #[.slice (some ⟨w.heap.size + 1 + (y1.add y).os.length, 0, none⟩) 0 0, .bool false]) (by simp [results, Try.results14, go_sem]) rfl ?_
    exact ⟨_, rfl, ownC_nil (by omega) (heap_at (by simp)), (by (try simp only [ext_ext]); repeat (first | exact Kept.refl _ | apply Kept.alloc | apply Kept.drew | apply kept_add | apply Kept.ext))⟩
theorem sMapHand_yes (f : Nat → Int) (ao : Option Addr) (xs : List Card) (cap : Nat) (w : World) (hx : CardsAt w ao xs) (h : mhB f xs = true) : Calls Try.prog 14 #[mpv f, .slice ao xs.length cap] w (RetCT w true (imgL f xs)) := by
  obtain ⟨hm, hh⟩ : mapB f = true ∧ isHand xs = true := by unfold mhB at h; rwa [Bool.and_eq_true] at h
  have hl := (isHand_of hh).1
  have hM := hid (l5Map_any f)
  have hH := hid (fun w' (hk : Kept w w') => l2Hand_any ao cap xs w' (hx.kept hk) (by omega))
  have hI := hid (fun w' (hk : Kept w w') => l5Hand_any f ao cap xs.length xs w' hm (hx.kept hk) rfl hl (hand_cards hh) (hand_nodup hh))
  rw [hm] at hM
  rw [hh] at hH
  obtain ⟨L, hL⟩ : ∃ L, L = imgL f xs := ⟨_, rfl⟩
  rw [← hL] at hI ⊢
  clear hL h hm hh
  go_enter Try.func14, Try.ntmps14
  go_wp2_with (first | (go_at_call 38; refine Calls.mono (hM.out _) ?_; rintro e w' ⟨rfl, y, rfl⟩) | (go_at_call 39; refine Calls.mono (hH.out _ ((by (try simp only [ext_ext]); repeat (first | exact Kept.refl _ | apply Kept.alloc | apply Kept.drew | apply kept_add | apply Kept.ext)))) ?_; rintro e w' ⟨rfl, y, rfl⟩))
  (go_at_call 27; refine Calls.mono (hI.out _ (by (try simp only [ext_ext]); repeat (first | exact Kept.refl _ | apply Kept.alloc | apply Kept.drew | apply kept_add | apply Kept.ext))) ?_; rintro e w9 ⟨g9, cap9, rfl, ho9, k9⟩)
  have K9 := hid (show Kept w w9 from Kept.trans (by (try simp only [ext_ext]); repeat (first | exact Kept.refl _ | apply Kept.alloc | apply Kept.drew | apply kept_add | apply Kept.ext)) k9)
  have ho9H := hid (OwnC.mono (B' := w.heap.size) ho9 (show Kept w _ from (by (try simp only [ext_ext]); repeat (first | exact Kept.refl _ | apply Kept.alloc | apply Kept.drew | apply kept_add | apply Kept.ext))).below.size)
  clear ho9 k9
  go_wp2_with (fail)
  refine bodyPost_ret (v := .tuple #[.slice (some ⟨g9, 0, none⟩) L.length cap9, .bool true]) (by simp [results, Try.results14, go_sem]) rfl ?_
  exact ⟨_, rfl, ho9H.out, K9.out.trans (by (try simp only [ext_ext]); repeat (first | exact Kept.refl _ | apply Kept.alloc | apply Kept.drew | apply kept_add | apply Kept.ext))⟩
theorem iMapHand_no (f : Nat → Int) (ao : Option Addr) (xs : List Card) (cap : Nat) (w : World) (hx : CardsAt w ao xs) (hn : xs.length ≤ 1048576) (h : mhB f xs = false) : Calls Try.prog 16 #[mpv f, .slice ao xs.length cap] w (RetCT w false []) := by
  have hM := hid (IsMap_any f)
  cases hm : mapB f with
  | false =>
    rw [hm] at hM
    go_enter Try.func16, Try.ntmps16
    go_wp2_with (first | (go_at_call 41; refine Calls.mono (hM.out _) ?_; rintro e w' ⟨rfl, y, rfl⟩))
    refine bodyPost_ret (v := .tuple #[.slice none 0 0, .bool false]) (by simp [results, Try.results16, go_sem]) rfl ?_
    exact ⟨_, rfl, ownC_none _ _, (by (try simp only [ext_ext]); repeat (first | exact Kept.refl _ | apply Kept.alloc | apply Kept.drew | apply kept_add | apply Kept.ext))⟩
  | true =>
    have hh : isHand xs = false := by unfold mhB at h; rw [hm, Bool.true_and] at h; exact h
    have hH := hid (fun w' (hk : Kept w w') => IsHand_any ao cap xs w' (hx.kept hk) hn)
    rw [hm] at hM
    rw [hh] at hH
    go_enter Try.func16, Try.ntmps16
    go_wp2_with (first | (go_at_call 41; refine Calls.mono (hM.out _) ?_; rintro e w' ⟨rfl, y1, rfl⟩) | (go_at_call 42; refine Calls.mono (hH.out _ ((by (try simp only [ext_ext]); repeat (first | exact Kept.refl _ | apply Kept.alloc | apply Kept.drew | apply kept_add | apply Kept.ext)))) ?_; rintro e w' ⟨rfl, y, rfl⟩))
    refine bodyPost_ret (v := .tuple #[.slice none 0 0, .bool false]) (by simp [results, Try.results16, go_sem]) rfl ?_
    exact ⟨_, rfl, ownC_none _ _, (by (try simp only [ext_ext]); repeat (first | exact Kept.refl _ | apply Kept.alloc | apply Kept.drew | apply kept_add | apply Kept.ext))⟩
theorem iMapHand_yes (f : Nat → Int) (ao : Option Addr) (xs : List Card) (cap : Nat) (w : World) (hx : CardsAt w ao xs) (h : mhB f xs = true) : Calls Try.prog 16 #[mpv f, .slice ao xs.length cap] w (RetCT w true (imgL f xs)) := by
  obtain ⟨hm, hh⟩ : mapB f = true ∧ isHand xs = true := by unfold mhB at h; rwa [Bool.and_eq_true] at h
  have hl := (isHand_of hh).1
  have hM := hid (IsMap_any f)
  have hH := hid (fun w' (hk : Kept w w') => IsHand_any ao cap xs w' (hx.kept hk) (by omega))
  have hI := hid (fun w' (hk : Kept w w') => images_any f ao cap xs.length xs w' hm (hx.kept hk) rfl hl (hand_cards hh) (hand_nodup hh))
  rw [hm] at hM
  rw [hh] at hH
  obtain ⟨L, hL⟩ : ∃ L, L = imgL f xs := ⟨_, rfl⟩
  rw [← hL] at hI ⊢
  clear hL h hm hh
  go_enter Try.func16, Try.ntmps16
  go_wp2_with (first | (go_at_call 41; refine Calls.mono (hM.out _) ?_; rintro e w' ⟨rfl, y, rfl⟩) | (go_at_call 42; refine Calls.mono (hH.out _ ((by (try simp only [ext_ext]); repeat (first | exact Kept.refl _ | apply Kept.alloc | apply Kept.drew | apply kept_add | apply Kept.ext)))) ?_; rintro e w' ⟨rfl, y, rfl⟩))
  (go_at_call 34; refine Calls.mono (hI.out _ (by (try simp only [ext_ext]); repeat (first | exact Kept.refl _ | apply Kept.alloc | apply Kept.drew | apply kept_add | apply Kept.ext))) ?_; rintro e w9 ⟨g9, cap9, rfl, ho9, k9⟩)
  have K9 := hid (show Kept w w9 from Kept.trans (by (try simp only [ext_ext]); repeat (first | exact Kept.refl _ | apply Kept.alloc | apply Kept.drew | apply kept_add | apply Kept.ext)) k9)
  have ho9H := hid (OwnC.mono (B' := w.heap.size) ho9 (show Kept w _ from (by (try simp only [ext_ext]); repeat (first | exact Kept.refl _ | apply Kept.alloc | apply Kept.drew | apply kept_add | apply Kept.ext))).below.size)
  clear ho9 k9
  go_wp2_with (fail)
  refine bodyPost_ret (v := .tuple #[.slice (some ⟨g9, 0, none⟩) L.length cap9, .bool true]) (by simp [results, Try.results16, go_sem]) rfl ?_
  exact ⟨_, rfl, ho9H.out, K9.out.trans (by (try simp only [ext_ext]); repeat (first | exact Kept.refl _ | apply Kept.alloc | apply Kept.drew | apply kept_add | apply Kept.ext))⟩
set_option maxHeartbeats 2000000 in
set_option maxRecDepth 20000 in
theorem walk_FnExactMapHand (f : Nat → Int) (ao : Option Addr) (xs : List Card) (cap : Nat) {w : World} (hx : CardsAt w ao xs) (hl : xs.length ≤ maxLen) (_ : World) :
    Calls Try.prog 4 #[mpv f, .slice ao xs.length cap] w fun e w' => e = .returned (.bool true) ∧ Kept w w' := by
  have hl' : xs.length ≤ 9223372036854775807 := by unfold maxLen at hl; omega
  by_cases hn : xs.length ≤ 1048576
  · obtain ⟨ok, ls, hS, hI, hll⟩ : ∃ ok ls, (∀ ao cap w, CardsAt w ao xs → Calls Try.prog 14 #[mpv f, .slice ao xs.length cap] w (RetCT w ok ls)) ∧ (∀ ao cap w, CardsAt w ao xs → Calls Try.prog 16 #[mpv f, .slice ao xs.length cap] w (RetCT w ok ls)) ∧ ls.length ≤ 1048576 := by
      cases hg : mhB f xs with
      | false => exact ⟨false, [], fun _ _ _ hx => sMapHand_no _ _ _ _ _ hx hn hg, fun _ _ _ hx => iMapHand_no _ _ _ _ _ hx hn hg, by simp⟩
      | true => exact ⟨true, _, fun _ _ _ hx => sMapHand_yes _ _ _ _ _ hx hg, fun _ _ _ hx => iMapHand_yes _ _ _ _ _ hx hg, by have := srt_len2 (xs.map (imgC f)); unfold imgL; omega⟩
    have p1 : ¬ ((1 : Int) + (xs.length : Int) * 4 < 0) := by omega
    have p2 : ¬ ((1 : Int) + (ls.length : Int) * 4 < 0) := by omega
    have hT := hid (toMap_any f)
    obtain ⟨W, hW⟩ : ∃ W, W = w.alloc (.cells #[.int .i64 (f 0), .int .i64 (f 1), .int .i64 (f 2), .int .i64 (f 3), .int .i64 (f 4), .int .i64 (f 5), .int .i64 (f 6), .int .i64 (f 7), .int .i64 (f 8), .int .i64 (f 9), .int .i64 (f 10), .int .i64 (f 11), .int .i64 (f 12), .int .i64 (f 13), .int .i64 (f 14), .int .i64 (f 15)] 33) := ⟨_, rfl⟩
    have hM := hid (fun w' (hk : Kept W w') => (show BoxM W w.heap.size f by rw [hW]; exact BoxM.new f rfl).kept hk)
    have kw := hid (show Kept w W by rw [hW]; exact (by (try simp only [ext_ext]); repeat (first | exact Kept.refl _ | apply Kept.alloc | apply Kept.drew | apply kept_add | apply Kept.ext)))
    have hWH := hid hW
    have hx0 := hx.kept kw.out
    clear hx hW
    go_enter Try.func4, Try.ntmps4
    go_upto_region 1 with (fail)
    rw [← hWH.out]
    have hMW := hM.out W (Kept.refl W)
    have hgW := hMW.1
    obtain ⟨m0, m1, m2, m3, m4, m5, m6, m7, m8, m9, m10, m11, m12, m13, m14, m15⟩ := hMW.cells
    clear hMW
    go_wp2_with (first | (go_at_call 7; refine Calls.mono (szIntA4S_any _ _ _ hl' _) ?_; rintro e w' ⟨rfl, rfl⟩) | (go_at_call 15; refine Calls.mono (hT.out _) ?_; rintro e w' ⟨rfl, y, rfl⟩))
    (go_at_call 9; refine Calls.mono (toIntA4S_any _ _ _ _ (hx0.kept (by (try simp only [ext_ext]); repeat (first | exact Kept.refl _ | apply Kept.alloc | apply Kept.drew | apply kept_add | apply Kept.ext))) hn) ?_; rintro e w1 ⟨v1, rfl, ho1, k1⟩)
    have k1 : Kept W w1 := Kept.trans (by (try simp only [ext_ext]); repeat (first | exact Kept.refl _ | apply Kept.alloc | apply Kept.drew | apply kept_add | apply Kept.ext)) k1
    clear m0 m1 m2 m3 m4 m5 m6 m7 m8 m9 m10 m11 m12 m13 m14 m15
    obtain ⟨a1, c1, rfl, hx1, hc1⟩ := ho1.reads
    go_wp2_with (fail)
    (go_at_call 14; refine Calls.mono (hS _ _ _ hx1) ?_; rintro e w2 ⟨v2, rfl, ho2, k2⟩)
    have hx2 := hx0.kept (k1.trans k2)
    go_wp2_with (fail)
    (go_at_call 9; refine Calls.mono (toIntA4S_any _ _ _ _ hx2 hn) ?_; rintro e w3 ⟨v3, rfl, ho3, k3⟩)
    obtain ⟨a3, c3, rfl, hx3, hc3⟩ := ho3.reads
    have hMw3 := hM.out w3 (k1.trans (k2.trans k3))
    have hgw3 := hMw3.1
    obtain ⟨m0, m1, m2, m3, m4, m5, m6, m7, m8, m9, m10, m11, m12, m13, m14, m15⟩ := hMw3.cells
    clear hMw3
    go_wp2_with (first | (go_at_call 15; refine Calls.mono (hT.out _) ?_; rintro e w' ⟨rfl, y, rfl⟩))
    (go_at_call 16; refine Calls.mono (hI _ _ _ (hx3.kept (by (try simp only [ext_ext]); repeat (first | exact Kept.refl _ | apply Kept.alloc | apply Kept.drew | apply kept_add | apply Kept.ext)))) ?_; rintro e w4 ⟨v4, rfl, ho4, k4⟩)
    have ho4 := ho4.mono (B' := w3.heap.size) (show Kept w3 _ from (by (try simp only [ext_ext]); repeat (first | exact Kept.refl _ | apply Kept.alloc | apply Kept.drew | apply kept_add | apply Kept.ext))).below.size
    have k4 : Kept w3 w4 := Kept.trans (by (try simp only [ext_ext]); repeat (first | exact Kept.refl _ | apply Kept.alloc | apply Kept.drew | apply kept_add | apply Kept.ext)) k4
    clear m0 m1 m2 m3 m4 m5 m6 m7 m8 m9 m10 m11 m12 m13 m14 m15 hgw3
    have n43 : ∀ g, v4.ownBlock = some g → (Value.slice a3 xs.length c3).ownBlock ≠ some g := fun g h h' => by have := (ho4.lt g h).1; have := (ho3.lt g h').2; omega
    have n23 : ∀ g, v2.ownBlock = some g → (Value.slice a3 xs.length c3).ownBlock ≠ some g := fun g h h' => by have := (ho2.lt g h).2; have := (ho3.lt g h').1; omega
    have n24 : ∀ g, v2.ownBlock = some g → v4.ownBlock ≠ some g := fun g h h' => by have := (ho2.lt g h).2; have := (ho4.lt g h').1; have := k3.below.size; omega
    go_wp2_with (fail)
    (go_at_call 11; refine Calls.mono (eqC_any _ _ _ _ _ _ ho4 ((ho2.kept k3).kept k4) hll) ?_; rintro e w5 ⟨rfl, k5⟩)
    have hx5 := hx2.kept (k3.trans (k4.trans k5))
    go_wp2_with (fail)
    (go_at_call 9; refine Calls.mono (toIntA4S_any _ _ _ _ hx5 hn) ?_; rintro e w6 ⟨v6, rfl, ho6, k6⟩)
    obtain ⟨a6, c6, rfl, hx6, hc6⟩ := ho6.reads
    have hx36 := hx3.kept (k4.trans (k5.trans k6))
    go_wp2_with (fail)
    (go_at_call 11; refine Calls.mono (eqIntA4S_any _ _ _ _ _ _ _ hx36 hx6 hn hn) ?_; rintro e w7 ⟨rfl, k7⟩)
    have K7 : Kept W w7 := k1.trans (k2.trans (k3.trans (k4.trans (k5.trans (k6.trans k7)))))
    have s2 : W.heap.size ≤ w2.heap.size := (k1.trans k2).below.size
    have s3 : W.heap.size ≤ w3.heap.size := (k1.trans (k2.trans k3)).below.size
    go_wp2_with (fail)
    (go_at_call 12; refine Calls.mono (markIntA4S_any _ _ _ _ 1 _ (ho3.kept (k4.trans (k5.trans (k6.trans k7)))) hn (by decide) (by decide)) ?_; rintro e w8 ⟨rfl, _, g8⟩)
    have ho48 := (ho4.kept (k5.trans (k6.trans k7))).grown g8 n43
    have ho28 := (ho2.kept (k3.trans (k4.trans (k5.trans (k6.trans k7))))).grown g8 n23
    have K8 : Kept W w8 := K7.grown g8 fun k hk => Nat.le_trans s2 (ho3.lt k hk).1
    go_wp2_with (fail)
    (go_at_call 11; refine Calls.mono (eqC_any _ _ _ _ _ _ ho48 ho28 hll) ?_; rintro e w9 ⟨rfl, k9⟩)
    go_wp2_with (fail)
    (go_at_call 12; refine Calls.mono (markIntA4S_any _ _ _ _ 1 _ (ho48.kept k9) hll (by decide) (by decide)) ?_; rintro e w10 ⟨rfl, ho10, g10⟩)
    have K10 : Kept W w10 := (K8.trans k9).grown g10 fun k hk => Nat.le_trans s3 (ho4.lt k hk).1
    go_wp2_with (fail)
    (go_at_call 13; refine Calls.mono (heldIntA4S_any _ _ _ 1 _ ho10 hll (by decide) (by decide)) ?_; rintro e w11 ⟨rfl, k11⟩)
    have hx11 := hx0.kept (K10.trans k11)
    have hMw11 := hM.out w11 (K10.trans k11)
    have hgw11 := hMw11.1
    obtain ⟨m0, m1, m2, m3, m4, m5, m6, m7, m8, m9, m10, m11, m12, m13, m14, m15⟩ := hMw11.cells
    clear hMw11
    go_wp2_with (first | (go_at_call 15; refine Calls.mono (hT.out _) ?_; rintro e w' ⟨rfl, y, rfl⟩))
    (go_at_call 9; refine Calls.mono (toIntA4S_any _ _ _ _ (hx11.kept (by (try simp only [ext_ext]); repeat (first | exact Kept.refl _ | apply Kept.alloc | apply Kept.drew | apply kept_add | apply Kept.ext))) hn) ?_; rintro e w12 ⟨v12, rfl, ho12, k12⟩)
    have k12 : Kept w11 w12 := Kept.trans (by (try simp only [ext_ext]); repeat (first | exact Kept.refl _ | apply Kept.alloc | apply Kept.drew | apply kept_add | apply Kept.ext)) k12
    clear m0 m1 m2 m3 m4 m5 m6 m7 m8 m9 m10 m11 m12 m13 m14 m15 hgw11
    obtain ⟨a12, c12, rfl, hx12, hc12⟩ := ho12.reads
    go_wp2_with (fail)
    (go_at_call 16; refine Calls.mono (hI _ _ _ hx12) ?_; rintro e w13 ⟨v13, rfl, ho13, k13⟩)
    have ho213 := (((ho28.kept k9).grown g10 n24).kept (k11.trans (k12.trans k13)))
    go_wp2_with (fail)
    (go_at_call 11; refine Calls.mono (eqC_any _ _ _ _ _ _ ho13 ho213 hll) ?_; rintro e w14 ⟨rfl, k14⟩)
    go_wp2_with (fail)
    (go_at_call 13; refine Calls.mono (heldIntA4S_any _ _ _ 1 _ (row_kept ho10 (k11.trans (k12.trans (k13.trans k14)))) hll (by decide) (by decide)) ?_; rintro e w15 ⟨rfl, k15⟩)
    go_wp2_with (fail)
    go_ret
    exact ⟨rfl, kw.out.trans (K10.trans (k11.trans (k12.trans (k13.trans (k14.trans k15)))))⟩
  · go_enter Try.func4, Try.ntmps4
    go_wp2_with (first | (go_at_call 7; refine Calls.mono (szIntA4S_any _ _ _ hl' _) ?_; rintro e w' ⟨rfl, rfl⟩))
    go_ret
    exact ⟨rfl, (by (try simp only [ext_ext]); repeat (first | exact Kept.refl _ | apply Kept.alloc | apply Kept.drew | apply kept_add | apply Kept.ext))⟩
end Go.Proofs.Ytjlaoocomkonhaa
