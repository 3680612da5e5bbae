/- Walk: the law of OrbitOf. -/
import Derived.Test.YtjlaoocomkonhaaT98
import Derived.Test.YtjlaoocomkonhaaT95
import Derived.Test.YtjlaoocomkonhaaT7
import Derived.Test.YtjlaoocomkonhaaC0
import Derived.Test.YtjlaoocomkonhaaC1
import Derived.Deep.CutRange
import Derived.Deep.RegionHeld
namespace Go.Proofs.Ytjlaoocomkonhaa
open Go.RowKit
def orbB (f : Nat → Int) (c : Card) : Bool := mapB f && isCard c
theorem sOrbitOf_no (f : Nat → Int) (c : Card) (w : World) (h : orbB f c = false) : Calls Try.prog 22 #[mpv f, c.v] w (RetIT w false []) := by
  have hM := hid (l5Map_any f)
  have hC := hid (fun w' => l2Card_any c w')
  cases hm : mapB f with
  | false =>
    rw [hm] at hM
    go_enter Try.func22, Try.ntmps22
    go_wp2_with (first | (go_at_call 38; refine Calls.mono (hM.out _) ?_; rintro e w' ⟨rfl, y, rfl⟩))
    refine bodyPost_ret (v := .tuple #[.slice (some ⟨w.heap.size + 1 + 1 + y.os.length, 0, none⟩) 0 0, .bool false]) (by simp [results, Try.results22, go_sem]) rfl ?_
    exact ⟨_, rfl, ownI_nil (by omega) (heap_at (by simp)), (by (try simp only [ext_ext]); repeat (first | exact Kept.refl _ | apply Kept.alloc | apply Kept.drew | apply kept_add | apply Kept.ext))⟩
  | true =>
    have hh : isCard c = false := by unfold orbB at h; rw [hm, Bool.true_and] at h; exact h
    rw [hm] at hM
    rw [hh] at hC
    go_enter Try.func22, Try.ntmps22
    go_wp2_with (first | (go_at_call 38; refine Calls.mono (hM.out _) ?_; rintro e w' ⟨rfl, y1, rfl⟩) | (go_at_call 47; refine Calls.mono (hC.out _) ?_; rintro e w' ⟨rfl, y, rfl⟩))
    refine bodyPost_ret (v := .tuple #[.slice (some ⟨w.heap.size + 1 + 1 + (y1.add y).os.length, 0, none⟩) 0 0, .bool false]) (by simp [results, Try.results22, go_sem]) rfl ?_
    exact ⟨_, rfl, ownI_nil (by omega) (heap_at (by simp)), (by (try simp only [ext_ext]); repeat (first | exact Kept.refl _ | apply Kept.alloc | apply Kept.drew | apply kept_add | apply Kept.ext))⟩
theorem iOrbitOf_no (f : Nat → Int) (c : Card) (w : World) (h : orbB f c = false) : Calls Try.prog 24 #[mpv f, c.v] w (RetIT w false []) := by
  have hM := hid (IsMap_any f)
  have hC := hid (fun w' => IsCard_any c w')
  cases hm : mapB f with
  | false =>
    rw [hm] at hM
    go_enter Try.func24, Try.ntmps24
    go_wp2_with (first | (go_at_call 41; refine Calls.mono (hM.out _) ?_; rintro e w' ⟨rfl, y, rfl⟩))
    refine bodyPost_ret (v := .tuple #[.slice none 0 0, .bool false]) (by simp [results, Try.results24, go_sem]) rfl ?_
    exact ⟨_, rfl, ownI_none _ _, (by (try simp only [ext_ext]); repeat (first | exact Kept.refl _ | apply Kept.alloc | apply Kept.drew | apply kept_add | apply Kept.ext))⟩
  | true =>
    have hh : isCard c = false := by unfold orbB at h; rw [hm, Bool.true_and] at h; exact h
    rw [hm] at hM
    rw [hh] at hC
    go_enter Try.func24, Try.ntmps24
    go_wp2_with (first | (go_at_call 41; refine Calls.mono (hM.out _) ?_; rintro e w' ⟨rfl, y1, rfl⟩) | (go_at_call 49; refine Calls.mono (hC.out _) ?_; rintro e w' ⟨rfl, y, rfl⟩))
    refine bodyPost_ret (v := .tuple #[.slice none 0 0, .bool false]) (by simp [results, Try.results24, go_sem]) rfl ?_
    exact ⟨_, rfl, ownI_none _ _, (by (try simp only [ext_ext]); repeat (first | exact Kept.refl _ | apply Kept.alloc | apply Kept.drew | apply kept_add | apply Kept.ext))⟩
theorem sOrbitOf_yes (f : Nat → Int) (c : Card) (p : Nat) (w : World) (h : orbB f c = true) (h1 : 1 ≤ p) (h81 : p ≤ 81) (hp : itC (imgC f) p c = c) (hmin : ∀ k, 1 ≤ k → k < p → itC (imgC f) k c ≠ c) : Calls Try.prog 22 #[mpv f, c.v] w (RetIT w true (orL (imgC f) c p)) := by
  obtain ⟨hm, hh⟩ : mapB f = true ∧ isCard c = true := by unfold orbB at h; rwa [Bool.and_eq_true] at h
  have hM := hid (l5Map_any f)
  have hC := hid (fun w' => l2Card_any c w')
  have hO := hid (fun w' => l5Orbit_any f c p hm hh h1 h81 hp hmin w')
  rw [hm] at hM
  rw [hh] at hC
  obtain ⟨L, hL⟩ : ∃ L, L = orL (imgC f) c p := ⟨_, rfl⟩
  rw [← hL] at hO ⊢
  clear hL h hm hh hp hmin
  go_enter Try.func22, Try.ntmps22
  go_wp2_with (first | (go_at_call 38; refine Calls.mono (hM.out _) ?_; rintro e w' ⟨rfl, y, rfl⟩) | (go_at_call 47; refine Calls.mono (hC.out _) ?_; rintro e w' ⟨rfl, y, rfl⟩))
  (go_at_call 48; refine Calls.mono (hO.out _) ?_; rintro e w9 ⟨v9, rfl, ho9, k9⟩)
  have K9 := hid (show Kept w w9 from Kept.trans (by (try simp only [ext_ext]); repeat (first | exact Kept.refl _ | apply Kept.alloc | apply Kept.drew | apply kept_add | apply Kept.ext)) k9)
  have ho9H := hid (OwnI.mono (B' := w.heap.size) ho9 (show Kept w _ from (by (try simp only [ext_ext]); repeat (first | exact Kept.refl _ | apply Kept.alloc | apply Kept.drew | apply kept_add | apply Kept.ext))).below.size)
  clear ho9 k9
  go_wp2_with (fail)
  refine bodyPost_ret (v := .tuple #[v9, .bool true]) (by simp [results, Try.results22, go_sem]) rfl ?_
  exact ⟨_, rfl, ho9H.out, K9.out.trans (by (try simp only [ext_ext]); repeat (first | exact Kept.refl _ | apply Kept.alloc | apply Kept.drew | apply kept_add | apply Kept.ext))⟩
theorem iOrbitOf_yes (f : Nat → Int) (c : Card) (p : Nat) (w : World) (h : orbB f c = true) (h1 : 1 ≤ p) (h81 : p ≤ 81) (hp : itC (imgC f) p c = c) (hmin : ∀ k, 1 ≤ k → k < p → itC (imgC f) k c ≠ c) : Calls Try.prog 24 #[mpv f, c.v] w (RetIT w true (orL (imgC f) c p)) := by
  obtain ⟨hm, hh⟩ : mapB f = true ∧ isCard c = true := by unfold orbB at h; rwa [Bool.and_eq_true] at h
  have hM := hid (IsMap_any f)
  have hC := hid (fun w' => IsCard_any c w')
  have hO := hid (fun w' => orbit_any f c p hm hh h1 h81 hp hmin w')
  rw [hm] at hM
  rw [hh] at hC
  obtain ⟨L, hL⟩ : ∃ L, L = orL (imgC f) c p := ⟨_, rfl⟩
  rw [← hL] at hO ⊢
  clear hL h hm hh hp hmin
  go_enter Try.func24, Try.ntmps24
  go_wp2_with (first | (go_at_call 41; refine Calls.mono (hM.out _) ?_; rintro e w' ⟨rfl, y, rfl⟩) | (go_at_call 49; refine Calls.mono (hC.out _) ?_; rintro e w' ⟨rfl, y, rfl⟩))
  (go_at_call 50; refine Calls.mono (hO.out _) ?_; rintro e w9 ⟨v9, rfl, ho9, k9⟩)
  have K9 := hid (show Kept w w9 from Kept.trans (by (try simp only [ext_ext]); repeat (first | exact Kept.refl _ | apply Kept.alloc | apply Kept.drew | apply kept_add | apply Kept.ext)) k9)
  have ho9H := hid (OwnI.mono (B' := w.heap.size) ho9 (show Kept w _ from (by (try simp only [ext_ext]); repeat (first | exact Kept.refl _ | apply Kept.alloc | apply Kept.drew | apply kept_add | apply Kept.ext))).below.size)
  clear ho9 k9
  go_wp2_with (fail)
  refine bodyPost_ret (v := .tuple #[v9, .bool true]) (by simp [results, Try.results24, go_sem]) rfl ?_
  exact ⟨_, rfl, ho9H.out, K9.out.trans (by (try simp only [ext_ext]); repeat (first | exact Kept.refl _ | apply Kept.alloc | apply Kept.drew | apply kept_add | apply Kept.ext))⟩
theorem twoOrbitOf (f : Nat → Int) (c : Card) : ∃ ok ls, (∀ w, Calls Try.prog 22 #[mpv f, c.v] w (RetIT w ok ls)) ∧ (∀ w, Calls Try.prog 24 #[mpv f, c.v] w (RetIT w ok ls)) ∧ ls.length ≤ 1048576 := by
  cases h : orbB f c with
  | false => exact ⟨false, [], fun w => sOrbitOf_no f c w h, fun w => iOrbitOf_no f c w h, by simp⟩
  | true =>
    obtain ⟨hm, hh⟩ : mapB f = true ∧ isCard c = true := by unfold orbB at h; rwa [Bool.and_eq_true] at h
    obtain ⟨p, h1, h81, hp, hmin⟩ := orbit_len (im := imgC f) (fun x hx => isCard_img hm hx) (fun x y hx hy e => img_inj hm hx hy e) hh
    exact ⟨true, _, fun w => sOrbitOf_yes f c p w h h1 h81 hp hmin, fun w => iOrbitOf_yes f c p w h h1 h81 hp hmin, by rw [orL_len]; omega⟩
set_option maxHeartbeats 8000000 in
set_option maxRecDepth 20000 in
theorem walk_FnExactOrbitOf (f : Nat → Int) (c : Card) (w : World) : Calls Try.prog 6 #[mpv f, c.v] w fun e w' => e = .returned (.bool true) ∧ Kept w w' := by
  obtain ⟨ok, ls, hS0, hI0, hll⟩ := twoOrbitOf f c
  have hS := hid hS0
  have hI := hid hI0
  have hT := hid (toMap_any f)
  have p2 : ¬ ((1 : Int) + (ls.length : Int) < 0) := by omega
  obtain ⟨W, hW⟩ : ∃ W, W = (w.alloc (.cells #[.int .i64 (f 0), .int .i64 (f 1), .int .i64 (f 2), .int .i64 (f 3), .int .i64 (f 4), .int .i64 (f 5), .int .i64 (f 6), .int .i64 (f 7), .int .i64 (f 8), .int .i64 (f 9), .int .i64 (f 10), .int .i64 (f 11), .int .i64 (f 12), .int .i64 (f 13), .int .i64 (f 14), .int .i64 (f 15)] 33)).alloc (.cells #[.int .i64 c.a, .int .i64 c.b, .int .i64 c.c, .int .i64 c.d] T4) := ⟨_, rfl⟩
  have hSH := hid (show ∀ w', Kept W w' → w'.cell? ⟨w.heap.size, 0, none⟩ = some (.int .i64 (f 0)) ∧ w'.cell? ⟨w.heap.size, 1, none⟩ = some (.int .i64 (f 1)) ∧ w'.cell? ⟨w.heap.size, 2, none⟩ = some (.int .i64 (f 2)) ∧ w'.cell? ⟨w.heap.size, 3, none⟩ = some (.int .i64 (f 3)) ∧ w'.cell? ⟨w.heap.size, 4, none⟩ = some (.int .i64 (f 4)) ∧ w'.cell? ⟨w.heap.size, 5, none⟩ = some (.int .i64 (f 5)) ∧ w'.cell? ⟨w.heap.size, 6, none⟩ = some (.int .i64 (f 6)) ∧ w'.cell? ⟨w.heap.size, 7, none⟩ = some (.int .i64 (f 7)) ∧ w'.cell? ⟨w.heap.size, 8, none⟩ = some (.int .i64 (f 8)) ∧ w'.cell? ⟨w.heap.size, 9, none⟩ = some (.int .i64 (f 9)) ∧ w'.cell? ⟨w.heap.size, 10, none⟩ = some (.int .i64 (f 10)) ∧ w'.cell? ⟨w.heap.size, 11, none⟩ = some (.int .i64 (f 11)) ∧ w'.cell? ⟨w.heap.size, 12, none⟩ = some (.int .i64 (f 12)) ∧ w'.cell? ⟨w.heap.size, 13, none⟩ = some (.int .i64 (f 13)) ∧ w'.cell? ⟨w.heap.size, 14, none⟩ = some (.int .i64 (f 14)) ∧ w'.cell? ⟨w.heap.size, 15, none⟩ = some (.int .i64 (f 15)) ∧ w'.cell? ⟨w.heap.size + 1, 0, none⟩ = some (.int .i64 c.a) ∧ w'.cell? ⟨w.heap.size + 1, 1, none⟩ = some (.int .i64 c.b) ∧ w'.cell? ⟨w.heap.size + 1, 2, none⟩ = some (.int .i64 c.c) ∧ w'.cell? ⟨w.heap.size + 1, 3, none⟩ = some (.int .i64 c.d) from fun w' hk => by
    obtain ⟨m0, m1, m2, m3, m4, m5, m6, m7, m8, m9, m10, m11, m12, m13, m14, m15⟩ := ((show BoxM W w.heap.size f by rw [hW]; exact (BoxM.new f rfl).kept (by (try simp only [ext_ext]); repeat (first | exact Kept.refl _ | apply Kept.alloc | apply Kept.drew | apply kept_add | apply Kept.ext))).kept hk).cells
    obtain ⟨c0, c1, c2, c3⟩ := ckX (w := W) (g := w.heap.size + 1) (o := 0) (by rw [hW]; exact cardCells_new c (by simp)) (by rw [hW]; simp) hk
    exact ⟨m0, m1, m2, m3, m4, m5, m6, m7, m8, m9, m10, m11, m12, m13, m14, m15, c0, c1, c2, c3⟩)
  have kw := hid (show Kept w W by rw [hW]; exact (by (try simp only [ext_ext]); repeat (first | exact Kept.refl _ | apply Kept.alloc | apply Kept.drew | apply kept_add | apply Kept.ext)))
  have hWs := hid (show W.heap.size = w.heap.size + 2 by rw [hW]; simp)
  have hWH := hid hW
  have KB := hid (Kept.refl W)
  clear hS0 hI0 hW
  go_enter Try.func6, Try.ntmps6
  go_upto_region 1 with (fail)
  rw [← hWH.out]
  have hsz := hWs.out
  obtain ⟨m0, m1, m2, m3, m4, m5, m6, m7, m8, m9, m10, m11, m12, m13, m14, m15, c0, c1, c2, c3⟩ := hSH.out W (Kept.refl W)
  have z1 : w.heap.size < W.heap.size := by omega
  have z2 : w.heap.size + 1 < W.heap.size := by omega
  go_cut [5, 6] from 14 (fun u1 u2 wx => u2 = .bool ok ∧ OwnI W.heap.size wx u1 ls ∧ Kept W wx)
  case first =>
    go_region_held (fun w' => w'.cell? ⟨w.heap.size, 0, none⟩ = some (.int .i64 (f 0)) ∧ w'.cell? ⟨w.heap.size, 1, none⟩ = some (.int .i64 (f 1)) ∧ w'.cell? ⟨w.heap.size, 2, none⟩ = some (.int .i64 (f 2)) ∧ w'.cell? ⟨w.heap.size, 3, none⟩ = some (.int .i64 (f 3)) ∧ w'.cell? ⟨w.heap.size, 4, none⟩ = some (.int .i64 (f 4)) ∧ w'.cell? ⟨w.heap.size, 5, none⟩ = some (.int .i64 (f 5)) ∧ w'.cell? ⟨w.heap.size, 6, none⟩ = some (.int .i64 (f 6)) ∧ w'.cell? ⟨w.heap.size, 7, none⟩ = some (.int .i64 (f 7)) ∧ w'.cell? ⟨w.heap.size, 8, none⟩ = some (.int .i64 (f 8)) ∧ w'.cell? ⟨w.heap.size, 9, none⟩ = some (.int .i64 (f 9)) ∧ w'.cell? ⟨w.heap.size, 10, none⟩ = some (.int .i64 (f 10)) ∧ w'.cell? ⟨w.heap.size, 11, none⟩ = some (.int .i64 (f 11)) ∧ w'.cell? ⟨w.heap.size, 12, none⟩ = some (.int .i64 (f 12)) ∧ w'.cell? ⟨w.heap.size, 13, none⟩ = some (.int .i64 (f 13)) ∧ w'.cell? ⟨w.heap.size, 14, none⟩ = some (.int .i64 (f 14)) ∧ w'.cell? ⟨w.heap.size, 15, none⟩ = some (.int .i64 (f 15)) ∧ w'.cell? ⟨w.heap.size + 1, 0, none⟩ = some (.int .i64 c.a) ∧ w'.cell? ⟨w.heap.size + 1, 1, none⟩ = some (.int .i64 c.b) ∧ w'.cell? ⟨w.heap.size + 1, 2, none⟩ = some (.int .i64 c.c) ∧ w'.cell? ⟨w.heap.size + 1, 3, none⟩ = some (.int .i64 c.d))
      (exact hSH.out _ (KB.out.trans (by (try simp only [ext_ext]); repeat (first | assumption | exact Kept.refl _ | apply Kept.alloc | apply Kept.drew | apply kept_add | apply Kept.ext))))
      (first | (go_at_call 23; refine Calls.mono (toIntA4_any _ _) ?_; rintro e w' ⟨rfl, y, rfl⟩) | (go_at_call 15; refine Calls.mono (hT.out _) ?_; rintro e w' ⟨rfl, y, rfl⟩) | (go_at_call 22; refine Calls.mono (hS.out _) ?_; rintro e w9 ⟨v9, rfl, ho9, k9⟩; have ho9' := ho9.mono (show W.heap.size ≤ _ from (Kept.below (show Kept W _ from (by (try simp only [ext_ext]); repeat (first | assumption | exact Kept.refl _ | apply Kept.alloc | apply Kept.drew | apply kept_add | apply Kept.ext)))).size); have K9 := Kept.trans (show Kept W _ from (by (try simp only [ext_ext]); repeat (first | assumption | exact Kept.refl _ | apply Kept.alloc | apply Kept.drew | apply kept_add | apply Kept.ext))) k9))
    all_goals go_wp2_with (fail)
    all_goals go_meet
    all_goals exact ⟨rfl, ho9'.kept (by (try simp only [ext_ext]); repeat (first | assumption | exact Kept.refl _ | apply Kept.alloc | apply Kept.drew | apply kept_add | apply Kept.ext)), K9.trans (by (try simp only [ext_ext]); repeat (first | assumption | exact Kept.refl _ | apply Kept.alloc | apply Kept.drew | apply kept_add | apply Kept.ext))⟩
  obtain ⟨rfl, ho2, K2⟩ := hcut
  obtain ⟨v2, hv2⟩ : ∃ v2, v2 = u5 := ⟨_, rfl⟩
  subst hv2
  obtain ⟨w2, hw2⟩ : ∃ w2, w2 = wc := ⟨_, rfl⟩
  subst hw2
  have hzz : W.heap.size ≤ w2.heap.size := K2.below.size
  obtain ⟨n0, n1, n2, n3, n4, n5, n6, n7, n8, n9, n10, n11, n12, n13, n14, n15, d0, d1, d2, d3⟩ := hSH.out w2 K2
  have z3 : w.heap.size < w2.heap.size := by omega
  have z4 : w.heap.size + 1 < w2.heap.size := by omega
  clear KB
  have KB := hid K2
  go_upto_region 2 with (fail)
  go_cut [7, 8] from 22 (fun u1 u2 wx => u2 = .bool ok ∧ OwnI w2.heap.size wx u1 ls ∧ Kept w2 wx)
  case first =>
    go_region_held (fun w' => w'.cell? ⟨w.heap.size, 0, none⟩ = some (.int .i64 (f 0)) ∧ w'.cell? ⟨w.heap.size, 1, none⟩ = some (.int .i64 (f 1)) ∧ w'.cell? ⟨w.heap.size, 2, none⟩ = some (.int .i64 (f 2)) ∧ w'.cell? ⟨w.heap.size, 3, none⟩ = some (.int .i64 (f 3)) ∧ w'.cell? ⟨w.heap.size, 4, none⟩ = some (.int .i64 (f 4)) ∧ w'.cell? ⟨w.heap.size, 5, none⟩ = some (.int .i64 (f 5)) ∧ w'.cell? ⟨w.heap.size, 6, none⟩ = some (.int .i64 (f 6)) ∧ w'.cell? ⟨w.heap.size, 7, none⟩ = some (.int .i64 (f 7)) ∧ w'.cell? ⟨w.heap.size, 8, none⟩ = some (.int .i64 (f 8)) ∧ w'.cell? ⟨w.heap.size, 9, none⟩ = some (.int .i64 (f 9)) ∧ w'.cell? ⟨w.heap.size, 10, none⟩ = some (.int .i64 (f 10)) ∧ w'.cell? ⟨w.heap.size, 11, none⟩ = some (.int .i64 (f 11)) ∧ w'.cell? ⟨w.heap.size, 12, none⟩ = some (.int .i64 (f 12)) ∧ w'.cell? ⟨w.heap.size, 13, none⟩ = some (.int .i64 (f 13)) ∧ w'.cell? ⟨w.heap.size, 14, none⟩ = some (.int .i64 (f 14)) ∧ w'.cell? ⟨w.heap.size, 15, none⟩ = some (.int .i64 (f 15)) ∧ w'.cell? ⟨w.heap.size + 1, 0, none⟩ = some (.int .i64 c.a) ∧ w'.cell? ⟨w.heap.size + 1, 1, none⟩ = some (.int .i64 c.b) ∧ w'.cell? ⟨w.heap.size + 1, 2, none⟩ = some (.int .i64 c.c) ∧ w'.cell? ⟨w.heap.size + 1, 3, none⟩ = some (.int .i64 c.d))
      (exact hSH.out _ (KB.out.trans (by (try simp only [ext_ext]); repeat (first | assumption | exact Kept.refl _ | apply Kept.alloc | apply Kept.drew | apply kept_add | apply Kept.ext))))
      (first | (go_at_call 23; refine Calls.mono (toIntA4_any _ _) ?_; rintro e w' ⟨rfl, y, rfl⟩) | (go_at_call 15; refine Calls.mono (hT.out _) ?_; rintro e w' ⟨rfl, y, rfl⟩) | (go_at_call 24; refine Calls.mono (hI.out _) ?_; rintro e w9 ⟨v9, rfl, ho9, k9⟩; have ho9' := ho9.mono (show w2.heap.size ≤ _ from (Kept.below (show Kept w2 _ from (by (try simp only [ext_ext]); repeat (first | assumption | exact Kept.refl _ | apply Kept.alloc | apply Kept.drew | apply kept_add | apply Kept.ext)))).size); have K9 := Kept.trans (show Kept w2 _ from (by (try simp only [ext_ext]); repeat (first | assumption | exact Kept.refl _ | apply Kept.alloc | apply Kept.drew | apply kept_add | apply Kept.ext))) k9))
    all_goals go_wp2_with (fail)
    all_goals go_meet
    all_goals exact ⟨rfl, ho9'.kept (by (try simp only [ext_ext]); repeat (first | assumption | exact Kept.refl _ | apply Kept.alloc | apply Kept.drew | apply kept_add | apply Kept.ext)), K9.trans (by (try simp only [ext_ext]); repeat (first | assumption | exact Kept.refl _ | apply Kept.alloc | apply Kept.drew | apply kept_add | apply Kept.ext))⟩
  obtain ⟨rfl, ho4, k24⟩ := hcut
  obtain ⟨v4, hv4⟩ : ∃ v4, v4 = u7 := ⟨_, rfl⟩
  subst hv4
  obtain ⟨w4, hw4⟩ : ∃ w4, w4 = wc := ⟨_, rfl⟩
  subst hw4
  have K4 := K2.trans k24
  have n24 : ∀ g, v2.ownBlock = some g → v4.ownBlock ≠ some g := fun g h h' => by have := (ho2.lt g h).2; have := (ho4.lt g h').1; omega
  go_wp2_with (fail)
  (go_at_call 19; refine Calls.mono (eqI_any _ _ _ _ _ _ ho4 (ho2.kept k24) hll) ?_; rintro e w5 ⟨rfl, k5⟩)
  go_wp2_with (fail)
  (go_at_call 20; refine Calls.mono (markIntS_any _ _ _ _ 1 _ (ho4.kept k5) hll (by decide) (by decide)) ?_; rintro e w10 ⟨rfl, ho10, g10⟩)
  have K10 : Kept W w10 := ((K4.trans k5).grown g10 fun b hb => by have := (ho4.lt b hb).1; omega)
  have ho2m := ((ho2.kept (k24.trans k5)).grown g10 n24)
  go_wp2_with (fail)
  (go_at_call 21; refine Calls.mono (heldIntS_any _ _ _ 1 _ ho10 hll (by decide) (by decide)) ?_; rintro e w11 ⟨rfl, k11⟩)
  obtain ⟨r0, r1, r2, r3, r4, r5, r6, r7, r8, r9, r10, r11, r12, r13, r14, r15, s0, s1, s2, s3⟩ := hSH.out _ (K10.trans k11)
  have hz11 : W.heap.size ≤ w11.heap.size := (K10.trans k11).below.size
  have z5 : w.heap.size < w11.heap.size := by omega
  have z6 : w.heap.size + 1 < w11.heap.size := by omega
  clear KB
  have KB := hid (K10.trans k11)
  go_upto_region 13 with (fail)
  go_cut [11, 12] from 50 (fun u1 u2 wx => u2 = .bool ok ∧ OwnI w11.heap.size wx u1 ls ∧ Kept w11 wx)
  case first =>
    go_region_held (fun w' => w'.cell? ⟨w.heap.size, 0, none⟩ = some (.int .i64 (f 0)) ∧ w'.cell? ⟨w.heap.size, 1, none⟩ = some (.int .i64 (f 1)) ∧ w'.cell? ⟨w.heap.size, 2, none⟩ = some (.int .i64 (f 2)) ∧ w'.cell? ⟨w.heap.size, 3, none⟩ = some (.int .i64 (f 3)) ∧ w'.cell? ⟨w.heap.size, 4, none⟩ = some (.int .i64 (f 4)) ∧ w'.cell? ⟨w.heap.size, 5, none⟩ = some (.int .i64 (f 5)) ∧ w'.cell? ⟨w.heap.size, 6, none⟩ = some (.int .i64 (f 6)) ∧ w'.cell? ⟨w.heap.size, 7, none⟩ = some (.int .i64 (f 7)) ∧ w'.cell? ⟨w.heap.size, 8, none⟩ = some (.int .i64 (f 8)) ∧ w'.cell? ⟨w.heap.size, 9, none⟩ = some (.int .i64 (f 9)) ∧ w'.cell? ⟨w.heap.size, 10, none⟩ = some (.int .i64 (f 10)) ∧ w'.cell? ⟨w.heap.size, 11, none⟩ = some (.int .i64 (f 11)) ∧ w'.cell? ⟨w.heap.size, 12, none⟩ = some (.int .i64 (f 12)) ∧ w'.cell? ⟨w.heap.size, 13, none⟩ = some (.int .i64 (f 13)) ∧ w'.cell? ⟨w.heap.size, 14, none⟩ = some (.int .i64 (f 14)) ∧ w'.cell? ⟨w.heap.size, 15, none⟩ = some (.int .i64 (f 15)) ∧ w'.cell? ⟨w.heap.size + 1, 0, none⟩ = some (.int .i64 c.a) ∧ w'.cell? ⟨w.heap.size + 1, 1, none⟩ = some (.int .i64 c.b) ∧ w'.cell? ⟨w.heap.size + 1, 2, none⟩ = some (.int .i64 c.c) ∧ w'.cell? ⟨w.heap.size + 1, 3, none⟩ = some (.int .i64 c.d))
      (exact hSH.out _ (KB.out.trans (by (try simp only [ext_ext]); repeat (first | assumption | exact Kept.refl _ | apply Kept.alloc | apply Kept.drew | apply kept_add | apply Kept.ext))))
      (first | (go_at_call 23; refine Calls.mono (toIntA4_any _ _) ?_; rintro e w' ⟨rfl, y, rfl⟩) | (go_at_call 15; refine Calls.mono (hT.out _) ?_; rintro e w' ⟨rfl, y, rfl⟩) | (go_at_call 24; refine Calls.mono (hI.out _) ?_; rintro e w9 ⟨v9, rfl, ho9, k9⟩; have ho9' := ho9.mono (show w11.heap.size ≤ _ from (Kept.below (show Kept w11 _ from (by (try simp only [ext_ext]); repeat (first | assumption | exact Kept.refl _ | apply Kept.alloc | apply Kept.drew | apply kept_add | apply Kept.ext)))).size); have K9 := Kept.trans (show Kept w11 _ from (by (try simp only [ext_ext]); repeat (first | assumption | exact Kept.refl _ | apply Kept.alloc | apply Kept.drew | apply kept_add | apply Kept.ext))) k9))
    all_goals go_wp2_with (fail)
    all_goals go_meet
    all_goals exact ⟨rfl, ho9'.kept (by (try simp only [ext_ext]); repeat (first | assumption | exact Kept.refl _ | apply Kept.alloc | apply Kept.drew | apply kept_add | apply Kept.ext)), K9.trans (by (try simp only [ext_ext]); repeat (first | assumption | exact Kept.refl _ | apply Kept.alloc | apply Kept.drew | apply kept_add | apply Kept.ext))⟩
  obtain ⟨rfl, ho13, k1113⟩ := hcut
  obtain ⟨v13, hv13⟩ : ∃ v13, v13 = u11 := ⟨_, rfl⟩
  subst hv13
  obtain ⟨w13, hw13⟩ : ∃ w13, w13 = wc := ⟨_, rfl⟩
  subst hw13
  go_wp2_with (fail)
  (go_at_call 19; refine Calls.mono (eqI_any _ _ _ _ _ _ ho13 ((ho2m.kept k11).kept k1113) hll) ?_; rintro e w14 ⟨rfl, k14⟩)
  go_wp2_with (fail)
  (go_at_call 21; refine Calls.mono (heldIntS_any _ _ _ 1 _ (row_kept ho10 (k11.trans (k1113.trans k14))) hll (by decide) (by decide)) ?_; rintro e w15 ⟨rfl, k15⟩)
  go_wp2_with (fail)
  go_ret
  exact ⟨rfl, kw.out.trans (K10.trans (k11.trans (k1113.trans (k14.trans k15))))⟩
end Go.Proofs.Ytjlaoocomkonhaa
