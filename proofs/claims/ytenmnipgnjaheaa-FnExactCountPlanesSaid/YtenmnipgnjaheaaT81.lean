/- Contracts: the reference's planes, each by its first three cards. -/
import Derived.Test.YtenmnipgnjaheaaT80
import Derived.Deep.CutRange
import Derived.Deep.RegionHeld
namespace Go.Proofs.Ytenmnipgnjaheaa
open Go.RowKit
set_option maxHeartbeats 2000000 in
set_option maxRecDepth 20000 in
theorem l6First_any (gh oh cap n i k m : Nat) (hs : List Card) (w : World) (hx : CardsAt w (some ⟨gh, oh, none⟩) hs) (hn : hs.length = n) (hi : i < k) (hk : k < m) (hm : m < n) (hl : n ≤ 81) (hp : planeC (cx hs i) (cx hs k) (cx hs m) = true) :
    Calls Try.prog 38 #[.slice (some ⟨gh, oh, none⟩) n cap, .int .i64 i, .int .i64 k, .int .i64 m] w fun e w' => e = .returned (.bool (canB hs (cx hs i) (cx hs k) (cx hs m))) ∧ Kept w w' := by
  obtain ⟨hcx, hcy, hcz⟩ := planeC_cards hp
  have hlen := span_plane_len hp
  have hLc : ∀ c ∈ spanC [cx hs i, cx hs k, cx hs m], isCard c = true := spanC_cards
  have hcan : canB hs (cx hs i) (cx hs k) (cx hs m) = (decide (∀ p ∈ spanC [cx hs i, cx hs k, cx hs m], p ∈ hs) && decide (cx (spanC [cx hs i, cx hs k, cx hs m]) 0 = cx hs i ∧ cx (spanC [cx hs i, cx hs k, cx hs m]) 1 = cx hs k ∧ nth3 (spanC [cx hs i, cx hs k, cx hs m]) = cx hs m)) := by
    unfold canB; rw [hp, Bool.true_and]
  obtain ⟨_, _, e1, hg, a1, a2, a3, a4⟩ := hx i (by omega)
  cases e1
  obtain ⟨_, _, e1, _, b1, b2, b3, b4⟩ := hx k (by omega)
  cases e1
  obtain ⟨_, _, e1, _, c1, c2, c3, c4⟩ := hx m (by omega)
  cases e1
  have hS := hid (fun (g : Nat) (w' : World) (hg : w'.heap[g]? = some (.cells #[.int .i64 (cx hs i).a, .int .i64 (cx hs i).b, .int .i64 (cx hs i).c, .int .i64 (cx hs i).d, .int .i64 (cx hs k).a, .int .i64 (cx hs k).b, .int .i64 (cx hs k).c, .int .i64 (cx hs k).d, .int .i64 (cx hs m).a, .int .i64 (cx hs m).b, .int .i64 (cx hs m).c, .int .i64 (cx hs m).d] 48)) => l6Span_any (some ⟨g, 0, none⟩) 3 3 [cx hs i, cx hs k, cx hs m] w' (cardsAt_block (cs := [cx hs i, cx hs k, cx hs m]) hg) rfl (fun c hc => by
    simp only [List.mem_cons, List.not_mem_nil, or_false] at hc
    rcases hc with rfl | rfl | rfl
    · exact hcx
    · exact hcy
    · exact hcz) (by omega))
  obtain ⟨L, hL⟩ : ∃ L, L = spanC [cx hs i, cx hs k, cx hs m] := ⟨_, rfl⟩
  rw [← hL] at hlen hLc hcan hS
  have hcanH := hid hcan
  have hlenH := hid hlen
  have hLcH := hid hLc
  have hxH := hid hx
  have hnH := hid hn
  have hw1 : 0 ≤ (i : Int) := by omega
  have hw2 : i < n := by omega
  have hw3 : k < n := by omega
  obtain ⟨xx, hX⟩ : ∃ xx, xx = cx hs i := ⟨_, rfl⟩
  obtain ⟨yy, hY⟩ : ∃ yy, yy = cx hs k := ⟨_, rfl⟩
  obtain ⟨zz, hZ⟩ : ∃ zz, zz = cx hs m := ⟨_, rfl⟩
  rw [← hX, ← hY, ← hZ] at hcanH hS
  rw [← hX] at a1 a2 a3 a4 ⊢
  rw [← hY] at b1 b2 b3 b4 ⊢
  rw [← hZ] at c1 c2 c3 c4 ⊢
  clear hcan hlen hLc hx hn hX hY hZ hL hp hcx hcy hcz
  go_enter Try.func38, Try.ntmps38
  go_wp2_with (first | (go_at_call 65; refine Calls.mono (hS.out _ _ (heap_at (by simp))) ?_; rintro e w1 ⟨g1, cp1, rfl, ho1, k1⟩; have hl9 := hlenH.out; rw [hl9] at ho1 ⊢; clear hl9) | (refine wp_region_ext_tail 12 (by kernel_rfl) (by kernel_rfl) ?_; simp only [List.take_succ_cons, List.take_zero, List.drop_succ_cons, List.drop_zero]; (repeat (go_big_quiet_step ((fail)))); refine wpQuiet_tail fun z => ?_))
  have hlenL := hlenH.out
  have hx1 := ho1.cardsN hlenH.out
  have K1 := hid (show Kept w w1 from Kept.trans (by (try simp only [ext_ext]); repeat (first | exact Kept.refl _ | apply Kept.alloc | apply Kept.drew | apply kept_add | apply Kept.ext)) k1)
  have hg1 : g1 < w1.heap.size := (hx1 0 (by omega)).elim fun _ h => h.elim fun _ h => by cases h.1; exact h.2.1
  have hC0 := hid (fun w' (hk : Kept w1 w') => show w'.cell? ⟨g1, 0, none⟩ = some (.int .i64 (cx L 0).a) ∧ w'.cell? ⟨g1, 1, none⟩ = some (.int .i64 (cx L 0).b) ∧ w'.cell? ⟨g1, 2, none⟩ = some (.int .i64 (cx L 0).c) ∧ w'.cell? ⟨g1, 3, none⟩ = some (.int .i64 (cx L 0).d) ∧ w'.cell? ⟨g1, 4, none⟩ = some (.int .i64 (cx L 1).a) ∧ w'.cell? ⟨g1, 5, none⟩ = some (.int .i64 (cx L 1).b) ∧ w'.cell? ⟨g1, 6, none⟩ = some (.int .i64 (cx L 1).c) ∧ w'.cell? ⟨g1, 7, none⟩ = some (.int .i64 (cx L 1).d) ∧ w'.cell? ⟨g1, 8, none⟩ = some (.int .i64 (cx L 2).a) ∧ w'.cell? ⟨g1, 9, none⟩ = some (.int .i64 (cx L 2).b) ∧ w'.cell? ⟨g1, 10, none⟩ = some (.int .i64 (cx L 2).c) ∧ w'.cell? ⟨g1, 11, none⟩ = some (.int .i64 (cx L 2).d) ∧ w'.cell? ⟨g1, 12, none⟩ = some (.int .i64 (cx L 3).a) ∧ w'.cell? ⟨g1, 13, none⟩ = some (.int .i64 (cx L 3).b) ∧ w'.cell? ⟨g1, 14, none⟩ = some (.int .i64 (cx L 3).c) ∧ w'.cell? ⟨g1, 15, none⟩ = some (.int .i64 (cx L 3).d) from by
    have hx' := hx1.kept hk
    obtain ⟨_, _, e1, _, p0, p1, p2, p3⟩ := hx' 0 (by omega)
    cases e1
    obtain ⟨_, _, e1, _, p4, p5, p6, p7⟩ := hx' 1 (by omega)
    cases e1
    obtain ⟨_, _, e1, _, p8, p9, p10, p11⟩ := hx' 2 (by omega)
    cases e1
    obtain ⟨_, _, e1, _, p12, p13, p14, p15⟩ := hx' 3 (by omega)
    cases e1
    exact ⟨p0, p1, p2, p3, p4, p5, p6, p7, p8, p9, p10, p11, p12, p13, p14, p15⟩)
  have hHc := hid (fun w' (hk : Kept w1 w') => show w'.cell? ⟨gh, oh + i * 4, none⟩ = some (.int .i64 xx.a) ∧ w'.cell? ⟨gh, oh + i * 4 + 1, none⟩ = some (.int .i64 xx.b) ∧ w'.cell? ⟨gh, oh + i * 4 + 2, none⟩ = some (.int .i64 xx.c) ∧ w'.cell? ⟨gh, oh + i * 4 + 3, none⟩ = some (.int .i64 xx.d) ∧ w'.cell? ⟨gh, oh + k * 4, none⟩ = some (.int .i64 yy.a) ∧ w'.cell? ⟨gh, oh + k * 4 + 1, none⟩ = some (.int .i64 yy.b) ∧ w'.cell? ⟨gh, oh + k * 4 + 2, none⟩ = some (.int .i64 yy.c) ∧ w'.cell? ⟨gh, oh + k * 4 + 3, none⟩ = some (.int .i64 yy.d) ∧ w'.cell? ⟨gh, oh + m * 4, none⟩ = some (.int .i64 zz.a) ∧ w'.cell? ⟨gh, oh + m * 4 + 1, none⟩ = some (.int .i64 zz.b) ∧ w'.cell? ⟨gh, oh + m * 4 + 2, none⟩ = some (.int .i64 zz.c) ∧ w'.cell? ⟨gh, oh + m * 4 + 3, none⟩ = some (.int .i64 zz.d) from by
    have hb := (K1.out.trans hk).below
    exact ⟨(hb.cell (p := ⟨_, _, none⟩) hg).trans a1, (hb.cell (p := ⟨_, _, none⟩) hg).trans a2, (hb.cell (p := ⟨_, _, none⟩) hg).trans a3, (hb.cell (p := ⟨_, _, none⟩) hg).trans a4, (hb.cell (p := ⟨_, _, none⟩) hg).trans b1, (hb.cell (p := ⟨_, _, none⟩) hg).trans b2, (hb.cell (p := ⟨_, _, none⟩) hg).trans b3, (hb.cell (p := ⟨_, _, none⟩) hg).trans b4, (hb.cell (p := ⟨_, _, none⟩) hg).trans c1, (hb.cell (p := ⟨_, _, none⟩) hg).trans c2, (hb.cell (p := ⟨_, _, none⟩) hg).trans c3, (hb.cell (p := ⟨_, _, none⟩) hg).trans c4⟩)
  have hx1H := hid hx1
  have hgh1 : gh < w1.heap.size := Nat.lt_of_lt_of_le hg K1.out.below.size
  have hcl0 := hid (hLcH.out _ (cx_mem (by omega : 0 < L.length)))
  have hcl1 := hid (hLcH.out _ (cx_mem (by omega : 1 < L.length)))
  clear ho1 k1 hx1 a1 a2 a3 a4 b1 b2 b3 b4 c1 c2 c3 c4 hS hlenL
  go_loopw [10] (fun s10 wr => ∃ t : Nat, t ≤ 9 ∧ s10 = .int .i64 (t : Int) ∧ (∀ j, j < t → cx L j ∈ hs) ∧ Kept w1 wr) (fun s10 _ => 9 - (intOf s10).toNat)
  case atStart => exact ⟨0, by omega, by go_num, fun j h => by omega, (by (try simp only [ext_ext]); repeat (first | exact Kept.refl _ | apply Kept.alloc | apply Kept.drew | apply kept_add | apply Kept.ext))⟩
  case round =>
    obtain ⟨w0, hw0⟩ : ∃ w0, w0 = wr := ⟨_, rfl⟩
    subst hw0
    obtain ⟨t, ht, rfl, hall, hkw⟩ := hrel
    have hallH := hid hall
    have hkwH := hid hkw
    clear hall
    have hg0 : g1 < w0.heap.size := Nat.lt_of_lt_of_le hg1 hkw.below.size
    have hgh0 : gh < w0.heap.size := Nat.lt_of_lt_of_le hgh1 hkw.below.size
    by_cases hlt : t < 9
    · obtain ⟨_, _, e1, _, a1, a2, a3, a4⟩ := (hx1H.out.kept hkw) t (by rw [hlenH.out]; exact hlt)
      cases e1
      simp only [Nat.zero_add] at a1 a2 a3 a4
      have hH := hid (fun w' (hk : Kept w0 w') => l2Has_any (some ⟨gh, oh, none⟩) cap hs (cx L t) w' (hxH.out.kept (K1.out.trans (hkw.trans hk))) (by rw [hnH.out]; omega))
      rw [hnH.out] at hH
      by_cases hin : cx L t ∈ hs
      · rw [show hasC hs (cx L t) = true by rw [hasC_mem]; exact decide_eq_true hin] at hH
        clear hkw
        go_wp2_with (first | (go_at_call 37; refine Calls.mono (hH.out _ ((by (try simp only [ext_ext]); repeat (first | exact Kept.refl _ | apply Kept.alloc | apply Kept.drew | apply kept_add | apply Kept.ext)))) ?_; rintro e w' ⟨rfl, y, rfl⟩))
        go_roundw
        case rel => exact ⟨t + 1, by omega, by go_num, fun j hj => if e : j < t then hallH.out j e else by rw [show j = t by omega]; exact hin, hkwH.out.trans (by (try simp only [ext_ext]); repeat (first | exact Kept.refl _ | apply Kept.alloc | apply Kept.drew | apply kept_add | apply Kept.ext))⟩
        case measure => simp [intOf]; omega
      · rw [show hasC hs (cx L t) = false by rw [hasC_mem]; exact decide_eq_false hin] at hH
        have hno := hid (show canB hs xx yy zz = false by
          rw [hcanH.out, decide_eq_false (fun h => hin (h _ (cx_mem (by rw [hlenH.out]; exact hlt)))), Bool.false_and])
        clear hkw
        go_wp2_with (first | (go_at_call 37; refine Calls.mono (hH.out _ ((by (try simp only [ext_ext]); repeat (first | exact Kept.refl _ | apply Kept.alloc | apply Kept.drew | apply kept_add | apply Kept.ext)))) ?_; rintro e w' ⟨rfl, y, rfl⟩))
        go_ret
        exact ⟨ret_of (by rw [hno.out]; rfl), K1.out.trans (hkwH.out.trans (by (try simp only [ext_ext]); repeat (first | exact Kept.refl _ | apply Kept.alloc | apply Kept.drew | apply kept_add | apply Kept.ext)))⟩
    · have hyes := hid (show canB hs xx yy zz = decide (cx L 0 = xx ∧ cx L 1 = yy ∧ nth3 L = zz) by
        rw [hcanH.out, decide_eq_true (fun p hp => by
          obtain ⟨j, hj, rfl⟩ := List.getElem_of_mem hp
          rw [← cx_get _ _ hj]
          exact hallH.out j (by rw [hlenH.out] at hj; omega)), Bool.true_and])
      have hq := hid (fun w' => l2Third_any (cx L 0) (cx L 1) hcl0.out hcl1.out w')
      obtain ⟨tt, htt⟩ : ∃ tt, tt = thirdC (cx L 0) (cx L 1) := ⟨_, rfl⟩
      rw [← htt] at hq
      have httH := hid htt
      have hSS := hid (fun w' (hk : Kept w0 w') => show w'.cell? ⟨g1, 0, none⟩ = some (.int .i64 (cx L 0).a) ∧ w'.cell? ⟨g1, 1, none⟩ = some (.int .i64 (cx L 0).b) ∧ w'.cell? ⟨g1, 2, none⟩ = some (.int .i64 (cx L 0).c) ∧ w'.cell? ⟨g1, 3, none⟩ = some (.int .i64 (cx L 0).d) ∧ w'.cell? ⟨g1, 4, none⟩ = some (.int .i64 (cx L 1).a) ∧ w'.cell? ⟨g1, 5, none⟩ = some (.int .i64 (cx L 1).b) ∧ w'.cell? ⟨g1, 6, none⟩ = some (.int .i64 (cx L 1).c) ∧ w'.cell? ⟨g1, 7, none⟩ = some (.int .i64 (cx L 1).d) from by
        obtain ⟨p0, p1, p2, p3, p4, p5, p6, p7, p8, p9, p10, p11, p12, p13, p14, p15⟩ := hC0.out w' (hkw.trans hk)
        exact ⟨p0, p1, p2, p3, p4, p5, p6, p7⟩)
      clear htt hkw
      go_upto_region 7 with (fail)
      go_cut [11] from 40 (fun s11 wx => ∃ g7, s11 = .pointer (some ⟨g7, 0, none⟩) ∧ g7 < wx.heap.size ∧ CardCells wx g7 0 tt ∧ Kept w0 wx)
      case first =>
        go_region_held (fun w' => w'.cell? ⟨g1, 0, none⟩ = some (.int .i64 (cx L 0).a) ∧ w'.cell? ⟨g1, 1, none⟩ = some (.int .i64 (cx L 0).b) ∧ w'.cell? ⟨g1, 2, none⟩ = some (.int .i64 (cx L 0).c) ∧ w'.cell? ⟨g1, 3, none⟩ = some (.int .i64 (cx L 0).d) ∧ w'.cell? ⟨g1, 4, none⟩ = some (.int .i64 (cx L 1).a) ∧ w'.cell? ⟨g1, 5, none⟩ = some (.int .i64 (cx L 1).b) ∧ w'.cell? ⟨g1, 6, none⟩ = some (.int .i64 (cx L 1).c) ∧ w'.cell? ⟨g1, 7, none⟩ = some (.int .i64 (cx L 1).d)) (exact hSS.out _ (by (try simp only [ext_ext]); repeat (first | exact Kept.refl _ | apply Kept.alloc | apply Kept.drew | apply kept_add | apply Kept.ext))) (first | (go_at_call 36; refine Calls.mono (hq.out _) ?_; rintro e w' ⟨rfl, y, rfl⟩))
        all_goals
          go_wp2_with (fail)
          go_meet
        all_goals first | exact ⟨_, rfl, by simp, cardCells_new _ (by simp), (by (try simp only [ext_ext]); repeat (first | exact Kept.refl _ | apply Kept.alloc | apply Kept.drew | apply kept_add | apply Kept.ext))⟩ | exact ⟨_, rfl, by simp <;> omega, cardCells_extS _ _ (by simp), (by (try simp only [ext_ext]); repeat (first | exact Kept.refl _ | apply Kept.alloc | apply Kept.drew | apply kept_add | apply Kept.ext))⟩
      case rest =>
        obtain ⟨g7, rfl, hg7, hc7, k7⟩ := hcut
        obtain ⟨w7, hw7⟩ : ∃ w7, w7 = wc := ⟨_, rfl⟩
        subst hw7
        have K7 := hid (K1.out.trans (hkwH.out.trans k7))
        obtain ⟨p0, p1, p2, p3, p4, p5, p6, p7, p8, p9, p10, p11, p12, p13, p14, p15⟩ := hC0.out w7 (hkwH.out.trans k7)
        obtain ⟨q0, q1, q2, q3, q4, q5, q6, q7, q8, q9, q10, q11⟩ := hHc.out w7 (hkwH.out.trans k7)
        obtain ⟨r1, r2, r3, r4⟩ := hc7
        simp only [Nat.zero_add] at r1 r2 r3 r4
        have hg17 : g1 < w7.heap.size := Nat.lt_of_lt_of_le hg0 k7.below.size
        have hgh7 : gh < w7.heap.size := Nat.lt_of_lt_of_le hgh0 k7.below.size
        clear k7
        by_cases e2 : cx L 2 = tt
        · skip
          have hn3 := hid (show nth3 L = cx L 3 by unfold nth3; rw [← httH.out, if_pos e2])
          have hd2 : decide (cx L 2 = tt) = true := decide_eq_true e2
          clear e2
          by_cases e0 : cx L 0 = xx
          · have d0 : decide (cx L 0 = xx) = true := decide_eq_true e0
            by_cases e1 : cx L 1 = yy
            · have d1 : decide (cx L 1 = yy) = true := decide_eq_true e1
              by_cases e3 : cx L 3 = zz
              · have d3 : decide (cx L 3 = zz) = true := decide_eq_true e3
                have hv := hid (show canB hs xx yy zz = true by rw [hyes.out]; exact decide_eq_true ⟨e0, e1, hn3.out.trans e3⟩)
                clear e0 e1 e3
                go_wp2_with (first | (refine wp_region_ext (by kernel_rfl) (by kernel_rfl) ?_; (repeat (go_big_quiet_step (fail))); refine wpQuiet_end fun z => ?_))
                go_ret
                exact ⟨ret_of (by rw [hv.out]; rfl), K7.out.trans (by (try simp only [ext_ext]); repeat (first | exact Kept.refl _ | apply Kept.alloc | apply Kept.drew | apply kept_add | apply Kept.ext))⟩
              · have d3 : decide (cx L 3 = zz) = false := decide_eq_false e3
                have hv := hid (show canB hs xx yy zz = false by rw [hyes.out]; exact decide_eq_false fun h => e3 (hn3.out.symm.trans h.2.2))
                clear e0 e1 e3
                go_wp2_with (first | (refine wp_region_ext (by kernel_rfl) (by kernel_rfl) ?_; (repeat (go_big_quiet_step (fail))); refine wpQuiet_end fun z => ?_))
                go_ret
                exact ⟨ret_of (by rw [hv.out]; rfl), K7.out.trans (by (try simp only [ext_ext]); repeat (first | exact Kept.refl _ | apply Kept.alloc | apply Kept.drew | apply kept_add | apply Kept.ext))⟩
            · have d1 : decide (cx L 1 = yy) = false := decide_eq_false e1
              have hv := hid (show canB hs xx yy zz = false by rw [hyes.out]; exact decide_eq_false fun h => e1 h.2.1)
              clear e0 e1
              go_wp2_with (first | (refine wp_region_ext (by kernel_rfl) (by kernel_rfl) ?_; (repeat (go_big_quiet_step (fail))); refine wpQuiet_end fun z => ?_))
              go_ret
              exact ⟨ret_of (by rw [hv.out]; rfl), K7.out.trans (by (try simp only [ext_ext]); repeat (first | exact Kept.refl _ | apply Kept.alloc | apply Kept.drew | apply kept_add | apply Kept.ext))⟩
          · have d0 : decide (cx L 0 = xx) = false := decide_eq_false e0
            have hv := hid (show canB hs xx yy zz = false by rw [hyes.out]; exact decide_eq_false fun h => e0 h.1)
            clear e0
            go_wp2_with (first | (refine wp_region_ext (by kernel_rfl) (by kernel_rfl) ?_; (repeat (go_big_quiet_step (fail))); refine wpQuiet_end fun z => ?_))
            go_ret
            exact ⟨ret_of (by rw [hv.out]; rfl), K7.out.trans (by (try simp only [ext_ext]); repeat (first | exact Kept.refl _ | apply Kept.alloc | apply Kept.drew | apply kept_add | apply Kept.ext))⟩
        · skip
          have hn3 := hid (show nth3 L = cx L 2 by unfold nth3; rw [← httH.out, if_neg e2])
          have hd2 : decide (cx L 2 = tt) = false := decide_eq_false e2
          clear e2
          by_cases e0 : cx L 0 = xx
          · have d0 : decide (cx L 0 = xx) = true := decide_eq_true e0
            by_cases e1 : cx L 1 = yy
            · have d1 : decide (cx L 1 = yy) = true := decide_eq_true e1
              by_cases e3 : cx L 2 = zz
              · have d3 : decide (cx L 2 = zz) = true := decide_eq_true e3
                have hv := hid (show canB hs xx yy zz = true by rw [hyes.out]; exact decide_eq_true ⟨e0, e1, hn3.out.trans e3⟩)
                clear e0 e1 e3
                go_wp2_with (first | (refine wp_region_ext (by kernel_rfl) (by kernel_rfl) ?_; (repeat (go_big_quiet_step (fail))); refine wpQuiet_end fun z => ?_))
                go_ret
                exact ⟨ret_of (by rw [hv.out]; rfl), K7.out.trans (by (try simp only [ext_ext]); repeat (first | exact Kept.refl _ | apply Kept.alloc | apply Kept.drew | apply kept_add | apply Kept.ext))⟩
              · have d3 : decide (cx L 2 = zz) = false := decide_eq_false e3
                have hv := hid (show canB hs xx yy zz = false by rw [hyes.out]; exact decide_eq_false fun h => e3 (hn3.out.symm.trans h.2.2))
                clear e0 e1 e3
                go_wp2_with (first | (refine wp_region_ext (by kernel_rfl) (by kernel_rfl) ?_; (repeat (go_big_quiet_step (fail))); refine wpQuiet_end fun z => ?_))
                go_ret
                exact ⟨ret_of (by rw [hv.out]; rfl), K7.out.trans (by (try simp only [ext_ext]); repeat (first | exact Kept.refl _ | apply Kept.alloc | apply Kept.drew | apply kept_add | apply Kept.ext))⟩
            · have d1 : decide (cx L 1 = yy) = false := decide_eq_false e1
              have hv := hid (show canB hs xx yy zz = false by rw [hyes.out]; exact decide_eq_false fun h => e1 h.2.1)
              clear e0 e1
              go_wp2_with (first | (refine wp_region_ext (by kernel_rfl) (by kernel_rfl) ?_; (repeat (go_big_quiet_step (fail))); refine wpQuiet_end fun z => ?_))
              go_ret
              exact ⟨ret_of (by rw [hv.out]; rfl), K7.out.trans (by (try simp only [ext_ext]); repeat (first | exact Kept.refl _ | apply Kept.alloc | apply Kept.drew | apply kept_add | apply Kept.ext))⟩
          · have d0 : decide (cx L 0 = xx) = false := decide_eq_false e0
            have hv := hid (show canB hs xx yy zz = false by rw [hyes.out]; exact decide_eq_false fun h => e0 h.1)
            clear e0
            go_wp2_with (first | (refine wp_region_ext (by kernel_rfl) (by kernel_rfl) ?_; (repeat (go_big_quiet_step (fail))); refine wpQuiet_end fun z => ?_))
            go_ret
            exact ⟨ret_of (by rw [hv.out]; rfl), K7.out.trans (by (try simp only [ext_ext]); repeat (first | exact Kept.refl _ | apply Kept.alloc | apply Kept.drew | apply kept_add | apply Kept.ext))⟩
end Go.Proofs.Ytenmnipgnjaheaa
