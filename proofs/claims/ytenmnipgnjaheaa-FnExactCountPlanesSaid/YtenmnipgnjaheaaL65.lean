/- Walk: the law of CountPlanes. -/
import Derived.Test.YtenmnipgnjaheaaT82
import Derived.Test.YtenmnipgnjaheaaT78
namespace Go.Proofs.Ytenmnipgnjaheaa
open Go.RowKit
theorem asc_hand {xs : List Card} (h : isHand xs = true) : Asc xs := by
  obtain ⟨_, hh⟩ := isHand_of h
  have lt : ∀ d i, i + d + 1 < xs.length → numC (cx xs i) < numC (cx xs (i + d + 1)) := by
    intro d
    induction d with
    | zero =>
      intro i hi
      have := hh (i + 0 + 1) hi
      simp [handOk] at this
      simpa using this.2
    | succ d ih =>
      intro i hi
      have h1 := ih i (by omega)
      have := hh (i + (d + 1) + 1) hi
      simp [handOk] at this
      have h2 := this.2
      rw [show i + (d + 1) = i + d + 1 by omega] at h2 ⊢
      omega
  unfold Asc
  rw [List.pairwise_iff_getElem]
  intro i j hi hj hij
  obtain ⟨d, rfl⟩ : ∃ d, j = i + d + 1 := ⟨j - i - 1, by omega⟩
  have := lt d i hj
  rw [cx_get _ _ hi, cx_get _ _ hj] at this
  exact this
theorem sCountPlanes_no (ao : Option Addr) (cap : Nat) (xs : List Card) (w : World) (hx : CardsAt w ao xs) (hl : xs.length ≤ 1048576) (h : isHand xs = false) :
    Calls Try.prog 14 #[.slice ao xs.length cap] w fun e w' => e = .returned (.tuple #[.int .i64 0, .bool false]) ∧ Kept w w' := by
  go_enter Try.func14, Try.ntmps14
  go_wp2_with (first | (go_at_call 28; refine Calls.mono (l2Hand_any _ _ _ _ (by first | assumption | exact CardsAt.kept (by assumption) (by (try simp only [ext_ext]); repeat (first | exact Kept.refl _ | apply Kept.alloc | apply Kept.drew | apply kept_add | apply Kept.ext))) hl) ?_; rintro e w' ⟨rfl, y, rfl⟩))
  refine bodyPost_ret (v := .tuple #[.int .i64 0, .bool false]) (by simp [results, Try.results14, go_sem]) rfl ⟨rfl, ?_⟩
  exact (by (try simp only [ext_ext]); repeat (first | exact Kept.refl _ | apply Kept.alloc | apply Kept.drew | apply kept_add | apply Kept.ext))
theorem iCountPlanes_no (ao : Option Addr) (cap : Nat) (xs : List Card) (w : World) (hx : CardsAt w ao xs) (hl : xs.length ≤ 1048576) (h : isHand xs = false) :
    Calls Try.prog 15 #[.slice ao xs.length cap] w fun e w' => e = .returned (.tuple #[.int .i64 0, .bool false]) ∧ Kept w w' := by
  go_enter Try.func15, Try.ntmps15
  go_wp2_with (first | (go_at_call 30; refine Calls.mono (IsHand_any _ _ _ _ (by first | assumption | exact CardsAt.kept (by assumption) (by (try simp only [ext_ext]); repeat (first | exact Kept.refl _ | apply Kept.alloc | apply Kept.drew | apply kept_add | apply Kept.ext))) hl) ?_; rintro e w' ⟨rfl, y, rfl⟩))
  refine bodyPost_ret (v := .tuple #[.int .i64 0, .bool false]) (by simp [results, Try.results15, go_sem]) rfl ⟨rfl, ?_⟩
  exact (by (try simp only [ext_ext]); repeat (first | exact Kept.refl _ | apply Kept.alloc | apply Kept.drew | apply kept_add | apply Kept.ext))
set_option maxHeartbeats 4000000 in
set_option maxRecDepth 20000 in
theorem sCountPlanes_yes (ao : Option Addr) (cap : Nat) (xs : List Card) (w : World) (hx : CardsAt w ao xs) (hh : isHand xs = true) :
    Calls Try.prog 14 #[.slice ao xs.length cap] w fun e w' => e = .returned (.tuple #[.int .i64 (cS xs xs.length : Nat), .bool true]) ∧ Kept w w' := by
  have hl27 := (isHand_of hh).1
  have hascH := hid (asc_hand hh)
  have hcH := hid (areC_hand hh)
  have hxH := hid hx
  have hHand := hid (fun (w' : World) (hk : Kept w w') => l2Hand_any ao cap xs w' (hx.kept hk) (by omega))
  rw [hh] at hHand
  obtain ⟨n, hn⟩ : ∃ n, n = xs.length := ⟨_, rfl⟩
  have hnH := hid hn
  rw [← hn] at hl27 hHand ⊢
  clear hx hn hh
  go_enter Try.func14, Try.ntmps14
  go_wp2_with (first | (go_at_call 28; refine Calls.mono (hHand.out _ ((by (try simp only [ext_ext]); repeat (first | exact Kept.refl _ | apply Kept.alloc | apply Kept.drew | apply kept_add | apply Kept.ext)))) ?_; rintro e w' ⟨rfl, y, rfl⟩))
  go_loopw [5, 4] (fun s5 s4 wr => ∃ i : Nat, i ≤ n ∧ s5 = .int .i64 (i : Int) ∧ s4 = .int .i64 (cS xs i : Nat) ∧ Kept w wr) (fun s5 _ _ => n - (intOf s5).toNat)
  case atStart => exact ⟨0, by omega, by go_num, rfl, (by (try simp only [ext_ext]); repeat (first | exact Kept.refl _ | apply Kept.alloc | apply Kept.drew | apply kept_add | apply Kept.ext))⟩
  case round =>
    obtain ⟨w0, hw0⟩ : ∃ w0, w0 = wr := ⟨_, rfl⟩
    subst hw0
    obtain ⟨i, hi, rfl, rfl, k0⟩ := hrel
    have k0H := hid k0
    have hb0 : cS xs i ≤ 19683 := cS_le (by rw [← hnH.out]; exact hl27) (by omega)
    have hnx0 := hid (cS_next xs i)
    have hst0 := hid (cK_start xs i)
    obtain ⟨A, hA⟩ : ∃ A, A = cS xs i := ⟨_, rfl⟩
    rw [← hA] at hb0 hnx0 ⊢
    have hAH := hid hA
    clear k0 hA
    by_cases hin : i < n
    · go_wp2_with (fail)
      go_loopw [6, 4] (fun s6 s4 wr => ∃ k : Nat, i < k ∧ k ≤ n ∧ s6 = .int .i64 (k : Int) ∧ s4 = .int .i64 ((A + cK xs i k : Nat) : Int) ∧ Kept w wr) (fun s6 _ _ => n - (intOf s6).toNat)
      case atStart => exact ⟨i + 1, by omega, by omega, by go_num, by rw [hst0.out]; rfl, k0H.out.trans (by (try simp only [ext_ext]); repeat (first | exact Kept.refl _ | apply Kept.alloc | apply Kept.drew | apply kept_add | apply Kept.ext))⟩
      case round =>
        obtain ⟨w1, hw1⟩ : ∃ w1, w1 = wr := ⟨_, rfl⟩
        subst hw1
        obtain ⟨k, hik, hk, rfl, rfl, k1⟩ := hrel
        have k1H := hid k1
        have hb1 : cK xs i k ≤ 729 := cK_le (by rw [← hnH.out]; exact hl27) (by omega)
        have hnx1 := hid (cK_next xs hik)
        have hst1 := hid (cM_start xs i k)
        rw [← hnH.out] at hnx1
        obtain ⟨B, hB⟩ : ∃ B, B = cK xs i k := ⟨_, rfl⟩
        rw [← hB] at hb1 hnx1 ⊢
        have hBH := hid hB
        clear hB
        by_cases hkn : k < n
        · obtain ⟨g, off, rfl, hg, a1, a2, a3, a4⟩ := (hxH.out.kept k1) i (by rw [← hnH.out]; exact hin)
          obtain ⟨_, _, e1, _, b1, b2, b3, b4⟩ := (hxH.out.kept k1) k (by rw [← hnH.out]; exact hkn)
          cases e1
          have hci := hcH.out i (by rw [← hnH.out]; exact hin)
          have hck := hcH.out k (by rw [← hnH.out]; exact hkn)
          have hT := hid (fun w' => l2Third_any (cx xs i) (cx xs k) hci hck w')
          obtain ⟨t, ht⟩ : ∃ t, t = thirdC (cx xs i) (cx xs k) := ⟨_, rfl⟩
          rw [← ht] at hT
          have htH := hid ht
          have hS := hid (fun w' (hk : Kept w1 w') => show w'.cell? ⟨g, off + i * 4, none⟩ = some (.int .i64 (cx xs i).a) ∧ w'.cell? ⟨g, off + i * 4 + 1, none⟩ = some (.int .i64 (cx xs i).b) ∧ w'.cell? ⟨g, off + i * 4 + 2, none⟩ = some (.int .i64 (cx xs i).c) ∧ w'.cell? ⟨g, off + i * 4 + 3, none⟩ = some (.int .i64 (cx xs i).d) ∧ w'.cell? ⟨g, off + k * 4, none⟩ = some (.int .i64 (cx xs k).a) ∧ w'.cell? ⟨g, off + k * 4 + 1, none⟩ = some (.int .i64 (cx xs k).b) ∧ w'.cell? ⟨g, off + k * 4 + 2, none⟩ = some (.int .i64 (cx xs k).c) ∧ w'.cell? ⟨g, off + k * 4 + 3, none⟩ = some (.int .i64 (cx xs k).d) from ⟨(hk.below.cell (p := ⟨_, _, none⟩) hg).trans a1, (hk.below.cell (p := ⟨_, _, none⟩) hg).trans a2, (hk.below.cell (p := ⟨_, _, none⟩) hg).trans a3, (hk.below.cell (p := ⟨_, _, none⟩) hg).trans a4, (hk.below.cell (p := ⟨_, _, none⟩) hg).trans b1, (hk.below.cell (p := ⟨_, _, none⟩) hg).trans b2, (hk.below.cell (p := ⟨_, _, none⟩) hg).trans b3, (hk.below.cell (p := ⟨_, _, none⟩) hg).trans b4⟩)
          have hxw1 := hid (hxH.out.kept k1)
          clear k1 ht
          go_upto_region 10 with (fail)
          go_cut [7] from 26 to 61 (fun s7 wx => ∃ g7, s7 = .pointer (some ⟨g7, 0, none⟩) ∧ g7 < wx.heap.size ∧ CardCells wx g7 0 t ∧ Kept w1 wx)
          case first =>
            go_region_held (fun w' => w'.cell? ⟨g, off + i * 4, none⟩ = some (.int .i64 (cx xs i).a) ∧ w'.cell? ⟨g, off + i * 4 + 1, none⟩ = some (.int .i64 (cx xs i).b) ∧ w'.cell? ⟨g, off + i * 4 + 2, none⟩ = some (.int .i64 (cx xs i).c) ∧ w'.cell? ⟨g, off + i * 4 + 3, none⟩ = some (.int .i64 (cx xs i).d) ∧ w'.cell? ⟨g, off + k * 4, none⟩ = some (.int .i64 (cx xs k).a) ∧ w'.cell? ⟨g, off + k * 4 + 1, none⟩ = some (.int .i64 (cx xs k).b) ∧ w'.cell? ⟨g, off + k * 4 + 2, none⟩ = some (.int .i64 (cx xs k).c) ∧ w'.cell? ⟨g, off + k * 4 + 3, none⟩ = some (.int .i64 (cx xs k).d)) (exact hS.out _ (by (try simp only [ext_ext]); repeat (first | exact Kept.refl _ | apply Kept.alloc | apply Kept.drew | apply kept_add | apply Kept.ext))) (first | (go_at_call 36; refine Calls.mono (hT.out _) ?_; rintro e w' ⟨rfl, y, rfl⟩))
            all_goals
              go_wp2_with (fail)
              go_meet
            all_goals first | exact ⟨_, rfl, by simp, cardCells_new _ (by simp), (by (try simp only [ext_ext]); repeat (first | exact Kept.refl _ | apply Kept.alloc | apply Kept.drew | apply kept_add | apply Kept.ext))⟩ | exact ⟨_, rfl, by simp <;> omega, cardCells_extS _ _ (by simp), (by (try simp only [ext_ext]); repeat (first | exact Kept.refl _ | apply Kept.alloc | apply Kept.drew | apply kept_add | apply Kept.ext))⟩
          case rest =>
            obtain ⟨g7, rfl, hg7, hc7, k7⟩ := hcut
            obtain ⟨w7, hw7⟩ : ∃ w7, w7 = wc := ⟨_, rfl⟩
            subst hw7
            have K7 := hid (k1H.out.trans k7)
            have hxw7 := hid (hxw1.out.kept k7)
            have hc7H := hid hc7
            obtain ⟨r1, r2, r3, r4⟩ := hc7
            have hH := hid (fun w' (hk : Kept w7 w') => l2Has_any (some ⟨g, off, none⟩) cap xs t w' (hxw7.out.kept hk) (by rw [← hnH.out]; omega))
            rw [← hnH.out] at hH
            clear k7
            by_cases hhas : t ∈ xs
            · rw [show hasC xs t = true by rw [hasC_mem]; exact decide_eq_true hhas] at hH
              go_wp2_with (first | (go_at_call 37; refine Calls.mono (hH.out _ ((by (try simp only [ext_ext]); repeat (first | exact Kept.refl _ | apply Kept.alloc | apply Kept.drew | apply kept_add | apply Kept.ext)))) ?_; rintro e w' ⟨rfl, y, rfl⟩))
              go_loopw [8, 4] (fun s8 s4 wr => ∃ m : Nat, k < m ∧ m ≤ n ∧ s8 = .int .i64 (m : Int) ∧ s4 = .int .i64 ((A + B + cM xs i k m : Nat) : Int) ∧ Kept w7 wr) (fun s8 _ _ => n - (intOf s8).toNat)
              case atStart => exact ⟨k + 1, by omega, by omega, by go_num, by rw [hst1.out]; rfl, (by (try simp only [ext_ext]); repeat (first | exact Kept.refl _ | apply Kept.alloc | apply Kept.drew | apply kept_add | apply Kept.ext))⟩
              case round =>
                obtain ⟨m, hkm, hm, rfl, rfl, k8⟩ := hrel
                have k8H := hid k8
                have hb2 : cM xs i k m ≤ 27 := Nat.le_trans (cM_le _ _ _ _) (by omega)
                have hnx2 := hid (cM_next xs (i := i) hkm)
                obtain ⟨C, hC⟩ : ∃ C, C = cM xs i k m := ⟨_, rfl⟩
                rw [← hC] at hb2 hnx2 ⊢
                have hCH := hid hC
                have hgw : g < wr.heap.size := by
                  obtain ⟨_, _, e, h, _⟩ := (hxw7.out.kept k8) i (by rw [← hnH.out]; exact hin)
                  cases e; exact h
                clear hC
                by_cases hmn : m < n
                · obtain ⟨_, _, e1, _, c1, c2, c3, c4⟩ := (hxw7.out.kept k8) m (by rw [← hnH.out]; exact hmn)
                  cases e1
                  obtain ⟨t1, t2, t3, t4⟩ := cardCells_kept hc7H.out hg7 k8
                  have hg7w : g7 < wr.heap.size := Nat.lt_of_lt_of_le hg7 k8.below.size
                  simp only [Nat.zero_add] at t1 t2 t3 t4
                  by_cases hmt : cx xs m = t
                  · have hd : decide (cx xs m = t) = true := decide_eq_true hmt
                    have hz := hid (show cI xs i k m = 0 by
                      unfold cI
                      rw [if_neg]
                      intro hc
                      have hp := (can_of hc).1
                      rw [planeC_iff] at hp
                      exact hp.2.2 (htH.out.symm.trans hmt.symm))
                    clear hmt k8
                    go_wp2_with (first | (refine wp_region_ext (by kernel_rfl) (by kernel_rfl) ?_; (repeat (go_big_quiet_step (fail))); refine wpQuiet_end fun z => ?_))
                    go_roundw
                    case rel => exact ⟨m + 1, by omega, by omega, by go_num, by rw [hnx2.out, hz.out]; rfl, k8H.out.trans (by (try simp only [ext_ext]); repeat (first | exact Kept.refl _ | apply Kept.alloc | apply Kept.drew | apply kept_add | apply Kept.ext))⟩
                    case measure => simp [intOf]; omega
                  · have hd : decide (cx xs m = t) = false := decide_eq_false hmt
                    have hp : planeC (cx xs i) (cx xs k) (cx xs m) = true := by
                      have hi' : i < xs.length := by rw [← hnH.out]; exact hin
                      have hk' : k < xs.length := by rw [← hnH.out]; exact hkn
                      have hm' : m < xs.length := by rw [← hnH.out]; exact hmn
                      have l1 := asc_lt hascH.out hik hk'
                      have l2 := asc_lt hascH.out hkm hm'
                      rw [planeC_iff]
                      exact ⟨⟨hci, hck, hcH.out m hm'⟩, ⟨fun e => by rw [e] at l1; omega, fun e => by rw [e] at l1; omega, fun e => by rw [e] at l2; omega⟩, fun e => hmt (e.symm.trans htH.out.symm)⟩
                    have hF := hid (fun w' (hk : Kept wr w') => l6First_any g off cap n i k m xs w' (hxw7.out.kept (k8H.out.trans hk)) hnH.out.symm hik hkm hmn (by omega) hp)
                    cases hcan : canB xs (cx xs i) (cx xs k) (cx xs m) with
                    | true =>
                      rw [hcan] at hF
                      have hz := hid (show cI xs i k m = 1 by unfold cI; rw [if_pos hcan])
                      have hwr : IntKind.i64.wrap (((A + B + C : Nat) : Int) + 1) = ((A + B + C : Nat) : Int) + 1 := Go.IntWalk.i64_in _ ⟨by omega, by omega⟩
                      clear hmt k8 hcan hp
                      go_wp2_with (first | (refine wp_region_ext (by kernel_rfl) (by kernel_rfl) ?_; (repeat (go_big_quiet_step (((go_at_call 38; first | exact ext_call (hF.out _ ((by (try simp only [ext_ext]); repeat (first | exact Kept.refl _ | apply Kept.alloc | apply Kept.drew | apply kept_add | apply Kept.ext)))) | exact ext_call2 (hF.out _ ((by (try simp only [ext_ext]); repeat (first | exact Kept.refl _ | apply Kept.alloc | apply Kept.drew | apply kept_add | apply Kept.ext))))))))); refine wpQuiet_end fun z => ?_))
                      go_roundw
                      case rel => exact ⟨m + 1, by omega, by omega, by go_num, by rw [hnx2.out, hz.out]; go_num, k8H.out.trans (by (try simp only [ext_ext]); repeat (first | exact Kept.refl _ | apply Kept.alloc | apply Kept.drew | apply kept_add | apply Kept.ext))⟩
                      case measure => simp [intOf]; omega
                    | false =>
                      rw [hcan] at hF
                      have hz := hid (show cI xs i k m = 0 by unfold cI; rw [if_neg (by rw [hcan]; simp)])
                      clear hmt k8 hcan hp
                      go_wp2_with (first | (refine wp_region_ext (by kernel_rfl) (by kernel_rfl) ?_; (repeat (go_big_quiet_step (((go_at_call 38; first | exact ext_call (hF.out _ ((by (try simp only [ext_ext]); repeat (first | exact Kept.refl _ | apply Kept.alloc | apply Kept.drew | apply kept_add | apply Kept.ext)))) | exact ext_call2 (hF.out _ ((by (try simp only [ext_ext]); repeat (first | exact Kept.refl _ | apply Kept.alloc | apply Kept.drew | apply kept_add | apply Kept.ext))))))))); refine wpQuiet_end fun z => ?_))
                      go_roundw
                      case rel => exact ⟨m + 1, by omega, by omega, by go_num, by rw [hnx2.out, hz.out]; rfl, k8H.out.trans (by (try simp only [ext_ext]); repeat (first | exact Kept.refl _ | apply Kept.alloc | apply Kept.drew | apply kept_add | apply Kept.ext))⟩
                      case measure => simp [intOf]; omega
                · obtain rfl : m = n := by omega
                  clear k8
                  go_wp2_with (fail)
                  go_roundw
                  case rel => exact ⟨k + 1, by omega, by omega, by go_num, by rw [hnx1.out, ← hCH.out]; go_num, K7.out.trans (k8H.out.trans (by (try simp only [ext_ext]); repeat (first | exact Kept.refl _ | apply Kept.alloc | apply Kept.drew | apply kept_add | apply Kept.ext)))⟩
                  case measure => simp [intOf]; omega
            · rw [show hasC xs t = false by rw [hasC_mem]; exact decide_eq_false hhas] at hH
              have hz := hid (show cM xs i k n = 0 from sN_low fun j hj => by
                by_cases hkj : k < j
                · rw [if_pos hkj]
                  unfold cI
                  rw [if_neg]
                  intro hc
                  exact hhas (by rw [htH.out]; exact (can_asc hc).2.2)
                · rw [if_neg hkj])
              go_wp2_with (first | (go_at_call 37; refine Calls.mono (hH.out _ ((by (try simp only [ext_ext]); repeat (first | exact Kept.refl _ | apply Kept.alloc | apply Kept.drew | apply kept_add | apply Kept.ext)))) ?_; rintro e w' ⟨rfl, y, rfl⟩))
              go_roundw
              case rel => exact ⟨k + 1, by omega, by omega, by go_num, by rw [hnx1.out, hz.out]; rfl, K7.out.trans (by (try simp only [ext_ext]); repeat (first | exact Kept.refl _ | apply Kept.alloc | apply Kept.drew | apply kept_add | apply Kept.ext))⟩
              case measure => simp [intOf]; omega
        · obtain rfl : k = n := by omega
          clear k1
          go_wp2_with (fail)
          go_roundw
          case rel => exact ⟨i + 1, by omega, by go_num, by rw [hnx0.out, ← hnH.out, ← hBH.out], k1H.out.trans (by (try simp only [ext_ext]); repeat (first | exact Kept.refl _ | apply Kept.alloc | apply Kept.drew | apply kept_add | apply Kept.ext))⟩
          case measure => simp [intOf]; omega
    · obtain rfl : i = n := by omega
      go_wp2
      refine bodyPost_ret (v := .tuple #[.int .i64 (A : Nat), .bool true]) (by simp [results, Try.results14, go_sem]) rfl ?_
      exact ⟨by rw [hAH.out], k0H.out.trans (by (try simp only [ext_ext]); repeat (first | exact Kept.refl _ | apply Kept.alloc | apply Kept.drew | apply kept_add | apply Kept.ext))⟩
end Go.Proofs.Ytenmnipgnjaheaa
