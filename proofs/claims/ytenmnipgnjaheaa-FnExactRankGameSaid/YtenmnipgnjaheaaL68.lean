/- Walk: the law of RankGame. -/
import Derived.Test.YtenmnipgnjaheaaT88
import Derived.Test.YtenmnipgnjaheaaR3
namespace Go.Proofs.Ytenmnipgnjaheaa
open Go.RowKit
theorem sRankGame_no (s n : Int) (lo so wo : Option Addr) (lc sc wc : Nat) (laid : List Card) (scores wrong : List Int) (w : World) (hx : CardsAt w lo laid) (hy : IntsAt w so scores) (hz : IntsAt w wo wrong) (hl : laid.length ≤ 1048576) (hl2 : scores.length ≤ 1048576) (hl3 : wrong.length ≤ 1048576) (hlc : laid.length ≤ lc) (hg : gameB s n laid scores wrong = false) :
    Calls Try.prog 17 #[gv s n (.slice lo laid.length lc) (.slice so scores.length sc) (.slice wo wrong.length wc)] w (RetIT w false []) := by
  have hG0 := fun w' (hk : Kept w w') => l8Game_any s n lo so wo lc sc wc laid scores wrong w' (hx.kept hk) (hy.kept hk) (hz.kept hk) hl hl2 hl3 hlc
  rw [hg] at hG0
  have hG := hid hG0
  clear hG0
  go_enter Try.func17, Try.ntmps17
  go_wp2_with (first | (go_at_call 43; refine Calls.mono (hG.out _ ((by (try simp only [ext_ext]); repeat (first | exact Kept.refl _ | apply Kept.alloc | apply Kept.drew | apply kept_add | apply Kept.ext)))) ?_; rintro e w' ⟨rfl, y, rfl⟩))
  refine bodyPost_ret (v := .tuple #[.slice (some ⟨w.heap.size + 1, 0, none⟩) 0 0, .bool false]) (by simp [results, Try.results17, go_sem]) rfl ?_
  exact ⟨_, rfl, ownI_nil (by omega) ((ext_heap _ _ _ (by simp)).trans (heap_at (by simp))), (by (try simp only [ext_ext]); repeat (first | exact Kept.refl _ | apply Kept.alloc | apply Kept.drew | apply kept_add | apply Kept.ext))⟩
theorem iRankGame_no (s n : Int) (lo so wo : Option Addr) (lc sc wc : Nat) (laid : List Card) (scores wrong : List Int) (w : World) (hx : CardsAt w lo laid) (hy : IntsAt w so scores) (hz : IntsAt w wo wrong) (hl : laid.length ≤ 1048576) (hl2 : scores.length ≤ 1048576) (hl3 : wrong.length ≤ 1048576) (hlc : laid.length ≤ lc) (hg : gameB s n laid scores wrong = false) :
    Calls Try.prog 19 #[gv s n (.slice lo laid.length lc) (.slice so scores.length sc) (.slice wo wrong.length wc)] w (RetIT w false []) := by
  have hG0 := fun w' (hk : Kept w w') => IsGame_any s n lo so wo lc sc wc laid scores wrong w' (hx.kept hk) (hy.kept hk) (hz.kept hk) hl hl2 hl3 hlc
  rw [hg] at hG0
  have hG := hid hG0
  clear hG0
  go_enter Try.func19, Try.ntmps19
  go_wp2_with (first | (go_at_call 48; refine Calls.mono (hG.out _ ((by (try simp only [ext_ext]); repeat (first | exact Kept.refl _ | apply Kept.alloc | apply Kept.drew | apply kept_add | apply Kept.ext)))) ?_; rintro e w' ⟨rfl, y, rfl⟩))
  refine bodyPost_ret (v := .tuple #[.slice none 0 0, .bool false]) (by simp [results, Try.results19, go_sem]) rfl ?_
  exact ⟨_, rfl, ownI_none _ _, (by (try simp only [ext_ext]); repeat (first | exact Kept.refl _ | apply Kept.alloc | apply Kept.drew | apply kept_add | apply Kept.ext))⟩
theorem ints_range_next (k : Nat) : ints (List.range (k + 1)) = ints (List.range k) ++ [(k : Int)] := by simp [ints, List.range_succ]
set_option maxHeartbeats 2000000 in
set_option maxRecDepth 20000 in
theorem iRankGame_yes (s n : Int) (lo so wo : Option Addr) (lc sc wc : Nat) (laid : List Card) (scores wrong : List Int) (w : World) (hx : CardsAt w lo laid) (hy : IntsAt w so scores) (hz : IntsAt w wo wrong) (hl : laid.length ≤ 1048576) (hl2 : scores.length ≤ 1048576) (hl3 : wrong.length ≤ 1048576) (hlc : laid.length ≤ lc) (hg : gameB s n laid scores wrong = true)
    (pts : List Int) (m : Nat) (hpts : pts = ptsK scores wrong scores.length) (hm : m = scores.length) :
    Calls Try.prog 19 #[gv s n (.slice lo laid.length lc) (.slice so scores.length sc) (.slice wo wrong.length wc)] w (RetIT w true (ints (rkR (betR pts wrong) m))) := by
  have hG0 := fun w' (hk : Kept w w') => IsGame_any s n lo so wo lc sc wc laid scores wrong w' (hx.kept hk) (hy.kept hk) (hz.kept hk) hl hl2 hl3 hlc
  rw [hg] at hG0
  have hG := hid hG0
  have hok := gameB_of hg
  have hP0 := fun w' (hk : Kept w w') => points_any s n lo so wo lc sc wc laid scores wrong w' (hy.kept hk) (hz.kept hk) hok
  have hlen : pts.length = m := by rw [hpts, ptsK_len, hm]
  have h4 : m ≤ 4 := by rw [hm]; exact hok.four
  have h1 : 1 ≤ m := by rw [hm]; exact hok.one
  have hwl : wrong.length = m := by rw [hm]; exact hok.same
  rw [← hpts] at hP0
  have hP := hid hP0
  have hzH := hid hz
  have hwlH := hid hwl
  have hlenH := hid hlen
  have bx := hid (fun (w' : World) (hk : Kept (w.alloc (.cells #[.int .i64 s, .int .i64 n, .slice lo laid.length lc, .slice so scores.length sc, .slice wo wrong.length wc] 41)) w') => (Box5.new (t := 41) s n (.slice lo laid.length lc) (.slice so scores.length sc) (.slice wo wrong.length wc) (rfl : w.heap.size = w.heap.size)).kept hk)
  clear hG0 hok hg hP0 hpts hlen hwl hm hx hy hz
  go_enter Try.func19, Try.ntmps19
  go_wp2_with (first | (go_at_call 48; refine Calls.mono (hG.out _ ((by (try simp only [ext_ext]); repeat (first | exact Kept.refl _ | apply Kept.alloc | apply Kept.drew | apply kept_add | apply Kept.ext)))) ?_; rintro e w' ⟨rfl, y, rfl⟩))
  (go_at_call 49; refine Calls.mono (hP.out _ (by (try simp only [ext_ext]); repeat (first | exact Kept.refl _ | apply Kept.alloc | apply Kept.drew | apply kept_add | apply Kept.ext))) ?_; rintro e w1 ⟨v, rfl, ho, k1⟩)
  have K1 := hid (show Kept (w.alloc (.cells #[.int .i64 s, .int .i64 n, .slice lo laid.length lc, .slice so scores.length sc, .slice wo wrong.length wc] 41)) w1 from Kept.trans (by (try simp only [ext_ext]); repeat (first | exact Kept.refl _ | apply Kept.alloc | apply Kept.drew | apply kept_add | apply Kept.ext)) k1)
  have Kw1 := hid (show Kept w w1 from Kept.trans (by (try simp only [ext_ext]); repeat (first | exact Kept.refl _ | apply Kept.alloc | apply Kept.drew | apply kept_add | apply Kept.ext)) k1)
  obtain ⟨po, pc, rfl, hpo0, _⟩ := ho.reads
  rw [hlenH.out]
  have hpo := hid hpo0
  clear ho k1 hpo0
  go_wp2_with (fail)
  go_loopw [15, 5] (fun s15 s5 wr => ∃ k : Nat, k ≤ m ∧ s15 = .int .i64 (k : Int) ∧ OwnI w1.heap.size wr s5 (ints (List.range k)) ∧ s5.ownBlock ≠ some (w1.heap.size + 1) ∧ wr.heap[w1.heap.size + 1]? = some (.cells #[.slice po m pc] 33 (0, 0)) ∧ Kept w1 wr) (fun s15 _ _ => m - (intOf s15).toNat)
  case atStart => exact ⟨0, by omega, rfl, show OwnI _ _ _ [] from ownI_nil (Nat.le_refl _) (heap_past (by simp) (heap_at rfl)), fun e => by have h2 : w1.heap.size = w1.heap.size + 1 := Option.some.inj e; omega, heap_at (by simp), (by (try simp only [ext_ext]); repeat (first | exact Kept.refl _ | apply Kept.alloc | apply Kept.drew | apply kept_add | apply Kept.ext))⟩
  case round =>
    obtain ⟨wr0, hwr0⟩ : ∃ wr0, wr0 = wr := ⟨_, rfl⟩
    subst hwr0
    obtain ⟨k, hk, rfl, hown, hne, hbx, hkw⟩ := hrel
    have hownH := hid hown
    have hneH := hid hne
    have hbxH := hid hbx
    have hkwH := hid hkw
    have hnx := hid (ints_range_next k)
    have hll : Hid ((ints (List.range k)).length = k) := hid (by rw [ints_len]; simp)
    obtain ⟨ao5, cap5, hv5, _, _⟩ := hown.reads
    rw [hll.out] at hv5
    subst hv5
    have hsz : w1.heap.size + 1 < wr0.heap.size := (Array.getElem?_eq_some_iff.1 hbx).1
    clear hown hne hbx hkw
    by_cases hlt : k < m
    · go_wp2_with (first | (at_builtin; refine wpList_append_int rfl _ _ rfl w1 w1.heap.size _ (ints (List.range k)) rfl (hownH.out.kept (by (try simp only [ext_ext]); repeat (first | exact Kept.refl _ | apply Kept.alloc | apply Kept.drew | apply kept_add | apply Kept.ext))) (hkwH.out.trans (by (try simp only [ext_ext]); repeat (first | exact Kept.refl _ | apply Kept.alloc | apply Kept.drew | apply kept_add | apply Kept.ext))) (Nat.le_refl _) (Kept.below (hkwH.out.trans (by (try simp only [ext_ext]); repeat (first | exact Kept.refl _ | apply Kept.alloc | apply Kept.drew | apply kept_add | apply Kept.ext)))).size _ _ (k : Int) rfl (cell_of_row _ _ 0 _ _ (0, 0) (heap_at (by simp))) (by rw [hll.out]; omega) ?_; intro v' w' hown' hkw' hgr' hat'))
      go_roundw
      case rel =>
        refine ⟨k + 1, by omega, by go_num, by rw [hnx.out]; exact hown', ?_, ?_, hkw'⟩
        · rcases hat' with h3 | h3
          · rw [h3]; exact hneH.out
          · rw [h3]; intro e; have := Option.some.inj e; simp at this; omega
        · refine (hgr'.block _ (by simp; omega) (fun e => hneH.out e.symm)).trans ?_
          exact (Kept.below (show Kept wr0 _ from (by (try simp only [ext_ext]); repeat (first | exact Kept.refl _ | apply Kept.alloc | apply Kept.drew | apply kept_add | apply Kept.ext)))).block _ hsz |>.trans hbxH.out
      case measure => simp [intOf]; omega
    · obtain rfl : k = m := by omega
      obtain ⟨g5, rfl⟩ : ∃ g5, ao5 = some ⟨g5, 0, none⟩ := by
        rcases hownH.out.2 with ⟨_, h0⟩ | ⟨g', cap', cur, e, _⟩
        · rw [hll.out] at h0; omega
        · rw [hll.out] at e; cases e; exact ⟨g', rfl⟩
      obtain ⟨hrow, hB5, hm5⟩ := OwnI.rowX hownH.out
      have hB5H := hid hB5
      have hm5H := hid hm5
      have hS := hid (fun w' (hk : Kept wr0 w') => stableRank_any g5 cap5 k pts wrong (w1.heap.size + 1) w.heap.size w' (hrow.kept hk) h1 h4 (fun w'' hgr x y hx hy => by
        have K2 : Kept w1 w'' := Kept.grown (hkwH.out.trans hk) hgr (fun b e => by cases e; exact hB5)
        have hne5 : g5 ≠ w1.heap.size + 1 := fun e => hneH.out (by rw [e]; rfl)
        have hbb : w''.heap[w1.heap.size + 1]? = some (.cells #[.slice po k pc] 33 (0, 0)) := (hgr.block _ (Nat.lt_of_lt_of_le hsz hk.below.size) (fun e => hne5 (Option.some.inj e).symm)).trans ((hk.below.block _ hsz).trans hbxH.out)
        obtain ⟨A0, _, _, _, _, A5⟩ := bx.out _ (K1.out.trans K2)
        rw [hwlH.out] at A5
        exact rank1_any (w1.heap.size + 1) w.heap.size k pts wrong po wo pc wc x y w'' (cell_of_row _ _ 0 _ _ (0, 0) hbb) A5 (Array.getElem?_eq_some_iff.1 hbb).1 A0 (hpo.out.kept K2) (hzH.out.kept (Kw1.out.trans K2)) hlenH.out hwlH.out hx hy))
      clear hrow hB5 hm5
      go_wp2_with (fail)
      (go_at_call 50; refine Calls.mono (hS.out _ (by (try simp only [ext_ext]); repeat (first | exact Kept.refl _ | apply Kept.alloc | apply Kept.drew | apply kept_add | apply Kept.ext))) ?_; rintro e w9 ⟨rfl, hr9, hg9⟩)
      have K9 := hid (show Kept w w9 from Kw1.out.trans (Kept.grown (hkwH.out.trans (by (try simp only [ext_ext]); repeat (first | exact Kept.refl _ | apply Kept.alloc | apply Kept.drew | apply kept_add | apply Kept.ext))) hg9 (fun b e => by cases e; exact hB5H.out)))
      have hfin := hid (hr9.own (B := w1.heap.size) (n := k) (rkR_len _ _) hB5H.out hm5H.out)
      clear hr9 hg9 hS
      go_wp2_with (fail)
      refine bodyPost_ret (v := .tuple #[.slice (some ⟨g5, 0, none⟩) k cap5, .bool true]) (by simp [results, Try.results19, go_sem]) rfl ?_
      exact ⟨_, rfl, hfin.out.mono Kw1.out.below.size, K9.out.trans (by (try simp only [ext_ext]); repeat (first | exact Kept.refl _ | apply Kept.alloc | apply Kept.drew | apply kept_add | apply Kept.ext))⟩
set_option maxHeartbeats 4000000 in
set_option maxRecDepth 20000 in
theorem sRankGame_yes (s n : Int) (lo so wo : Option Addr) (lc sc wc : Nat) (laid : List Card) (scores wrong : List Int) (w : World) (hx : CardsAt w lo laid) (hy : IntsAt w so scores) (hz : IntsAt w wo wrong) (hl : laid.length ≤ 1048576) (hl2 : scores.length ≤ 1048576) (hl3 : wrong.length ≤ 1048576) (hlc : laid.length ≤ lc) (hg : gameB s n laid scores wrong = true)
    (pts : List Int) (m : Nat) (hpts : pts = ptsK scores wrong scores.length) (hm : m = scores.length) :
    Calls Try.prog 17 #[gv s n (.slice lo laid.length lc) (.slice so scores.length sc) (.slice wo wrong.length wc)] w (RetIT w true (ints (rkR (betR pts wrong) m))) := by
  have hG0 := fun w' (hk : Kept w w') => l8Game_any s n lo so wo lc sc wc laid scores wrong w' (hx.kept hk) (hy.kept hk) (hz.kept hk) hl hl2 hl3 hlc
  rw [hg] at hG0
  have hG := hid hG0
  have hok := gameB_of hg
  have hP0 := fun w' (hk : Kept w w') => l8Points_any s n lo so wo lc sc wc laid scores wrong w' (hy.kept hk) (hz.kept hk) hok
  have hlen : pts.length = m := by rw [hpts, ptsK_len, hm]
  have h4 : m ≤ 4 := by rw [hm]; exact hok.four
  have h1 : 1 ≤ m := by rw [hm]; exact hok.one
  have hwl : wrong.length = m := by rw [hm]; exact hok.same
  rw [← hpts] at hP0
  have hP := hid hP0
  have hzH := hid hz
  have hwlH := hid hwl
  have hlenH := hid hlen
  obtain ⟨b, hb⟩ : ∃ b, b = betR pts wrong := ⟨_, rfl⟩
  have hbH := hid (fun i j => show b i j = (decide (ix pts j < ix pts i) || (decide (ix pts i = ix pts j) && decide (ix wrong i < ix wrong j))) by rw [hb]; rfl)
  rw [← hb]
  have bx := hid (fun (w' : World) (hk : Kept (w.alloc (.cells #[.int .i64 s, .int .i64 n, .slice lo laid.length lc, .slice so scores.length sc, .slice wo wrong.length wc] 41)) w') => (Box5.new (t := 41) s n (.slice lo laid.length lc) (.slice so scores.length sc) (.slice wo wrong.length wc) (rfl : w.heap.size = w.heap.size)).kept hk)
  clear hG0 hok hg hP0 hpts hlen hwl hm hx hy hz hb
  go_enter Try.func17, Try.ntmps17
  go_wp2_with (first | (go_at_call 43; refine Calls.mono (hG.out _ ((by (try simp only [ext_ext]); repeat (first | exact Kept.refl _ | apply Kept.alloc | apply Kept.drew | apply kept_add | apply Kept.ext)))) ?_; rintro e w' ⟨rfl, y, rfl⟩))
  have hz0 : OwnI (w.heap.size + 1) (ext ((w.alloc (.cells #[.int .i64 s, .int .i64 n, .slice lo laid.length lc, .slice so scores.length sc, .slice wo wrong.length wc] 41)).alloc (.cells #[] 3)) y) (.slice (some ⟨w.heap.size + 1, 0, none⟩) 0 0) [] := ownI_nil (Nat.le_refl _) ((ext_heap _ _ _ (by simp)).trans (heap_at (by simp)))
  (go_at_call 44; refine Calls.mono (hP.out _ (by (try simp only [ext_ext]); repeat (first | exact Kept.refl _ | apply Kept.alloc | apply Kept.drew | apply kept_add | apply Kept.ext))) ?_; rintro e w1 ⟨v, rfl, ho, k1⟩)
  have K1 := hid (show Kept (w.alloc (.cells #[.int .i64 s, .int .i64 n, .slice lo laid.length lc, .slice so scores.length sc, .slice wo wrong.length wc] 41)) w1 from Kept.trans (by (try simp only [ext_ext]); repeat (first | exact Kept.refl _ | apply Kept.alloc | apply Kept.drew | apply kept_add | apply Kept.ext)) k1)
  have Kw1 := hid (show Kept w w1 from Kept.trans (by (try simp only [ext_ext]); repeat (first | exact Kept.refl _ | apply Kept.alloc | apply Kept.drew | apply kept_add | apply Kept.ext)) k1)
  have hz1 := hid (hz0.kept k1)
  have hw1s := hid (show w.heap.size + 1 ≤ w1.heap.size by have := k1.below.size; simp at this; omega)
  obtain ⟨po, pc, rfl, hpo0, _⟩ := ho.reads
  rw [hlenH.out]
  have hpo := hid hpo0
  clear ho k1 hpo0 hz0
  go_wp2_with (fail)
  go_loopw [6, 4] (fun s6 s4 wr => ∃ k : Nat, k ≤ m ∧ s6 = .int .i64 (k : Int) ∧ (∃ g cap, s4 = .slice (some ⟨g, 0, none⟩) k cap) ∧ OwnI (w.heap.size + 1) wr s4 (ints (rkR b k)) ∧ Kept w1 wr) (fun s6 _ _ => m - (intOf s6).toNat)
  case atStart => exact ⟨0, by omega, rfl, ⟨_, _, rfl⟩, hz1.out, (by (try simp only [ext_ext]); repeat (first | exact Kept.refl _ | apply Kept.alloc | apply Kept.drew | apply kept_add | apply Kept.ext))⟩
  case round =>
    obtain ⟨w0, hw0⟩ : ∃ w0, w0 = wr := ⟨_, rfl⟩
    subst hw0
    obtain ⟨k, hk, rfl, ⟨g4, cap4, rfl⟩, hown, hkw⟩ := hrel
    have hownH := hid hown
    have hkwH := hid hkw
    have hrl := hid (rkR_len b k)
    obtain ⟨_, _, hv4, hx4, hcap4⟩ := hown.reads
    rw [ints_len, hrl.out] at hv4 hcap4
    cases hv4
    have hx4H := hid hx4
    clear hown hkw
    by_cases hlt : k < m
    · obtain ⟨N, hN⟩ : ∃ N, plR b (rkR b k) k k = N := ⟨_, rfl⟩
      have hnx := hid (rkR_next hN)
      have hNk : N ≤ k := by rw [← hN]; exact plR_le _ _ _ _
      have hNH := hid hN
      have hrlt := hid (fun q (h : q < k) => rkR_at b h)
      clear hN
      obtain ⟨xs, hxs⟩ : ∃ xs, xs = rkR b k := ⟨_, rfl⟩
      rw [← hxs] at hnx hNH hrl hrlt hx4H hownH hx4
      clear hxs
      have hplY := hid (fun q => plR_yes (b := b) (xs := xs) (i := k) (n := q))
      have hplN := hid (fun q => plR_no (b := b) (xs := xs) (i := k) (n := q))
      obtain ⟨A0, _, _, _, _, A5⟩ := bx.out _ (K1.out.trans hkwH.out)
      rw [hwlH.out] at A5
      obtain ⟨gp, op, rfl, hgp, p1⟩ := (hpo.out.kept hkwH.out) k (by rw [hlenH.out]; exact hlt)
      obtain ⟨gw, ow, rfl, hgw, q1⟩ := (hzH.out.kept (Kw1.out.trans hkwH.out)) k (by rw [hwlH.out]; exact hlt)
      have hpA := hid (fun p (h : p < m) => show w0.cell? ⟨gp, op + p, none⟩ = some (.int .i64 (ix pts p)) by
        obtain ⟨_, _, he, _, h1⟩ := (hpo.out.kept hkwH.out) p (by rw [hlenH.out]; exact h)
        cases he; exact h1)
      have hwA := hid (fun p (h : p < m) => show w0.cell? ⟨gw, ow + p, none⟩ = some (.int .i64 (ix wrong p)) by
        obtain ⟨_, _, he, _, h1⟩ := (hzH.out.kept (Kw1.out.trans hkwH.out)) p (by rw [hwlH.out]; exact h)
        cases he; exact h1)
      have hoA := hid (fun q (h : q < k) => show g4 < w0.heap.size ∧ w0.cell? ⟨g4, q, none⟩ = some (.int .i64 ((xs.getD q 0 : Nat) : Int)) by
        obtain ⟨_, _, he, hg, h1⟩ := hx4 q (by rw [ints_len, hrl.out]; exact h)
        cases he
        rw [Nat.zero_add, ints_ix] at h1
        exact ⟨hg, h1⟩)
      have hkm : (k : Int) < (m : Int) := by omega
      clear hx4
      go_wp2_with (fail)
      go_loopw [7] (fun s7 wr => ∃ j : Nat, j ≤ k ∧ s7 = .int .i64 (j : Int) ∧ plR b xs k j = N ∧ Kept w0 wr) (fun s7 _ => (intOf s7).toNat)
      case atStart => exact ⟨k, Nat.le_refl _, rfl, hNH.out, (by (try simp only [ext_ext]); repeat (first | exact Kept.refl _ | apply Kept.alloc | apply Kept.drew | apply kept_add | apply Kept.ext))⟩
      case round =>
        obtain ⟨j, hj, rfl, hp, z, rfl⟩ := hrel
        have hpH := hid hp
        clear hp
        rcases Nat.eq_zero_or_pos j with rfl | hj0
        · have e : N = 0 := by rw [← hpH.out]; rfl
          subst e
          go_upto_region 11 with (first | (refine wp_region_ext (by kernel_rfl) (by kernel_rfl) ?_; (repeat (go_big_quiet_step ((fail)))); refine wpQuiet_end fun z => ?_))
          generalize hw2 : ext w0 _ = w2
          have k2 : Kept w0 w2 := by rw [← hw2]; exact ⟨_, rfl⟩
          clear hw2
          have k2H := hid k2
          have hO := hid (fun w' (hk : Kept w2 w') => l1Own_any (ints (xs.take 0)) 0 (some ⟨g4, 0, none⟩) cap4 w' (by rw [ints_len, List.length_take, hrl.out]; omega) (by rw [ints_take]; exact ints_takeA (hx4H.out.kept (k2.trans hk)) 0) (fun e => by cases e) (by omega))
          have hdr := hid (ints_dropA (hx4H.out.kept k2) (by rw [ints_len, hrl.out]) hcap4 0)
          have hdl := hid (show ((ints xs).drop 0).length = k - 0 by rw [List.length_drop, ints_len, hrl.out])
          have htl := hid (show (ints (xs.take 0)).length = 0 by rw [ints_len, List.length_take, hrl.out]; omega)
          have hal := hid (show (ints (xs.take 0) ++ [(k : Int)]).length = 0 + 1 by rw [List.length_append, htl.out]; rfl)
          have hfin := hid (show ints (rkR b (k + 1)) = ints (xs.take 0) ++ [(k : Int)] ++ (ints xs).drop 0 by rw [hnx.out, ints_app, ints_app, ints_drop]; rfl)
          have hfl := hid (show (ints (rkR b (k + 1))).length = k + 1 by rw [ints_len, rkR_len])
          have hc1 : ((0 : Nat) : Int) ≤ (cap4 : Int) := by omega
          have hc2 : ((0 : Nat) : Int) ≤ (k : Int) := by omega
          have hc3 : (k : Int) ≤ (cap4 : Int) := by omega
          have hc5 : 0 ≤ cap4 := by omega
          clear k2
          by_cases hcN : cap4 = 0
          · have hdr2 := hdr.out
            rw [if_pos hcN] at hdr2
            have hdrH := hid hdr2
            clear hdr hdr2
            subst hcN
            go_region_held3 (fun _ => True) (exact trivial) (first | (refine step_append_intsA rfl _ _ rfl w2 w2.heap.size v5 _ rfl (ho5.kept (by (try simp only [ext_ext]); repeat (first | exact Kept.refl _ | apply Kept.alloc | apply Kept.drew | apply kept_add | apply Kept.ext))) (k5.trans (by (try simp only [ext_ext]); repeat (first | exact Kept.refl _ | apply Kept.alloc | apply Kept.drew | apply kept_add | apply Kept.ext))) (Nat.le_refl _) (Kept.below (k5.trans (by (try simp only [ext_ext]); repeat (first | exact Kept.refl _ | apply Kept.alloc | apply Kept.drew | apply kept_add | apply Kept.ext)))).size ⟨g4, 0, none⟩ _ _ ((ints xs).drop (0)) rfl (by first | exact hdl.out | (rw [hdl.out]; omega)) (hdrH.out.kept (k5.trans (by (try simp only [ext_ext]); repeat (first | exact Kept.refl _ | apply Kept.alloc | apply Kept.drew | apply kept_add | apply Kept.ext)))) (by rw [hal.out]; omega) ?_; intro v6 w6 ho6 k6) | (refine step_append_int rfl _ _ rfl w2 w2.heap.size v4 (ints (xs.take (0))) rfl (ho4.kept (by (try simp only [ext_ext]); repeat (first | exact Kept.refl _ | apply Kept.alloc | apply Kept.drew | apply kept_add | apply Kept.ext))) (Kept.trans k40 (by (try simp only [ext_ext]); repeat (first | exact Kept.refl _ | apply Kept.alloc | apply Kept.drew | apply kept_add | apply Kept.ext))) (Nat.le_refl _) (Kept.below (Kept.trans k40 (by (try simp only [ext_ext]); repeat (first | exact Kept.refl _ | apply Kept.alloc | apply Kept.drew | apply kept_add | apply Kept.ext)))).size _ _ (k : Int) rfl (by first | exact hcc | (simp; done) | (simpa [More.bump] using hcc)) (by rw [htl.out]; omega) ?_; intro v5 w5 ho5 k5) | (refine step_append_int rfl _ _ rfl w2 w2.heap.size v4 (ints (xs.take (0))) rfl (ho4.kept (by (try simp only [ext_ext]); repeat (first | exact Kept.refl _ | apply Kept.alloc | apply Kept.drew | apply kept_add | apply Kept.ext))) (Kept.trans k40 (by (try simp only [ext_ext]); repeat (first | exact Kept.refl _ | apply Kept.alloc | apply Kept.drew | apply kept_add | apply Kept.ext))) (Nat.le_refl _) (Kept.below (Kept.trans k40 (by (try simp only [ext_ext]); repeat (first | exact Kept.refl _ | apply Kept.alloc | apply Kept.drew | apply kept_add | apply Kept.ext)))).size _ _ (k : Int) rfl (cell_of_row _ _ 0 _ _ (0, 0) (heap_at (by simp))) (by rw [htl.out]; omega) ?_; intro v5 w5 ho5 k5) | (go_at_call 45; refine Calls.mono (hO.out _ (by (try simp only [ext_ext]); repeat (first | assumption | exact Kept.refl _ | apply Kept.alloc | apply Kept.drew | apply kept_add | apply Kept.ext))) ?_; rintro e w4 ⟨v4, rfl, ho40, k4⟩; have k40 : Kept w2 w4 := Kept.trans (by (try simp only [ext_ext]); repeat (first | assumption | exact Kept.refl _ | apply Kept.alloc | apply Kept.drew | apply kept_add | apply Kept.ext)) k4;  have ho4 := ho40.mono (B' := w2.heap.size) (Kept.below (show Kept w2 _ from (by (try simp only [ext_ext]); repeat (first | assumption | exact Kept.refl _ | apply Kept.alloc | apply Kept.drew | apply kept_add | apply Kept.ext)))).size; first | have hcc := intCell_kept (intCell_new (k : Int) rfl) (by simp) k4 | skip))
            all_goals
              go_wp2_with (fail)
              go_roundw
              case rel =>
                have ho6' := ho6
                rw [← hfin.out] at ho6'
                obtain ⟨ao6, cap6, rfl, _, _⟩ := ho6'.reads
                refine ⟨k + 1, by omega, by go_num, ?_, ho6'.mono (by have := hw1s.out; have := (hkwH.out.trans k2H.out).below.size; omega), hkwH.out.trans (k2H.out.trans k6)⟩
                rcases ho6'.2 with ⟨_, h0⟩ | ⟨g', cap', cur, e, _⟩
                · rw [hfl.out] at h0; omega
                · rw [hfl.out] at e ⊢; exact ⟨g', cap', e⟩
              case measure => simp [intOf]; omega
          · have hdr2 := hdr.out
            rw [if_neg hcN, Nat.zero_add] at hdr2
            have hdrH := hid hdr2
            clear hdr hdr2
            go_region_held3 (fun _ => True) (exact trivial) (first | (refine step_append_intsA rfl _ _ rfl w2 w2.heap.size v5 _ rfl (ho5.kept (by (try simp only [ext_ext]); repeat (first | exact Kept.refl _ | apply Kept.alloc | apply Kept.drew | apply kept_add | apply Kept.ext))) (k5.trans (by (try simp only [ext_ext]); repeat (first | exact Kept.refl _ | apply Kept.alloc | apply Kept.drew | apply kept_add | apply Kept.ext))) (Nat.le_refl _) (Kept.below (k5.trans (by (try simp only [ext_ext]); repeat (first | exact Kept.refl _ | apply Kept.alloc | apply Kept.drew | apply kept_add | apply Kept.ext)))).size ⟨g4, 0, none⟩ _ _ ((ints xs).drop 0) rfl (by first | exact hdl.out | (rw [hdl.out]; omega)) (hdrH.out.kept (k5.trans (by (try simp only [ext_ext]); repeat (first | exact Kept.refl _ | apply Kept.alloc | apply Kept.drew | apply kept_add | apply Kept.ext)))) (by rw [hal.out]; omega) ?_; intro v6 w6 ho6 k6) | (refine step_append_int rfl _ _ rfl w2 w2.heap.size v4 (ints (xs.take 0)) rfl (ho4.kept (by (try simp only [ext_ext]); repeat (first | exact Kept.refl _ | apply Kept.alloc | apply Kept.drew | apply kept_add | apply Kept.ext))) (Kept.trans k40 (by (try simp only [ext_ext]); repeat (first | exact Kept.refl _ | apply Kept.alloc | apply Kept.drew | apply kept_add | apply Kept.ext))) (Nat.le_refl _) (Kept.below (Kept.trans k40 (by (try simp only [ext_ext]); repeat (first | exact Kept.refl _ | apply Kept.alloc | apply Kept.drew | apply kept_add | apply Kept.ext)))).size _ _ (k : Int) rfl (by first | exact hcc | (simp; done) | (simpa [More.bump] using hcc)) (by rw [htl.out]; omega) ?_; intro v5 w5 ho5 k5) | (refine step_append_int rfl _ _ rfl w2 w2.heap.size v4 (ints (xs.take 0)) rfl (ho4.kept (by (try simp only [ext_ext]); repeat (first | exact Kept.refl _ | apply Kept.alloc | apply Kept.drew | apply kept_add | apply Kept.ext))) (Kept.trans k40 (by (try simp only [ext_ext]); repeat (first | exact Kept.refl _ | apply Kept.alloc | apply Kept.drew | apply kept_add | apply Kept.ext))) (Nat.le_refl _) (Kept.below (Kept.trans k40 (by (try simp only [ext_ext]); repeat (first | exact Kept.refl _ | apply Kept.alloc | apply Kept.drew | apply kept_add | apply Kept.ext)))).size _ _ (k : Int) rfl (cell_of_row _ _ 0 _ _ (0, 0) (heap_at (by simp))) (by rw [htl.out]; omega) ?_; intro v5 w5 ho5 k5) | (go_at_call 45; refine Calls.mono (hO.out _ (by (try simp only [ext_ext]); repeat (first | assumption | exact Kept.refl _ | apply Kept.alloc | apply Kept.drew | apply kept_add | apply Kept.ext))) ?_; rintro e w4 ⟨v4, rfl, ho40, k4⟩; have k40 : Kept w2 w4 := Kept.trans (by (try simp only [ext_ext]); repeat (first | assumption | exact Kept.refl _ | apply Kept.alloc | apply Kept.drew | apply kept_add | apply Kept.ext)) k4;  have ho4 := ho40.mono (B' := w2.heap.size) (Kept.below (show Kept w2 _ from (by (try simp only [ext_ext]); repeat (first | assumption | exact Kept.refl _ | apply Kept.alloc | apply Kept.drew | apply kept_add | apply Kept.ext)))).size; first | have hcc := intCell_kept (intCell_new (k : Int) rfl) (by simp) k4 | skip))
            all_goals
              go_wp2_with (fail)
              go_roundw
              case rel =>
                have ho6' := ho6
                rw [← hfin.out] at ho6'
                obtain ⟨ao6, cap6, rfl, _, _⟩ := ho6'.reads
                refine ⟨k + 1, by omega, by go_num, ?_, ho6'.mono (by have := hw1s.out; have := (hkwH.out.trans k2H.out).below.size; omega), hkwH.out.trans (k2H.out.trans k6)⟩
                rcases ho6'.2 with ⟨_, h0⟩ | ⟨g', cap', cur, e, _⟩
                · rw [hfl.out] at h0; omega
                · rw [hfl.out] at e ⊢; exact ⟨g', cap', e⟩
              case measure => simp [intOf]; omega
        · obtain ⟨q, rfl⟩ : ∃ q, j = q + 1 := ⟨j - 1, by omega⟩
          obtain ⟨hg4, o1⟩ := hoA.out q (by omega)
          have hpm := hrlt.out q (by omega)
          have hY := hid (hplY.out q)
          have hNo := hid (hplN.out q)
          have hbe := hid (hbH.out k (xs.getD q 0))
          have P1 := hpA.out k hlt
          have P2 := hpA.out (xs.getD q 0) (by omega)
          have W1 := hwA.out k hlt
          have W2 := hwA.out (xs.getD q 0) (by omega)
          obtain ⟨p, hp⟩ : ∃ p, p = xs.getD q 0 := ⟨_, rfl⟩
          rw [← hp] at o1 hpm hY hNo hbe P2 W2
          clear hp
          have hp1 : (p : Int) < (m : Int) := by omega
          have hq0 : decide ((0 : Int) < (q : Int) + 1) = true := decide_eq_true (by omega)
          have hq1 : IntKind.i64.wrap ((q : Int) + 1 - 1) = (q : Int) := by rw [show ((q : Int) + 1 - 1) = (q : Int) by omega]; exact Go.IntWalk.i64_in _ ⟨by omega, by omega⟩
          have hq2 : (q : Int) < (k : Int) := by omega
          clear p1 q1
          generalize ix pts k = X at P1 hbe
          generalize ix pts p = Y at P2 hbe
          generalize ix wrong k = U at W1 hbe
          generalize ix wrong p = V at W2 hbe
          by_cases hA : Y < X
          · have hd : decide (Y < X) = true := decide_eq_true hA
            have hnx2 := hid (hY.out (by rw [hbe.out, hd]; rfl))
            clear hA
            go_wp2_with (first | (refine wp_region_ext (by kernel_rfl) (by kernel_rfl) ?_; (repeat (go_big_quiet_step ((fail)))); refine wpQuiet_end fun z => ?_))
            go_roundw
            case rel => exact ⟨q, by omega, by go_num, by rw [← hnx2.out]; exact hpH.out, (by (try simp only [ext_ext]); repeat (first | exact Kept.refl _ | apply Kept.alloc | apply Kept.drew | apply kept_add | apply Kept.ext))⟩
            case measure => simp [intOf] <;> omega
          · have hd : decide (Y < X) = false := decide_eq_false hA
            by_cases hB : X = Y
            · subst hB
              by_cases hC : U < V
              · have hd2 : decide (U < V) = true := decide_eq_true hC
                have hnx2 := hid (hY.out (by rw [hbe.out, hd, hd2]; simp))
                clear hA hC
                go_wp2_with (first | (refine wp_region_ext (by kernel_rfl) (by kernel_rfl) ?_; (repeat (go_big_quiet_step ((fail)))); refine wpQuiet_end fun z => ?_))
                go_roundw
                case rel => exact ⟨q, by omega, by go_num, by rw [← hnx2.out]; exact hpH.out, (by (try simp only [ext_ext]); repeat (first | exact Kept.refl _ | apply Kept.alloc | apply Kept.drew | apply kept_add | apply Kept.ext))⟩
                case measure => simp [intOf] <;> omega
              · have hd2 : decide (U < V) = false := decide_eq_false hC
                have e : N = q + 1 := by rw [← hpH.out]; exact hNo.out (by rw [hbe.out, hd, hd2]; simp)
                subst e
                clear hA hC
                go_upto_region 11 with (first | (refine wp_region_ext (by kernel_rfl) (by kernel_rfl) ?_; (repeat (go_big_quiet_step ((fail)))); refine wpQuiet_end fun z => ?_))
                generalize hw2 : ext w0 _ = w2
                have k2 : Kept w0 w2 := by rw [← hw2]; exact ⟨_, rfl⟩
                clear hw2
                have k2H := hid k2
                have hO := hid (fun w' (hk : Kept w2 w') => l1Own_any (ints (xs.take (q + 1))) (q + 1) (some ⟨g4, 0, none⟩) cap4 w' (by rw [ints_len, List.length_take, hrl.out]; omega) (by rw [ints_take]; exact ints_takeA (hx4H.out.kept (k2.trans hk)) (q + 1)) (fun e => by cases e) (by omega))
                have hdr := hid (ints_dropA (hx4H.out.kept k2) (by rw [ints_len, hrl.out]) hcap4 (q + 1))
                have hdl := hid (show ((ints xs).drop (q + 1)).length = k - (q + 1) by rw [List.length_drop, ints_len, hrl.out])
                have htl := hid (show (ints (xs.take (q + 1))).length = (q + 1) by rw [ints_len, List.length_take, hrl.out]; omega)
                have hal := hid (show (ints (xs.take (q + 1)) ++ [(k : Int)]).length = (q + 1) + 1 by rw [List.length_append, htl.out]; rfl)
                have hfin := hid (show ints (rkR b (k + 1)) = ints (xs.take (q + 1)) ++ [(k : Int)] ++ (ints xs).drop (q + 1) by rw [hnx.out, ints_app, ints_app, ints_drop]; rfl)
                have hfl := hid (show (ints (rkR b (k + 1))).length = k + 1 by rw [ints_len, rkR_len])
                have hc1 : (((q + 1) : Nat) : Int) ≤ (cap4 : Int) := by omega
                have hc2 : (((q + 1) : Nat) : Int) ≤ (k : Int) := by omega
                have hc3 : (k : Int) ≤ (cap4 : Int) := by omega
                have hc5 : (q + 1) ≤ cap4 := by omega
                have hf1 : (q : Int) + 1 ≤ (cap4 : Int) := by omega
                have hf2 : (q : Int) + 1 ≤ (k : Int) := by omega
                have hf3 : (0 : Int) ≤ (q : Int) + 1 := by omega
                have hf4 : ((q : Int) + 1).toNat = q + 1 := by omega
                clear k2
                by_cases hcN : cap4 = (q + 1)
                · have hdr2 := hdr.out
                  rw [if_pos hcN] at hdr2
                  have hdrH := hid hdr2
                  clear hdr hdr2
                  subst hcN
                  go_region_held3 (fun _ => True) (exact trivial) (first | (refine step_append_intsA rfl _ _ rfl w2 w2.heap.size v5 _ rfl (ho5.kept (by (try simp only [ext_ext]); repeat (first | exact Kept.refl _ | apply Kept.alloc | apply Kept.drew | apply kept_add | apply Kept.ext))) (k5.trans (by (try simp only [ext_ext]); repeat (first | exact Kept.refl _ | apply Kept.alloc | apply Kept.drew | apply kept_add | apply Kept.ext))) (Nat.le_refl _) (Kept.below (k5.trans (by (try simp only [ext_ext]); repeat (first | exact Kept.refl _ | apply Kept.alloc | apply Kept.drew | apply kept_add | apply Kept.ext)))).size ⟨g4, 0, none⟩ _ _ ((ints xs).drop (q + 1)) rfl (by first | exact hdl.out | (rw [hdl.out]; omega)) (hdrH.out.kept (k5.trans (by (try simp only [ext_ext]); repeat (first | exact Kept.refl _ | apply Kept.alloc | apply Kept.drew | apply kept_add | apply Kept.ext)))) (by rw [hal.out]; omega) ?_; intro v6 w6 ho6 k6) | (refine step_append_int rfl _ _ rfl w2 w2.heap.size v4 (ints (xs.take (q + 1))) rfl (ho4.kept (by (try simp only [ext_ext]); repeat (first | exact Kept.refl _ | apply Kept.alloc | apply Kept.drew | apply kept_add | apply Kept.ext))) (Kept.trans k40 (by (try simp only [ext_ext]); repeat (first | exact Kept.refl _ | apply Kept.alloc | apply Kept.drew | apply kept_add | apply Kept.ext))) (Nat.le_refl _) (Kept.below (Kept.trans k40 (by (try simp only [ext_ext]); repeat (first | exact Kept.refl _ | apply Kept.alloc | apply Kept.drew | apply kept_add | apply Kept.ext)))).size _ _ (k : Int) rfl (by first | exact hcc | (simp; done) | (simpa [More.bump] using hcc)) (by rw [htl.out]; omega) ?_; intro v5 w5 ho5 k5) | (refine step_append_int rfl _ _ rfl w2 w2.heap.size v4 (ints (xs.take (q + 1))) rfl (ho4.kept (by (try simp only [ext_ext]); repeat (first | exact Kept.refl _ | apply Kept.alloc | apply Kept.drew | apply kept_add | apply Kept.ext))) (Kept.trans k40 (by (try simp only [ext_ext]); repeat (first | exact Kept.refl _ | apply Kept.alloc | apply Kept.drew | apply kept_add | apply Kept.ext))) (Nat.le_refl _) (Kept.below (Kept.trans k40 (by (try simp only [ext_ext]); repeat (first | exact Kept.refl _ | apply Kept.alloc | apply Kept.drew | apply kept_add | apply Kept.ext)))).size _ _ (k : Int) rfl (cell_of_row _ _ 0 _ _ (0, 0) (heap_at (by simp))) (by rw [htl.out]; omega) ?_; intro v5 w5 ho5 k5) | (go_at_call 45; refine Calls.mono (hO.out _ (by (try simp only [ext_ext]); repeat (first | assumption | exact Kept.refl _ | apply Kept.alloc | apply Kept.drew | apply kept_add | apply Kept.ext))) ?_; rintro e w4 ⟨v4, rfl, ho40, k4⟩; have k40 : Kept w2 w4 := Kept.trans (by (try simp only [ext_ext]); repeat (first | assumption | exact Kept.refl _ | apply Kept.alloc | apply Kept.drew | apply kept_add | apply Kept.ext)) k4;  have ho4 := ho40.mono (B' := w2.heap.size) (Kept.below (show Kept w2 _ from (by (try simp only [ext_ext]); repeat (first | assumption | exact Kept.refl _ | apply Kept.alloc | apply Kept.drew | apply kept_add | apply Kept.ext)))).size; first | have hcc := intCell_kept (intCell_new (k : Int) rfl) (by simp) k4 | skip))
                  all_goals
                    go_wp2_with (fail)
                    go_roundw
                    case rel =>
                      have ho6' := ho6
                      rw [← hfin.out] at ho6'
                      obtain ⟨ao6, cap6, rfl, _, _⟩ := ho6'.reads
                      refine ⟨k + 1, by omega, by go_num, ?_, ho6'.mono (by have := hw1s.out; have := (hkwH.out.trans k2H.out).below.size; omega), hkwH.out.trans (k2H.out.trans k6)⟩
                      rcases ho6'.2 with ⟨_, h0⟩ | ⟨g', cap', cur, e, _⟩
                      · rw [hfl.out] at h0; omega
                      · rw [hfl.out] at e ⊢; exact ⟨g', cap', e⟩
                    case measure => simp [intOf]; omega
                · have hdr2 := hdr.out
                  rw [if_neg hcN, Nat.zero_add] at hdr2
                  have hdrH := hid hdr2
                  clear hdr hdr2
                  go_region_held3 (fun _ => True) (exact trivial) (first | (refine step_append_intsA rfl _ _ rfl w2 w2.heap.size v5 _ rfl (ho5.kept (by (try simp only [ext_ext]); repeat (first | exact Kept.refl _ | apply Kept.alloc | apply Kept.drew | apply kept_add | apply Kept.ext))) (k5.trans (by (try simp only [ext_ext]); repeat (first | exact Kept.refl _ | apply Kept.alloc | apply Kept.drew | apply kept_add | apply Kept.ext))) (Nat.le_refl _) (Kept.below (k5.trans (by (try simp only [ext_ext]); repeat (first | exact Kept.refl _ | apply Kept.alloc | apply Kept.drew | apply kept_add | apply Kept.ext)))).size ⟨g4, q + 1, none⟩ _ _ ((ints xs).drop (q + 1)) rfl (by first | exact hdl.out | (rw [hdl.out]; omega)) (hdrH.out.kept (k5.trans (by (try simp only [ext_ext]); repeat (first | exact Kept.refl _ | apply Kept.alloc | apply Kept.drew | apply kept_add | apply Kept.ext)))) (by rw [hal.out]; omega) ?_; intro v6 w6 ho6 k6) | (refine step_append_int rfl _ _ rfl w2 w2.heap.size v4 (ints (xs.take (q + 1))) rfl (ho4.kept (by (try simp only [ext_ext]); repeat (first | exact Kept.refl _ | apply Kept.alloc | apply Kept.drew | apply kept_add | apply Kept.ext))) (Kept.trans k40 (by (try simp only [ext_ext]); repeat (first | exact Kept.refl _ | apply Kept.alloc | apply Kept.drew | apply kept_add | apply Kept.ext))) (Nat.le_refl _) (Kept.below (Kept.trans k40 (by (try simp only [ext_ext]); repeat (first | exact Kept.refl _ | apply Kept.alloc | apply Kept.drew | apply kept_add | apply Kept.ext)))).size _ _ (k : Int) rfl (by first | exact hcc | (simp; done) | (simpa [More.bump] using hcc)) (by rw [htl.out]; omega) ?_; intro v5 w5 ho5 k5) | (refine step_append_int rfl _ _ rfl w2 w2.heap.size v4 (ints (xs.take (q + 1))) rfl (ho4.kept (by (try simp only [ext_ext]); repeat (first | exact Kept.refl _ | apply Kept.alloc | apply Kept.drew | apply kept_add | apply Kept.ext))) (Kept.trans k40 (by (try simp only [ext_ext]); repeat (first | exact Kept.refl _ | apply Kept.alloc | apply Kept.drew | apply kept_add | apply Kept.ext))) (Nat.le_refl _) (Kept.below (Kept.trans k40 (by (try simp only [ext_ext]); repeat (first | exact Kept.refl _ | apply Kept.alloc | apply Kept.drew | apply kept_add | apply Kept.ext)))).size _ _ (k : Int) rfl (cell_of_row _ _ 0 _ _ (0, 0) (heap_at (by simp))) (by rw [htl.out]; omega) ?_; intro v5 w5 ho5 k5) | (go_at_call 45; refine Calls.mono (hO.out _ (by (try simp only [ext_ext]); repeat (first | assumption | exact Kept.refl _ | apply Kept.alloc | apply Kept.drew | apply kept_add | apply Kept.ext))) ?_; rintro e w4 ⟨v4, rfl, ho40, k4⟩; have k40 : Kept w2 w4 := Kept.trans (by (try simp only [ext_ext]); repeat (first | assumption | exact Kept.refl _ | apply Kept.alloc | apply Kept.drew | apply kept_add | apply Kept.ext)) k4;  have ho4 := ho40.mono (B' := w2.heap.size) (Kept.below (show Kept w2 _ from (by (try simp only [ext_ext]); repeat (first | assumption | exact Kept.refl _ | apply Kept.alloc | apply Kept.drew | apply kept_add | apply Kept.ext)))).size; first | have hcc := intCell_kept (intCell_new (k : Int) rfl) (by simp) k4 | skip))
                  all_goals
                    go_wp2_with (fail)
                    go_roundw
                    case rel =>
                      have ho6' := ho6
                      rw [← hfin.out] at ho6'
                      obtain ⟨ao6, cap6, rfl, _, _⟩ := ho6'.reads
                      refine ⟨k + 1, by omega, by go_num, ?_, ho6'.mono (by have := hw1s.out; have := (hkwH.out.trans k2H.out).below.size; omega), hkwH.out.trans (k2H.out.trans k6)⟩
                      rcases ho6'.2 with ⟨_, h0⟩ | ⟨g', cap', cur, e, _⟩
                      · rw [hfl.out] at h0; omega
                      · rw [hfl.out] at e ⊢; exact ⟨g', cap', e⟩
                    case measure => simp [intOf]; omega
            · have hd2 : (X == Y) = false := by simp [hB]
              have hd3 : decide (X = Y) = false := decide_eq_false hB
              have e : N = q + 1 := by rw [← hpH.out]; exact hNo.out (by rw [hbe.out, hd, hd3]; simp)
              subst e
              clear hA hB
              go_upto_region 11 with (first | (refine wp_region_ext (by kernel_rfl) (by kernel_rfl) ?_; (repeat (go_big_quiet_step ((fail)))); refine wpQuiet_end fun z => ?_))
              generalize hw2 : ext w0 _ = w2
              have k2 : Kept w0 w2 := by rw [← hw2]; exact ⟨_, rfl⟩
              clear hw2
              have k2H := hid k2
              have hO := hid (fun w' (hk : Kept w2 w') => l1Own_any (ints (xs.take (q + 1))) (q + 1) (some ⟨g4, 0, none⟩) cap4 w' (by rw [ints_len, List.length_take, hrl.out]; omega) (by rw [ints_take]; exact ints_takeA (hx4H.out.kept (k2.trans hk)) (q + 1)) (fun e => by cases e) (by omega))
              have hdr := hid (ints_dropA (hx4H.out.kept k2) (by rw [ints_len, hrl.out]) hcap4 (q + 1))
              have hdl := hid (show ((ints xs).drop (q + 1)).length = k - (q + 1) by rw [List.length_drop, ints_len, hrl.out])
              have htl := hid (show (ints (xs.take (q + 1))).length = (q + 1) by rw [ints_len, List.length_take, hrl.out]; omega)
              have hal := hid (show (ints (xs.take (q + 1)) ++ [(k : Int)]).length = (q + 1) + 1 by rw [List.length_append, htl.out]; rfl)
              have hfin := hid (show ints (rkR b (k + 1)) = ints (xs.take (q + 1)) ++ [(k : Int)] ++ (ints xs).drop (q + 1) by rw [hnx.out, ints_app, ints_app, ints_drop]; rfl)
              have hfl := hid (show (ints (rkR b (k + 1))).length = k + 1 by rw [ints_len, rkR_len])
              have hc1 : (((q + 1) : Nat) : Int) ≤ (cap4 : Int) := by omega
              have hc2 : (((q + 1) : Nat) : Int) ≤ (k : Int) := by omega
              have hc3 : (k : Int) ≤ (cap4 : Int) := by omega
              have hc5 : (q + 1) ≤ cap4 := by omega
              have hf1 : (q : Int) + 1 ≤ (cap4 : Int) := by omega
              have hf2 : (q : Int) + 1 ≤ (k : Int) := by omega
              have hf3 : (0 : Int) ≤ (q : Int) + 1 := by omega
              have hf4 : ((q : Int) + 1).toNat = q + 1 := by omega
              clear k2
              by_cases hcN : cap4 = (q + 1)
              · have hdr2 := hdr.out
                rw [if_pos hcN] at hdr2
                have hdrH := hid hdr2
                clear hdr hdr2
                subst hcN
                go_region_held3 (fun _ => True) (exact trivial) (first | (refine step_append_intsA rfl _ _ rfl w2 w2.heap.size v5 _ rfl (ho5.kept (by (try simp only [ext_ext]); repeat (first | exact Kept.refl _ | apply Kept.alloc | apply Kept.drew | apply kept_add | apply Kept.ext))) (k5.trans (by (try simp only [ext_ext]); repeat (first | exact Kept.refl _ | apply Kept.alloc | apply Kept.drew | apply kept_add | apply Kept.ext))) (Nat.le_refl _) (Kept.below (k5.trans (by (try simp only [ext_ext]); repeat (first | exact Kept.refl _ | apply Kept.alloc | apply Kept.drew | apply kept_add | apply Kept.ext)))).size ⟨g4, 0, none⟩ _ _ ((ints xs).drop (q + 1)) rfl (by first | exact hdl.out | (rw [hdl.out]; omega)) (hdrH.out.kept (k5.trans (by (try simp only [ext_ext]); repeat (first | exact Kept.refl _ | apply Kept.alloc | apply Kept.drew | apply kept_add | apply Kept.ext)))) (by rw [hal.out]; omega) ?_; intro v6 w6 ho6 k6) | (refine step_append_int rfl _ _ rfl w2 w2.heap.size v4 (ints (xs.take (q + 1))) rfl (ho4.kept (by (try simp only [ext_ext]); repeat (first | exact Kept.refl _ | apply Kept.alloc | apply Kept.drew | apply kept_add | apply Kept.ext))) (Kept.trans k40 (by (try simp only [ext_ext]); repeat (first | exact Kept.refl _ | apply Kept.alloc | apply Kept.drew | apply kept_add | apply Kept.ext))) (Nat.le_refl _) (Kept.below (Kept.trans k40 (by (try simp only [ext_ext]); repeat (first | exact Kept.refl _ | apply Kept.alloc | apply Kept.drew | apply kept_add | apply Kept.ext)))).size _ _ (k : Int) rfl (by first | exact hcc | (simp; done) | (simpa [More.bump] using hcc)) (by rw [htl.out]; omega) ?_; intro v5 w5 ho5 k5) | (refine step_append_int rfl _ _ rfl w2 w2.heap.size v4 (ints (xs.take (q + 1))) rfl (ho4.kept (by (try simp only [ext_ext]); repeat (first | exact Kept.refl _ | apply Kept.alloc | apply Kept.drew | apply kept_add | apply Kept.ext))) (Kept.trans k40 (by (try simp only [ext_ext]); repeat (first | exact Kept.refl _ | apply Kept.alloc | apply Kept.drew | apply kept_add | apply Kept.ext))) (Nat.le_refl _) (Kept.below (Kept.trans k40 (by (try simp only [ext_ext]); repeat (first | exact Kept.refl _ | apply Kept.alloc | apply Kept.drew | apply kept_add | apply Kept.ext)))).size _ _ (k : Int) rfl (cell_of_row _ _ 0 _ _ (0, 0) (heap_at (by simp))) (by rw [htl.out]; omega) ?_; intro v5 w5 ho5 k5) | (go_at_call 45; refine Calls.mono (hO.out _ (by (try simp only [ext_ext]); repeat (first | assumption | exact Kept.refl _ | apply Kept.alloc | apply Kept.drew | apply kept_add | apply Kept.ext))) ?_; rintro e w4 ⟨v4, rfl, ho40, k4⟩; have k40 : Kept w2 w4 := Kept.trans (by (try simp only [ext_ext]); repeat (first | assumption | exact Kept.refl _ | apply Kept.alloc | apply Kept.drew | apply kept_add | apply Kept.ext)) k4;  have ho4 := ho40.mono (B' := w2.heap.size) (Kept.below (show Kept w2 _ from (by (try simp only [ext_ext]); repeat (first | assumption | exact Kept.refl _ | apply Kept.alloc | apply Kept.drew | apply kept_add | apply Kept.ext)))).size; first | have hcc := intCell_kept (intCell_new (k : Int) rfl) (by simp) k4 | skip))
                all_goals
                  go_wp2_with (fail)
                  go_roundw
                  case rel =>
                    have ho6' := ho6
                    rw [← hfin.out] at ho6'
                    obtain ⟨ao6, cap6, rfl, _, _⟩ := ho6'.reads
                    refine ⟨k + 1, by omega, by go_num, ?_, ho6'.mono (by have := hw1s.out; have := (hkwH.out.trans k2H.out).below.size; omega), hkwH.out.trans (k2H.out.trans k6)⟩
                    rcases ho6'.2 with ⟨_, h0⟩ | ⟨g', cap', cur, e, _⟩
                    · rw [hfl.out] at h0; omega
                    · rw [hfl.out] at e ⊢; exact ⟨g', cap', e⟩
                  case measure => simp [intOf]; omega
              · have hdr2 := hdr.out
                rw [if_neg hcN, Nat.zero_add] at hdr2
                have hdrH := hid hdr2
                clear hdr hdr2
                go_region_held3 (fun _ => True) (exact trivial) (first | (refine step_append_intsA rfl _ _ rfl w2 w2.heap.size v5 _ rfl (ho5.kept (by (try simp only [ext_ext]); repeat (first | exact Kept.refl _ | apply Kept.alloc | apply Kept.drew | apply kept_add | apply Kept.ext))) (k5.trans (by (try simp only [ext_ext]); repeat (first | exact Kept.refl _ | apply Kept.alloc | apply Kept.drew | apply kept_add | apply Kept.ext))) (Nat.le_refl _) (Kept.below (k5.trans (by (try simp only [ext_ext]); repeat (first | exact Kept.refl _ | apply Kept.alloc | apply Kept.drew | apply kept_add | apply Kept.ext)))).size ⟨g4, q + 1, none⟩ _ _ ((ints xs).drop (q + 1)) rfl (by first | exact hdl.out | (rw [hdl.out]; omega)) (hdrH.out.kept (k5.trans (by (try simp only [ext_ext]); repeat (first | exact Kept.refl _ | apply Kept.alloc | apply Kept.drew | apply kept_add | apply Kept.ext)))) (by rw [hal.out]; omega) ?_; intro v6 w6 ho6 k6) | (refine step_append_int rfl _ _ rfl w2 w2.heap.size v4 (ints (xs.take (q + 1))) rfl (ho4.kept (by (try simp only [ext_ext]); repeat (first | exact Kept.refl _ | apply Kept.alloc | apply Kept.drew | apply kept_add | apply Kept.ext))) (Kept.trans k40 (by (try simp only [ext_ext]); repeat (first | exact Kept.refl _ | apply Kept.alloc | apply Kept.drew | apply kept_add | apply Kept.ext))) (Nat.le_refl _) (Kept.below (Kept.trans k40 (by (try simp only [ext_ext]); repeat (first | exact Kept.refl _ | apply Kept.alloc | apply Kept.drew | apply kept_add | apply Kept.ext)))).size _ _ (k : Int) rfl (by first | exact hcc | (simp; done) | (simpa [More.bump] using hcc)) (by rw [htl.out]; omega) ?_; intro v5 w5 ho5 k5) | (refine step_append_int rfl _ _ rfl w2 w2.heap.size v4 (ints (xs.take (q + 1))) rfl (ho4.kept (by (try simp only [ext_ext]); repeat (first | exact Kept.refl _ | apply Kept.alloc | apply Kept.drew | apply kept_add | apply Kept.ext))) (Kept.trans k40 (by (try simp only [ext_ext]); repeat (first | exact Kept.refl _ | apply Kept.alloc | apply Kept.drew | apply kept_add | apply Kept.ext))) (Nat.le_refl _) (Kept.below (Kept.trans k40 (by (try simp only [ext_ext]); repeat (first | exact Kept.refl _ | apply Kept.alloc | apply Kept.drew | apply kept_add | apply Kept.ext)))).size _ _ (k : Int) rfl (cell_of_row _ _ 0 _ _ (0, 0) (heap_at (by simp))) (by rw [htl.out]; omega) ?_; intro v5 w5 ho5 k5) | (go_at_call 45; refine Calls.mono (hO.out _ (by (try simp only [ext_ext]); repeat (first | assumption | exact Kept.refl _ | apply Kept.alloc | apply Kept.drew | apply kept_add | apply Kept.ext))) ?_; rintro e w4 ⟨v4, rfl, ho40, k4⟩; have k40 : Kept w2 w4 := Kept.trans (by (try simp only [ext_ext]); repeat (first | assumption | exact Kept.refl _ | apply Kept.alloc | apply Kept.drew | apply kept_add | apply Kept.ext)) k4;  have ho4 := ho40.mono (B' := w2.heap.size) (Kept.below (show Kept w2 _ from (by (try simp only [ext_ext]); repeat (first | assumption | exact Kept.refl _ | apply Kept.alloc | apply Kept.drew | apply kept_add | apply Kept.ext)))).size; first | have hcc := intCell_kept (intCell_new (k : Int) rfl) (by simp) k4 | skip))
                all_goals
                  go_wp2_with (fail)
                  go_roundw
                  case rel =>
                    have ho6' := ho6
                    rw [← hfin.out] at ho6'
                    obtain ⟨ao6, cap6, rfl, _, _⟩ := ho6'.reads
                    refine ⟨k + 1, by omega, by go_num, ?_, ho6'.mono (by have := hw1s.out; have := (hkwH.out.trans k2H.out).below.size; omega), hkwH.out.trans (k2H.out.trans k6)⟩
                    rcases ho6'.2 with ⟨_, h0⟩ | ⟨g', cap', cur, e, _⟩
                    · rw [hfl.out] at h0; omega
                    · rw [hfl.out] at e ⊢; exact ⟨g', cap', e⟩
                  case measure => simp [intOf]; omega
    · obtain rfl : k = m := by omega
      go_wp2
      refine bodyPost_ret (v := .tuple #[.slice (some ⟨g4, 0, none⟩) k cap4, .bool true]) (by simp [results, Try.results17, go_sem]) rfl ?_
      exact ⟨_, rfl, (hownH.out.kept (by (try simp only [ext_ext]); repeat (first | exact Kept.refl _ | apply Kept.alloc | apply Kept.drew | apply kept_add | apply Kept.ext))).mono (by omega), (Kw1.out.trans hkwH.out).trans (by (try simp only [ext_ext]); repeat (first | exact Kept.refl _ | apply Kept.alloc | apply Kept.drew | apply kept_add | apply Kept.ext))⟩
theorem twoRankGame (s n : Int) (laid : List Card) (scores wrong : List Int) (hl : laid.length ≤ 1048576) (hl2 : scores.length ≤ 1048576) (hl3 : wrong.length ≤ 1048576) :
    ∃ ok ls, (∀ (lo so wo : Option Addr) (lc sc wc : Nat) (w : World), CardsAt w lo laid → IntsAt w so scores → IntsAt w wo wrong → laid.length ≤ lc → Calls Try.prog 17 #[gv s n (.slice lo laid.length lc) (.slice so scores.length sc) (.slice wo wrong.length wc)] w (RetIT w ok ls)) ∧ (∀ (lo so wo : Option Addr) (lc sc wc : Nat) (w : World), CardsAt w lo laid → IntsAt w so scores → IntsAt w wo wrong → laid.length ≤ lc → Calls Try.prog 19 #[gv s n (.slice lo laid.length lc) (.slice so scores.length sc) (.slice wo wrong.length wc)] w (RetIT w ok ls)) ∧ ls.length ≤ 1048576 := by
  cases hv : gameB s n laid scores wrong with
  | false => exact ⟨false, [], fun _ _ _ _ _ _ _ hx hy hz hc => sRankGame_no _ _ _ _ _ _ _ _ _ _ _ _ hx hy hz hl hl2 hl3 hc hv, fun _ _ _ _ _ _ _ hx hy hz hc => iRankGame_no _ _ _ _ _ _ _ _ _ _ _ _ hx hy hz hl hl2 hl3 hc hv, by simp⟩
  | true => exact ⟨true, _, fun _ _ _ _ _ _ _ hx hy hz hc => sRankGame_yes _ _ _ _ _ _ _ _ _ _ _ _ hx hy hz hl hl2 hl3 hc hv _ _ rfl rfl, fun _ _ _ _ _ _ _ hx hy hz hc => iRankGame_yes _ _ _ _ _ _ _ _ _ _ _ _ hx hy hz hl hl2 hl3 hc hv _ _ rfl rfl, by rw [ints_len, rkR_len]; exact hl2⟩
set_option maxHeartbeats 4000000 in
theorem walk_FnExactRankGame (s n : Int) (lo so wo : Option Addr) (lc sc wc : Nat) (laid : List Card) (scores wrong : List Int) {w : World} (hx : CardsAt w lo laid) (hy : IntsAt w so scores) (hz : IntsAt w wo wrong) (hl : laid.length ≤ maxLen) (hl2 : scores.length ≤ maxLen) (hl3 : wrong.length ≤ maxLen) (_ : World) :
    Calls Try.prog 5 #[gv s n (.slice lo laid.length lc) (.slice so scores.length sc) (.slice wo wrong.length wc)] w fun e w' => e = .returned (.bool true) ∧ Kept w w' := by
  have bb1 : laid.length ≤ 9223372036854775807 := by unfold maxLen at hl; omega
  have bb2 : scores.length ≤ 9223372036854775807 := by unfold maxLen at hl2; omega
  have bb3 : wrong.length ≤ 9223372036854775807 := by unfold maxLen at hl3; omega
  have hsz := hid (szGame_any s n lo so wo laid.length lc scores.length sc wrong.length wc bb1 bb2 bb3)
  by_cases hn : laid.length + scores.length + wrong.length ≤ 1048576
  · have m1 : laid.length ≤ 1048576 := by omega
    have m2 : scores.length ≤ 1048576 := by omega
    have m3 : wrong.length ≤ 1048576 := by omega
    have hlo : ¬ ((1048576 : Int) - (laid.length : Int) - (scores.length : Int) - (wrong.length : Int) < 0) := by omega
    obtain ⟨ok, ls, hS, hI, hll⟩ : ∃ ok ls, (∀ (lo so wo : Option Addr) (lc sc wc : Nat) (w : World), CardsAt w lo laid → IntsAt w so scores → IntsAt w wo wrong → laid.length ≤ lc → Calls Try.prog 17 #[gv s n (.slice lo laid.length lc) (.slice so scores.length sc) (.slice wo wrong.length wc)] w (RetIT w ok ls)) ∧ (∀ (lo so wo : Option Addr) (lc sc wc : Nat) (w : World), CardsAt w lo laid → IntsAt w so scores → IntsAt w wo wrong → laid.length ≤ lc → Calls Try.prog 19 #[gv s n (.slice lo laid.length lc) (.slice so scores.length sc) (.slice wo wrong.length wc)] w (RetIT w ok ls)) ∧ ls.length ≤ 1048576 := twoRankGame s n laid scores wrong m1 m2 m3
    have e2 : ¬ ((1 : Int) + (ls.length : Int) < 0) := by omega
    have K : Kept w (w.alloc (.cells #[.int .i64 s, .int .i64 n, .slice lo laid.length lc, .slice so scores.length sc, .slice wo wrong.length wc] 35)) := (by (try simp only [ext_ext]); repeat (first | exact Kept.refl _ | apply Kept.alloc | apply Kept.drew | apply kept_add | apply Kept.ext))
    have bA := hid (fun w' (hk : Kept (w.alloc (.cells #[.int .i64 s, .int .i64 n, .slice lo laid.length lc, .slice so scores.length sc, .slice wo wrong.length wc] 35)) w') => (Box5.new (t := 35) s n (.slice lo laid.length lc) (.slice so scores.length sc) (.slice wo wrong.length wc) (rfl : w.heap.size = w.heap.size)).kept hk)
    have hxH := hid (fun w' (hk : Kept (w.alloc (.cells #[.int .i64 s, .int .i64 n, .slice lo laid.length lc, .slice so scores.length sc, .slice wo wrong.length wc] 35)) w') => hx.kept (K.trans hk))
    have hyH := hid (fun w' (hk : Kept (w.alloc (.cells #[.int .i64 s, .int .i64 n, .slice lo laid.length lc, .slice so scores.length sc, .slice wo wrong.length wc] 35)) w') => hy.kept (K.trans hk))
    have hzH := hid (fun w' (hk : Kept (w.alloc (.cells #[.int .i64 s, .int .i64 n, .slice lo laid.length lc, .slice so scores.length sc, .slice wo wrong.length wc] 35)) w') => hz.kept (K.trans hk))
    have KH := hid (fun w' (hk : Kept (w.alloc (.cells #[.int .i64 s, .int .i64 n, .slice lo laid.length lc, .slice so scores.length sc, .slice wo wrong.length wc] 35)) w') => K.trans hk)
    clear K hx hy hz
    go_enter Try.func5, Try.ntmps5
    go_wp2_with (fail)
    (go_at_call 16; refine Calls.mono (hsz.out _) ?_; rintro e w0 ⟨rfl, K0⟩)
    obtain ⟨A00, A01, A02, A03, A04, A05⟩ := bA.out _ K0
    go_wp2_with (fail)
    clear A01 A02 A03 A04 A05
    (go_at_call 18; refine Calls.mono (toGame_any s n _ _ _ _ _ _ laid scores wrong _ (hxH.out _ K0) (hyH.out _ K0) (hzH.out _ K0) m1 m2 m3) ?_; rintro e w1 ⟨lo1, lc1, so1, sc1, wo1, wc1, rfl, p1, q1, r1, a1, b1, c1, k1⟩)
    obtain ⟨_, _, hv, x1, n1⟩ := p1.reads
    cases hv
    obtain ⟨_, _, hv, y1, _⟩ := q1.reads
    cases hv
    obtain ⟨_, _, hv, z1, _⟩ := r1.reads
    cases hv
    go_wp2_with (fail)
    (go_at_call 17; refine Calls.mono (hS _ _ _ _ _ _ _ x1 y1 z1 n1) ?_; rintro e w2 ⟨v2, rfl, ho2, k2⟩)
    have K1 := K0.trans k1
    have K2 := K1.trans k2
    obtain ⟨A20, A21, A22, A23, A24, A25⟩ := bA.out _ K2
    go_wp2_with (fail)
    clear A21 A22 A23 A24 A25
    (go_at_call 18; refine Calls.mono (toGame_any s n _ _ _ _ _ _ laid scores wrong _ (hxH.out _ K2) (hyH.out _ K2) (hzH.out _ K2) m1 m2 m3) ?_; rintro e w3 ⟨lo3, lc3, so3, sc3, wo3, wc3, rfl, p3, q3, r3, a3, b3, c3, k3⟩)
    obtain ⟨_, _, hv, x3, n3⟩ := p3.reads
    cases hv
    obtain ⟨_, _, hv, y3, _⟩ := q3.reads
    cases hv
    obtain ⟨_, _, hv, z3, _⟩ := r3.reads
    cases hv
    go_wp2_with (fail)
    (go_at_call 19; refine Calls.mono (hI _ _ _ _ _ _ _ (x3.kept (by (try simp only [ext_ext]); repeat (first | exact Kept.refl _ | apply Kept.alloc | apply Kept.drew | apply kept_add | apply Kept.ext))) (y3.kept (by (try simp only [ext_ext]); repeat (first | exact Kept.refl _ | apply Kept.alloc | apply Kept.drew | apply kept_add | apply Kept.ext))) (z3.kept (by (try simp only [ext_ext]); repeat (first | exact Kept.refl _ | apply Kept.alloc | apply Kept.drew | apply kept_add | apply Kept.ext))) n3) ?_; rintro e w4 ⟨v4, rfl, ho4, k4⟩)
    have bX := hid (fun w' (hk : Kept (w3.alloc (.cells #[.int .i64 s, .int .i64 n, .slice lo3 laid.length lc3, .slice so3 scores.length sc3, .slice wo3 wrong.length wc3] 41)) w') => (Box5.new (t := 41) s n (.slice lo3 laid.length lc3) (.slice so3 scores.length sc3) (.slice wo3 wrong.length wc3) (rfl : w3.heap.size = w3.heap.size)).kept hk)
    have k33 : Kept w3 (w3.alloc (.cells #[.int .i64 s, .int .i64 n, .slice lo3 laid.length lc3, .slice so3 scores.length sc3, .slice wo3 wrong.length wc3] 41)) := (by (try simp only [ext_ext]); repeat (first | exact Kept.refl _ | apply Kept.alloc | apply Kept.drew | apply kept_add | apply Kept.ext))
    have z33 : ((w3.alloc (.cells #[.int .i64 s, .int .i64 n, .slice lo3 laid.length lc3, .slice so3 scores.length sc3, .slice wo3 wrong.length wc3] 41))).heap.size = w3.heap.size + 1 := by simp
    have d1 : ∀ (u : Value) g, v4.ownBlock = some g → (OwnC w2.heap.size w3 u laid ∨ OwnI w2.heap.size w3 u scores ∨ OwnI w2.heap.size w3 u wrong) → u.ownBlock ≠ some g := fun u g h hu h' => by
      have h1 := (ho4.lt g h).1
      rcases hu with hu | hu | hu <;> (have h2 := (hu.lt g h').2; omega)
    have d2 : ∀ (u : Value) g, v2.ownBlock = some g → (OwnC w2.heap.size w3 u laid ∨ OwnI w2.heap.size w3 u scores ∨ OwnI w2.heap.size w3 u wrong) → u.ownBlock ≠ some g := fun u g h hu h' => by
      have h1 := (ho2.lt g h).2
      rcases hu with hu | hu | hu <;> (have h2 := (hu.lt g h').1; omega)
    have n24 : ∀ g, v2.ownBlock = some g → v4.ownBlock ≠ some g := fun g h h' => by have := (ho2.lt g h).2; have := (ho4.lt g h').1; have := k3.below.size; omega
    have K3 := K2.trans (k3.trans k33)
    have K4 := K3.trans k4
    have s2 := K2.below.size
    have s3 := K3.below.size
    have s1 := K1.below.size
    go_wp2_with (fail)
    (go_at_call 20; refine Calls.mono (eqI_any _ _ _ _ _ _ ho4 ((ho2.kept (k3.trans k33)).kept k4) hll) ?_; rintro e w5 ⟨rfl, k5⟩)
    have K5 := K4.trans k5
    have k35 := k33.trans (k4.trans k5)
    obtain ⟨A50, A51, A52, A53, A54, A55⟩ := bA.out _ K5
    obtain ⟨X50, X51, X52, X53, X54, X55⟩ := bX.out _ (k4.trans k5)
    go_wp2_with (fail)
    go_region_with (first | (go_at_call 18; refine Calls.mono (toGame_any s n _ _ _ _ _ _ laid scores wrong _ (hxH.out _ (K5.trans (by (try simp only [ext_ext]); repeat (first | exact Kept.refl _ | apply Kept.alloc | apply Kept.drew | apply kept_add | apply Kept.ext)))) (hyH.out _ (K5.trans (by (try simp only [ext_ext]); repeat (first | exact Kept.refl _ | apply Kept.alloc | apply Kept.drew | apply kept_add | apply Kept.ext)))) (hzH.out _ (K5.trans (by (try simp only [ext_ext]); repeat (first | exact Kept.refl _ | apply Kept.alloc | apply Kept.drew | apply kept_add | apply Kept.ext)))) m1 m2 m3) ?_; rintro e w' ⟨lo6, lc6, so6, sc6, wo6, wc6, rfl, p6, q6, r6, _, _, _, z6, rfl⟩; try simp only [ext_ext] at p6 q6 r6) | (go_at_call 21; refine Calls.mono (eqGame_any s n _ _ _ _ _ _ _ _ _ _ _ _ _ _ laid scores wrong _ (p3.kept (k35.trans (by (try simp only [ext_ext]); repeat (first | exact Kept.refl _ | apply Kept.alloc | apply Kept.drew | apply kept_add | apply Kept.ext)))) (p6.kept (by (try simp only [ext_ext]); repeat (first | exact Kept.refl _ | apply Kept.alloc | apply Kept.drew | apply kept_add | apply Kept.ext))) (q3.kept (k35.trans (by (try simp only [ext_ext]); repeat (first | exact Kept.refl _ | apply Kept.alloc | apply Kept.drew | apply kept_add | apply Kept.ext)))) (q6.kept (by (try simp only [ext_ext]); repeat (first | exact Kept.refl _ | apply Kept.alloc | apply Kept.drew | apply kept_add | apply Kept.ext))) (r3.kept (k35.trans (by (try simp only [ext_ext]); repeat (first | exact Kept.refl _ | apply Kept.alloc | apply Kept.drew | apply kept_add | apply Kept.ext)))) (r6.kept (by (try simp only [ext_ext]); repeat (first | exact Kept.refl _ | apply Kept.alloc | apply Kept.drew | apply kept_add | apply Kept.ext))) m1 m2 m3) ?_; rintro e w' ⟨rfl, y7, rfl⟩))
    all_goals
      go_wp2_with (fail)
      (go_at_call 22; refine Calls.mono (markGame_any s n _ _ _ _ _ _ _ laid scores wrong 1 _ (p3.kept (k35.trans (by (try simp only [ext_ext]); repeat (first | exact Kept.refl _ | apply Kept.alloc | apply Kept.drew | apply kept_add | apply Kept.ext)))) (q3.kept (k35.trans (by (try simp only [ext_ext]); repeat (first | exact Kept.refl _ | apply Kept.alloc | apply Kept.drew | apply kept_add | apply Kept.ext)))) (r3.kept (k35.trans (by (try simp only [ext_ext]); repeat (first | exact Kept.refl _ | apply Kept.alloc | apply Kept.drew | apply kept_add | apply Kept.ext)))) a3 b3 c3 m1 m2 m3 (by decide) (by decide)) ?_; rintro e w8 ⟨k', rfl, hk', u1, u2, u3, t0, t1, t2, t3⟩)
      have t0 : Kept w5 u1 := Kept.trans (by (try simp only [ext_ext]); repeat (first | exact Kept.refl _ | apply Kept.alloc | apply Kept.drew | apply kept_add | apply Kept.ext)) t0
      have e1 : ¬ (k' < 0) := by omega
      have tr : ∀ (v : Value) (B : Nat), (OwnI B w5 v ls) → (∀ (u : Value) g, v.ownBlock = some g → (OwnC w2.heap.size w3 u laid ∨ OwnI w2.heap.size w3 u scores ∨ OwnI w2.heap.size w3 u wrong) → u.ownBlock ≠ some g) → OwnI B w8 v ls := fun v B hv hd =>
        (((hv.kept t0).grown t1 fun g h => hd _ g h (.inl p3)).grown t2 fun g h => hd _ g h (.inr (.inl q3))).grown t3 fun g h => hd _ g h (.inr (.inr r3))
      have ho48 := tr _ _ (ho4.kept k5) d1
      have ho28 := tr _ _ (ho2.kept ((k3.trans k33).trans (k4.trans k5))) d2
      have K8 := (((K5.trans t0).grown t1 fun k hk => Nat.le_trans s2 (p3.lt k hk).1).grown t2 fun k hk => Nat.le_trans s2 (q3.lt k hk).1).grown t3 fun k hk => Nat.le_trans s2 (r3.lt k hk).1
      go_wp2_with (fail)
      (go_at_call 20; refine Calls.mono (eqI_any _ _ _ _ _ _ ho48 ho28 hll) ?_; rintro e w9 ⟨rfl, k9⟩)
      go_wp2_with (fail)
      (go_at_call 23; refine Calls.mono (markIntS_any _ _ _ _ 1 _ (ho48.kept k9) hll (by decide) (by decide)) ?_; rintro e w10 ⟨rfl, ho10, g10⟩)
      have K10 := (K8.trans k9).grown g10 fun k hk => Nat.le_trans s3 (ho4.lt k hk).1
      go_wp2_with (fail)
      (go_at_call 24; refine Calls.mono (heldIntS_any _ _ _ 1 _ ho10 hll (by decide) (by decide)) ?_; rintro e w11 ⟨rfl, k11⟩)
      have K11 := K10.trans k11
      obtain ⟨A110, A111, A112, A113, A114, A115⟩ := bA.out _ K11
      go_wp2_with (fail)
      clear A111 A112 A113 A114 A115
      (go_at_call 18; refine Calls.mono (toGame_any s n _ _ _ _ _ _ laid scores wrong _ (hxH.out _ K11) (hyH.out _ K11) (hzH.out _ K11) m1 m2 m3) ?_; rintro e w12 ⟨lo12, lc12, so12, sc12, wo12, wc12, rfl, p12, q12, r12, a12, b12, c12, k12⟩)
      obtain ⟨_, _, hv, x12, n12⟩ := p12.reads
      cases hv
      obtain ⟨_, _, hv, y12, _⟩ := q12.reads
      cases hv
      obtain ⟨_, _, hv, z12, _⟩ := r12.reads
      cases hv
      go_wp2_with (fail)
      (go_at_call 19; refine Calls.mono (hI _ _ _ _ _ _ _ x12 y12 z12 n12) ?_; rintro e w13 ⟨v13, rfl, ho13, k13⟩)
      have ho213 := (((ho28.kept k9).grown g10 n24).kept (k11.trans (k12.trans k13)))
      go_wp2_with (fail)
      (go_at_call 20; refine Calls.mono (eqI_any _ _ _ _ _ _ ho13 ho213 hll) ?_; rintro e w14 ⟨rfl, k14⟩)
      go_wp2_with (fail)
      (go_at_call 24; refine Calls.mono (heldIntS_any _ _ _ 1 _ (row_kept ho10 (k11.trans (k12.trans (k13.trans k14)))) hll (by decide) (by decide)) ?_; rintro e w15 ⟨rfl, k15⟩)
      go_wp2_with (fail)
      go_ret
      exact ⟨rfl, KH.out _ (K11.trans (k12.trans (k13.trans (k14.trans k15))))⟩
  · go_enter Try.func5, Try.ntmps5
    go_wp2_with (first | (go_at_call 16; refine Calls.mono (hsz.out _) ?_; rintro e w' ⟨rfl, y, rfl⟩))
    go_ret
    exact ⟨rfl, (by (try simp only [ext_ext]); repeat (first | exact Kept.refl _ | apply Kept.alloc | apply Kept.drew | apply kept_add | apply Kept.ext))⟩
end Go.Proofs.Ytenmnipgnjaheaa
