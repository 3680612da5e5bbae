/- Contracts: the library's stable sort at a game's players. -/
import Derived.Test.YtenmnipgnjaheaaT86
import Derived.Deep.CutRange
namespace Go.Proofs.Ytenmnipgnjaheaa
open Go.RowKit
theorem kept_gR {w w' : World} {row : Option Nat} (h : Kept w w') : w.grownBy w' row := ⟨h.below.os, h.below.tape, h.below.output, h.below.size, fun k hk _ => h.below.block k hk⟩
/-- A block that begins with these numbers. -/
def RowX (w : World) (g cap : Nat) (zs : List Nat) : Prop := ∃ cur, w.heap[g]? = some (.cells cur 3 (0, 0)) ∧ cur.size = cap ∧ zs.length ≤ cap ∧ cur.toList.take zs.length = vals1 (ints zs)
theorem RowX.lt {w : World} {g cap : Nat} {zs : List Nat} (h : RowX w g cap zs) : g < w.heap.size := by
  obtain ⟨cur, h1, _⟩ := h
  exact (Array.getElem?_eq_some_iff.1 h1).1
theorem RowX.cell {w : World} {g cap : Nat} {zs : List Nat} (h : RowX w g cap zs) {i : Nat} (hi : i < zs.length) : w.cell? ⟨g, i, none⟩ = some (.int .i64 ((zs.getD i 0 : Nat) : Int)) := by
  obtain ⟨cur, h1, _, _, h3⟩ := h
  rw [cell_of_row w g i _ _ (0, 0) h1]
  have h4 : (vals1 (ints zs))[i]? = some (.int .i64 ((zs.getD i 0 : Nat) : Int)) := by
    simp [vals1, ints, List.getD, hi]
  rw [← h3, List.getElem?_take, if_pos hi] at h4
  simpa using h4
theorem RowX.frozen {w : World} {g cap : Nat} {zs : List Nat} (h : RowX w g cap zs) (i : Nat) : w.frozen? ⟨g, i, none⟩ = false := by
  obtain ⟨cur, h1, _⟩ := h
  exact frozen_of_row w g i _ _ h1
theorem RowX.kept {w w' : World} {g cap : Nat} {zs : List Nat} (h : RowX w g cap zs) (hk : Kept w w') : RowX w' g cap zs := by
  obtain ⟨cur, h1, h2⟩ := h
  exact ⟨cur, (hk.below.block g (Array.getElem?_eq_some_iff.1 h1).1).trans h1, h2⟩
theorem RowX.set {w : World} {g cap : Nat} {zs : List Nat} (h : RowX w g cap zs) {i : Nat} (hi : i < zs.length) (x : Nat) : RowX (w.setCell ⟨g, i, none⟩ (.int .i64 (x : Nat))) g cap (zs.set i x) := by
  obtain ⟨cur, h1, h2, h3, h4⟩ := h
  refine ⟨cur.setIfInBounds i (.int .i64 (x : Nat)), heap_setCell_same _ _ _ _ _ _ h1, by simpa using h2, by simpa using h3, ?_⟩
  rw [List.length_set, Array.toList_setIfInBounds, List.take_set, h4]
  simp [vals1, ints, List.map_set]
theorem OwnI.rowX {B : Nat} {w : World} {g n cap : Nat} {zs : List Nat} (h : OwnI B w (.slice (some ⟨g, 0, none⟩) n cap) (ints zs)) : RowX w g cap zs ∧ B ≤ g ∧ cap ≤ maxLen := by
  rcases h.2 with ⟨e, _⟩ | ⟨g', cap', cur, e, hb, hg, hc, hm, hs, ht⟩
  · cases e
  · cases e
    rw [ints_len] at hc ht
    exact ⟨⟨cur, hg, by omega, hc, by simpa using ht⟩, hb, hm⟩
theorem RowX.own {B : Nat} {w : World} {g n cap : Nat} {zs : List Nat} (h : RowX w g cap zs) (hn : zs.length = n) (hB : B ≤ g) (hm : cap ≤ maxLen) : OwnI B w (.slice (some ⟨g, 0, none⟩) n cap) (ints zs) := by
  obtain ⟨cur, h1, h2, h3, h4⟩ := h
  subst hn
  refine ⟨by simp [vals1], .inr ⟨g, cap, cur, by rw [ints_len], hB, h1, by rw [ints_len]; exact h3, hm, by omega, ?_⟩⟩
  rw [ints_len, Nat.mul_one]; exact h4
theorem range_split (m i : Nat) (h : i < m) : List.range' i (m - i) = [i] ++ List.range' (i + 1) (m - (i + 1)) := by
  obtain ⟨d, rfl⟩ : ∃ d, m = i + d + 1 := ⟨m - i - 1, by omega⟩
  rw [show i + d + 1 - i = d + 1 by omega, show i + d + 1 - (i + 1) = d by omega, List.range'_succ]
  rfl
theorem mvR_end {b : Nat → Nat → Bool} {i n : Nat} {rest : List Nat} (h : plR b (rkR b i) i i = n) : mvR (rkR b i) i n rest = rkR b (i + 1) ++ rest := by
  rw [rkR_next h]; rfl
set_option maxHeartbeats 2000000 in
set_option maxRecDepth 20000 in
theorem insRank_any (g cap m : Nat) (cf : Nat → Nat → Int) (pB gB : Nat) (w : World) (hrow : RowX w g cap (List.range m)) (hm : 1 ≤ m) (hm4 : m ≤ 4)
    (hcmp : ∀ w', w.grownBy w' (some g) → ∀ x y, x < m → y < m → Calls Try.prog 51 #[.int .i64 x, .int .i64 y, .pointer (some ⟨pB, 0, none⟩), .pointer (some ⟨gB, 0, none⟩)] w' fun e w'' => e = .returned (.int .i64 (cf x y)) ∧ Kept w' w'') :
    Calls Try.prog 90 #[.slice (some ⟨g, 0, none⟩) m cap, .int .i64 0, .int .i64 m, .func (.func 51) #[] #[.pointer (some ⟨pB, 0, none⟩), .pointer (some ⟨gB, 0, none⟩)]] w fun e w' => e = .returned (.tuple #[]) ∧ RowX w' g cap (rkR (fun x y => decide (cf x y < 0)) m) ∧ w.grownBy w' (some g) := by
  obtain ⟨b, hb⟩ : ∃ b : Nat → Nat → Bool, b = fun x y => decide (cf x y < 0) := ⟨_, rfl⟩
  have hbH := hid (fun x y => show decide (cf x y < 0) = b x y by rw [hb])
  rw [← hb]
  have hrow0 := hid (show RowX w g cap (rkR b 1 ++ List.range' 1 (m - 1)) by
    have e : List.range m = rkR b 1 ++ List.range' 1 (m - 1) := by
      have := range_split m 0 (by omega)
      rw [List.range_eq_range']
      simpa [rkR, insR, plR] using this
    rwa [e] at hrow)
  have hcH := hid hcmp
  clear hrow hcmp hb
  go_enter Try.func90, Try.ntmps90
  go_wp2
  go_loopw [8] (fun s8 wr => ∃ i : Nat, 1 ≤ i ∧ i ≤ m ∧ s8 = .int .i64 (i : Int) ∧ RowX wr g cap (rkR b i ++ List.range' i (m - i)) ∧ w.grownBy wr (some g)) (fun s8 _ => m - (intOf s8).toNat)
  case atStart => exact ⟨1, by omega, hm, rfl, hrow0.out, grown_refl _ _⟩
  case round =>
    obtain ⟨i, hi1, him, rfl, hr, hg⟩ := hrel
    have hrH := hid hr
    have hgH := hid hg
    clear hr hg
    by_cases hlt : i < m
    · have hst := hid (show RowX wr g cap (mvR (rkR b i) i i (List.range' (i + 1) (m - (i + 1)))) by
        have h := hrH.out
        rw [range_split m i hlt, ← mvR_all (rkR b i) i (List.range' (i + 1) (m - (i + 1))) (rkR_len b i)] at h
        exact h)
      obtain ⟨N, hN⟩ : ∃ N, plR b (rkR b i) i i = N := ⟨_, rfl⟩
      have hend := hid (mvR_end (rest := List.range' (i + 1) (m - (i + 1))) hN)
      have hNH := hid hN
      have hrl := hid (rkR_len b i)
      have hrlt := hid (fun n (h : n < i) => rkR_at b h)
      clear hN
      obtain ⟨xs, hxs⟩ : ∃ xs, xs = rkR b i := ⟨_, rfl⟩
      obtain ⟨rest, hrest⟩ : ∃ rest, rest = List.range' (i + 1) (m - (i + 1)) := ⟨_, rfl⟩
      rw [← hxs] at hst hend hNH hrl hrlt
      rw [← hrest] at hst hend
      have hrestH := hid hrest
      clear hxs hrest
      go_wp2
      go_loopw [9] (fun s9 wr => ∃ j : Nat, j ≤ i ∧ s9 = .int .i64 (j : Int) ∧ RowX wr g cap (mvR xs i j rest) ∧ plR b xs i j = N ∧ w.grownBy wr (some g)) (fun s9 _ => (intOf s9).toNat)
      case atStart => exact ⟨i, Nat.le_refl _, rfl, hst.out, hNH.out, hgH.out⟩
      case round =>
        obtain ⟨w1, hw1⟩ : ∃ w1, w1 = wr := ⟨_, rfl⟩
        subst hw1
        obtain ⟨j, hji, rfl, hr, hp, hg⟩ := hrel
        have hrjH := hid hr
        have hgjH := hid hg
        have hpH := hid hp
        clear hr hg hp
        rcases Nat.eq_zero_or_pos j with rfl | hj
        · have hfin := hid (show RowX w1 g cap (rkR b (i + 1) ++ rest) by
            have h := hrjH.out
            have e : N = 0 := by rw [← hpH.out]; rfl
            rw [← hend.out, e]; exact h)
          go_wp2_with (first | (refine wp_region_ext (by kernel_rfl) (by kernel_rfl) ?_; (repeat (go_big_quiet_step ((fail)))); refine wpQuiet_end fun z => ?_))
          go_roundw
          case rel => exact ⟨i + 1, by omega, by omega, by go_num, by rw [← hrestH.out]; exact hfin.out.kept (by (try simp only [ext_ext]); repeat (first | exact Kept.refl _ | apply Kept.alloc | apply Kept.drew | apply kept_add | apply Kept.ext)), hgjH.out.trans (kept_gR (by (try simp only [ext_ext]); repeat (first | exact Kept.refl _ | apply Kept.alloc | apply Kept.drew | apply kept_add | apply Kept.ext)))⟩
          case measure => simp [intOf]; omega
        · obtain ⟨q, rfl⟩ : ∃ q, j = q + 1 := ⟨j - 1, by omega⟩
          have hlen : (mvR xs i (q + 1) rest).length = i + 1 + rest.length := by rw [mvR_len, hrl.out]
          have c1 := hrjH.out.cell (i := q + 1) (by omega)
          have c0 := hrjH.out.cell (i := q) (by omega)
          have f1 := hrjH.out.frozen (q + 1)
          have f0 := hrjH.out.frozen q
          rw [mvR_at (by rw [hrl.out]; omega)] at c1
          rw [mvR_at1 (by rw [hrl.out]; omega)] at c0
          have hgw := hrjH.out.lt
          have hpm := hrlt.out q (by omega)
          have hsw := hid (mvR_swap (xs := xs) (i := i) (rest := rest) (j := q) (by rw [hrl.out]; omega))
          have hset := hid (show ∀ w' : World, Kept ((w1.setCell ⟨g, q + 1, none⟩ (.int .i64 ((xs.getD q 0 : Nat) : Int))).setCell ⟨g, q, none⟩ (.int .i64 (i : Int))) w' → RowX w' g cap (mvR xs i q rest) ∧ w.grownBy w' (some g) from fun w' hk => ⟨by
            have h1 := (hrjH.out.set (i := q + 1) (by omega) (xs.getD q 0)).set (i := q) (by rw [List.length_set]; omega) i
            rw [hsw.out] at h1
            exact h1.kept hk, (grown_setCell (grown_setCell hgjH.out (p := ⟨g, q + 1, none⟩) rfl _) (p := ⟨g, q, none⟩) rfl _).trans (kept_gR hk)⟩)
          have hplY := hid (plR_yes (b := b) (xs := xs) (i := i) (n := q))
          have hplN := hid (plR_no (b := b) (xs := xs) (i := i) (n := q))
          have hC := hid (fun w' (hk : Kept w1 w') => hcH.out w' (hgjH.out.trans (kept_gR hk)) i (xs.getD q 0) (by omega) (by omega))
          obtain ⟨c, hc⟩ : ∃ c, c = cf i (xs.getD q 0) := ⟨_, rfl⟩
          have hcb := hid (show decide (c < 0) = b i (xs.getD q 0) by rw [hc]; exact hbH.out _ _)
          rw [← hc] at hC
          clear hc
          obtain ⟨p, hp⟩ : ∃ p, p = xs.getD q 0 := ⟨_, rfl⟩
          rw [← hp] at c0 hpm hset hC hcb hplY hplN
          clear hp hlen
          have hq1 : IntKind.i64.wrap ((q : Int) + 1 - 1) = (q : Int) := by rw [show ((q : Int) + 1 - 1) = (q : Int) by omega]; exact Go.IntWalk.i64_in _ ⟨by omega, by omega⟩
          have hqm : q < m := by omega
          have hqm1 : q + 1 < m := by omega
          have hq0 : decide ((0 : Int) < (q : Int) + 1) = true := decide_eq_true (by omega)
          cases hbb : b i p with
          | true =>
            rw [hbb] at hcb
            have hcn := hcb.out
            have hnx := hid (hplY.out hbb)
            clear hbb
            go_wp2_with (first | (refine wp_region_ext (by kernel_rfl) (by kernel_rfl) ?_; (repeat (go_big_quiet_step (((go_at_call 51; first | exact ext_call (hC.out _ ((by (try simp only [ext_ext]); repeat (first | exact Kept.refl _ | apply Kept.alloc | apply Kept.drew | apply kept_add | apply Kept.ext)))) | exact ext_call2 (hC.out _ ((by (try simp only [ext_ext]); repeat (first | exact Kept.refl _ | apply Kept.alloc | apply Kept.drew | apply kept_add | apply Kept.ext))))))))); refine wpQuiet_end fun z => ?_) | go_region)
            all_goals
              go_roundw
              case rel =>
                exact ⟨q, by omega, by go_num, (hset.out _ (by (try simp only [ext_ext]); repeat (first | exact Kept.refl _ | apply Kept.alloc | apply Kept.drew | apply kept_add | apply Kept.ext))).1, by rw [← hnx.out]; exact hpH.out, (hset.out _ (by (try simp only [ext_ext]); repeat (first | exact Kept.refl _ | apply Kept.alloc | apply Kept.drew | apply kept_add | apply Kept.ext))).2⟩
              case measure => simp [intOf] <;> omega
          | false =>
            rw [hbb] at hcb
            have hcn := hcb.out
            have hfin := hid (show RowX w1 g cap (rkR b (i + 1) ++ rest) by
              have h := hrjH.out
              have e : N = q + 1 := by rw [← hpH.out, hplN.out hbb]
              rw [← hend.out, e]; exact h)
            clear hbb
            go_wp2_with (first | (refine wp_region_ext (by kernel_rfl) (by kernel_rfl) ?_; (repeat (go_big_quiet_step (((go_at_call 51; first | exact ext_call (hC.out _ ((by (try simp only [ext_ext]); repeat (first | exact Kept.refl _ | apply Kept.alloc | apply Kept.drew | apply kept_add | apply Kept.ext)))) | exact ext_call2 (hC.out _ ((by (try simp only [ext_ext]); repeat (first | exact Kept.refl _ | apply Kept.alloc | apply Kept.drew | apply kept_add | apply Kept.ext))))))))); refine wpQuiet_end fun z => ?_))
            go_roundw
            case rel => exact ⟨i + 1, by omega, by omega, by go_num, by rw [← hrestH.out]; exact hfin.out.kept (by (try simp only [ext_ext]); repeat (first | exact Kept.refl _ | apply Kept.alloc | apply Kept.drew | apply kept_add | apply Kept.ext)), hgjH.out.trans (kept_gR (by (try simp only [ext_ext]); repeat (first | exact Kept.refl _ | apply Kept.alloc | apply Kept.drew | apply kept_add | apply Kept.ext)))⟩
            case measure => simp [intOf]; omega
    · obtain rfl : i = m := by omega
      have hfin := hid (show RowX wr g cap (rkR b i) by
        have h := hrH.out
        rw [Nat.sub_self, List.range'_zero, List.append_nil] at h
        exact h)
      go_wp2
      go_end0
      exact ⟨rfl, hfin.out.kept (by (try simp only [ext_ext]); repeat (first | exact Kept.refl _ | apply Kept.alloc | apply Kept.drew | apply kept_add | apply Kept.ext)), hgH.out.trans (kept_gR (by (try simp only [ext_ext]); repeat (first | exact Kept.refl _ | apply Kept.alloc | apply Kept.drew | apply kept_add | apply Kept.ext)))⟩
end Go.Proofs.Ytenmnipgnjaheaa
