/- Walk: the law of LineCounts. -/
import Derived.Test.YthiamiilgdkclaaT14
import Derived.Test.YthiamiilgdkclaaT16
import Derived.Test.YthiamiilgdkclaaT17
import Derived.Test.YthiamiilgdkclaaT22
import Derived.Test.YthiamiilgdkclaaT24
import Derived.Test.YthiamiilgdkclaaT25
namespace Go.Proofs.Ythiamiilgdkclaa
open Go.RowKit
/-- How many lines have a place. -/
def lcN (xs : List Card) (i : Nat) : Int := (((linesC xs).filter (hasPl i)).length : Nat)
def lcs (xs : List Card) (k : Nat) : List Int := (List.range k).map fun i => lcN xs i
theorem lcs_next (xs : List Card) (k : Nat) : lcs xs (k + 1) = lcs xs k ++ [lcN xs k] := by simp [lcs, List.range_succ]
theorem lcs_len (xs : List Card) (k : Nat) : (lcs xs k).length = k := by simp [lcs]
/-- The counts behind n lines and the first q places of the next. -/
def lcT (xs : List Card) (n q : Nat) : Nat → Int := fun p => ((fil (hasPl p) (linesC xs) n).length : Nat) + rsum q fun j => eq01 (lnF (lx (linesC xs) n) j) p
theorem lcT_bd (xs : List Card) (n q p : Nat) (h : (linesC xs).length ≤ 6561) (hq : q ≤ 3) : 0 ≤ lcT xs n q p ∧ lcT xs n q p ≤ 6564 := by
  have h1 := fil_len (hasPl p) (linesC xs) n
  have h2 := rsum_bd (n := q) (f := fun j => eq01 (lnF (lx (linesC xs) n) j) p) (b := 1) fun j _ => eq01_bd _ _
  unfold lcT; omega
theorem lcT_next (xs : List Card) (n q : Nat) {e : Nat} (he : lnF (lx (linesC xs) n) q = (e : Int)) : upd (lcT xs n q) e (lcT xs n q e + 1) = lcT xs n (q + 1) := by
  funext p
  unfold upd
  by_cases h : p = e
  · rw [if_pos h, ← h]
    simp only [lcT, rsum_succ, he, eq01, h]
    simp only [if_true]
    omega
  · rw [if_neg h]
    simp only [lcT, rsum_succ, he, eq01]
    rw [if_neg (by omega), Int.add_zero]
theorem lcT_turn {xs : List Card} {n : Nat} (hn : n < (linesC xs).length) : lcT xs n 3 = lcT xs (n + 1) 0 := by
  obtain ⟨i, k, m, e, h1, h2, _⟩ := linesC_at hn
  funext p
  simp only [lcT, rsum, fil_next _ _ _ hn, e, lnF, eq01, hasPl]
  by_cases c1 : p = i
  · have a1 : (i : Int) = p := by omega
    have a2 : ¬ (k : Int) = p := by omega
    have a3 : ¬ (m : Int) = p := by omega
    simp [a1, a2, a3]
  · by_cases c2 : p = k
    · have a1 : ¬ (i : Int) = p := by omega
      have a2 : (k : Int) = p := by omega
      have a3 : ¬ (m : Int) = p := by omega
      simp [a1, a2, a3]
    · by_cases c3 : p = m
      · have a1 : ¬ (i : Int) = p := by omega
        have a2 : ¬ (k : Int) = p := by omega
        have a3 : (m : Int) = p := by omega
        simp [a1, a2, a3]
      · have a1 : ¬ (i : Int) = p := by omega
        have a2 : ¬ (k : Int) = p := by omega
        have a3 : ¬ (m : Int) = p := by omega
        simp [a1, a2, a3]
theorem lcT_end (xs : List Card) (n : Nat) : tl n (lcT xs (linesC xs).length 0) = lcs xs n := by
  unfold tl lcs
  refine List.map_congr_left fun p _ => ?_
  simp [lcT, lcN, rsum, fil_all]
theorem own_tab {w : World} {B g n : Nat} {f : Nat → Int} (hB : B ≤ g) (hn : n ≤ maxLen) (h : w.heap[g]? = some (.cells (tab n f) 3)) : OwnI B w (.slice (some ⟨g, 0, none⟩) n n) (tl n f) := by
  have e : (tab n f).toList = vals1 (tl n f) := by simp [tab, tl]
  unfold OwnI
  rw [tl_len]
  exact ⟨by simp [tl], .inr ⟨g, n, tab n f, rfl, hB, h, Nat.le_refl _, hn, by rw [tab_size, Nat.mul_one], by rw [e, List.take_of_length_le (by simp [tl])]⟩⟩
theorem lcs_le {xs : List Card} (h : isHand xs = true) : (lcs xs xs.length).length ≤ 1048576 := by
  have := (isHand_of h).1
  rw [lcs_len]; omega
theorem sLineCounts_no (ao : Option Addr) (cap : Nat) (xs : List Card) (w : World) (hx : CardsAt w ao xs) (hl : xs.length ≤ 1048576) (h : isHand xs = false) :
    Calls Try.prog 31 #[.slice ao xs.length cap] w (RetIT w false []) := by
  go_enter Try.func31, Try.ntmps31
  go_wp2_with (first | (go_at_call 44; refine Calls.mono (l2Hand_any _ _ _ _ (by first | assumption | exact CardsAt.kept (by assumption) (by (try simp only [ext_ext]); repeat (first | exact Kept.refl _ | apply Kept.alloc | apply Kept.drew | apply kept_add | apply Kept.ext))) hl) ?_; rintro e w' ⟨rfl, y, rfl⟩))
  refine bodyPost_ret (v := .tuple #[.slice (some ⟨w.heap.size, 0, none⟩) 0 0, .bool false]) (by simp [results, Try.results31, go_sem]) rfl ?_
  exact ⟨_, rfl, ownI_nil (Nat.le_refl _) ((ext_heap _ _ _ (by simp)).trans (heap_at rfl)), (by (try simp only [ext_ext]); repeat (first | exact Kept.refl _ | apply Kept.alloc | apply Kept.drew | apply kept_add | apply Kept.ext))⟩
theorem iLineCounts_no (ao : Option Addr) (cap : Nat) (xs : List Card) (w : World) (hx : CardsAt w ao xs) (hl : xs.length ≤ 1048576) (h : isHand xs = false) :
    Calls Try.prog 32 #[.slice ao xs.length cap] w (RetIT w false []) := by
  go_enter Try.func32, Try.ntmps32
  go_wp2_with (first | (go_at_call 49; refine Calls.mono (IsHand_any _ _ _ _ (by first | assumption | exact CardsAt.kept (by assumption) (by (try simp only [ext_ext]); repeat (first | exact Kept.refl _ | apply Kept.alloc | apply Kept.drew | apply kept_add | apply Kept.ext))) hl) ?_; rintro e w' ⟨rfl, y, rfl⟩))
  refine bodyPost_ret (v := .tuple #[.slice none 0 0, .bool false]) (by simp [results, Try.results32, go_sem]) rfl ?_
  exact ⟨_, rfl, ownI_none _ _, (by (try simp only [ext_ext]); repeat (first | exact Kept.refl _ | apply Kept.alloc | apply Kept.drew | apply kept_add | apply Kept.ext))⟩
theorem sLineCounts_yes (ao : Option Addr) (cap : Nat) (xs : List Card) (w : World) (hx : CardsAt w ao xs) (hh : isHand xs = true) :
    Calls Try.prog 31 #[.slice ao xs.length cap] w (RetIT w true (lcs xs xs.length)) := by
  have hl27 := (isHand_of hh).1
  have hc := areC_hand hh
  have hll := linesC_len xs (by omega)
  go_enter Try.func31, Try.ntmps31
  go_wp2_with (first | (go_at_call 44; refine Calls.mono (l2Hand_any _ _ _ _ (by first | assumption | exact CardsAt.kept (by assumption) (by (try simp only [ext_ext]); repeat (first | exact Kept.refl _ | apply Kept.alloc | apply Kept.drew | apply kept_add | apply Kept.ext))) (by omega)) ?_; rintro e w' ⟨rfl, y, rfl⟩) | (go_at_call 46; refine Calls.mono (l2Lines_any _ _ _ _ (by first | assumption | exact CardsAt.kept (by assumption) (by (try simp only [ext_ext]); repeat (first | exact Kept.refl _ | apply Kept.alloc | apply Kept.drew | apply kept_add | apply Kept.ext))) (by omega) hc) ?_; rintro e w' ⟨v, rfl, ho, z, rfl⟩; obtain ⟨ao', cap', hv, hx', hcap'⟩ := ho.reads; subst hv))
  go_loopw [6, 4] (fun i v wr => ∃ n : Nat, n ≤ xs.length ∧ i = .int .i64 n ∧ OwnI w.heap.size wr v (lcs xs n) ∧ Kept w wr ∧ SideL wr v (.slice ao' (linesC xs).length cap') (linesC xs)) (fun i _ _ => xs.length - (intOf i).toNat)
  case atStart =>
    refine ⟨0, Nat.zero_le _, rfl, ?_, (by (try simp only [ext_ext]); repeat (first | exact Kept.refl _ | apply Kept.alloc | apply Kept.drew | apply kept_add | apply Kept.ext)), ⟨⟨_, ho.kept (by (try simp only [ext_ext]); repeat (first | exact Kept.refl _ | apply Kept.alloc | apply Kept.drew | apply kept_add | apply Kept.ext))⟩, fun g hg => ?_⟩⟩
    · exact ownI_nil (Nat.le_refl _) ((ext_heap _ _ _ (by simp)).trans (heap_at rfl))
    · have := (ho.lt g hg).1
      simp at this
      simp [Value.ownBlock]
      omega
  case round wr =>
    obtain ⟨n, hn, rfl, hown, hkw, hside⟩ := hrel
    have hownH := hid hown
    have hkwH := hid hkw
    have hsideH := hid hside
    obtain ⟨⟨B2, hB2⟩, _⟩ := hside
    clear hown
    by_cases hlt : n < xs.length
    · obtain ⟨ao2, cap2, hv2, hx2, _⟩ := hB2.reads
      cases hv2
      clear hB2
      have hnx := hid (lcs_next xs n)
      have hlen := hid (lcs_len xs n)
      have hws := hkw.below.size
      clear hkw
      go_wp2_with (first | (go_at_call 68; refine Calls.mono (l7At_any _ _ _ _ _ (LinesAt.kept (by assumption) (by (try simp only [ext_ext]); repeat (first | exact Kept.refl _ | apply Kept.alloc | apply Kept.drew | apply kept_add | apply Kept.ext))) (by omega)) ?_; rintro e w' ⟨vr, rfl, hor, zr, rfl⟩; obtain ⟨ar, cr, rfl, _, _⟩ := hor.reads) | (at_builtin; refine wpList_append_int rfl _ _ rfl w w.heap.size _ _ rfl (hownH.out.kept (by (try simp only [ext_ext]); repeat (first | exact Kept.refl _ | apply Kept.alloc | apply Kept.drew | apply kept_add | apply Kept.ext))) (hkwH.out.trans (by (try simp only [ext_ext]); repeat (first | exact Kept.refl _ | apply Kept.alloc | apply Kept.drew | apply kept_add | apply Kept.ext))) (Nat.le_refl _) (by simp; omega) _ _ (lcN xs n) rfl ?_ (by have := hlen.out; omega) ?_; rotate_left; intro v' w' hown' hkw' hgr' hat'))
      case refine_1 => exact cell_of_row _ _ 0 _ _ (0, 0) (heap_at (by simp))
      go_roundw
      case rel => exact ⟨n + 1, hlt, by go_num, by rw [hnx.out]; exact hown', hkw', (hsideH.out.kept (by (try simp only [ext_ext]); repeat (first | exact Kept.refl _ | apply Kept.alloc | apply Kept.drew | apply kept_add | apply Kept.ext))).grown hgr' hat'⟩
      case measure => simp [intOf]; omega
    · obtain rfl : n = xs.length := by omega
      go_wp2
      refine bodyPost_ret (v := .tuple #[u4, .bool true]) (by simp [results, Try.results31, go_sem]) rfl ?_
      exact ⟨_, rfl, hownH.out.kept (by (try simp only [ext_ext]); repeat (first | exact Kept.refl _ | apply Kept.alloc | apply Kept.drew | apply kept_add | apply Kept.ext)), hkwH.out.trans (by (try simp only [ext_ext]); repeat (first | exact Kept.refl _ | apply Kept.alloc | apply Kept.drew | apply kept_add | apply Kept.ext))⟩
theorem iLineCounts_yes (ao : Option Addr) (cap : Nat) (xs : List Card) (w : World) (hx : CardsAt w ao xs) (hh : isHand xs = true) :
    Calls Try.prog 32 #[.slice ao xs.length cap] w (RetIT w true (lcs xs xs.length)) := by
  have hl27 := (isHand_of hh).1
  have hc := areC_hand hh
  have hll := linesC_len xs (by omega)
  have hmk : ∀ w : World, (Instr.makeSlice 25 (.int .i64 (xs.length : Int)) (.int .i64 (xs.length : Int))).run Try.prog w = .ok (.slice (some ⟨w.heap.size, 0, none⟩) xs.length xs.length) (w.alloc (.cells (tab xs.length fun _ => 0) 3)) := fun w => by
    obtain ⟨i, hi, hz, hs, hb⟩ := info_parts info_i64
    have := run_make (P := Try.prog) w 25 3 i _ Try.underlying25 hi hz .i64 .i64 (xs.length : Int) (xs.length : Int) (by omega) (Int.le_refl _) (by rw [hb]; omega) (by omega)
    rw [hs] at this
    have e : madeCells #[.int .i64 0] xs.length = tab xs.length fun _ => 0 := by
      apply Array.ext_getElem?
      intro j
      by_cases hj : j < xs.length
      · rw [tab_get _ hj]
        simp [madeCells, hj, Nat.mod_one]
      · rw [Array.getElem?_eq_none (by rw [size_madeCells]; omega), Array.getElem?_eq_none (by rw [tab_size]; omega)]
    simpa [Value.cells, e] using this
  go_enter Try.func32, Try.ntmps32
  go_wp2_with (first | (go_at_call 49; refine Calls.mono (IsHand_any _ _ _ _ (by first | assumption | exact CardsAt.kept (by assumption) (by (try simp only [ext_ext]); repeat (first | exact Kept.refl _ | apply Kept.alloc | apply Kept.drew | apply kept_add | apply Kept.ext))) (by omega)) ?_; rintro e w' ⟨rfl, y, rfl⟩) | (go_at_call 51; refine Calls.mono (linesIn_any _ _ _ _ (by first | assumption | exact CardsAt.kept (by assumption) (by (try simp only [ext_ext]); repeat (first | exact Kept.refl _ | apply Kept.alloc | apply Kept.drew | apply kept_add | apply Kept.ext))) (by omega) hc (distC_hand hh)) ?_; rintro e w' ⟨v, rfl, ho, z, rfl⟩; obtain ⟨ao', cap', hv, hx', hcap'⟩ := ho.reads; subst hv))
  obtain ⟨g0, hg0⟩ : ∃ g0, g0 = w.heap.size + y.os.length := ⟨_, rfl⟩
  go_loopw [18] (fun i wr => ∃ n : Nat, n ≤ (linesC xs).length ∧ i = .int .i64 n ∧ wr.heap[w.heap.size + y.os.length]? = some (.cells (tab xs.length (lcT xs n 0)) 3) ∧ Kept w wr ∧ OwnL (w.heap.size + y.os.length + 1) wr (.slice ao' (linesC xs).length cap') (linesC xs)) (fun i _ => (linesC xs).length - (intOf i).toNat)
  case atStart =>
    refine ⟨0, Nat.zero_le _, rfl, ?_, (by (try simp only [ext_ext]); repeat (first | exact Kept.refl _ | apply Kept.alloc | apply Kept.drew | apply kept_add | apply Kept.ext)), (ho.mono (by simp)).kept (by (try simp only [ext_ext]); repeat (first | exact Kept.refl _ | apply Kept.alloc | apply Kept.drew | apply kept_add | apply Kept.ext))⟩
    rw [show tab xs.length (lcT xs 0 0) = tab xs.length fun _ => 0 from tab_congr fun p _ => by simp [lcT, fil_zero, rsum]]
    exact (ext_heap _ _ _ (by simp)).trans (heap_at (by simp))
  case round wr =>
    obtain ⟨n, hn, rfl, hT, hkw, hown⟩ := hrel
    have hTH := hid hT
    have hkwH := hid hkw
    have hownH := hid hown
    have hgs : w.heap.size + y.os.length < wr.heap.size := (Array.getElem?_eq_some_iff.1 hT).1
    by_cases hlt : n < (linesC xs).length
    · obtain ⟨ao2, cap2, hv2, hx2, _⟩ := hown.reads
      cases hv2
      obtain ⟨i, k, m, e, hik, hkm, hm, _⟩ := linesC_at hlt
      obtain ⟨gl, ol, rfl, hgl, q1, q2, q3⟩ := hx2 n hlt
      rw [e] at q1 q2 q3
      simp only at q1 q2 q3
      have e0 : Hid (lnF (lx (linesC xs) n) 0 = (i : Int)) := hid (by rw [e]; rfl)
      have e1 : Hid (lnF (lx (linesC xs) n) 1 = (k : Int)) := hid (by rw [e]; rfl)
      have e2 : Hid (lnF (lx (linesC xs) n) 2 = (m : Int)) := hid (by rw [e]; rfl)
      have hil : i < xs.length := by omega
      have hkl : k < xs.length := by omega
      have htu := hid (lcT_turn hlt)
      have i0 : ∀ w : World, (Instr.index 69 (.agg #[.int .i64 (i : Int), .int .i64 (k : Int), .int .i64 (m : Int)]) (.int .i64 0)).run Try.prog w = .ok (.int .i64 (i : Int)) w := fun _ => by kernel_rfl
      have i1 : ∀ w : World, (Instr.index 69 (.agg #[.int .i64 (i : Int), .int .i64 (k : Int), .int .i64 (m : Int)]) (.int .i64 1)).run Try.prog w = .ok (.int .i64 (k : Int)) w := fun _ => by kernel_rfl
      have i2 : ∀ w : World, (Instr.index 69 (.agg #[.int .i64 (i : Int), .int .i64 (k : Int), .int .i64 (m : Int)]) (.int .i64 2)).run Try.prog w = .ok (.int .i64 (m : Int)) w := fun _ => by kernel_rfl
      clear hT hkw hown hx2 e
      go_wp2
      go_loopw [23] (fun j wr => ∃ q : Nat, q ≤ 3 ∧ j = .int .i64 q ∧ wr.heap[w.heap.size + y.os.length]? = some (.cells (tab xs.length (lcT xs n q)) 3) ∧ Kept w wr ∧ OwnL (w.heap.size + y.os.length + 1) wr (.slice (some ⟨gl, ol, none⟩) (linesC xs).length cap') (linesC xs)) (fun j _ => 3 - (intOf j).toNat)
      case atStart => exact ⟨0, by omega, rfl, (heap_alloc_old _ _ (by omega)).trans hTH.out, hkwH.out.trans (by (try simp only [ext_ext]); repeat (first | exact Kept.refl _ | apply Kept.alloc | apply Kept.drew | apply kept_add | apply Kept.ext)), hownH.out.kept (by (try simp only [ext_ext]); repeat (first | exact Kept.refl _ | apply Kept.alloc | apply Kept.drew | apply kept_add | apply Kept.ext))⟩
      case round wr =>
        obtain ⟨q, hq, rfl, hT, hkw, hown⟩ := hrel
        have hTH := hid hT
        have hkwH := hid hkw
        have hownH := hid hown
        have hgs : w.heap.size + y.os.length < wr.heap.size := (Array.getElem?_eq_some_iff.1 hT).1
        by_cases hlt2 : q < 3
        · have hq3 : q = 0 ∨ q = 1 ∨ q = 2 := by omega
          have step : ∀ e : Nat, lnF (lx (linesC xs) n) q = (e : Int) → e < xs.length → (wr.cell? ⟨w.heap.size + y.os.length, e, none⟩ = some (.int .i64 (lcT xs n q e)) ∧ wr.frozen? ⟨w.heap.size + y.os.length, e, none⟩ = false ∧ (0 ≤ lcT xs n q e ∧ lcT xs n q e ≤ 6564) ∧ Hid ((wr.setCell ⟨w.heap.size + y.os.length, e, none⟩ (.int .i64 (lcT xs n q e + 1))).heap[w.heap.size + y.os.length]? = some (.cells (tab xs.length (lcT xs n (q + 1))) 3))) := fun e he hel => by
            refine ⟨(cell_of_row _ _ _ _ _ (0, 0) hTH.out).trans (tab_get _ hel), frozen_of_row _ _ _ _ _ hTH.out, lcT_bd xs n q e hll (by omega), hid ?_⟩
            rw [heap_setCell_same _ _ _ _ _ _ hTH.out, tab_set, lcT_next _ _ _ he]
          have stepH := hid step
          clear hT hkw hown step htu
          rcases hq3 with rfl | rfl | rfl
          · obtain ⟨c1, c2, c3, c4⟩ := stepH.out i e0.out hil
            clear stepH
            go_wp2
            go_roundw
            case rel => exact ⟨1, by omega, by go_num, c4.out, hkwH.out.setCell (p := ⟨_, _, none⟩) (by simp) _, OwnL.setCell hownH.out (by omega)⟩
            case measure => simp [intOf]
          · obtain ⟨c1, c2, c3, c4⟩ := stepH.out k e1.out hkl
            clear stepH
            go_wp2
            go_roundw
            case rel => exact ⟨2, by omega, by go_num, c4.out, hkwH.out.setCell (p := ⟨_, _, none⟩) (by simp) _, OwnL.setCell hownH.out (by omega)⟩
            case measure => simp [intOf]
          · obtain ⟨c1, c2, c3, c4⟩ := stepH.out m e2.out hm
            clear stepH
            go_wp2
            go_roundw
            case rel => exact ⟨3, by omega, by go_num, c4.out, hkwH.out.setCell (p := ⟨_, _, none⟩) (by simp) _, OwnL.setCell hownH.out (by omega)⟩
            case measure => simp [intOf]
        · obtain rfl : q = 3 := by omega
          clear hT hkw hown
          go_wp2
          go_roundw
          case rel => exact ⟨n + 1, hlt, by go_num, by rw [← htu.out]; exact hTH.out, hkwH.out, hownH.out⟩
          case measure => simp [intOf]; omega
    · obtain rfl : n = (linesC xs).length := by omega
      clear hT hkw hown
      go_wp2
      refine bodyPost_ret (v := .tuple #[.slice (some ⟨w.heap.size + y.os.length, 0, none⟩) xs.length xs.length, .bool true]) (by simp [results, Try.results32, go_sem]) rfl ?_
      exact ⟨_, rfl, by rw [← lcT_end]; exact own_tab (Nat.le_add_right _ _) (by unfold maxLen; omega) hTH.out, hkwH.out⟩
set_option maxHeartbeats 1000000 in
theorem walk_FnExactLineCounts (ao : Option Addr) (xs : List Card) (cap : Nat) {w : World} (hx : CardsAt w ao xs) (hl : xs.length ≤ maxLen) (_ : World) :
    Calls Try.prog 8 #[.slice ao xs.length cap] w fun e w' => e = .returned (.bool true) ∧ Kept w w' := by
  have hl' : xs.length ≤ 9223372036854775807 := by unfold maxLen at hl; omega
  by_cases hn : xs.length ≤ 1048576
  · obtain ⟨ok, ls, hS, hI, hll⟩ : ∃ ok ls, (∀ ao cap w, CardsAt w ao xs → Calls Try.prog 31 #[.slice ao xs.length cap] w (RetIT w ok ls)) ∧ (∀ ao cap w, CardsAt w ao xs → xs.length ≤ cap → Calls Try.prog 32 #[.slice ao xs.length cap] w (RetIT w ok ls)) ∧ ls.length ≤ 1048576 := by
      cases hg : isHand xs with
      | false => exact ⟨false, [], fun _ _ _ hx => sLineCounts_no _ _ _ _ hx hn hg, fun _ _ _ hx hc => iLineCounts_no _ _ _ _ hx hn hg, by simp⟩
      | true => exact ⟨true, lcs xs xs.length, fun _ _ _ hx => sLineCounts_yes _ _ _ _ hx hg, fun _ _ _ hx hc => iLineCounts_yes _ _ _ _ hx hg, (lcs_le hg)⟩
    have p1 : ¬ ((1 : Int) + (xs.length : Int) * 4 < 0) := by omega
    have p2 : ¬ ((1 : Int) + (ls.length : Int) < 0) := by omega
    go_enter Try.func8, Try.ntmps8
    go_wp2_with (first | (go_at_call 14; refine Calls.mono (szIntA4S_any _ _ _ hl' _) ?_; rintro e w' ⟨rfl, rfl⟩))
    (go_at_call 16; refine Calls.mono (toIntA4S_any _ _ _ _ hx hn) ?_; rintro e w1 ⟨v1, rfl, ho1, k1⟩)
    obtain ⟨a1, c1, rfl, hx1, hc1⟩ := ho1.reads
    go_wp2_with (fail)
    (go_at_call 31; refine Calls.mono (hS _ _ _ hx1) ?_; rintro e w2 ⟨v2, rfl, ho2, k2⟩)
    have hx2 := hx.kept (k1.trans k2)
    go_wp2_with (fail)
    (go_at_call 16; refine Calls.mono (toIntA4S_any _ _ _ _ hx2 hn) ?_; rintro e w3 ⟨v3, rfl, ho3, k3⟩)
    obtain ⟨a3, c3, rfl, hx3, hc3⟩ := ho3.reads
    go_wp2_with (fail)
    (go_at_call 32; refine Calls.mono (hI _ _ _ hx3 hc3) ?_; rintro e w4 ⟨v4, rfl, ho4, k4⟩)
    have n43 : ∀ g, v4.ownBlock = some g → (Value.slice a3 xs.length c3).ownBlock ≠ some g := fun g h h' => by have := (ho4.lt g h).1; have := (ho3.lt g h').2; omega
    have n23 : ∀ g, v2.ownBlock = some g → (Value.slice a3 xs.length c3).ownBlock ≠ some g := fun g h h' => by have := (ho2.lt g h).2; have := (ho3.lt g h').1; omega
    have n24 : ∀ g, v2.ownBlock = some g → v4.ownBlock ≠ some g := fun g h h' => by have := (ho2.lt g h).2; have := (ho4.lt g h').1; have := k3.below.size; omega
    go_wp2_with (fail)
    (go_at_call 33; refine Calls.mono (eqI_any _ _ _ _ _ _ ho4 ((ho2.kept k3).kept k4) hll) ?_; rintro e w5 ⟨rfl, k5⟩)
    have hx5 := hx2.kept (k3.trans (k4.trans k5))
    go_wp2_with (fail)
    (go_at_call 16; refine Calls.mono (toIntA4S_any _ _ _ _ hx5 hn) ?_; rintro e w6 ⟨v6, rfl, ho6, k6⟩)
    obtain ⟨a6, c6, rfl, hx6, hc6⟩ := ho6.reads
    have hx36 := hx3.kept (k4.trans (k5.trans k6))
    go_wp2_with (fail)
    (go_at_call 19; refine Calls.mono (eqIntA4S_any _ _ _ _ _ _ _ hx36 hx6 hn hn) ?_; rintro e w7 ⟨rfl, k7⟩)
    have K7 : Kept w w7 := k1.trans (k2.trans (k3.trans (k4.trans (k5.trans (k6.trans k7)))))
    have s2 : w.heap.size ≤ w2.heap.size := (k1.trans k2).below.size
    have s3 : w.heap.size ≤ w3.heap.size := (k1.trans (k2.trans k3)).below.size
    go_wp2_with (fail)
    (go_at_call 24; refine Calls.mono (markIntA4S_any _ _ _ _ 1 _ (ho3.kept (k4.trans (k5.trans (k6.trans k7)))) hn (by decide) (by decide)) ?_; rintro e w8 ⟨rfl, _, g8⟩)
    have ho48 := (ho4.kept (k5.trans (k6.trans k7))).grown g8 n43
    have ho28 := (ho2.kept (k3.trans (k4.trans (k5.trans (k6.trans k7))))).grown g8 n23
    have K8 : Kept w w8 := K7.grown g8 fun k hk => Nat.le_trans s2 (ho3.lt k hk).1
    go_wp2_with (fail)
    (go_at_call 33; refine Calls.mono (eqI_any _ _ _ _ _ _ ho48 ho28 hll) ?_; rintro e w9 ⟨rfl, k9⟩)
    go_wp2_with (fail)
    (go_at_call 34; refine Calls.mono (markIntS_any _ _ _ _ 1 _ (ho48.kept k9) hll (by decide) (by decide)) ?_; rintro e w10 ⟨rfl, ho10, g10⟩)
    have K10 : Kept w w10 := (K8.trans k9).grown g10 fun k hk => Nat.le_trans s3 (ho4.lt k hk).1
    go_wp2_with (fail)
    (go_at_call 35; refine Calls.mono (heldIntS_any _ _ _ 1 _ ho10 hll (by decide) (by decide)) ?_; rintro e w11 ⟨rfl, k11⟩)
    have hx11 := hx.kept (K10.trans k11)
    go_wp2_with (fail)
    (go_at_call 16; refine Calls.mono (toIntA4S_any _ _ _ _ hx11 hn) ?_; rintro e w12 ⟨v12, rfl, ho12, k12⟩)
    obtain ⟨a12, c12, rfl, hx12, hc12⟩ := ho12.reads
    go_wp2_with (fail)
    (go_at_call 32; refine Calls.mono (hI _ _ _ hx12 hc12) ?_; rintro e w13 ⟨v13, rfl, ho13, k13⟩)
    have ho213 := (((ho28.kept k9).grown g10 n24).kept (k11.trans (k12.trans k13)))
    go_wp2_with (fail)
    (go_at_call 33; refine Calls.mono (eqI_any _ _ _ _ _ _ ho13 ho213 hll) ?_; rintro e w14 ⟨rfl, k14⟩)
    go_wp2_with (fail)
    (go_at_call 35; refine Calls.mono (heldIntS_any _ _ _ 1 _ (row_kept ho10 (k11.trans (k12.trans (k13.trans k14)))) hll (by decide) (by decide)) ?_; rintro e w15 ⟨rfl, k15⟩)
    go_wp2_with (fail)
    go_ret
    exact ⟨rfl, K10.trans (k11.trans (k12.trans (k13.trans (k14.trans k15))))⟩
  · go_enter Try.func8, Try.ntmps8
    go_wp2_with (first | (go_at_call 14; refine Calls.mono (szIntA4S_any _ _ _ hl' _) ?_; rintro e w' ⟨rfl, rfl⟩))
    go_ret
    exact ⟨rfl, (by (try simp only [ext_ext]); repeat (first | exact Kept.refl _ | apply Kept.alloc | apply Kept.drew | apply kept_add | apply Kept.ext))⟩
end Go.Proofs.Ythiamiilgdkclaa
