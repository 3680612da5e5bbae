/- Walk: the law of CountKinds. -/
import Derived.Test.YtlkjpammglljdabT17
import Derived.Test.YtlkjpammglljdabT14
import Derived.Test.YtlkjpammglljdabT11
import Derived.Test.YtlkjpammglljdabT3
import Derived.Test.YtlkjpammglljdabT4
namespace Go.Proofs.Ytlkjpammglljdab
open Go.RowKit
abbrev v5 (a b c d e : Int) : Value := .agg #[.int .i64 a, .int .i64 b, .int .i64 c, .int .i64 d, .int .i64 e]
abbrev kinds (xs : List Card) : Value := v5 (cnt (kd xs) (linesC xs).length 0) (cnt (kd xs) (linesC xs).length 1) (cnt (kd xs) (linesC xs).length 2) (cnt (kd xs) (linesC xs).length 3) (cnt (kd xs) (linesC xs).length 4)
def kT (xs : List Card) (n : Nat) : Nat → Int := fun d => cnt (kd xs) n d
theorem kT_next (xs : List Card) (n : Nat) (h : 0 ≤ kd xs n) : upd (kT xs n) (kd xs n).toNat (kT xs n (kd xs n).toNat + 1) = kT xs (n + 1) := by
  funext d
  unfold upd kT
  rw [cnt_next]
  by_cases hd : d = (kd xs n).toNat
  · rw [if_pos hd, ← hd, if_pos (by omega)]
  · rw [if_neg hd, if_neg (by omega), Int.add_zero]
theorem tab5 (f : Nat → Int) : tab 5 f = #[.int .i64 (f 0), .int .i64 (f 1), .int .i64 (f 2), .int .i64 (f 3), .int .i64 (f 4)] := rfl
theorem eqIntA5_any (a b c d e a' b' c' d' e' : Int) (w : World) :
    Calls Try.prog 24 #[v5 a b c d e, v5 a' b' c' d' e'] w fun r w' => r = .returned (.bool (decide (a = a') && decide (b = b') && decide (c = c') && decide (d = d') && decide (e = e'))) ∧ Kept w w' := by
  go_enter Try.func24, Try.ntmps24
  go_wp2
  refine wp_loop_rounds 6 ?_
  iterate 6
    (all_goals try rw [rounds_succ])
    go_wp2_with (first | (refine wp_region_ext (by kernel_rfl) (by kernel_rfl) ?_; (repeat (go_big_quiet_step (fail))); refine wpQuiet_end fun z => ?_))
  all_goals
    go_ret
    exact ⟨ret_of (by simp_all), (by (try simp only [ext_ext]); repeat (first | exact Kept.refl _ | apply Kept.alloc | apply Kept.drew | apply kept_add | apply Kept.ext))⟩
theorem sCountKinds_no (ao : Option Addr) (cap : Nat) (xs : List Card) (w : World) (hx : CardsAt w ao xs) (hl : xs.length ≤ 1048576) (h : isHand xs = false) :
    Calls Try.prog 22 #[.slice ao xs.length cap] w fun e w' => e = .returned (.tuple #[v5 0 0 0 0 0, .bool false]) ∧ Kept w w' := by
  go_enter Try.func22, Try.ntmps22
  go_wp2_with (first | (go_at_call 27; refine Calls.mono (l2Hand_any _ _ _ _ (by first | assumption | exact CardsAt.kept (by assumption) (by (try simp only [ext_ext]); repeat (first | exact Kept.refl _ | apply Kept.alloc | apply Kept.drew | apply kept_add | apply Kept.ext))) hl) ?_; rintro e w' ⟨rfl, y, rfl⟩))
  refine bodyPost_ret (v := .tuple #[v5 0 0 0 0 0, .bool false]) (by simp [results, Try.results22, go_sem]) rfl ⟨rfl, ?_⟩
  exact (by (try simp only [ext_ext]); repeat (first | exact Kept.refl _ | apply Kept.alloc | apply Kept.drew | apply kept_add | apply Kept.ext))
theorem iCountKinds_no (ao : Option Addr) (cap : Nat) (xs : List Card) (w : World) (hx : CardsAt w ao xs) (hl : xs.length ≤ 1048576) (h : isHand xs = false) :
    Calls Try.prog 23 #[.slice ao xs.length cap] w fun e w' => e = .returned (.tuple #[v5 0 0 0 0 0, .bool false]) ∧ Kept w w' := by
  go_enter Try.func23, Try.ntmps23
  go_wp2_with (first | (go_at_call 31; refine Calls.mono (IsHand_any _ _ _ _ (by first | assumption | exact CardsAt.kept (by assumption) (by (try simp only [ext_ext]); repeat (first | exact Kept.refl _ | apply Kept.alloc | apply Kept.drew | apply kept_add | apply Kept.ext))) hl) ?_; rintro e w' ⟨rfl, y, rfl⟩))
  refine bodyPost_ret (v := .tuple #[v5 0 0 0 0 0, .bool false]) (by simp [results, Try.results23, go_sem]) rfl ⟨rfl, ?_⟩
  exact (by (try simp only [ext_ext]); repeat (first | exact Kept.refl _ | apply Kept.alloc | apply Kept.drew | apply kept_add | apply Kept.ext))
theorem sCountKinds_yes (ao : Option Addr) (cap : Nat) (xs : List Card) (w : World) (hx : CardsAt w ao xs) (hh : isHand xs = true) :
    Calls Try.prog 22 #[.slice ao xs.length cap] w fun e w' => e = .returned (.tuple #[kinds xs, .bool true]) ∧ Kept w w' := by
  have hl27 := (isHand_of hh).1
  have hc := areC_hand hh
  have hll := linesC_len xs (by omega)
  go_enter Try.func22, Try.ntmps22
  go_wp2_with (first | (go_at_call 27; refine Calls.mono (l2Hand_any _ _ _ _ (by first | assumption | exact CardsAt.kept (by assumption) (by (try simp only [ext_ext]); repeat (first | exact Kept.refl _ | apply Kept.alloc | apply Kept.drew | apply kept_add | apply Kept.ext))) (by omega)) ?_; rintro e w' ⟨rfl, y, rfl⟩) | (go_at_call 49; refine Calls.mono (l2Lines_any _ _ _ _ (by first | assumption | exact CardsAt.kept (by assumption) (by (try simp only [ext_ext]); repeat (first | exact Kept.refl _ | apply Kept.alloc | apply Kept.drew | apply kept_add | apply Kept.ext))) (by omega) hc) ?_; rintro e w' ⟨v, rfl, ho, z, rfl⟩; obtain ⟨ao', cap', hv, hx', hcap'⟩ := ho.reads; subst hv))
  go_loopw [6] (fun i wr => ∃ n : Nat, n ≤ (linesC xs).length ∧ i = .int .i64 n ∧ wr.heap[w.heap.size + 1]? = some (.cells (tab 5 (kT xs n)) 39) ∧ wr.heap[w.heap.size]? = some (.cells (tab 5 fun _ => 0) 39) ∧ Kept w wr ∧ OwnL (w.heap.size + 2) wr (.slice ao' (linesC xs).length cap') (linesC xs)) (fun i _ => (linesC xs).length - (intOf i).toNat)
  case atStart =>
    refine ⟨0, Nat.zero_le _, rfl, ?_, ?_, (by (try simp only [ext_ext]); repeat (first | exact Kept.refl _ | apply Kept.alloc | apply Kept.drew | apply kept_add | apply Kept.ext)), (ho.mono (by simp)).kept (by (try simp only [ext_ext]); repeat (first | exact Kept.refl _ | apply Kept.alloc | apply Kept.drew | apply kept_add | apply Kept.ext))⟩
    · exact (ext_heap _ _ _ (by simp)).trans (heap_at (by simp))
    · exact (ext_heap _ _ _ (by simp; omega)).trans (heap_past (by simp) (heap_at rfl))
  case round wr =>
    obtain ⟨n, hn, rfl, hT, h0, hkw, hown⟩ := hrel
    obtain ⟨ao2, cap2, hv2, hx2, _⟩ := hown.reads
    cases hv2
    have hTH := hid hT
    have h0H := hid h0
    have hkwH := hid hkw
    have hownH := hid hown
    have hs5 : w.heap.size + 1 < wr.heap.size := (Array.getElem?_eq_some_iff.1 hT).1
    have hs4 : w.heap.size < wr.heap.size := by omega
    by_cases hlt : n < (linesC xs).length
    · obtain ⟨i, k, m, e, hik, hkm, hm, _⟩ := linesC_at hlt
      obtain ⟨gl, ol, hae, hgl, q1, q2, q3⟩ := hx2 n hlt
      rw [e] at q1 q2 q3
      simp only at q1 q2 q3
      have hxr := hx.kept hkw
      obtain ⟨g, off, rfl, hg, h1, h2, h3, h4⟩ := hxr i (by omega)
      obtain ⟨g', off', he, hg', p1, p2, p3, p4⟩ := hxr k (by omega)
      cases he
      cases hae
      have hil : i < xs.length := by omega
      have hkl : k < xs.length := by omega
      have hd5 := differC_bd (cx xs i) (cx xs k)
      have hkd := kd_at e
      have hkn := kT_next xs n (by rw [hkd]; omega)
      rw [hkd] at hkn
      have hknH := hid hkn
      have hcb := cnt_bd (kd xs) n (((differC (cx xs i) (cx xs k)).toNat : Nat) : Int)
      have hkb : 0 ≤ kT xs n (differC (cx xs i) (cx xs k)).toNat ∧ kT xs n (differC (cx xs i) (cx xs k)).toNat ≤ n := hcb
      have htw : wr.cell? ⟨w.heap.size + 1, (differC (cx xs i) (cx xs k)).toNat, none⟩ = some (.int .i64 (kT xs n (differC (cx xs i) (cx xs k)).toNat)) := (cell_of_row _ _ _ _ _ (0, 0) hT).trans (tab_get _ (by omega))
      have hfw : wr.frozen? ⟨w.heap.size + 1, (differC (cx xs i) (cx xs k)).toNat, none⟩ = false := frozen_of_row _ _ _ _ _ hT
      clear hT h0 hkw hown hx2 hxr e hkd hkn hcb hkm hm
      go_wp2_with (first | (refine wp_region_ext_tail 21 (by kernel_rfl) (by kernel_rfl) ?_; simp only [List.take_succ_cons, List.take_zero, List.drop_succ_cons, List.drop_zero]; (repeat (go_big_quiet_step (((go_at_call 36; first | exact ext_call (l2Differ_any _ _ _) | exact ext_call2 (l2Differ_any _ _ _)))))); refine wpQuiet_tail fun z => ?_))
      go_roundw
      case rel =>
        refine ⟨n + 1, hlt, by go_num, ?_, ?_, ?_, ?_⟩
        · rw [ext_heap _ _ _ (by simp; omega), heap_setCell_same _ _ _ _ _ _ hTH.out, tab_set, hknH.out]
        · rw [ext_heap _ _ _ (by simp; omega), heap_setCell_other _ _ _ _ (by simp)]; exact h0H.out
        · exact (Kept.setCell hkwH.out (by simp) _).ext _
        · exact OwnL.kept (OwnL.setCell (g := w.heap.size + 1) hownH.out (by omega)) ⟨_, rfl⟩
      case measure => simp [intOf]; omega
    · obtain rfl : n = (linesC xs).length := by omega
      rw [tab5] at hT h0
      have a0 := cell_of_row _ (w.heap.size + 1) 0 _ _ (0, 0) hT
      have a1 := cell_of_row _ (w.heap.size + 1) 1 _ _ (0, 0) hT
      have a2 := cell_of_row _ (w.heap.size + 1) 2 _ _ (0, 0) hT
      have a3 := cell_of_row _ (w.heap.size + 1) 3 _ _ (0, 0) hT
      have a4 := cell_of_row _ (w.heap.size + 1) 4 _ _ (0, 0) hT
      have b0 := cell_of_row _ w.heap.size 0 _ _ (0, 0) h0
      have b1 := cell_of_row _ w.heap.size 1 _ _ (0, 0) h0
      have b2 := cell_of_row _ w.heap.size 2 _ _ (0, 0) h0
      have b3 := cell_of_row _ w.heap.size 3 _ _ (0, 0) h0
      have b4 := cell_of_row _ w.heap.size 4 _ _ (0, 0) h0
      have f0 := frozen_of_row _ w.heap.size 0 _ _ h0
      have f1 := frozen_of_row _ w.heap.size 1 _ _ h0
      have f2 := frozen_of_row _ w.heap.size 2 _ _ h0
      have f3 := frozen_of_row _ w.heap.size 3 _ _ h0
      have f4 := frozen_of_row _ w.heap.size 4 _ _ h0
      simp at a0 a1 a2 a3 a4 b0 b1 b2 b3 b4
      clear hT h0 hkw hown hx2
      go_wp2
      refine bodyPost_ret (v := .tuple #[kinds xs, .bool true]) (by simp [results, Try.results22, go_sem, kT, b0, b1, b2, b3, b4]) rfl ⟨rfl, ?_⟩
      exact ((((hkwH.out.setCell (p := ⟨_, _, none⟩) (Nat.le_refl _) _).setCell (p := ⟨_, _, none⟩) (Nat.le_refl _) _).setCell (p := ⟨_, _, none⟩) (Nat.le_refl _) _).setCell (p := ⟨_, _, none⟩) (Nat.le_refl _) _).setCell (p := ⟨_, _, none⟩) (Nat.le_refl _) _
theorem iCountKinds_yes (ao : Option Addr) (cap : Nat) (xs : List Card) (w : World) (hx : CardsAt w ao xs) (hh : isHand xs = true) :
    Calls Try.prog 23 #[.slice ao xs.length cap] w fun e w' => e = .returned (.tuple #[kinds xs, .bool true]) ∧ Kept w w' := by
  have hl27 := (isHand_of hh).1
  have hc := areC_hand hh
  have hll := linesC_len xs (by omega)
  go_enter Try.func23, Try.ntmps23
  go_wp2_with (first | (go_at_call 31; refine Calls.mono (IsHand_any _ _ _ _ (by first | assumption | exact CardsAt.kept (by assumption) (by (try simp only [ext_ext]); repeat (first | exact Kept.refl _ | apply Kept.alloc | apply Kept.drew | apply kept_add | apply Kept.ext))) (by omega)) ?_; rintro e w' ⟨rfl, y, rfl⟩) | (go_at_call 50; refine Calls.mono (linesIn_any _ _ _ _ (by first | assumption | exact CardsAt.kept (by assumption) (by (try simp only [ext_ext]); repeat (first | exact Kept.refl _ | apply Kept.alloc | apply Kept.drew | apply kept_add | apply Kept.ext))) (by omega) hc (distC_hand hh)) ?_; rintro e w' ⟨v, rfl, ho, z, rfl⟩; obtain ⟨ao', cap', hv, hx', hcap'⟩ := ho.reads; subst hv))
  go_loopw [15] (fun i wr => ∃ n : Nat, n ≤ (linesC xs).length ∧ i = .int .i64 n ∧ wr.heap[w.heap.size + 1]? = some (.cells (tab 5 (kT xs n)) 39) ∧ wr.heap[w.heap.size]? = some (.cells (tab 5 fun _ => 0) 39) ∧ Kept w wr ∧ OwnL (w.heap.size + 2) wr (.slice ao' (linesC xs).length cap') (linesC xs)) (fun i _ => (linesC xs).length - (intOf i).toNat)
  case atStart =>
    refine ⟨0, Nat.zero_le _, rfl, ?_, ?_, (by (try simp only [ext_ext]); repeat (first | exact Kept.refl _ | apply Kept.alloc | apply Kept.drew | apply kept_add | apply Kept.ext)), (ho.mono (by simp)).kept (by (try simp only [ext_ext]); repeat (first | exact Kept.refl _ | apply Kept.alloc | apply Kept.drew | apply kept_add | apply Kept.ext))⟩
    · exact (ext_heap _ _ _ (by simp)).trans (heap_at (by simp))
    · exact (ext_heap _ _ _ (by simp; omega)).trans (heap_past (by simp) (heap_at rfl))
  case round wr =>
    obtain ⟨n, hn, rfl, hT, h0, hkw, hown⟩ := hrel
    obtain ⟨ao2, cap2, hv2, hx2, _⟩ := hown.reads
    cases hv2
    have hTH := hid hT
    have h0H := hid h0
    have hkwH := hid hkw
    have hownH := hid hown
    have hs5 : w.heap.size + 1 < wr.heap.size := (Array.getElem?_eq_some_iff.1 hT).1
    have hs4 : w.heap.size < wr.heap.size := by omega
    by_cases hlt : n < (linesC xs).length
    · obtain ⟨i, k, m, e, hik, hkm, hm, _⟩ := linesC_at hlt
      obtain ⟨gl, ol, hae, hgl, q1, q2, q3⟩ := hx2 n hlt
      rw [e] at q1 q2 q3
      simp only at q1 q2 q3
      have hxr := hx.kept hkw
      obtain ⟨g, off, rfl, hg, h1, h2, h3, h4⟩ := hxr i (by omega)
      obtain ⟨g', off', he, hg', p1, p2, p3, p4⟩ := hxr k (by omega)
      cases he
      cases hae
      have hil : i < xs.length := by omega
      have hkl : k < xs.length := by omega
      have hd5 := differC_bd (cx xs i) (cx xs k)
      have hkd := kd_at e
      have hkn := kT_next xs n (by rw [hkd]; omega)
      rw [hkd] at hkn
      have hknH := hid hkn
      have hcb := cnt_bd (kd xs) n (((differC (cx xs i) (cx xs k)).toNat : Nat) : Int)
      have hkb : 0 ≤ kT xs n (differC (cx xs i) (cx xs k)).toNat ∧ kT xs n (differC (cx xs i) (cx xs k)).toNat ≤ n := hcb
      have htw : wr.cell? ⟨w.heap.size + 1, (differC (cx xs i) (cx xs k)).toNat, none⟩ = some (.int .i64 (kT xs n (differC (cx xs i) (cx xs k)).toNat)) := (cell_of_row _ _ _ _ _ (0, 0) hT).trans (tab_get _ (by omega))
      have hfw : wr.frozen? ⟨w.heap.size + 1, (differC (cx xs i) (cx xs k)).toNat, none⟩ = false := frozen_of_row _ _ _ _ _ hT
      clear hT h0 hkw hown hx2 hxr e hkd hkn hcb hkm hm
      go_wp2_with (first | (refine wp_region_ext_tail 15 (by kernel_rfl) (by kernel_rfl) ?_; simp only [List.take_succ_cons, List.take_zero, List.drop_succ_cons, List.drop_zero]; (repeat (go_big_quiet_step (((go_at_call 39; first | exact ext_call (differ_any _ _ _) | exact ext_call2 (differ_any _ _ _)))))); refine wpQuiet_tail fun z => ?_))
      go_roundw
      case rel =>
        refine ⟨n + 1, hlt, by go_num, ?_, ?_, ?_, ?_⟩
        · rw [ext_heap _ _ _ (by simp; omega), heap_alloc_old _ _ (by simp; omega), heap_setCell_same _ _ _ _ _ _ hTH.out, tab_set, hknH.out]
        · rw [ext_heap _ _ _ (by simp; omega), heap_alloc_old _ _ (by simp; omega), heap_setCell_other _ _ _ _ (by simp)]; exact h0H.out
        · exact ((Kept.setCell hkwH.out (by simp) _).alloc _).ext _
        · exact OwnL.kept (OwnL.setCell (g := w.heap.size + 1) hownH.out (by omega)) (((Kept.refl _).alloc _).ext _)
      case measure => simp [intOf]; omega
    · obtain rfl : n = (linesC xs).length := by omega
      rw [tab5] at hT h0
      have a0 := cell_of_row _ (w.heap.size + 1) 0 _ _ (0, 0) hT
      have a1 := cell_of_row _ (w.heap.size + 1) 1 _ _ (0, 0) hT
      have a2 := cell_of_row _ (w.heap.size + 1) 2 _ _ (0, 0) hT
      have a3 := cell_of_row _ (w.heap.size + 1) 3 _ _ (0, 0) hT
      have a4 := cell_of_row _ (w.heap.size + 1) 4 _ _ (0, 0) hT
      have b0 := cell_of_row _ w.heap.size 0 _ _ (0, 0) h0
      have b1 := cell_of_row _ w.heap.size 1 _ _ (0, 0) h0
      have b2 := cell_of_row _ w.heap.size 2 _ _ (0, 0) h0
      have b3 := cell_of_row _ w.heap.size 3 _ _ (0, 0) h0
      have b4 := cell_of_row _ w.heap.size 4 _ _ (0, 0) h0
      have f0 := frozen_of_row _ w.heap.size 0 _ _ h0
      have f1 := frozen_of_row _ w.heap.size 1 _ _ h0
      have f2 := frozen_of_row _ w.heap.size 2 _ _ h0
      have f3 := frozen_of_row _ w.heap.size 3 _ _ h0
      have f4 := frozen_of_row _ w.heap.size 4 _ _ h0
      simp at a0 a1 a2 a3 a4 b0 b1 b2 b3 b4
      clear hT h0 hkw hown hx2
      go_wp2
      refine bodyPost_ret (v := .tuple #[kinds xs, .bool true]) (by simp [results, Try.results23, go_sem, kT, b0, b1, b2, b3, b4]) rfl ⟨rfl, ?_⟩
      exact ((((hkwH.out.setCell (p := ⟨_, _, none⟩) (Nat.le_refl _) _).setCell (p := ⟨_, _, none⟩) (Nat.le_refl _) _).setCell (p := ⟨_, _, none⟩) (Nat.le_refl _) _).setCell (p := ⟨_, _, none⟩) (Nat.le_refl _) _).setCell (p := ⟨_, _, none⟩) (Nat.le_refl _) _
theorem walk_FnExactCountKinds (ao : Option Addr) (xs : List Card) (cap : Nat) {w : World} (hx : CardsAt w ao xs) (hl : xs.length ≤ maxLen) (_ : World) :
    Calls Try.prog 7 #[.slice ao xs.length cap] w fun e w' => e = .returned (.bool true) ∧ Kept w w' := by
  have hl' : xs.length ≤ 9223372036854775807 := by unfold maxLen at hl; omega
  by_cases hn : xs.length ≤ 1048576
  · cases hg : isHand xs with
    | false =>
      go_enter Try.func7, Try.ntmps7
      go_wp2_with (first | (go_at_call 9; refine Calls.mono (szIntA4S_any _ _ _ hl' _) ?_; rintro e w' ⟨rfl, rfl⟩) | (go_at_call 11; refine Calls.mono (toIntA4S_any _ _ _ _ (by first | assumption | exact CardsAt.kept (by assumption) (by (try simp only [ext_ext]); repeat (first | exact Kept.refl _ | apply Kept.alloc | apply Kept.drew | apply kept_add | apply Kept.ext))) hn) ?_; rintro e w' ⟨v, rfl, ho, z, rfl⟩; obtain ⟨ao', cap', rfl, hx', hcap'⟩ := ho.reads; clear ho) | (go_at_call 22; refine Calls.mono (sCountKinds_no _ _ _ _ (by first | assumption | exact CardsAt.kept (by assumption) (by (try simp only [ext_ext]); repeat (first | exact Kept.refl _ | apply Kept.alloc | apply Kept.drew | apply kept_add | apply Kept.ext))) hn hg) ?_; rintro e w' ⟨rfl, y, rfl⟩) | (go_at_call 23; refine Calls.mono (iCountKinds_no _ _ _ _ (by first | assumption | exact CardsAt.kept (by assumption) (by (try simp only [ext_ext]); repeat (first | exact Kept.refl _ | apply Kept.alloc | apply Kept.drew | apply kept_add | apply Kept.ext))) hn hg) ?_; rintro e w' ⟨rfl, y, rfl⟩) | (go_at_call 14; refine Calls.mono (eqIntA4S_any _ _ _ _ _ _ _ (by first | assumption | exact CardsAt.kept (by assumption) (by (try simp only [ext_ext]); repeat (first | exact Kept.refl _ | apply Kept.alloc | apply Kept.drew | apply kept_add | apply Kept.ext))) (by first | assumption | exact CardsAt.kept (by assumption) (by (try simp only [ext_ext]); repeat (first | exact Kept.refl _ | apply Kept.alloc | apply Kept.drew | apply kept_add | apply Kept.ext))) hn hn) ?_; rintro e w' ⟨rfl, y, rfl⟩) | (go_at_call 24; refine Calls.mono (eqIntA5_any _ _ _ _ _ _ _ _ _ _ _) ?_; rintro e w' ⟨rfl, y, rfl⟩))
      all_goals
        go_ret
        exact ⟨rfl, (by (try simp only [ext_ext]); repeat (first | exact Kept.refl _ | apply Kept.alloc | apply Kept.drew | apply kept_add | apply Kept.ext))⟩
    | true =>
      go_enter Try.func7, Try.ntmps7
      go_wp2_with (first | (go_at_call 9; refine Calls.mono (szIntA4S_any _ _ _ hl' _) ?_; rintro e w' ⟨rfl, rfl⟩) | (go_at_call 11; refine Calls.mono (toIntA4S_any _ _ _ _ (by first | assumption | exact CardsAt.kept (by assumption) (by (try simp only [ext_ext]); repeat (first | exact Kept.refl _ | apply Kept.alloc | apply Kept.drew | apply kept_add | apply Kept.ext))) hn) ?_; rintro e w' ⟨v, rfl, ho, z, rfl⟩; obtain ⟨ao', cap', rfl, hx', hcap'⟩ := ho.reads; clear ho) | (go_at_call 22; refine Calls.mono (sCountKinds_yes _ _ _ _ (by first | assumption | exact CardsAt.kept (by assumption) (by (try simp only [ext_ext]); repeat (first | exact Kept.refl _ | apply Kept.alloc | apply Kept.drew | apply kept_add | apply Kept.ext))) hg) ?_; rintro e w' ⟨rfl, y, rfl⟩) | (go_at_call 23; refine Calls.mono (iCountKinds_yes _ _ _ _ (by first | assumption | exact CardsAt.kept (by assumption) (by (try simp only [ext_ext]); repeat (first | exact Kept.refl _ | apply Kept.alloc | apply Kept.drew | apply kept_add | apply Kept.ext))) hg) ?_; rintro e w' ⟨rfl, y, rfl⟩) | (go_at_call 14; refine Calls.mono (eqIntA4S_any _ _ _ _ _ _ _ (by first | assumption | exact CardsAt.kept (by assumption) (by (try simp only [ext_ext]); repeat (first | exact Kept.refl _ | apply Kept.alloc | apply Kept.drew | apply kept_add | apply Kept.ext))) (by first | assumption | exact CardsAt.kept (by assumption) (by (try simp only [ext_ext]); repeat (first | exact Kept.refl _ | apply Kept.alloc | apply Kept.drew | apply kept_add | apply Kept.ext))) hn hn) ?_; rintro e w' ⟨rfl, y, rfl⟩) | (go_at_call 24; refine Calls.mono (eqIntA5_any _ _ _ _ _ _ _ _ _ _ _) ?_; rintro e w' ⟨rfl, y, rfl⟩))
      all_goals
        go_ret
        exact ⟨rfl, (by (try simp only [ext_ext]); repeat (first | exact Kept.refl _ | apply Kept.alloc | apply Kept.drew | apply kept_add | apply Kept.ext))⟩
  · go_enter Try.func7, Try.ntmps7
    go_wp2_with (first | (go_at_call 9; refine Calls.mono (szIntA4S_any _ _ _ hl' _) ?_; rintro e w' ⟨rfl, rfl⟩))
    go_ret
    exact ⟨rfl, (by (try simp only [ext_ext]); repeat (first | exact Kept.refl _ | apply Kept.alloc | apply Kept.drew | apply kept_add | apply Kept.ext))⟩
end Go.Proofs.Ytlkjpammglljdab
