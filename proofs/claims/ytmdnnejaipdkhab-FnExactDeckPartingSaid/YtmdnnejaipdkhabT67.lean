/- Contracts: three numbers in one block put in order, the least being the first. -/
import Derived.Test.YtmdnnejaipdkhabT1
import Derived.Test.YtmdnnejaipdkhabT18
namespace Go.Proofs.Ytmdnnejaipdkhab
open Go.RowKit
theorem less_any (x y : Int) (w : World) : Calls Try.prog 86 #[.int .i64 x, .int .i64 y] w fun e w' => e = .returned (.bool (decide (x < y))) ∧ w = w' := by
  have hn : ∀ (z : Int) (w : World), Calls Try.prog 72 #[.int .i64 z] w fun e w' => e = .returned (.bool false) ∧ w = w' := fun z w => by
    go_enter Try.func72, Try.ntmps72
    go_wp2
    go_ret
    exact ⟨ret_of (by simp), rfl⟩
  have hnH := hid hn
  clear hn
  go_enter Try.func86, Try.ntmps86
  go_wp2_with (first | (go_at_call 72; refine Calls.mono (hnH.out _ _) ?_; rintro e w' ⟨rfl, rfl⟩))
  all_goals
    go_ret
    exact ⟨rfl, rfl⟩
def Row3 (w : World) (g : Nat) (a b d : Int) : Prop := w.heap[g]? = some (.cells #[.int .i64 a, .int .i64 b, .int .i64 d] 65 (0, 0))
theorem Row3.cells {w : World} {g : Nat} {a b d : Int} (h : Row3 w g a b d) : w.cell? ⟨g, 0, none⟩ = some (.int .i64 a) ∧ w.cell? ⟨g, 1, none⟩ = some (.int .i64 b) ∧ w.cell? ⟨g, 2, none⟩ = some (.int .i64 d) ∧ w.frozen? ⟨g, 0, none⟩ = false ∧ w.frozen? ⟨g, 1, none⟩ = false ∧ w.frozen? ⟨g, 2, none⟩ = false :=
  ⟨cell_of_row w g 0 _ _ (0, 0) h, cell_of_row w g 1 _ _ (0, 0) h, cell_of_row w g 2 _ _ (0, 0) h, frozen_of_row w g 0 _ _ h, frozen_of_row w g 1 _ _ h, frozen_of_row w g 2 _ _ h⟩
theorem Row3.kept {w w' : World} {g : Nat} {a b d : Int} (h : Row3 w g a b d) (hk : Kept w w') : Row3 w' g a b d := (hk.below.block g (Array.getElem?_eq_some_iff.1 h).1).trans h
theorem kept_g3 {w w' : World} {row : Option Nat} (h : Kept w w') : w.grownBy w' row := ⟨h.below.os, h.below.tape, h.below.output, h.below.size, fun k hk _ => h.below.block k hk⟩
theorem row3_swap {w : World} {g : Nat} {a b d : Int} (h : Row3 w g a b d) : Row3 ((w.setCell ⟨g, 2, none⟩ (.int .i64 b)).setCell ⟨g, 1, none⟩ (.int .i64 d)) g a d b := by
  have h1 := heap_setCell_same w g 2 _ _ (.int .i64 b) h
  exact heap_setCell_same _ g 1 _ _ (.int .i64 d) h1
set_option maxHeartbeats 1000000 in
theorem ins3_any (g : Nat) (a b d : Int) (w : World) (hh : Row3 w g a b d) (hab : a < b) (had : a < d) :
    Calls Try.prog 80 #[.slice (some ⟨g, 0, none⟩) 3 3, .int .i64 0, .int .i64 3] w fun e w' => e = .returned (.tuple #[]) ∧ Row3 w' g a (min b d) (max b d) ∧ w.grownBy w' (some g) := by
  obtain ⟨c0, c1, c2, f0, f1, f2⟩ := hh.cells
  have hhH := hid hh
  clear hh
  have hg : g < w.heap.size := (Array.getElem?_eq_some_iff.1 hhH.out).1
  have hba : decide (b < a) = false := decide_eq_false (by omega)
  have hda : decide (d < a) = false := decide_eq_false (by omega)
  by_cases hdb0 : d < b
  · have hdb : decide (d < b) = true := decide_eq_true hdb0
    have e1 := hid (show min b d = d by omega)
    have e2 := hid (show max b d = b by omega)
    clear hab had hdb0
    go_enter Try.func80, Try.ntmps80
    go_wp2
    refine wp_loop_rounds 3 ?_
    rw [rounds_succ]
    go_wp2
    refine wp_loop_rounds 1 ?_
    rw [rounds_succ]
    go_wp2_with (first | (refine wp_region_ext (by kernel_rfl) (by kernel_rfl) ?_; (repeat (go_big_quiet_step (((first | (go_at_call 86; first | exact ext_call_same (less_any _ _ _) | exact ext_call_same2 (less_any _ _ _))))))); refine wpQuiet_end fun z => ?_))
    rw [rounds_succ]
    go_wp2
    refine wp_loop_rounds 2 ?_
    rw [rounds_succ]
    go_wp2_with (first | (refine wp_region_ext (by kernel_rfl) (by kernel_rfl) ?_; (repeat (go_big_quiet_step (((first | (go_at_call 86; first | exact ext_call_same (less_any _ _ _) | exact ext_call_same2 (less_any _ _ _))))))); refine wpQuiet_end fun z => ?_) | go_region)
    all_goals
      rw [rounds_succ]
      go_wp2_with (first | (refine wp_region_ext (by kernel_rfl) (by kernel_rfl) ?_; (repeat (go_big_quiet_step (((first | (go_at_call 86; first | exact ext_call_same (less_any _ _ _) | exact ext_call_same2 (less_any _ _ _))))))); refine wpQuiet_end fun z => ?_) | go_region)
      rw [rounds_succ]
      go_wp2
      go_end0
    all_goals exact ⟨rfl, by rw [e1.out, e2.out]; exact (row3_swap hhH.out).kept (by (try simp only [ext_ext]); repeat (first | exact Kept.refl _ | apply Kept.alloc | apply Kept.drew | apply kept_add | apply Kept.ext)), (grown_setCell (grown_setCell (grown_refl w (some g)) (p := ⟨g, 2, none⟩) rfl _) (p := ⟨g, 1, none⟩) rfl _).trans (kept_g3 (by (try simp only [ext_ext]); repeat (first | exact Kept.refl _ | apply Kept.alloc | apply Kept.drew | apply kept_add | apply Kept.ext)))⟩
  · have hdb : decide (d < b) = false := decide_eq_false hdb0
    have e1 := hid (show min b d = b by omega)
    have e2 := hid (show max b d = d by omega)
    clear hab had hdb0
    go_enter Try.func80, Try.ntmps80
    go_wp2
    refine wp_loop_rounds 3 ?_
    rw [rounds_succ]
    go_wp2
    refine wp_loop_rounds 1 ?_
    rw [rounds_succ]
    go_wp2_with (first | (refine wp_region_ext (by kernel_rfl) (by kernel_rfl) ?_; (repeat (go_big_quiet_step (((first | (go_at_call 86; first | exact ext_call_same (less_any _ _ _) | exact ext_call_same2 (less_any _ _ _))))))); refine wpQuiet_end fun z => ?_))
    rw [rounds_succ]
    go_wp2
    refine wp_loop_rounds 1 ?_
    rw [rounds_succ]
    go_wp2_with (first | (refine wp_region_ext (by kernel_rfl) (by kernel_rfl) ?_; (repeat (go_big_quiet_step (((first | (go_at_call 86; first | exact ext_call_same (less_any _ _ _) | exact ext_call_same2 (less_any _ _ _))))))); refine wpQuiet_end fun z => ?_))
    rw [rounds_succ]
    go_wp2
    go_end0
    exact ⟨rfl, by rw [e1.out, e2.out]; exact hhH.out.kept (by (try simp only [ext_ext]); repeat (first | exact Kept.refl _ | apply Kept.alloc | apply Kept.drew | apply kept_add | apply Kept.ext)), kept_g3 (by (try simp only [ext_ext]); repeat (first | exact Kept.refl _ | apply Kept.alloc | apply Kept.drew | apply kept_add | apply Kept.ext))⟩
set_option maxRecDepth 100000 in
theorem bitsLen3_any (w : World) : Calls Try.prog 67 #[.int .u64 3] w fun e w' => e = .returned (.int .i64 2) ∧ w = w' := by
  have h64 : ∀ w : World, Calls Try.prog 90 #[.int .u64 3] w fun e w' => e = .returned (.int .i64 2) ∧ w = w' := fun w => by
    go_enter Try.func90, Try.ntmps90
    go_wp2
    go_ret
    refine ⟨ret_of ?_, rfl⟩
    first | kernel_rfl | decide
  have h64H := hid h64
  clear h64
  go_enter Try.func67, Try.ntmps67
  go_wp2_with (first | (go_at_call 90; refine Calls.mono (h64H.out _) ?_; rintro e w' ⟨rfl, rfl⟩))
  go_ret
  exact ⟨rfl, rfl⟩
theorem pdq3_any (g : Nat) (a b d : Int) (w : World) (hh : Row3 w g a b d) (hab : a < b) (had : a < d) :
    Calls Try.prog 66 #[.slice (some ⟨g, 0, none⟩) 3 3, .int .i64 0, .int .i64 3, .int .i64 2] w fun e w' => e = .returned (.tuple #[]) ∧ Row3 w' g a (min b d) (max b d) ∧ w.grownBy w' (some g) := by
  have hI := hid (ins3_any g a b d w hh hab had)
  clear hh
  go_enter Try.func66, Try.ntmps66
  go_wp2
  refine wp_loop_rounds 1 ?_
  rw [rounds_succ]
  go_wp2_with (fail)
  (go_at_call 80; refine Calls.mono (hI.out) ?_; rintro e w1 ⟨rfl, h1, g1⟩)
  go_wp2_with (fail)
  first
    | go_end0
    | refine bodyPost_ret (results_none rfl _ _ _) rfl ?_
  exact ⟨rfl, h1, g1⟩
theorem sort3_any (g : Nat) (a b d : Int) (w : World) (hh : Row3 w g a b d) (hab : a < b) (had : a < d) :
    Calls Try.prog 43 #[.slice (some ⟨g, 0, none⟩) 3 3] w fun e w' => e = .returned (.tuple #[]) ∧ Row3 w' g a (min b d) (max b d) ∧ w.grownBy w' (some g) := by
  have hI := hid (pdq3_any g a b d w hh hab had)
  clear hh
  go_enter Try.func43, Try.ntmps43
  go_wp2_with (first | (go_at_call 67; refine Calls.mono (bitsLen3_any _) ?_; rintro e w' ⟨rfl, rfl⟩))
  (go_at_call 66; refine Calls.mono (hI.out) ?_; rintro e w1 ⟨rfl, h1, g1⟩)
  go_wp2_with (fail)
  go_end0
  exact ⟨rfl, h1, g1⟩
end Go.Proofs.Ytmdnnejaipdkhab
