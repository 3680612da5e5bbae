/- Walk: NewGame's reference. -/
import Derived.Test.YtopfdfdgfhnbeaaL26
namespace Go.Proofs.Ytopfdfdgfhnbeaa
open Go.RowKit
--%
def RetDT (W : World) (s n : Int) (laid : List Card) (e : Ending) (w' : World) : Prop := ∃ lo lc, e = .returned (.tuple #[dv s n (.slice lo laid.length lc), .bool true]) ∧ OwnC W.heap.size w' (.slice lo laid.length lc) laid ∧ Kept W w'
theorem grown_drew {w w' : World} {r : Option Nat} (h : w.grownBy w' r) : w.grownBy w'.drew r := ⟨h.os, h.tape, h.output, h.size, h.block⟩
theorem heap_drew {w : World} {b : Nat} {o : Option Obj} (h : w.heap[b]? = o) : w.drew.heap[b]? = o := h
theorem sNewDeal_no (s : Int) (w : World) (h : inB s 0 65535 = false) : Calls Try.prog 44 #[.int .i64 s] w fun e w' => e = .returned (.tuple #[dv 0 0 (.slice none 0 0), .bool false]) ∧ Kept w w' := by
  go_enter Try.func44, Try.ntmps44
  go_wp2_with (first | (go_at_call 82; refine Calls.mono (l4Seed_any _ _) ?_; rintro e w' ⟨rfl, rfl⟩))
  refine bodyPost_ret (v := .tuple #[dv 0 0 (.slice none 0 0), .bool false]) (by simp [results, Try.results44, go_sem]) rfl ?_
  exact ⟨rfl, (by (try simp only [ext_ext]); repeat (first | exact Kept.refl _ | apply Kept.alloc | apply Kept.drew | apply kept_add | apply Kept.ext))⟩
--%
theorem sNewDeal_yes (s : Int) (h0 : 0 ≤ s) (h1 : s ≤ 65535) (w : World) : Calls Try.prog 44 #[.int .i64 s] w (RetDT w s 12 (firstC s)) := by
  have hP := hid (fun w' => l4Pile_any s h0 h1 w')
  have hlen := hid (firstC_len s)
  have hin : inB s 0 65535 = true := by simp [inB]; omega
  have bxR := hid (fun w' (hk : Kept (w.alloc (.cells #[.int .i64 0, .int .i64 0, .slice none 0 0] 37)) w') => (hk.below.block w.heap.size (by simp)).trans (heap_at rfl))
  go_enter Try.func44, Try.ntmps44
  go_wp2_with (first | (go_at_call 82; refine Calls.mono (l4Seed_any _ _) ?_; rintro e w' ⟨rfl, rfl⟩))
  (go_at_call 83; refine Calls.mono (hP.out _) ?_; rintro e w' ⟨v, rfl, ho, z, rfl⟩)
  obtain ⟨g, cap, hv⟩ : ∃ g cap, v = .slice (some ⟨g, 0, none⟩) 81 cap := by
    rcases ho.2 with ⟨_, e⟩ | ⟨g, cap, cur, e, _⟩
    · rw [pileC_len] at e; cases e
    · exact ⟨g, cap, by rw [e, pileC_len]⟩
  subst hv
  obtain ⟨_, _, hv, hx, hcap⟩ := ho.reads
  rw [pileC_len] at hv hcap
  cases hv
  have hx12 := hx.take (i := 12) (by rw [pileC_len]; omega)
  have hci : (12 : Int) ≤ (cap : Int) := by omega
  have hci2 : (0 : Int) ≤ 12 := by omega
  have hc12 : 12 ≤ cap := by omega
  clear ho hx
  go_wp2_with (fail)
  try simp only [ext_ext] at hx12
  (go_at_call 79; refine Calls.mono (l2Own_any g 0 cap 12 (firstC s) _ (hx12.kept (by (try simp only [ext_ext]); repeat (first | exact Kept.refl _ | apply Kept.alloc | apply Kept.drew | apply kept_add | apply Kept.ext))) hlen.out (by omega) (by omega) hc12) ?_; rintro e w1 ⟨v2, rfl, ho2, z2, hz2⟩)
  have kk : Kept (w.alloc (.cells #[.int .i64 0, .int .i64 0, .slice none 0 0] 37)) w1 := by rw [hz2]; exact (by (try simp only [ext_ext]); repeat (first | exact Kept.refl _ | apply Kept.alloc | apply Kept.drew | apply kept_add | apply Kept.ext))
  have kw : Kept w w1 := Kept.trans (show Kept w _ from (by (try simp only [ext_ext]); repeat (first | exact Kept.refl _ | apply Kept.alloc | apply Kept.drew | apply kept_add | apply Kept.ext))) kk
  clear hz2
  have hb1 := bxR.out w1 kk
  have hlt1 := (Array.getElem?_eq_some_iff.1 hb1).1
  have d0 := cell_of_row w1 w.heap.size 0 _ _ (0, 0) hb1; have d1 := cell_of_row w1 w.heap.size 1 _ _ (0, 0) hb1; have d2 := cell_of_row w1 w.heap.size 2 _ _ (0, 0) hb1; have f0 := frozen_of_row w1 w.heap.size 0 _ _ hb1; have f1 := frozen_of_row w1 w.heap.size 1 _ _ hb1; have f2 := frozen_of_row w1 w.heap.size 2 _ _ hb1
  clear hb1
  simp at d0 d1 d2
  obtain ⟨a2, c2, hv2, _, _⟩ := ho2.reads
  rw [hlen.out] at hv2
  subst hv2
  go_wp2_with (fail)
  refine bodyPost_ret (v := .tuple #[dv s 12 (.slice a2 12 c2), .bool true]) (by simp [results, Try.results44, go_sem, hlt1, d0, d1, d2]) rfl ?_
  refine newFinH (r := some w.heap.size) (grown_setCell (grown_setCell (grown_setCell (grown_refl _ _) (p := ⟨w.heap.size, 0, none⟩) rfl _) (p := ⟨w.heap.size, 1, none⟩) rfl _) (p := ⟨w.heap.size, 2, none⟩) rfl _) (fun hg => ⟨a2, c2, by rw [hlen.out], ?_, kw.grown hg (fun k hk => by cases hk; exact Nat.le_refl _)⟩)
  rw [hlen.out]
  refine OwnC.mono (OwnC.grown ho2 hg (fun g h e => ?_)) (by simp <;> omega)
  rcases ho2.2 with ⟨e', _⟩ | ⟨g', cap', cur, e', hb, hg', _⟩
  · rw [e'] at h; cases h
  · rw [e'] at h
    have h' : g' = g := Option.some.inj h
    have h2 : w.heap.size = g := Option.some.inj e
    simp at hb
    omega
--%
theorem sNewGame_no (s p : Int) (w : World) (h : newOk s p = false) : Calls Try.prog 18 #[.int .i64 s, .int .i64 p] w (RetGT w false 0 0 [] [] []) := by
  have bxR := hid (fun w' (hk : Kept (w.alloc (.cells #[.int .i64 0, .int .i64 0, .slice none 0 0, .slice none 0 0, .slice none 0 0] 40)) w') => (hk.below.block w.heap.size (by simp)).trans (heap_at rfl))
  cases h1 : inB s 0 65535
  · go_enter Try.func18, Try.ntmps18
    go_wp2_with (fail)
    (go_at_call 44; refine Calls.mono (sNewDeal_no _ _ h1) ?_; rintro e w1 ⟨rfl, k1⟩)
    have kw := Kept.trans (show Kept w _ from (by (try simp only [ext_ext]); repeat (first | exact Kept.refl _ | apply Kept.alloc | apply Kept.drew | apply kept_add | apply Kept.ext))) k1
    have hb1 := bxR.out w1 k1
    have hlt1 := (Array.getElem?_eq_some_iff.1 hb1).1
    have d0 := cell_of_row w1 w.heap.size 0 _ _ (0, 0) hb1; have d1 := cell_of_row w1 w.heap.size 1 _ _ (0, 0) hb1; have d2 := cell_of_row w1 w.heap.size 2 _ _ (0, 0) hb1; have d3 := cell_of_row w1 w.heap.size 3 _ _ (0, 0) hb1; have d4 := cell_of_row w1 w.heap.size 4 _ _ (0, 0) hb1; have f0 := frozen_of_row w1 w.heap.size 0 _ _ hb1; have f1 := frozen_of_row w1 w.heap.size 1 _ _ hb1; have f2 := frozen_of_row w1 w.heap.size 2 _ _ hb1; have f3 := frozen_of_row w1 w.heap.size 3 _ _ hb1; have f4 := frozen_of_row w1 w.heap.size 4 _ _ hb1
    clear hb1
    simp at d0 d1 d2 d3 d4
    go_wp2_with (fail)
    refine bodyPost_ret (v := .tuple #[gv 0 0 (.slice none 0 0) (.slice none 0 0) (.slice none 0 0), .bool false]) (by simp [results, Try.results18, go_sem, hlt1, d0, d1, d2, d3, d4]) rfl ?_
    refine newFinH (r := some w.heap.size) ?_ (fun hg => retGT_no _ _ (kw.grown hg (fun k hk => by cases hk; exact Nat.le_refl _)))
    exact (World.grownBy.trans (grown_setCell (grown_setCell (grown_setCell (grown_setCell (grown_setCell (grown_refl _ _) (p := ⟨w.heap.size, 0, none⟩) rfl _) (p := ⟨w.heap.size, 1, none⟩) rfl _) (p := ⟨w.heap.size, 2, none⟩) rfl _) (p := ⟨w.heap.size, 3, none⟩) rfl _) (p := ⟨w.heap.size, 4, none⟩) rfl _) (World.grownBy_alloc _ _ _))
  cases h2 : inB p 1 4
  · have hs := inB_of h1
    go_enter Try.func18, Try.ntmps18
    go_wp2_with (fail)
    (go_at_call 44; refine Calls.mono (sNewDeal_yes _ hs.1 hs.2 _) ?_; rintro e w1 ⟨lo, lc, rfl, ho, k1⟩)
    have kw := Kept.trans (show Kept w _ from (by (try simp only [ext_ext]); repeat (first | exact Kept.refl _ | apply Kept.alloc | apply Kept.drew | apply kept_add | apply Kept.ext))) k1
    have hb1 := bxR.out w1 k1
    have hlt1 := (Array.getElem?_eq_some_iff.1 hb1).1
    have d0 := cell_of_row w1 w.heap.size 0 _ _ (0, 0) hb1; have d1 := cell_of_row w1 w.heap.size 1 _ _ (0, 0) hb1; have d2 := cell_of_row w1 w.heap.size 2 _ _ (0, 0) hb1; have d3 := cell_of_row w1 w.heap.size 3 _ _ (0, 0) hb1; have d4 := cell_of_row w1 w.heap.size 4 _ _ (0, 0) hb1; have f0 := frozen_of_row w1 w.heap.size 0 _ _ hb1; have f1 := frozen_of_row w1 w.heap.size 1 _ _ hb1; have f2 := frozen_of_row w1 w.heap.size 2 _ _ hb1; have f3 := frozen_of_row w1 w.heap.size 3 _ _ hb1; have f4 := frozen_of_row w1 w.heap.size 4 _ _ hb1
    clear hb1
    simp at d0 d1 d2 d3 d4
    go_wp2_with (first | (go_at_call 45; refine Calls.mono (l1In_any _ _ _ _) ?_; rintro e w' ⟨rfl, rfl⟩))
    refine bodyPost_ret (v := .tuple #[gv 0 0 (.slice none 0 0) (.slice none 0 0) (.slice none 0 0), .bool false]) (by simp [results, Try.results18, go_sem, hlt1, d0, d1, d2, d3, d4]) rfl ?_
    refine newFinH (r := some w.heap.size) ?_ (fun hg => retGT_no _ _ (kw.grown hg (fun k hk => by cases hk; exact Nat.le_refl _)))
    exact (World.grownBy.trans (grown_setCell (grown_setCell (grown_setCell (grown_setCell (grown_setCell (grown_refl _ _) (p := ⟨w.heap.size, 0, none⟩) rfl _) (p := ⟨w.heap.size, 1, none⟩) rfl _) (p := ⟨w.heap.size, 2, none⟩) rfl _) (p := ⟨w.heap.size, 3, none⟩) rfl _) (p := ⟨w.heap.size, 4, none⟩) rfl _) (World.grownBy_alloc _ _ _))
  · simp [newOk, h1, h2] at h
--%
set_option maxHeartbeats 4000000 in
theorem sNewGame_yes (s p : Int) (w : World) (h : newOk s p = true) (m : Nat) (hm : p = m) : Calls Try.prog 18 #[.int .i64 s, .int .i64 p] w (RetGT w true s 12 (firstC s) (tl m fun _ => 0) (tl m fun _ => 0)) := by
  obtain ⟨h1, h2⟩ : inB s 0 65535 = true ∧ inB p 1 4 = true := by simpa [newOk] using h
  have hs := inB_of h1
  have hp := inB_of h2
  subst hm
  have hmk : ∀ w : World, (Instr.makeSlice 38 (.int .i64 (m : Int)) (.int .i64 (m : Int))).run Try.prog w = .ok (.slice (some ⟨w.heap.size, 0, none⟩) m m) (w.alloc (.cells (tab m fun _ => 0) 3)) := fun w => by
    obtain ⟨i, hi, hz, hs, hb⟩ := info_parts info_i64
    have := run_make (P := Try.prog) w 38 3 i _ Try.underlying38 hi hz .i64 .i64 (m : Int) (m : Int) (by omega) (Int.le_refl _) (by rw [hb]; omega) (by omega)
    rw [hs] at this
    have e : madeCells #[.int .i64 0] m = tab m fun _ => 0 := by
      apply Array.ext_getElem?
      intro j
      by_cases hj : j < m
      · rw [tab_get _ hj]
        simp [madeCells, hj, Nat.mod_one]
      · rw [Array.getElem?_eq_none (by rw [size_madeCells]; omega), Array.getElem?_eq_none (by rw [tab_size]; omega)]
    simpa [Value.cells, e] using this
  have hm1 : m ≤ 4 := by omega
  clear h
  have bxR := hid (fun w' (hk : Kept (w.alloc (.cells #[.int .i64 0, .int .i64 0, .slice none 0 0, .slice none 0 0, .slice none 0 0] 40)) w') => (hk.below.block w.heap.size (by simp)).trans (heap_at rfl))
  go_enter Try.func18, Try.ntmps18
  go_wp2_with (fail)
  (go_at_call 44; refine Calls.mono (sNewDeal_yes _ hs.1 hs.2 _) ?_; rintro e w1 ⟨lo, lc, rfl, ho, k1⟩)
  have kw := Kept.trans (show Kept w _ from (by (try simp only [ext_ext]); repeat (first | exact Kept.refl _ | apply Kept.alloc | apply Kept.drew | apply kept_add | apply Kept.ext))) k1
  have hb1 := bxR.out w1 k1
  have hlt1 := (Array.getElem?_eq_some_iff.1 hb1).1
  have hls := k1.below.size
  simp at hls
  have d0 := cell_of_row w1 w.heap.size 0 _ _ (0, 0) hb1; have d1 := cell_of_row w1 w.heap.size 1 _ _ (0, 0) hb1; have d2 := cell_of_row w1 w.heap.size 2 _ _ (0, 0) hb1; have d3 := cell_of_row w1 w.heap.size 3 _ _ (0, 0) hb1; have d4 := cell_of_row w1 w.heap.size 4 _ _ (0, 0) hb1; have f0 := frozen_of_row w1 w.heap.size 0 _ _ hb1; have f1 := frozen_of_row w1 w.heap.size 1 _ _ hb1; have f2 := frozen_of_row w1 w.heap.size 2 _ _ hb1; have f3 := frozen_of_row w1 w.heap.size 3 _ _ hb1; have f4 := frozen_of_row w1 w.heap.size 4 _ _ hb1
  clear hb1
  simp at d0 d1 d2 d3 d4
  go_wp2_with (first | (go_at_call 45; refine Calls.mono (l1In_any _ _ _ _) ?_; rintro e w' ⟨rfl, rfl⟩))
  go_region_with (fail)
  all_goals go_wp2_with (fail)
  · refine bodyPost_ret (v := .tuple #[gv s 12 (.slice lo (firstC s).length lc) (.slice (some ⟨w1.heap.size + 1, 0, none⟩) m m) (.slice (some ⟨w1.heap.size + 1 + 1, 0, none⟩) m m), .bool true]) (by simp [results, Try.results18, go_sem, hlt1, d0, d1, d2, d3, d4]) rfl ?_
    refine newFinH (grown_drew (World.grownBy.trans (World.grownBy.trans (World.grownBy.trans (grown_setCell (grown_setCell (grown_setCell (grown_setCell (grown_setCell (grown_refl _ _) (p := ⟨w.heap.size, 0, none⟩) rfl _) (p := ⟨w.heap.size, 1, none⟩) rfl _) (p := ⟨w.heap.size, 2, none⟩) rfl _) (p := ⟨w.heap.size, 3, none⟩) rfl _) (p := ⟨w.heap.size, 4, none⟩) rfl _) (World.grownBy_alloc _ _ _)) (World.grownBy_alloc _ _ _)) (World.grownBy_alloc _ _ _))) (fun hg => newFin ho k1 kw ?_ hg hm1 ?_ ?_ (by omega) (by omega) (by omega) (heap_drew (heap_past (by simp) (heap_at (by simp)))) (heap_drew (heap_at (by simp))))
    · simp <;> omega
    · simp <;> omega
    · simp <;> omega
  · refine bodyPost_ret (v := .tuple #[gv s 12 (.slice lo (firstC s).length lc) (.slice (some ⟨w1.heap.size + 1 + 1, 0, none⟩) m m) (.slice (some ⟨w1.heap.size + 1, 0, none⟩) m m), .bool true]) (by simp [results, Try.results18, go_sem, hlt1, d0, d1, d2, d3, d4]) rfl ?_
    refine newFinH (grown_drew (World.grownBy.trans (World.grownBy.trans (World.grownBy.trans (grown_setCell (grown_setCell (grown_setCell (grown_setCell (grown_setCell (grown_refl _ _) (p := ⟨w.heap.size, 0, none⟩) rfl _) (p := ⟨w.heap.size, 1, none⟩) rfl _) (p := ⟨w.heap.size, 2, none⟩) rfl _) (p := ⟨w.heap.size, 3, none⟩) rfl _) (p := ⟨w.heap.size, 4, none⟩) rfl _) (World.grownBy_alloc _ _ _)) (World.grownBy_alloc _ _ _)) (World.grownBy_alloc _ _ _))) (fun hg => newFin ho k1 kw ?_ hg hm1 ?_ ?_ (by omega) (by omega) (by omega) (heap_drew (heap_at (by simp))) (heap_drew (heap_past (by simp) (heap_at (by simp)))))
    · simp <;> omega
    · simp <;> omega
    · simp <;> omega
  · refine bodyPost_ret (v := .tuple #[gv s 12 (.slice lo (firstC s).length lc) (.slice (some ⟨w1.heap.size + 1, 0, none⟩) m m) (.slice (some ⟨w1.heap.size + 1 + 1, 0, none⟩) m m), .bool true]) (by simp [results, Try.results18, go_sem, hlt1, d0, d1, d2, d3, d4]) rfl ?_
    refine newFinH (grown_drew (World.grownBy.trans (World.grownBy.trans (World.grownBy.trans (grown_setCell (grown_setCell (grown_setCell (grown_setCell (grown_setCell (grown_refl _ _) (p := ⟨w.heap.size, 0, none⟩) rfl _) (p := ⟨w.heap.size, 1, none⟩) rfl _) (p := ⟨w.heap.size, 2, none⟩) rfl _) (p := ⟨w.heap.size, 3, none⟩) rfl _) (p := ⟨w.heap.size, 4, none⟩) rfl _) (World.grownBy_alloc _ _ _)) (World.grownBy_alloc _ _ _)) (World.grownBy_alloc _ _ _))) (fun hg => newFin ho k1 kw ?_ hg hm1 ?_ ?_ (by omega) (by omega) (by omega) (heap_drew (heap_past (by simp) (heap_at (by simp)))) (heap_drew (heap_at (by simp))))
    · simp <;> omega
    · simp <;> omega
    · simp <;> omega
  · refine bodyPost_ret (v := .tuple #[gv s 12 (.slice lo (firstC s).length lc) (.slice (some ⟨w1.heap.size + 1, 0, none⟩) m m) (.slice (some ⟨w1.heap.size + 1 + 1, 0, none⟩) m m), .bool true]) (by simp [results, Try.results18, go_sem, hlt1, d0, d1, d2, d3, d4]) rfl ?_
    refine newFinH (grown_drew (World.grownBy.trans (World.grownBy.trans (World.grownBy.trans (grown_setCell (grown_setCell (grown_setCell (grown_setCell (grown_setCell (grown_refl _ _) (p := ⟨w.heap.size, 0, none⟩) rfl _) (p := ⟨w.heap.size, 1, none⟩) rfl _) (p := ⟨w.heap.size, 2, none⟩) rfl _) (p := ⟨w.heap.size, 3, none⟩) rfl _) (p := ⟨w.heap.size, 4, none⟩) rfl _) (World.grownBy_alloc _ _ _)) (World.grownBy_alloc _ _ _)) (World.grownBy_alloc _ _ _))) (fun hg => newFin ho k1 kw ?_ hg hm1 ?_ ?_ (by omega) (by omega) (by omega) (heap_drew (heap_past (by simp) (heap_at (by simp)))) (heap_drew (heap_at (by simp))))
    · simp <;> omega
    · simp <;> omega
    · simp <;> omega
  · refine bodyPost_ret (v := .tuple #[gv s 12 (.slice lo (firstC s).length lc) (.slice (some ⟨w1.heap.size + 1 + 1, 0, none⟩) m m) (.slice (some ⟨w1.heap.size + 1, 0, none⟩) m m), .bool true]) (by simp [results, Try.results18, go_sem, hlt1, d0, d1, d2, d3, d4]) rfl ?_
    refine newFinH (grown_drew (World.grownBy.trans (World.grownBy.trans (World.grownBy.trans (grown_setCell (grown_setCell (grown_setCell (grown_setCell (grown_setCell (grown_refl _ _) (p := ⟨w.heap.size, 0, none⟩) rfl _) (p := ⟨w.heap.size, 1, none⟩) rfl _) (p := ⟨w.heap.size, 2, none⟩) rfl _) (p := ⟨w.heap.size, 3, none⟩) rfl _) (p := ⟨w.heap.size, 4, none⟩) rfl _) (World.grownBy_alloc _ _ _)) (World.grownBy_alloc _ _ _)) (World.grownBy_alloc _ _ _))) (fun hg => newFin ho k1 kw ?_ hg hm1 ?_ ?_ (by omega) (by omega) (by omega) (heap_drew (heap_at (by simp))) (heap_drew (heap_past (by simp) (heap_at (by simp)))))
    · simp <;> omega
    · simp <;> omega
    · simp <;> omega
  · refine bodyPost_ret (v := .tuple #[gv s 12 (.slice lo (firstC s).length lc) (.slice (some ⟨w1.heap.size + 1 + 1, 0, none⟩) m m) (.slice (some ⟨w1.heap.size + 1, 0, none⟩) m m), .bool true]) (by simp [results, Try.results18, go_sem, hlt1, d0, d1, d2, d3, d4]) rfl ?_
    refine newFinH (grown_drew (World.grownBy.trans (World.grownBy.trans (World.grownBy.trans (grown_setCell (grown_setCell (grown_setCell (grown_setCell (grown_setCell (grown_refl _ _) (p := ⟨w.heap.size, 0, none⟩) rfl _) (p := ⟨w.heap.size, 1, none⟩) rfl _) (p := ⟨w.heap.size, 2, none⟩) rfl _) (p := ⟨w.heap.size, 3, none⟩) rfl _) (p := ⟨w.heap.size, 4, none⟩) rfl _) (World.grownBy_alloc _ _ _)) (World.grownBy_alloc _ _ _)) (World.grownBy_alloc _ _ _))) (fun hg => newFin ho k1 kw ?_ hg hm1 ?_ ?_ (by omega) (by omega) (by omega) (heap_drew (heap_at (by simp))) (heap_drew (heap_past (by simp) (heap_at (by simp)))))
    · simp <;> omega
    · simp <;> omega
    · simp <;> omega
end Go.Proofs.Ytopfdfdgfhnbeaa
