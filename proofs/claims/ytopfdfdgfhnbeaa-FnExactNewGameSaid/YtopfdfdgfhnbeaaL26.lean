/- Walk: the law of NewGame. -/
import Derived.Test.YtopfdfdgfhnbeaaT51
import Derived.Deep.RegionLaw
namespace Go.Proofs.Ytopfdfdgfhnbeaa
open Go.RowKit
def RetGT (W : World) (ok : Bool) (s n : Int) (laid : List Card) (scores wrong : List Int) (e : Ending) (w' : World) : Prop :=
  ∃ lo lc so sc wo wc, e = .returned (.tuple #[gv s n (.slice lo laid.length lc) (.slice so scores.length sc) (.slice wo wrong.length wc), .bool ok]) ∧
    OwnC W.heap.size w' (.slice lo laid.length lc) laid ∧ OwnI W.heap.size w' (.slice so scores.length sc) scores ∧ OwnI W.heap.size w' (.slice wo wrong.length wc) wrong ∧
    (∀ g, (Value.slice lo laid.length lc).ownBlock = some g → (Value.slice so scores.length sc).ownBlock ≠ some g) ∧ (∀ g, (Value.slice lo laid.length lc).ownBlock = some g → (Value.slice wo wrong.length wc).ownBlock ≠ some g) ∧
    (∀ g, (Value.slice so scores.length sc).ownBlock = some g → (Value.slice wo wrong.length wc).ownBlock ≠ some g) ∧ Kept W w'
def newOk (s p : Int) : Bool := inB s 0 65535 && inB p 1 4
theorem retGT_no (W w' : World) (hk : Kept W w') : RetGT W false 0 0 [] [] [] (.returned (.tuple #[gv 0 0 (.slice none 0 0) (.slice none 0 0) (.slice none 0 0), .bool false])) w' :=
  ⟨none, 0, none, 0, none, 0, rfl, ownC_none _ _, ownI_none _ _, ownI_none _ _, fun g h => by simp [Value.ownBlock] at h, fun g h => by simp [Value.ownBlock] at h, fun g h => by simp [Value.ownBlock] at h, hk⟩
theorem newFin {w wB w1 wF : World} {s : Int} {m lc b1 b2 : Nat} {lo : Option Addr} {laid : List Card} (ho : OwnC wB.heap.size w1 (.slice lo laid.length lc) laid) (k1 : Kept wB w1) (hk : Kept w w1) (hB : w.heap.size + 1 ≤ wB.heap.size)
    (hg : w1.grownBy wF (some w.heap.size)) (hm : m ≤ 4) (c1 : b1 < wB.heap.size ∨ w1.heap.size ≤ b1) (c2 : b2 < wB.heap.size ∨ w1.heap.size ≤ b2) (h1 : w.heap.size + 1 ≤ b1) (h2 : w.heap.size + 1 ≤ b2) (hne : b1 ≠ b2)
    (e1 : wF.heap[b1]? = some (.cells (tab m fun _ => 0) 3)) (e2 : wF.heap[b2]? = some (.cells (tab m fun _ => 0) 3)) :
    RetGT w true s 12 laid (tl m fun _ => 0) (tl m fun _ => 0) (.returned (.tuple #[gv s 12 (.slice lo laid.length lc) (.slice (some ⟨b1, 0, none⟩) m m) (.slice (some ⟨b2, 0, none⟩) m m), .bool true])) wF := by
  have hl : (tl m fun _ => (0 : Int)).length = m := by simp [tl]
  have hlg : ∀ g, (Value.slice lo laid.length lc).ownBlock = some g → wB.heap.size ≤ g ∧ g < w1.heap.size := by
    intro g hg
    rcases ho.2 with ⟨e, _⟩ | ⟨g', cap', cur, e, hb, hg', _⟩
    · rw [e] at hg; cases hg
    · rw [e] at hg
      cases hg
      exact ⟨hb, (Array.getElem?_eq_some_iff.1 hg').1⟩
  have o := OwnC.grown ho hg (fun g h e => by cases e; have := hlg _ h; omega)
  have o1 := own_tab2 (B := w.heap.size) (n := m) (f := fun _ => 0) (by omega) (by unfold maxLen; omega) e1
  have o2 := own_tab2 (B := w.heap.size) (n := m) (f := fun _ => 0) (by omega) (by unfold maxLen; omega) e2
  refine ⟨lo, lc, some ⟨b1, 0, none⟩, m, some ⟨b2, 0, none⟩, m, by rw [hl], o.mono (by omega), ?_, ?_, ?_, ?_, ?_, hk.grown hg (fun k hk => by cases hk; exact Nat.le_refl _)⟩
  · unfold OwnI at o1 ⊢; simpa only [hl] using o1
  · unfold OwnI at o2 ⊢; simpa only [hl] using o2
  · intro g h e
    have := hlg g h
    have e' : b1 = g := Option.some.inj e
    omega
  · intro g h e
    have := hlg g h
    have e' : b2 = g := Option.some.inj e
    omega
  · intro g h e
    cases h
    cases e
    exact hne rfl
theorem newFinH {w1 wF : World} {r : Option Nat} {X : Ending → World → Prop} {e : Ending} (hg : w1.grownBy wF r) (h : w1.grownBy wF r → X e wF) : X e wF := h hg
theorem iNewGame_no (s p : Int) (w : World) (h : newOk s p = false) : Calls Try.prog 19 #[.int .i64 s, .int .i64 p] w (RetGT w false 0 0 [] [] []) := by
  cases h1 : inB s 0 65535
  · go_enter Try.func19, Try.ntmps19
    go_wp2_with (first | (go_at_call 46; refine Calls.mono (isSeed_any _ _) ?_; rintro e w' ⟨rfl, rfl⟩))
    refine bodyPost_ret (v := .tuple #[gv 0 0 (.slice none 0 0) (.slice none 0 0) (.slice none 0 0), .bool false]) (by simp [results, Try.results19, go_sem]) rfl ?_
    exact retGT_no _ _ (by (try simp only [ext_ext]); repeat (first | exact Kept.refl _ | apply Kept.alloc | apply Kept.drew | apply kept_add | apply Kept.ext))
  cases h2 : inB p 1 4
  · go_enter Try.func19, Try.ntmps19
    go_wp2_with (first | (go_at_call 46; refine Calls.mono (isSeed_any _ _) ?_; rintro e w' ⟨rfl, rfl⟩) | (go_at_call 47; refine Calls.mono (within_any _ _ _ _) ?_; rintro e w' ⟨rfl, rfl⟩))
    refine bodyPost_ret (v := .tuple #[gv 0 0 (.slice none 0 0) (.slice none 0 0) (.slice none 0 0), .bool false]) (by simp [results, Try.results19, go_sem]) rfl ?_
    exact retGT_no _ _ (by (try simp only [ext_ext]); repeat (first | exact Kept.refl _ | apply Kept.alloc | apply Kept.drew | apply kept_add | apply Kept.ext))
  · simp [newOk, h1, h2] at h
set_option maxHeartbeats 4000000 in
theorem iNewGame_yes (s p : Int) (w : World) (h : newOk s p = true) (m : Nat) (hm : p = m) : Calls Try.prog 19 #[.int .i64 s, .int .i64 p] w (RetGT w true s 12 (firstC s) (tl m fun _ => 0) (tl m fun _ => 0)) := by
  obtain ⟨h1, h2⟩ : inB s 0 65535 = true ∧ inB p 1 4 = true := by simpa [newOk] using h
  have hs := inB_of h1
  have hp := inB_of h2
  subst hm
  have hD := hid (fun w' => newDeal_any s hs.1 hs.2 w')
  have hmk : ∀ w : World, (Instr.makeSlice 38 (.int .i64 (m : Int)) (.int .i64 (m : Int))).run Try.prog w = .ok (.slice (some ⟨w.heap.size, 0, none⟩) m m) (w.alloc (.cells (tab m fun _ => 0) 3)) := fun w => by
    obtain ⟨i, hi, hz, hs, hb⟩ := info_parts info_i64
    have := run_make (P := Try.prog) w 38 3 i _ Try.underlying38 hi hz .i64 .i64 (m : Int) (m : Int) (by omega) (Int.le_refl _) (by rw [hb]; omega) (by omega)
    rw [hs] at this
    have e : madeCells #[.int .i64 0] m = tab m fun _ => 0 := by
      apply Array.ext_getElem?
      intro j
      by_cases hj : j < m
      · rw [tab_get _ hj]
        simp [madeCells, hj, Nat.mod_one]
      · rw [Array.getElem?_eq_none (by rw [size_madeCells]; omega), Array.getElem?_eq_none (by rw [tab_size]; omega)]
    simpa [Value.cells, e] using this
  have hm1 : m ≤ 4 := by omega
  clear h
  have bxR := hid (fun w' (hk : Kept (w.alloc (.cells #[.int .i64 0, .int .i64 0, .slice none 0 0, .slice none 0 0, .slice none 0 0] 40)) w') => (hk.below.block w.heap.size (by simp)).trans (heap_at rfl))
  go_enter Try.func19, Try.ntmps19
  go_wp2_with (first | (go_at_call 46; refine Calls.mono (isSeed_any _ _) ?_; rintro e w' ⟨rfl, rfl⟩) | (go_at_call 47; refine Calls.mono (within_any _ _ _ _) ?_; rintro e w' ⟨rfl, rfl⟩))
  go_region_with (first | (go_at_call 48; refine Calls.mono (hD.out _) ?_; rintro e w1 ⟨lo, lc, rfl, ho, k1⟩; have hb1 := bxR.out w1 (Kept.trans (by (try simp only [ext_ext]); repeat (first | exact Kept.refl _ | apply Kept.alloc | apply Kept.drew | apply kept_add | apply Kept.ext)) k1); have hlt1 := (Array.getElem?_eq_some_iff.1 hb1).1; have d0 := cell_of_row w1 w.heap.size 0 _ _ (0, 0) hb1; have d1 := cell_of_row w1 w.heap.size 1 _ _ (0, 0) hb1; have d2 := cell_of_row w1 w.heap.size 2 _ _ (0, 0) hb1; have d3 := cell_of_row w1 w.heap.size 3 _ _ (0, 0) hb1; have d4 := cell_of_row w1 w.heap.size 4 _ _ (0, 0) hb1; have f0 := frozen_of_row w1 w.heap.size 0 _ _ hb1; have f1 := frozen_of_row w1 w.heap.size 1 _ _ hb1; have f2 := frozen_of_row w1 w.heap.size 2 _ _ hb1; have f3 := frozen_of_row w1 w.heap.size 3 _ _ hb1; have f4 := frozen_of_row w1 w.heap.size 4 _ _ hb1; clear hb1; simp at d0 d1 d2 d3 d4))
  all_goals go_wp2_with (fail)
  all_goals have kw := Kept.trans (show Kept w _ from (by (try simp only [ext_ext]); repeat (first | exact Kept.refl _ | apply Kept.alloc | apply Kept.drew | apply kept_add | apply Kept.ext))) k1
  all_goals have hs1 : w.heap.size + 1 ≤ w1.heap.size := hlt1
  all_goals have hls := k1.below.size
  all_goals simp at hls
  · refine bodyPost_ret (v := .tuple #[gv s 12 (.slice lo (firstC s).length lc) (.slice (some ⟨w1.heap.size, 0, none⟩) m m) (.slice (some ⟨w1.heap.size + 1, 0, none⟩) m m), .bool true]) (by simp [results, Try.results19, go_sem, hlt1, d0, d1, d2, d3, d4]) rfl ?_
    refine newFinH (World.grownBy.trans (World.grownBy.trans (grown_setCell (grown_setCell (grown_setCell (grown_setCell (grown_setCell (grown_refl _ _) (p := ⟨w.heap.size, 0, none⟩) rfl _) (p := ⟨w.heap.size, 1, none⟩) rfl _) (p := ⟨w.heap.size, 2, none⟩) rfl _) (p := ⟨w.heap.size, 3, none⟩) rfl _) (p := ⟨w.heap.size, 4, none⟩) rfl _) (World.grownBy_alloc _ _ _)) (World.grownBy_alloc _ _ _)) (fun hg => newFin ho k1 kw ?_ hg hm1 ?_ ?_ (by omega) (by omega) (by omega) (heap_past (by simp) (heap_at (by simp))) (heap_at (by simp)))
    · simp <;> omega
    · simp <;> omega
    · simp <;> omega
  · refine bodyPost_ret (v := .tuple #[gv s 12 (.slice lo (firstC s).length lc) (.slice (some ⟨w1.heap.size + 1, 0, none⟩) m m) (.slice (some ⟨w1.heap.size, 0, none⟩) m m), .bool true]) (by simp [results, Try.results19, go_sem, hlt1, d0, d1, d2, d3, d4]) rfl ?_
    refine newFinH (World.grownBy.trans (World.grownBy.trans (grown_setCell (grown_setCell (grown_setCell (grown_setCell (grown_setCell (grown_refl _ _) (p := ⟨w.heap.size, 0, none⟩) rfl _) (p := ⟨w.heap.size, 1, none⟩) rfl _) (p := ⟨w.heap.size, 2, none⟩) rfl _) (p := ⟨w.heap.size, 3, none⟩) rfl _) (p := ⟨w.heap.size, 4, none⟩) rfl _) (World.grownBy_alloc _ _ _)) (World.grownBy_alloc _ _ _)) (fun hg => newFin ho k1 kw ?_ hg hm1 ?_ ?_ (by omega) (by omega) (by omega) (heap_at (by simp)) (heap_past (by simp) (heap_at (by simp))))
    · simp <;> omega
    · simp <;> omega
    · simp <;> omega
  · refine bodyPost_ret (v := .tuple #[gv s 12 (.slice lo (firstC s).length lc) (.slice (some ⟨w.heap.size + 1, 0, none⟩) m m) (.slice (some ⟨w1.heap.size, 0, none⟩) m m), .bool true]) (by simp [results, Try.results19, go_sem, hlt1, d0, d1, d2, d3, d4]) rfl ?_
    refine newFinH (World.grownBy.trans (grown_setCell (grown_setCell (grown_setCell (grown_setCell (grown_setCell (grown_refl _ _) (p := ⟨w.heap.size, 0, none⟩) rfl _) (p := ⟨w.heap.size, 1, none⟩) rfl _) (p := ⟨w.heap.size, 2, none⟩) rfl _) (p := ⟨w.heap.size, 3, none⟩) rfl _) (p := ⟨w.heap.size, 4, none⟩) rfl _) (World.grownBy_alloc _ _ _)) (fun hg => newFin ho k1 kw ?_ hg hm1 ?_ ?_ (by omega) (by omega) (by omega) (((hg.block _ (by omega) (by simp <;> omega)).trans (k1.below.block _ (by simp))).trans (heap_at (by simp))) (heap_at (by simp)))
    · simp <;> omega
    · simp <;> omega
    · simp <;> omega
  · refine bodyPost_ret (v := .tuple #[gv s 12 (.slice lo (firstC s).length lc) (.slice (some ⟨w.heap.size + 1, 0, none⟩) m m) (.slice (some ⟨w.heap.size + 1 + 1, 0, none⟩) m m), .bool true]) (by simp [results, Try.results19, go_sem, hlt1, d0, d1, d2, d3, d4]) rfl ?_
    refine newFinH (grown_setCell (grown_setCell (grown_setCell (grown_setCell (grown_setCell (grown_refl _ _) (p := ⟨w.heap.size, 0, none⟩) rfl _) (p := ⟨w.heap.size, 1, none⟩) rfl _) (p := ⟨w.heap.size, 2, none⟩) rfl _) (p := ⟨w.heap.size, 3, none⟩) rfl _) (p := ⟨w.heap.size, 4, none⟩) rfl _) (fun hg => newFin ho k1 kw ?_ hg hm1 ?_ ?_ (by omega) (by omega) (by omega) (((hg.block _ (by omega) (by simp <;> omega)).trans (k1.below.block _ (by simp))).trans (heap_past (by simp) (heap_at (by simp)))) (((hg.block _ (by omega) (by simp <;> omega)).trans (k1.below.block _ (by simp))).trans (heap_at (by simp))))
    · simp <;> omega
    · simp <;> omega
    · simp <;> omega
  · refine bodyPost_ret (v := .tuple #[gv s 12 (.slice lo (firstC s).length lc) (.slice (some ⟨w1.heap.size, 0, none⟩) m m) (.slice (some ⟨w.heap.size + 1, 0, none⟩) m m), .bool true]) (by simp [results, Try.results19, go_sem, hlt1, d0, d1, d2, d3, d4]) rfl ?_
    refine newFinH (World.grownBy.trans (grown_setCell (grown_setCell (grown_setCell (grown_setCell (grown_setCell (grown_refl _ _) (p := ⟨w.heap.size, 0, none⟩) rfl _) (p := ⟨w.heap.size, 1, none⟩) rfl _) (p := ⟨w.heap.size, 2, none⟩) rfl _) (p := ⟨w.heap.size, 3, none⟩) rfl _) (p := ⟨w.heap.size, 4, none⟩) rfl _) (World.grownBy_alloc _ _ _)) (fun hg => newFin ho k1 kw ?_ hg hm1 ?_ ?_ (by omega) (by omega) (by omega) (heap_at (by simp)) (((hg.block _ (by omega) (by simp <;> omega)).trans (k1.below.block _ (by simp))).trans (heap_at (by simp))))
    · simp <;> omega
    · simp <;> omega
    · simp <;> omega
  · refine bodyPost_ret (v := .tuple #[gv s 12 (.slice lo (firstC s).length lc) (.slice (some ⟨w.heap.size + 1 + 1, 0, none⟩) m m) (.slice (some ⟨w.heap.size + 1, 0, none⟩) m m), .bool true]) (by simp [results, Try.results19, go_sem, hlt1, d0, d1, d2, d3, d4]) rfl ?_
    refine newFinH (grown_setCell (grown_setCell (grown_setCell (grown_setCell (grown_setCell (grown_refl _ _) (p := ⟨w.heap.size, 0, none⟩) rfl _) (p := ⟨w.heap.size, 1, none⟩) rfl _) (p := ⟨w.heap.size, 2, none⟩) rfl _) (p := ⟨w.heap.size, 3, none⟩) rfl _) (p := ⟨w.heap.size, 4, none⟩) rfl _) (fun hg => newFin ho k1 kw ?_ hg hm1 ?_ ?_ (by omega) (by omega) (by omega) (((hg.block _ (by omega) (by simp <;> omega)).trans (k1.below.block _ (by simp))).trans (heap_at (by simp))) (((hg.block _ (by omega) (by simp <;> omega)).trans (k1.below.block _ (by simp))).trans (heap_past (by simp) (heap_at (by simp)))))
    · simp <;> omega
    · simp <;> omega
    · simp <;> omega
end Go.Proofs.Ytopfdfdgfhnbeaa
