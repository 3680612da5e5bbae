/- Walk: the law of NewGame. -/
import Derived.Test.YtopfdfdgfhnbeaaT52
namespace Go.Proofs.Ytopfdfdgfhnbeaa
open Go.RowKit
theorem twoNewGame (s p : Int) : ∃ (ok : Bool) (s' n : Int) (laid : List Card) (scores wrong : List Int), (∀ w, Calls Try.prog 18 #[.int .i64 s, .int .i64 p] w (RetGT w ok s' n laid scores wrong)) ∧ (∀ w, Calls Try.prog 19 #[.int .i64 s, .int .i64 p] w (RetGT w ok s' n laid scores wrong)) ∧
    laid.length ≤ 1048576 ∧ scores.length ≤ 1048576 ∧ wrong.length ≤ 1048576 := by
  cases h : newOk s p
  · exact ⟨false, 0, 0, [], [], [], fun w => sNewGame_no s p w h, fun w => iNewGame_no s p w h, by simp, by simp, by simp⟩
  · have h' : inB s 0 65535 = true ∧ inB p 1 4 = true := by simpa [newOk] using h
    have hp := inB_of h'.2
    have hl : (tl p.toNat fun _ => (0 : Int)).length = p.toNat := by simp [tl]
    refine ⟨true, s, 12, firstC s, tl p.toNat fun _ => 0, tl p.toNat fun _ => 0, fun w => sNewGame_yes s p w h p.toNat (by omega), fun w => iNewGame_yes s p w h p.toNat (by omega), ?_, ?_, ?_⟩
    · rw [firstC_len]; omega
    · rw [hl]; omega
    · rw [hl]; omega
set_option maxHeartbeats 4000000 in
theorem walk_FnExactNewGame (s p : Int) (w : World) : Calls Try.prog 5 #[.int .i64 s, .int .i64 p] w fun e w' => e = .returned (.bool true) ∧ Kept w w' := by
  obtain ⟨ok, s', n, laid, scores, wrong, hS, hI, m1, m2, m3⟩ := twoNewGame s p
  have n3 : ¬ ((1 : Int) + (laid.length : Int) * 4 + (scores.length : Int) + (wrong.length : Int) < 0) := by omega
  go_enter Try.func5, Try.ntmps5
  go_wp2_with (fail)
  (go_at_call 18; refine Calls.mono (hS _) ?_; rintro e w1 ⟨lo1, lc1, so1, sc1, wo1, wc1, rfl, p1, q1, r1, a1, b1, c1, k1⟩)
  have kw1 : Kept w w1 := Kept.trans (by (try simp only [ext_ext]); repeat (first | exact Kept.refl _ | apply Kept.alloc | apply Kept.drew | apply kept_add | apply Kept.ext)) k1
  have bA := hid (fun w' (hk : Kept (w1.alloc (.cells #[.int .i64 s', .int .i64 n, .slice lo1 laid.length lc1, .slice so1 scores.length sc1, .slice wo1 wrong.length wc1] 40)) w') => (Box5.new (t := 40) s' n (.slice lo1 laid.length lc1) (.slice so1 scores.length sc1) (.slice wo1 wrong.length wc1) (rfl : w1.heap.size = w1.heap.size)).kept hk)
  have kB1 : Kept w1 (w1.alloc (.cells #[.int .i64 s', .int .i64 n, .slice lo1 laid.length lc1, .slice so1 scores.length sc1, .slice wo1 wrong.length wc1] 40)) := (by (try simp only [ext_ext]); repeat (first | exact Kept.refl _ | apply Kept.alloc | apply Kept.drew | apply kept_add | apply Kept.ext))
  go_wp2_with (fail)
  (go_at_call 19; refine Calls.mono (hI _) ?_; rintro e w2 ⟨lo2, lc2, so2, sc2, wo2, wc2, rfl, p2, q2, r2, a2, b2, c2, k2⟩)
  have kA2 : Kept (w1.alloc (.cells #[.int .i64 s', .int .i64 n, .slice lo1 laid.length lc1, .slice so1 scores.length sc1, .slice wo1 wrong.length wc1] 40)) w2 := Kept.trans (by (try simp only [ext_ext]); repeat (first | exact Kept.refl _ | apply Kept.alloc | apply Kept.drew | apply kept_add | apply Kept.ext)) k2
  have hsB : w1.heap.size + 1 ≤ w2.heap.size := by have := kA2.below.size; simpa using this
  have lp2 : ∀ g, (Value.slice lo2 laid.length lc2).ownBlock = some g → w1.heap.size + 1 ≤ g ∧ g < w2.heap.size := fun g h => by have := p2.lt g h; simp at this; omega
  have lq2 : ∀ g, (Value.slice so2 scores.length sc2).ownBlock = some g → w1.heap.size + 1 ≤ g ∧ g < w2.heap.size := fun g h => by have := q2.lt g h; simp at this; omega
  have lr2 : ∀ g, (Value.slice wo2 wrong.length wc2).ownBlock = some g → w1.heap.size + 1 ≤ g ∧ g < w2.heap.size := fun g h => by have := r2.lt g h; simp at this; omega
  have l1 : ∀ (u : Value) g, u.ownBlock = some g → (OwnC w.heap.size w1 u laid ∨ OwnI w.heap.size w1 u scores ∨ OwnI w.heap.size w1 u wrong) → g < w1.heap.size := fun u g h hu => by
    rcases hu with hu | hu | hu <;> exact (hu.lt g h).2
  have k12 : Kept w1 w2 := kB1.trans kA2
  have bB := hid (fun w' (hk : Kept (w2.alloc (.cells #[.int .i64 s', .int .i64 n, .slice lo2 laid.length lc2, .slice so2 scores.length sc2, .slice wo2 wrong.length wc2] 40)) w') => (Box5.new (t := 40) s' n (.slice lo2 laid.length lc2) (.slice so2 scores.length sc2) (.slice wo2 wrong.length wc2) (rfl : w2.heap.size = w2.heap.size)).kept hk)
  have kB2 : Kept w2 (w2.alloc (.cells #[.int .i64 s', .int .i64 n, .slice lo2 laid.length lc2, .slice so2 scores.length sc2, .slice wo2 wrong.length wc2] 40)) := (by (try simp only [ext_ext]); repeat (first | exact Kept.refl _ | apply Kept.alloc | apply Kept.drew | apply kept_add | apply Kept.ext))
  obtain ⟨A20, A21, A22, A23, A24, A25⟩ := bA.out _ kA2
  go_wp2_with (fail)
  (go_at_call 20; refine Calls.mono (eqGame_any s' n _ _ _ _ _ _ _ _ _ _ _ _ _ _ laid scores wrong _ (p2.kept (by (try simp only [ext_ext]); repeat (first | exact Kept.refl _ | apply Kept.alloc | apply Kept.drew | apply kept_add | apply Kept.ext))) ((p1.kept k12).kept (by (try simp only [ext_ext]); repeat (first | exact Kept.refl _ | apply Kept.alloc | apply Kept.drew | apply kept_add | apply Kept.ext))) (q2.kept (by (try simp only [ext_ext]); repeat (first | exact Kept.refl _ | apply Kept.alloc | apply Kept.drew | apply kept_add | apply Kept.ext))) ((q1.kept k12).kept (by (try simp only [ext_ext]); repeat (first | exact Kept.refl _ | apply Kept.alloc | apply Kept.drew | apply kept_add | apply Kept.ext))) (r2.kept (by (try simp only [ext_ext]); repeat (first | exact Kept.refl _ | apply Kept.alloc | apply Kept.drew | apply kept_add | apply Kept.ext))) ((r1.kept k12).kept (by (try simp only [ext_ext]); repeat (first | exact Kept.refl _ | apply Kept.alloc | apply Kept.drew | apply kept_add | apply Kept.ext))) m1 m2 m3) ?_; rintro e w3 ⟨rfl, k3⟩)
  clear A21 A22 A23 A24 A25
  have kC3 : Kept (w2.alloc (.cells #[.int .i64 s', .int .i64 n, .slice lo2 laid.length lc2, .slice so2 scores.length sc2, .slice wo2 wrong.length wc2] 40)) w3 := Kept.trans (by (try simp only [ext_ext]); repeat (first | exact Kept.refl _ | apply Kept.alloc | apply Kept.drew | apply kept_add | apply Kept.ext)) k3
  have k23 : Kept w2 w3 := kB2.trans kC3
  obtain ⟨B30, B31, B32, B33, B34, B35⟩ := bB.out _ kC3
  go_wp2_with (fail)
  (go_at_call 21; refine Calls.mono (markGame_full s' n _ _ _ _ _ _ _ laid scores wrong _ ((p2.kept k23).kept (by (try simp only [ext_ext]); repeat (first | exact Kept.refl _ | apply Kept.alloc | apply Kept.drew | apply kept_add | apply Kept.ext))) ((q2.kept k23).kept (by (try simp only [ext_ext]); repeat (first | exact Kept.refl _ | apply Kept.alloc | apply Kept.drew | apply kept_add | apply Kept.ext))) ((r2.kept k23).kept (by (try simp only [ext_ext]); repeat (first | exact Kept.refl _ | apply Kept.alloc | apply Kept.drew | apply kept_add | apply Kept.ext))) a2 b2 c2 m1 m2 m3) ?_; rintro e w4 ⟨rfl, gm4, u1, u2, u3, ku0, gu1, gu2, gu3⟩)
  clear B31 B32 B33 B34 B35
  have ku : Kept w3 u1 := Kept.trans (by (try simp only [ext_ext]); repeat (first | exact Kept.refl _ | apply Kept.alloc | apply Kept.drew | apply kept_add | apply Kept.ext)) ku0
  have kw4 : Kept w w4 := by
    have s1 := kw1.below.size
    refine (((((kw1.trans k12).trans k23).trans ku).grown gu1 fun k hk => ?_).grown gu2 fun k hk => ?_).grown gu3 fun k hk => ?_
    · have := lp2 k hk; omega
    · have := lq2 k hk; omega
    · have := lr2 k hk; omega
  have bA4 := (((bA.out u1 (kA2.trans (k23.trans ku))).grown gu1 (fun e => by have := lp2 _ e; omega)).grown gu2 (fun e => by have := lq2 _ e; omega)).grown gu3 (fun e => by have := lr2 _ e; omega)
  have bB4 := (((bB.out u1 (kC3.trans ku)).grown gu1 (fun e => by have := lp2 _ e; omega)).grown gu2 (fun e => by have := lq2 _ e; omega)).grown gu3 (fun e => by have := lr2 _ e; omega)
  have ka : Kept w1 u1 := k12.trans (k23.trans ku)
  have p4 := (((p1.kept ka).grown gu1 (fun g h e => by have := l1 _ g h (.inl p1); have := lp2 g e; omega)).grown gu2 (fun g h e => by have := l1 _ g h (.inl p1); have := lq2 g e; omega)).grown gu3 (fun g h e => by have := l1 _ g h (.inl p1); have := lr2 g e; omega)
  have q4 := (((q1.kept ka).grown gu1 (fun g h e => by have := l1 _ g h (.inr (.inl q1)); have := lp2 g e; omega)).grown gu2 (fun g h e => by have := l1 _ g h (.inr (.inl q1)); have := lq2 g e; omega)).grown gu3 (fun g h e => by have := l1 _ g h (.inr (.inl q1)); have := lr2 g e; omega)
  have r4 := (((r1.kept ka).grown gu1 (fun g h e => by have := l1 _ g h (.inr (.inr r1)); have := lp2 g e; omega)).grown gu2 (fun g h e => by have := l1 _ g h (.inr (.inr r1)); have := lq2 g e; omega)).grown gu3 (fun g h e => by have := l1 _ g h (.inr (.inr r1)); have := lr2 g e; omega)
  have bAH := hid (fun w' (hk : Kept w4 w') => bA4.kept hk)
  have bBH := hid (fun w' (hk : Kept w4 w') => bB4.kept hk)
  obtain ⟨B40, B41, B42, B43, B44, B45⟩ := bB4
  go_wp2_with (fail)
  (go_at_call 22; refine Calls.mono (heldGame_any s' n _ _ _ _ _ _ _ _ _ _ _ (gm4.kept (by (try simp only [ext_ext]); repeat (first | exact Kept.refl _ | apply Kept.alloc | apply Kept.drew | apply kept_add | apply Kept.ext))) m1 m2 m3) ?_; rintro e w5 ⟨rfl, k5⟩)
  clear B41 B42 B43 B44 B45
  have k45 : Kept w4 w5 := Kept.trans (by (try simp only [ext_ext]); repeat (first | exact Kept.refl _ | apply Kept.alloc | apply Kept.drew | apply kept_add | apply Kept.ext)) k5
  go_wp2_with (fail)
  (go_at_call 19; refine Calls.mono (hI _) ?_; rintro e w6 ⟨lo6, lc6, so6, sc6, wo6, wc6, rfl, p6, q6, r6, a6, b6, c6, k6⟩)
  have k46 : Kept w4 w6 := Kept.trans (k45.trans (by (try simp only [ext_ext]); repeat (first | exact Kept.refl _ | apply Kept.alloc | apply Kept.drew | apply kept_add | apply Kept.ext))) k6
  obtain ⟨A60, A61, A62, A63, A64, A65⟩ := bAH.out _ k46
  go_wp2_with (fail)
  (go_at_call 20; refine Calls.mono (eqGame_any s' n _ _ _ _ _ _ _ _ _ _ _ _ _ _ laid scores wrong _ (p6.kept (by (try simp only [ext_ext]); repeat (first | exact Kept.refl _ | apply Kept.alloc | apply Kept.drew | apply kept_add | apply Kept.ext))) ((p4.kept k46).kept (by (try simp only [ext_ext]); repeat (first | exact Kept.refl _ | apply Kept.alloc | apply Kept.drew | apply kept_add | apply Kept.ext))) (q6.kept (by (try simp only [ext_ext]); repeat (first | exact Kept.refl _ | apply Kept.alloc | apply Kept.drew | apply kept_add | apply Kept.ext))) ((q4.kept k46).kept (by (try simp only [ext_ext]); repeat (first | exact Kept.refl _ | apply Kept.alloc | apply Kept.drew | apply kept_add | apply Kept.ext))) (r6.kept (by (try simp only [ext_ext]); repeat (first | exact Kept.refl _ | apply Kept.alloc | apply Kept.drew | apply kept_add | apply Kept.ext))) ((r4.kept k46).kept (by (try simp only [ext_ext]); repeat (first | exact Kept.refl _ | apply Kept.alloc | apply Kept.drew | apply kept_add | apply Kept.ext))) m1 m2 m3) ?_; rintro e w7 ⟨rfl, k7⟩)
  clear A61 A62 A63 A64 A65
  have k47 : Kept w4 w7 := Kept.trans (k46.trans (by (try simp only [ext_ext]); repeat (first | exact Kept.refl _ | apply Kept.alloc | apply Kept.drew | apply kept_add | apply Kept.ext))) k7
  obtain ⟨B70, B71, B72, B73, B74, B75⟩ := bBH.out _ k47
  go_wp2_with (fail)
  (go_at_call 22; refine Calls.mono (heldGame_any s' n _ _ _ _ _ _ _ _ _ _ _ ((gm4.kept k47).kept (by (try simp only [ext_ext]); repeat (first | exact Kept.refl _ | apply Kept.alloc | apply Kept.drew | apply kept_add | apply Kept.ext))) m1 m2 m3) ?_; rintro e w8 ⟨rfl, k8⟩)
  go_wp2_with (fail)
  go_ret
  exact ⟨rfl, kw4.trans (k47.trans (Kept.trans (by (try simp only [ext_ext]); repeat (first | exact Kept.refl _ | apply Kept.alloc | apply Kept.drew | apply kept_add | apply Kept.ext)) k8))⟩
end Go.Proofs.Ytopfdfdgfhnbeaa
