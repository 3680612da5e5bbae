/- Walk: the law of DeckParting. -/
import Derived.Test.YtmdnnejaipdkhabT69
namespace Go.Proofs.Ytmdnnejaipdkhab
open Go.RowKit
set_option maxHeartbeats 1000000 in
theorem walk_FnExactDeckParting (c : Card) (w : World) : Calls Try.prog 4 #[c.v] w fun e w' => e = .returned (.bool true) ∧ Kept w w' := by
  obtain ⟨ok, ls, hS, hI, hll⟩ : ∃ ok ls, (∀ w, Calls Try.prog 11 #[c.v] w (RetLT w ok ls)) ∧ (∀ w, Calls Try.prog 13 #[c.v] w (RetLT w ok ls)) ∧ ls.length ≤ 1048576 := by
    cases hg : dirB c with
    | false => exact ⟨false, [], fun w => sDeckParting_no c w hg, fun w => iDeckParting_no c w hg, by simp⟩
    | true => exact ⟨true, dpL c 81, fun w => sDeckParting_yes c w hg, fun w => iDeckParting_yes c w hg, Nat.le_trans (dpL_len c 81) (by omega)⟩
  have p2 : ¬ ((1 : Int) + (ls.length : Int) * 3 < 0) := by omega
  obtain ⟨W, hW⟩ : ∃ W, W = w.alloc (.cells #[.int .i64 c.a, .int .i64 c.b, .int .i64 c.c, .int .i64 c.d] 29) := ⟨_, rfl⟩
  have hWs := hid (show W.heap.size = w.heap.size + 1 by rw [hW]; simp)
  have hWc := hid (show CardCells W w.heap.size 0 c by rw [hW]; exact cardCells_new c rfl)
  have kWH := hid (show Kept w W by rw [hW]; exact (by (try simp only [ext_ext]); repeat (first | exact Kept.refl _ | apply Kept.alloc | apply Kept.drew | apply kept_add | apply Kept.ext)))
  have hWH := hid hW
  have hbx := hid (show ∀ w', Kept W w' → w'.cell? ⟨w.heap.size, 0, none⟩ = some (.int .i64 c.a) ∧ w'.cell? ⟨w.heap.size, 1, none⟩ = some (.int .i64 c.b) ∧ w'.cell? ⟨w.heap.size, 2, none⟩ = some (.int .i64 c.c) ∧ w'.cell? ⟨w.heap.size, 3, none⟩ = some (.int .i64 c.d) from fun w' hk => by
    obtain ⟨e0, e1, e2, e3⟩ := cc_kept hWc.out (by have := hWs.out; omega) hk
    exact ⟨e0, by simpa using e1, by simpa using e2, by simpa using e3⟩)
  clear hW
  go_enter Try.func4, Try.ntmps4
  have hTo := hid (fun w' => toIntA4_any c w')
  go_wp2_with (fail)
  rw [← hWH.out]
  (go_at_call 12; refine Calls.mono (hTo.out _) ?_; rintro e w1 ⟨rfl, k1⟩)
  go_wp2_with (fail)
  (go_at_call 11; refine Calls.mono (hS _) ?_; rintro e w2 ⟨v2, rfl, ho2, k2⟩)
  have K2 := k1.trans k2
  obtain ⟨b0, b1, b2, b3⟩ := hbx.out w2 K2
  go_wp2_with (fail)
  clear b0 b1 b2 b3
  (go_at_call 12; refine Calls.mono (hTo.out _) ?_; rintro e w3 ⟨rfl, k3⟩)
  go_wp2_with (fail)
  (go_at_call 13; refine Calls.mono (hI _) ?_; rintro e w4 ⟨v4, rfl, ho4, k4⟩)
  have n24 : ∀ g, v2.ownBlock = some g → v4.ownBlock ≠ some g := fun g h h' => by have := (ho2.lt g h).2; have := (ho4.lt g h').1; have := k3.below.size; omega
  go_wp2_with (fail)
  (go_at_call 14; refine Calls.mono (eqL_any _ _ _ _ _ _ ho4 ((ho2.kept k3).kept k4) hll) ?_; rintro e w5 ⟨rfl, k5⟩)
  have K5 : Kept W w5 := K2.trans (k3.trans (k4.trans k5))
  have s3 : W.heap.size ≤ w3.heap.size := (K2.trans k3).below.size
  go_wp2_with (fail)
  (go_at_call 15; refine Calls.mono (markIntA3S_any _ _ _ _ 1 _ (ho4.kept k5) hll (by decide) (by decide)) ?_; rintro e w6 ⟨rfl, ho6, g6⟩)
  have K6 : Kept W w6 := K5.grown g6 fun k hk => Nat.le_trans s3 (ho4.lt k hk).1
  have ho26 := (((ho2.kept k3).kept k4).kept k5).grown g6 n24
  go_wp2_with (fail)
  (go_at_call 16; refine Calls.mono (heldIntA3S_any _ _ _ 1 _ ho6 hll (by decide) (by decide)) ?_; rintro e w7 ⟨rfl, k7⟩)
  obtain ⟨b0, b1, b2, b3⟩ := hbx.out w7 (K6.trans k7)
  go_wp2_with (fail)
  clear b0 b1 b2 b3
  (go_at_call 12; refine Calls.mono (hTo.out _) ?_; rintro e w8 ⟨rfl, k8⟩)
  go_wp2_with (fail)
  (go_at_call 13; refine Calls.mono (hI _) ?_; rintro e w9 ⟨v9, rfl, ho9, k9⟩)
  go_wp2_with (fail)
  (go_at_call 14; refine Calls.mono (eqL_any _ _ _ _ _ _ ho9 (ho26.kept (k7.trans (k8.trans k9))) hll) ?_; rintro e w10 ⟨rfl, k10⟩)
  go_wp2_with (fail)
  (go_at_call 16; refine Calls.mono (heldIntA3S_any _ _ _ 1 _ (row_kept ho6 (k7.trans (k8.trans (k9.trans k10)))) hll (by decide) (by decide)) ?_; rintro e w11 ⟨rfl, k11⟩)
  go_wp2_with (fail)
  go_ret
  exact ⟨rfl, kWH.out.trans (K6.trans (k7.trans (k8.trans (k9.trans (k10.trans k11)))))⟩
end Go.Proofs.Ytmdnnejaipdkhab
