/- Contracts: images of cards by a map; a law's map. -/
import Derived.Test.YtjlaoocomkonhaaT93
import Derived.Test.YtjlaoocomkonhaaT9
import Derived.Test.YtjlaoocomkonhaaT2
import Derived.Test.YtjlaoocomkonhaaB2
namespace Go.Proofs.Ytjlaoocomkonhaa
open Go.RowKit
def imgT (f : Nat → Int) (c : Card) (i : Nat) : Int := f (4 + i * 3 + (tr (f i).toNat c).toNat)
/-- The image of a card. -/
def imgC (f : Nat → Int) (c : Card) : Card := ⟨imgT f c 0, imgT f c 1, imgT f c 2, imgT f c 3⟩
theorem imgT_bd {f : Nat → Int} {c : Card} (h : mapB f = true) (hc : isCard c = true) {i : Nat} (hi : i < 4) : 0 ≤ imgT f c i ∧ imgT f c i ≤ 2 := by
  have h3 := tr_3 (f i).toNat hc
  exact mapB_values h hi (by omega)
theorem isCard_img {f : Nat → Int} {c : Card} (h : mapB f = true) (hc : isCard c = true) : isCard (imgC f c) = true :=
  isCard_mk (imgT_bd h hc (by omega)) (imgT_bd h hc (by omega)) (imgT_bd h hc (by omega)) (imgT_bd h hc (by omega))
/-- What one place of an image reads: the trait, the card's value there, the value behind. -/
theorem img_parts {f : Nat → Int} {c : Card} {w : World} {gm gc : Nat} (hM : BoxM w gm f) (hC : CardCells w gc 0 c) (h : mapB f = true) (hc : isCard c = true) {i : Nat} (hi : i < 4) :
    ∃ t u : Nat, f i = (t : Int) ∧ t < 4 ∧ u < 3 ∧ w.cell? ⟨gm, i, none⟩ = some (.int .i64 (t : Int)) ∧ w.cell? ⟨gc, t, none⟩ = some (.int .i64 (u : Int)) ∧ w.cell? ⟨gm, 4 + i * 3 + u, none⟩ = some (.int .i64 (imgT f c i)) := by
  obtain ⟨h0, h3⟩ := mapB_traits h hi
  have ht : f i = ((f i).toNat : Int) := (Int.toNat_of_nonneg h0).symm
  have htr := tr_3 (f i).toNat hc
  have hu : tr (f i).toNat c = ((tr (f i).toNat c).toNat : Int) := (Int.toNat_of_nonneg (by omega)).symm
  refine ⟨(f i).toNat, (tr (f i).toNat c).toNat, ht, by omega, by omega, ?_, ?_, ?_⟩
  · rw [hM.2 i (by omega), ← ht]
  · have := trait_cell hC (t := (f i).toNat) (by omega)
    rw [Nat.zero_add] at this
    rw [this, ← hu]
  · rw [hM.2 _ (by omega)]; rfl
set_option maxHeartbeats 1000000 in
set_option maxRecDepth 20000 in
theorem image_any (f : Nat → Int) (c : Card) (h : mapB f = true) (hc : isCard c = true) (w : World) : Calls Try.prog 46 #[mpv f, c.v] w fun e w' => e = .returned (imgC f c).v ∧ Kept w w' := by
  obtain ⟨W, hW⟩ : ∃ W, W = (w.alloc (.cells #[.int .i64 (f 0), .int .i64 (f 1), .int .i64 (f 2), .int .i64 (f 3), .int .i64 (f 4), .int .i64 (f 5), .int .i64 (f 6), .int .i64 (f 7), .int .i64 (f 8), .int .i64 (f 9), .int .i64 (f 10), .int .i64 (f 11), .int .i64 (f 12), .int .i64 (f 13), .int .i64 (f 14), .int .i64 (f 15)] 35)).alloc (.cells #[.int .i64 c.a, .int .i64 c.b, .int .i64 c.c, .int .i64 c.d] 29) := ⟨_, rfl⟩
  have hM : BoxM W w.heap.size f := by rw [hW]; exact (BoxM.new f rfl).kept (by (try simp only [ext_ext]); repeat (first | exact Kept.refl _ | apply Kept.alloc | apply Kept.drew | apply kept_add | apply Kept.ext))
  have hC : CardCells W (w.heap.size + 1) 0 c := by rw [hW]; exact cardCells_new c (by simp)
  have kW := hid (show Kept w W by rw [hW]; exact (by (try simp only [ext_ext]); repeat (first | exact Kept.refl _ | apply Kept.alloc | apply Kept.drew | apply kept_add | apply Kept.ext)))
  have hsz : W.heap.size = w.heap.size + 1 + 1 := by rw [hW]; simp
  have hWH := hid hW
  obtain ⟨t0, u0, -, ht0, hu0, a0, b0, d0⟩ := img_parts hM hC h hc (i := 0) (by omega)
  obtain ⟨t1, u1, -, ht1, hu1, a1, b1, d1⟩ := img_parts hM hC h hc (i := 1) (by omega)
  obtain ⟨t2, u2, -, ht2, hu2, a2, b2, d2⟩ := img_parts hM hC h hc (i := 2) (by omega)
  obtain ⟨t3, u3, -, ht3, hu3, a3, b3, d3⟩ := img_parts hM hC h hc (i := 3) (by omega)
  simp only [Nat.zero_mul, Nat.one_mul, Nat.reduceMul, Nat.reduceAdd, Nat.add_zero] at d0 d1 d2 d3
  have hI : (imgC f c).v = .agg #[.int .i64 (imgT f c 0), .int .i64 (imgT f c 1), .int .i64 (imgT f c 2), .int .i64 (imgT f c 3)] := rfl
  rw [hI]
  generalize imgT f c 0 = r0 at *
  generalize imgT f c 1 = r1 at *
  generalize imgT f c 2 = r2 at *
  generalize imgT f c 3 = r3 at *
  clear hW hM hC hI h hc
  have s0 : (t0 : Int) < 4 := by omega
  have v0 : (u0 : Int) < 3 := by omega
  have s1 : (t1 : Int) < 4 := by omega
  have v1 : (u1 : Int) < 3 := by omega
  have s2 : (t2 : Int) < 4 := by omega
  have v2 : (u2 : Int) < 3 := by omega
  have s3 : (t3 : Int) < 4 := by omega
  have v3 : (u3 : Int) < 3 := by omega
  go_enter Try.func46, Try.ntmps46
  go_wp2
  rw [← hWH.out]
  refine wp_loop_rounds 5 ?_
  iterate 5
    (all_goals try rw [rounds_succ])
    go_wp2_with (first | (refine wp_region_ext_tail 13 (by kernel_rfl) (by kernel_rfl) ?_; simp only [List.take_succ_cons, List.take_zero, List.drop_succ_cons, List.drop_zero]; (repeat (go_big_quiet_step ((fail)))); refine wpQuiet_tail fun z => ?_))
  simp only [← hsz]
  refine bodyPost_ret (v := .agg #[.int .i64 r0, .int .i64 r1, .int .i64 r2, .int .i64 r3]) (by simp [results, Try.results46, go_sem]) rfl ⟨rfl, ?_⟩
  exact kW.out.trans (by (try simp only [ext_ext]); repeat (first | exact Kept.refl _ | apply Kept.alloc | apply Kept.drew | apply kept_add | apply Kept.ext))
set_option maxHeartbeats 1000000 in
set_option maxRecDepth 20000 in
theorem l5Card_any (f : Nat → Int) (c : Card) (h : mapB f = true) (hc : isCard c = true) (w : World) : Calls Try.prog 43 #[mpv f, c.v] w fun e w' => e = .returned (imgC f c).v ∧ Kept w w' := by
  obtain ⟨W, hW⟩ : ∃ W, W = (w.alloc (.cells #[.int .i64 (f 0), .int .i64 (f 1), .int .i64 (f 2), .int .i64 (f 3), .int .i64 (f 4), .int .i64 (f 5), .int .i64 (f 6), .int .i64 (f 7), .int .i64 (f 8), .int .i64 (f 9), .int .i64 (f 10), .int .i64 (f 11), .int .i64 (f 12), .int .i64 (f 13), .int .i64 (f 14), .int .i64 (f 15)] 35)).alloc (.cells #[.int .i64 c.a, .int .i64 c.b, .int .i64 c.c, .int .i64 c.d] 29) := ⟨_, rfl⟩
  have hM : BoxM W w.heap.size f := by rw [hW]; exact (BoxM.new f rfl).kept (by (try simp only [ext_ext]); repeat (first | exact Kept.refl _ | apply Kept.alloc | apply Kept.drew | apply kept_add | apply Kept.ext))
  have hC : CardCells W (w.heap.size + 1) 0 c := by rw [hW]; exact cardCells_new c (by simp)
  have kW := hid (show Kept w W by rw [hW]; exact (by (try simp only [ext_ext]); repeat (first | exact Kept.refl _ | apply Kept.alloc | apply Kept.drew | apply kept_add | apply Kept.ext)))
  have hsz : W.heap.size = w.heap.size + 1 + 1 := by rw [hW]; simp
  have hWH := hid hW
  obtain ⟨t0, u0, -, ht0, hu0, a0, b0, d0⟩ := img_parts hM hC h hc (i := 0) (by omega)
  obtain ⟨t1, u1, -, ht1, hu1, a1, b1, d1⟩ := img_parts hM hC h hc (i := 1) (by omega)
  obtain ⟨t2, u2, -, ht2, hu2, a2, b2, d2⟩ := img_parts hM hC h hc (i := 2) (by omega)
  obtain ⟨t3, u3, -, ht3, hu3, a3, b3, d3⟩ := img_parts hM hC h hc (i := 3) (by omega)
  simp only [Nat.zero_mul, Nat.one_mul, Nat.reduceMul, Nat.reduceAdd, Nat.add_zero] at d0 d1 d2 d3
  have hI : (imgC f c).v = .agg #[.int .i64 (imgT f c 0), .int .i64 (imgT f c 1), .int .i64 (imgT f c 2), .int .i64 (imgT f c 3)] := rfl
  rw [hI]
  generalize imgT f c 0 = r0 at *
  generalize imgT f c 1 = r1 at *
  generalize imgT f c 2 = r2 at *
  generalize imgT f c 3 = r3 at *
  clear hW hM hC hI h hc
  have s0 : (t0 : Int) < 4 := by omega
  have v0 : (u0 : Int) < 3 := by omega
  have s1 : (t1 : Int) < 4 := by omega
  have v1 : (u1 : Int) < 3 := by omega
  have s2 : (t2 : Int) < 4 := by omega
  have v2 : (u2 : Int) < 3 := by omega
  have s3 : (t3 : Int) < 4 := by omega
  have v3 : (u3 : Int) < 3 := by omega
  go_enter Try.func43, Try.ntmps43
  go_wp2
  rw [← hWH.out]
  refine wp_loop_rounds 5 ?_
  iterate 5
    (all_goals try rw [rounds_succ])
    go_wp2_with (first | (refine wp_region_ext_tail 13 (by kernel_rfl) (by kernel_rfl) ?_; simp only [List.take_succ_cons, List.take_zero, List.drop_succ_cons, List.drop_zero]; (repeat (go_big_quiet_step ((fail)))); refine wpQuiet_tail fun z => ?_))
  simp only [← hsz]
  refine bodyPost_ret (v := .agg #[.int .i64 r0, .int .i64 r1, .int .i64 r2, .int .i64 r3]) (by simp [results, Try.results43, go_sem]) rfl ⟨rfl, ?_⟩
  exact kW.out.trans (by (try simp only [ext_ext]); repeat (first | exact Kept.refl _ | apply Kept.alloc | apply Kept.drew | apply kept_add | apply Kept.ext))
end Go.Proofs.Ytjlaoocomkonhaa
