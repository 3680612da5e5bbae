/- Contracts: images of cards by a map; a law's map. Contracts: a law's map turned into the program's. Contracts: a map's sixteen cells at hand. The library's slices.SortFunc at cards: its functions are those of this program. (Printed by the shelf's laying, in plain words.) Rows of cards of the call's own: append beside other rows, comparison. Contracts and walk: the magic square. Tables of numbers in one block: read, written, laid anew. Contracts: lines through a card, the card with a number. Contracts: how many pairs make a line with a card. -/
import Derived.Test.YtjlaoocomkonhaaQ09
import Derived.Test.YtjlaoocomkonhaaQ02
import Derived.Shelf.SlLaysF0
import Derived.Test.YtjlaoocomkonhaaQ04
import Derived.Test.YtjlaoocomkonhaaQ01
import Derived.Test.YtjlaoocomkonhaaQ03
import Derived.Test.YtjlaoocomkonhaaQ08
namespace Go.Proofs.Ytjlaoocomkonhaa
open Go.RowKit
def imgT (f : Nat → Int) (c : Card) (i : Nat) : Int := f (4 + i * 3 + (tr (f i).toNat c).toNat)
/-- The image of a card. -/
def imgC (f : Nat → Int) (c : Card) : Card := ⟨imgT f c 0, imgT f c 1, imgT f c 2, imgT f c 3⟩
theorem imgT_bd {f : Nat → Int} {c : Card} (h : mapB f = true) (hc : isCard c = true) {i : Nat} (hi : i < 4) : 0 ≤ imgT f c i ∧ imgT f c i ≤ 2 := by
  have h3 := tr_3 (f i).toNat hc
  exact mapB_values h hi (by omega)
theorem isCard_img {f : Nat → Int} {c : Card} (h : mapB f = true) (hc : isCard c = true) : isCard (imgC f c) = true :=
  isCard_mk (imgT_bd h hc (by omega)) (imgT_bd h hc (by omega)) (imgT_bd h hc (by omega)) (imgT_bd h hc (by omega))
/-- What one place of an image reads: the trait, the card's value there, the value behind. -/
theorem img_parts {f : Nat → Int} {c : Card} {w : World} {gm gc : Nat} (hM : BoxM w gm f) (hC : CardCells w gc 0 c) (h : mapB f = true) (hc : isCard c = true) {i : Nat} (hi : i < 4) :
    ∃ t u : Nat, f i = (t : Int) ∧ t < 4 ∧ u < 3 ∧ w.cell? ⟨gm, i, none⟩ = some (.int .i64 (t : Int)) ∧ w.cell? ⟨gc, t, none⟩ = some (.int .i64 (u : Int)) ∧ w.cell? ⟨gm, 4 + i * 3 + u, none⟩ = some (.int .i64 (imgT f c i)) := by
  obtain ⟨h0, h3⟩ := mapB_traits h hi
  have ht : f i = ((f i).toNat : Int) := (Int.toNat_of_nonneg h0).symm
  have htr := tr_3 (f i).toNat hc
  have hu : tr (f i).toNat c = ((tr (f i).toNat c).toNat : Int) := (Int.toNat_of_nonneg (by omega)).symm
  refine ⟨(f i).toNat, (tr (f i).toNat c).toNat, ht, by omega, by omega, ?_, ?_, ?_⟩
  · rw [hM.2 i (by omega), ← ht]
  · have := trait_cell hC (t := (f i).toNat) (by omega)
    rw [Nat.zero_add] at this
    rw [this, ← hu]
  · rw [hM.2 _ (by omega)]; rfl
set_option maxHeartbeats 1000000 in
set_option maxRecDepth 20000 in
theorem image_any (f : Nat → Int) (c : Card) (h : mapB f = true) (hc : isCard c = true) (w : World) : Calls Try.prog 46 #[mpv f, c.v] w fun e w' => e = .returned (imgC f c).v ∧ Kept w w' := by
  obtain ⟨W, hW⟩ : ∃ W, W = (w.alloc (.cells #[.int .i64 (f 0), .int .i64 (f 1), .int .i64 (f 2), .int .i64 (f 3), .int .i64 (f 4), .int .i64 (f 5), .int .i64 (f 6), .int .i64 (f 7), .int .i64 (f 8), .int .i64 (f 9), .int .i64 (f 10), .int .i64 (f 11), .int .i64 (f 12), .int .i64 (f 13), .int .i64 (f 14), .int .i64 (f 15)] 35)).alloc (.cells #[.int .i64 c.a, .int .i64 c.b, .int .i64 c.c, .int .i64 c.d] 29) := ⟨_, rfl⟩
  have hM : BoxM W w.heap.size f := by rw [hW]; exact (BoxM.new f rfl).kept (by (try simp only [ext_ext]); repeat (first | exact Kept.refl _ | apply Kept.alloc | apply Kept.drew | apply kept_add | apply Kept.ext))
  have hC : CardCells W (w.heap.size + 1) 0 c := by rw [hW]; exact cardCells_new c (by simp)
  have kW := hid (show Kept w W by rw [hW]; exact (by (try simp only [ext_ext]); repeat (first | exact Kept.refl _ | apply Kept.alloc | apply Kept.drew | apply kept_add | apply Kept.ext)))
  have hsz : W.heap.size = w.heap.size + 1 + 1 := by rw [hW]; simp
  have hWH := hid hW
  obtain ⟨t0, u0, -, ht0, hu0, a0, b0, d0⟩ := img_parts hM hC h hc (i := 0) (by omega)
  obtain ⟨t1, u1, -, ht1, hu1, a1, b1, d1⟩ := img_parts hM hC h hc (i := 1) (by omega)
  obtain ⟨t2, u2, -, ht2, hu2, a2, b2, d2⟩ := img_parts hM hC h hc (i := 2) (by omega)
  obtain ⟨t3, u3, -, ht3, hu3, a3, b3, d3⟩ := img_parts hM hC h hc (i := 3) (by omega)
  simp only [Nat.zero_mul, Nat.one_mul, Nat.reduceMul, Nat.reduceAdd, Nat.add_zero] at d0 d1 d2 d3
  have hI : (imgC f c).v = .agg #[.int .i64 (imgT f c 0), .int .i64 (imgT f c 1), .int .i64 (imgT f c 2), .int .i64 (imgT f c 3)] := rfl
  rw [hI]
  generalize imgT f c 0 = r0 at *
  generalize imgT f c 1 = r1 at *
  generalize imgT f c 2 = r2 at *
  generalize imgT f c 3 = r3 at *
  clear hW hM hC hI h hc
  have s0 : (t0 : Int) < 4 := by omega
  have v0 : (u0 : Int) < 3 := by omega
  have s1 : (t1 : Int) < 4 := by omega
  have v1 : (u1 : Int) < 3 := by omega
  have s2 : (t2 : Int) < 4 := by omega
  have v2 : (u2 : Int) < 3 := by omega
  have s3 : (t3 : Int) < 4 := by omega
  have v3 : (u3 : Int) < 3 := by omega
  go_enter Try.func46, Try.ntmps46
  go_wp2
  rw [← hWH.out]
  refine wp_loop_rounds 5 ?_
  iterate 5
    (all_goals try rw [rounds_succ])
    go_wp2_with (first | (refine wp_region_ext_tail 13 (by kernel_rfl) (by kernel_rfl) ?_; simp only [List.take_succ_cons, List.take_zero, List.drop_succ_cons, List.drop_zero]; (repeat (go_big_quiet_step ((fail)))); refine wpQuiet_tail fun z => ?_))
  simp only [← hsz]
  refine bodyPost_ret (v := .agg #[.int .i64 r0, .int .i64 r1, .int .i64 r2, .int .i64 r3]) (by simp [results, Try.results46, go_sem]) rfl ⟨rfl, ?_⟩
  exact kW.out.trans (by (try simp only [ext_ext]); repeat (first | exact Kept.refl _ | apply Kept.alloc | apply Kept.drew | apply kept_add | apply Kept.ext))
set_option maxHeartbeats 1000000 in
set_option maxRecDepth 20000 in
theorem l5Card_any (f : Nat → Int) (c : Card) (h : mapB f = true) (hc : isCard c = true) (w : World) : Calls Try.prog 43 #[mpv f, c.v] w fun e w' => e = .returned (imgC f c).v ∧ Kept w w' := by
  obtain ⟨W, hW⟩ : ∃ W, W = (w.alloc (.cells #[.int .i64 (f 0), .int .i64 (f 1), .int .i64 (f 2), .int .i64 (f 3), .int .i64 (f 4), .int .i64 (f 5), .int .i64 (f 6), .int .i64 (f 7), .int .i64 (f 8), .int .i64 (f 9), .int .i64 (f 10), .int .i64 (f 11), .int .i64 (f 12), .int .i64 (f 13), .int .i64 (f 14), .int .i64 (f 15)] 35)).alloc (.cells #[.int .i64 c.a, .int .i64 c.b, .int .i64 c.c, .int .i64 c.d] 29) := ⟨_, rfl⟩
  have hM : BoxM W w.heap.size f := by rw [hW]; exact (BoxM.new f rfl).kept (by (try simp only [ext_ext]); repeat (first | exact Kept.refl _ | apply Kept.alloc | apply Kept.drew | apply kept_add | apply Kept.ext))
  have hC : CardCells W (w.heap.size + 1) 0 c := by rw [hW]; exact cardCells_new c (by simp)
  have kW := hid (show Kept w W by rw [hW]; exact (by (try simp only [ext_ext]); repeat (first | exact Kept.refl _ | apply Kept.alloc | apply Kept.drew | apply kept_add | apply Kept.ext)))
  have hsz : W.heap.size = w.heap.size + 1 + 1 := by rw [hW]; simp
  have hWH := hid hW
  obtain ⟨t0, u0, -, ht0, hu0, a0, b0, d0⟩ := img_parts hM hC h hc (i := 0) (by omega)
  obtain ⟨t1, u1, -, ht1, hu1, a1, b1, d1⟩ := img_parts hM hC h hc (i := 1) (by omega)
  obtain ⟨t2, u2, -, ht2, hu2, a2, b2, d2⟩ := img_parts hM hC h hc (i := 2) (by omega)
  obtain ⟨t3, u3, -, ht3, hu3, a3, b3, d3⟩ := img_parts hM hC h hc (i := 3) (by omega)
  simp only [Nat.zero_mul, Nat.one_mul, Nat.reduceMul, Nat.reduceAdd, Nat.add_zero] at d0 d1 d2 d3
  have hI : (imgC f c).v = .agg #[.int .i64 (imgT f c 0), .int .i64 (imgT f c 1), .int .i64 (imgT f c 2), .int .i64 (imgT f c 3)] := rfl
  rw [hI]
  generalize imgT f c 0 = r0 at *
  generalize imgT f c 1 = r1 at *
  generalize imgT f c 2 = r2 at *
  generalize imgT f c 3 = r3 at *
  clear hW hM hC hI h hc
  have s0 : (t0 : Int) < 4 := by omega
  have v0 : (u0 : Int) < 3 := by omega
  have s1 : (t1 : Int) < 4 := by omega
  have v1 : (u1 : Int) < 3 := by omega
  have s2 : (t2 : Int) < 4 := by omega
  have v2 : (u2 : Int) < 3 := by omega
  have s3 : (t3 : Int) < 4 := by omega
  have v3 : (u3 : Int) < 3 := by omega
  go_enter Try.func43, Try.ntmps43
  go_wp2
  rw [← hWH.out]
  refine wp_loop_rounds 5 ?_
  iterate 5
    (all_goals try rw [rounds_succ])
    go_wp2_with (first | (refine wp_region_ext_tail 13 (by kernel_rfl) (by kernel_rfl) ?_; simp only [List.take_succ_cons, List.take_zero, List.drop_succ_cons, List.drop_zero]; (repeat (go_big_quiet_step ((fail)))); refine wpQuiet_tail fun z => ?_))
  simp only [← hsz]
  refine bodyPost_ret (v := .agg #[.int .i64 r0, .int .i64 r1, .int .i64 r2, .int .i64 r3]) (by simp [results, Try.results43, go_sem]) rfl ⟨rfl, ?_⟩
  exact kW.out.trans (by (try simp only [ext_ext]); repeat (first | exact Kept.refl _ | apply Kept.alloc | apply Kept.drew | apply kept_add | apply Kept.ext))
end Go.Proofs.Ytjlaoocomkonhaa
namespace Go.Proofs.Ytjlaoocomkonhaa
open Go.RowKit
theorem toIntA3_any (a b c : Int) (w : World) :
    Calls Try.prog 60 #[.agg #[.int .i64 a, .int .i64 b, .int .i64 c]] w fun e w' => e = .returned (.agg #[.int .i64 a, .int .i64 b, .int .i64 c]) ∧ Kept w w' := by
  go_enter Try.func60, Try.ntmps60
  go_wp2
  refine wp_loop_rounds 4 ?_
  iterate 4
    (all_goals try rw [rounds_succ])
    go_wp2
  refine bodyPost_ret (v := .agg #[.int .i64 a, .int .i64 b, .int .i64 c]) (by simp [results, Try.results60, go_sem]) rfl ⟨rfl, ?_⟩
  exact (by (try simp only [ext_ext]); repeat (first | exact Kept.refl _ | apply Kept.alloc | apply Kept.drew | apply kept_add | apply Kept.ext))
set_option maxRecDepth 20000 in
set_option maxHeartbeats 1000000 in
theorem toIntA3A4_any (f : Nat → Int) (w : World) :
    Calls Try.prog 40 #[.agg #[.int .i64 (f 4), .int .i64 (f 5), .int .i64 (f 6), .int .i64 (f 7), .int .i64 (f 8), .int .i64 (f 9), .int .i64 (f 10), .int .i64 (f 11), .int .i64 (f 12), .int .i64 (f 13), .int .i64 (f 14), .int .i64 (f 15)]] w fun e w' => e = .returned (.agg #[.int .i64 (f 4), .int .i64 (f 5), .int .i64 (f 6), .int .i64 (f 7), .int .i64 (f 8), .int .i64 (f 9), .int .i64 (f 10), .int .i64 (f 11), .int .i64 (f 12), .int .i64 (f 13), .int .i64 (f 14), .int .i64 (f 15)]) ∧ Kept w w' := by
  go_enter Try.func40, Try.ntmps40
  go_wp2
  refine wp_loop_rounds 5 ?_
  iterate 5
    (all_goals try rw [rounds_succ])
    go_wp2_with (first | (go_at_call 60; refine Calls.mono (toIntA3_any _ _ _ _) ?_; rintro e w' ⟨rfl, y, rfl⟩))
  refine bodyPost_ret (v := .agg #[.int .i64 (f 4), .int .i64 (f 5), .int .i64 (f 6), .int .i64 (f 7), .int .i64 (f 8), .int .i64 (f 9), .int .i64 (f 10), .int .i64 (f 11), .int .i64 (f 12), .int .i64 (f 13), .int .i64 (f 14), .int .i64 (f 15)]) (by simp [results, Try.results40, go_sem]) rfl ⟨rfl, ?_⟩
  exact (by (try simp only [ext_ext]); repeat (first | exact Kept.refl _ | apply Kept.alloc | apply Kept.drew | apply kept_add | apply Kept.ext))
set_option maxRecDepth 20000 in
set_option maxHeartbeats 1000000 in
theorem toMap_any (f : Nat → Int) (w : World) :
    Calls Try.prog 15 #[mpv f] w fun e w' => e = .returned (mpv f) ∧ Kept w w' := by
  go_enter Try.func15, Try.ntmps15
  go_wp2_with (first | (go_at_call 23; refine Calls.mono (toIntA4_any (⟨f 0, f 1, f 2, f 3⟩ : Card) _) ?_; rintro e w' ⟨rfl, y, rfl⟩) | (go_at_call 40; refine Calls.mono (toIntA3A4_any f _) ?_; rintro e w' ⟨rfl, y, rfl⟩))
  refine bodyPost_ret (v := mpv f) (by simp [results, Try.results15, go_sem]) rfl ⟨rfl, ?_⟩
  exact (by (try simp only [ext_ext]); repeat (first | exact Kept.refl _ | apply Kept.alloc | apply Kept.drew | apply kept_add | apply Kept.ext))
end Go.Proofs.Ytjlaoocomkonhaa
namespace Go.Proofs.Ytjlaoocomkonhaa
open Go.RowKit
theorem BoxM.cells {w : World} {g : Nat} {f : Nat → Int} (h : BoxM w g f) : w.cell? ⟨g, 0, none⟩ = some (.int .i64 (f 0)) ∧ w.cell? ⟨g, 1, none⟩ = some (.int .i64 (f 1)) ∧ w.cell? ⟨g, 2, none⟩ = some (.int .i64 (f 2)) ∧ w.cell? ⟨g, 3, none⟩ = some (.int .i64 (f 3)) ∧ w.cell? ⟨g, 4, none⟩ = some (.int .i64 (f 4)) ∧ w.cell? ⟨g, 5, none⟩ = some (.int .i64 (f 5)) ∧ w.cell? ⟨g, 6, none⟩ = some (.int .i64 (f 6)) ∧ w.cell? ⟨g, 7, none⟩ = some (.int .i64 (f 7)) ∧ w.cell? ⟨g, 8, none⟩ = some (.int .i64 (f 8)) ∧ w.cell? ⟨g, 9, none⟩ = some (.int .i64 (f 9)) ∧ w.cell? ⟨g, 10, none⟩ = some (.int .i64 (f 10)) ∧ w.cell? ⟨g, 11, none⟩ = some (.int .i64 (f 11)) ∧ w.cell? ⟨g, 12, none⟩ = some (.int .i64 (f 12)) ∧ w.cell? ⟨g, 13, none⟩ = some (.int .i64 (f 13)) ∧ w.cell? ⟨g, 14, none⟩ = some (.int .i64 (f 14)) ∧ w.cell? ⟨g, 15, none⟩ = some (.int .i64 (f 15)) :=
  ⟨h.2 0 (by omega), h.2 1 (by omega), h.2 2 (by omega), h.2 3 (by omega), h.2 4 (by omega), h.2 5 (by omega), h.2 6 (by omega), h.2 7 (by omega), h.2 8 (by omega), h.2 9 (by omega), h.2 10 (by omega), h.2 11 (by omega), h.2 12 (by omega), h.2 13 (by omega), h.2 14 (by omega), h.2 15 (by omega)⟩
end Go.Proofs.Ytjlaoocomkonhaa
namespace Go.Proofs.Ytjlaoocomkonhaa
open Go.Shelf
def sortC_ren : Go.Shelf.Ren := ⟨fun | 6 => 57 | 15 => 69 | 14 => 68 | 28 => 85 | 29 => 86 | 20 => 77 | 21 => 78 | 22 => 79 | 23 => 80 | 24 => 81 | 25 => 82 | 26 => 83 | 27 => 84 | 46 => 91 | 47 => 92 | 48 => 93 | 49 => 94 | 50 => 95 | 57 => 98 | n => n, fun | 22 => 22 | 24 => 29 | 25 => 52 | 3 => 3 | 39 => 76 | 0 => 0 | 53 => 92 | 55 => 94 | 4 => 4 | 46 => 85 | 45 => 84 | 50 => 89 | 5 => 5 | 9 => 9 | 66 => 97 | 70 => 101 | 76 => 105 | 77 => 106 | n => n, fun | n => n⟩
theorem sortC : Go.Proofs.SlLaysF0.n6 Try.prog sortC_ren := {
  mixed := by kernel_rfl
  f6 := ⟨Try.f57.name, by decide, Try.func57.trans (congrArg some (by kernel_rfl))⟩
  f14 := ⟨Try.f68.name, by decide, Try.func68.trans (congrArg some (by kernel_rfl))⟩
  f15 := Try.func69.trans (congrArg some (by kernel_rfl))
  f20 := ⟨Try.f77.name, by decide, Try.func77.trans (congrArg some (by kernel_rfl))⟩
  f21 := ⟨Try.f78.name, by decide, Try.func78.trans (congrArg some (by kernel_rfl))⟩
  f22 := ⟨Try.f79.name, by decide, Try.func79.trans (congrArg some (by kernel_rfl))⟩
  f23 := ⟨Try.f80.name, by decide, Try.func80.trans (congrArg some (by kernel_rfl))⟩
  f24 := ⟨Try.f81.name, by decide, Try.func81.trans (congrArg some (by kernel_rfl))⟩
  f25 := ⟨Try.f82.name, by decide, Try.func82.trans (congrArg some (by kernel_rfl))⟩
  f26 := ⟨Try.f83.name, by decide, Try.func83.trans (congrArg some (by kernel_rfl))⟩
  f27 := ⟨Try.f84.name, by decide, Try.func84.trans (congrArg some (by kernel_rfl))⟩
  f28 := Try.func85.trans (congrArg some (by kernel_rfl))
  f29 := Try.func86.trans (congrArg some (by kernel_rfl))
  f46 := ⟨Try.f91.name, by decide, Try.func91.trans (congrArg some (by kernel_rfl))⟩
  f47 := Try.func92.trans (congrArg some (by kernel_rfl))
  f48 := Try.func93.trans (congrArg some (by kernel_rfl))
  f49 := ⟨Try.f94.name, by decide, Try.func94.trans (congrArg some (by kernel_rfl))⟩
  f50 := ⟨Try.f95.name, by decide, Try.func95.trans (congrArg some (by kernel_rfl))⟩
  f57 := ⟨Try.f98.name, by decide, Try.func98.trans (congrArg some (by kernel_rfl))⟩
  t0 := Try.underlying0
  a0 := Try.isAgg0
  z0 := Try.sizeOf0
  v0 := Try.zeroValue0
  t3 := Try.underlying3
  a3 := Try.isAgg3
  z3 := Try.sizeOf3
  v3 := Try.zeroValue3
  t4 := Try.underlying4
  a4 := Try.isAgg4
  z4 := Try.sizeOf4
  v4 := Try.zeroValue4
  t5 := Try.underlying5
  a5 := Try.isAgg5
  z5 := Try.sizeOf5
  v5 := Try.zeroValue5
  t9 := Try.underlying9
  a9 := Try.isAgg9
  z9 := Try.sizeOf9
  v9 := Try.zeroValue9
  t22 := Try.underlying22
  a22 := Try.isAgg22
  z22 := Try.sizeOf22
  v22 := Try.zeroValue22
  t25 := Try.underlying52
  a25 := Try.isAgg52
  z25 := Try.sizeOf52
  v25 := Try.zeroValue52
  t39 := Try.underlying76
  a39 := Try.isAgg76
  z39 := Try.sizeOf76
  v39 := Try.zeroValue76
  t45 := Try.underlying84
  a45 := Try.isAgg84
  z45 := Try.sizeOf84
  v45 := Try.zeroValue84
  t46 := Try.underlying85
  a46 := Try.isAgg85
  z46 := Try.sizeOf85
  v46 := Try.zeroValue85
  t50 := Try.underlying89
  a50 := Try.isAgg89
  z50 := Try.sizeOf89
  v50 := Try.zeroValue89
  t53 := Try.underlying92
  a53 := Try.isAgg92
  z53 := Try.sizeOf92
  v53 := Try.zeroValue92
  t55 := Try.underlying94
  a55 := Try.isAgg94
  z55 := Try.sizeOf94
  v55 := Try.zeroValue94
  t66 := Try.underlying97
  a66 := Try.isAgg97
  z66 := Try.sizeOf97
  v66 := Try.zeroValue97
  t70 := Try.underlying101
  a70 := Try.isAgg101
  z70 := Try.sizeOf101
  v70 := Try.zeroValue101
  t76 := Try.underlying105
  a76 := Try.isAgg105
  z76 := Try.sizeOf105
  v76 := Try.zeroValue105
  t77 := Try.underlying106
  a77 := Try.isAgg106
  z77 := Try.sizeOf106
  v77 := Try.zeroValue106 }
end Go.Proofs.Ytjlaoocomkonhaa
namespace Go.Proofs.Ytjlaoocomkonhaa
open Go.RowKit
theorem OwnC.mono {B B' : Nat} {w : World} {v : Value} {cs : List Card} (h : OwnC B w v cs) (hB : B' ≤ B) : OwnC B' w v cs := by
  rcases h.2 with h0 | ⟨g, cap, cur, h1, hb, h2⟩
  · exact ⟨h.1, .inl h0⟩
  · exact ⟨h.1, .inr ⟨g, cap, cur, h1, by omega, h2⟩⟩
theorem OwnC.grown {B : Nat} {w w' : World} {u : Value} {row : Option Nat} {cs : List Card} (h : OwnC B w u cs) (hg : w.grownBy w' row) (hn : ∀ g, u.ownBlock = some g → row ≠ some g) : OwnC B w' u cs := by
  refine World.ownsRow.kept h hg ?_
  cases hu : u.ownBlock with
  | none => exact .inl rfl
  | some g => exact .inr fun e => hn g hu e.symm
theorem ownC_none (B : Nat) (w : World) : OwnC B w (.slice none 0 0) [] := ⟨rfl, .inl ⟨rfl, rfl⟩⟩
def RetCT (W : World) (ok : Bool) (cs : List Card) (e : Ending) (w' : World) : Prop := ∃ v, e = .returned (.tuple #[v, .bool ok]) ∧ OwnC W.heap.size w' v cs ∧ Kept W w'
/-- A row of cards of the call's own that is not the one that grows. -/
def SideK (w : World) (v u : Value) (cs : List Card) : Prop := (∃ B, OwnC B w u cs) ∧ ∀ g, u.ownBlock = some g → v.ownBlock ≠ some g
theorem SideK.kept {w w' : World} {v u : Value} {cs : List Card} (h : SideK w v u cs) (hk : Kept w w') : SideK w' v u cs := by
  obtain ⟨⟨B, h⟩, hn⟩ := h
  exact ⟨⟨B, h.kept hk⟩, hn⟩
theorem SideK.grown {w w' : World} {v v' u : Value} {cs : List Card} (h : SideK w v u cs) (hg : w.grownBy w' v.ownBlock) (hv : v'.ownBlock = v.ownBlock ∨ v'.ownBlock = some w.heap.size) : SideK w' v' u cs := by
  obtain ⟨⟨B, h⟩, hn⟩ := h
  refine ⟨⟨B, h.grown hg hn⟩, fun g hu => ?_⟩
  rcases hv with e | e
  · rw [e]; exact hn g hu
  · rw [e]; intro e'; cases e'; have := (h.lt _ hu).2; omega
theorem fil_nextC (p : Card → Bool) (cs : List Card) (k : Nat) (h : k < cs.length) : fil p cs (k + 1) = fil p cs k ++ if p (cx cs k) then [cx cs k] else [] := by
  simp only [fil, take_cx cs k h, List.filter_append]
  cases hp : p (cx cs k) <;> simp [hp]
/-- append of one card; where the new row lies. -/
theorem wpList_append_card_at {ops : Array Oper} {rest : List Oper} {o : Oper} {a : Act} {Q : Exit → Act → World → Prop} {w : World} (hgd : o.guard = none) (s x : Operand)
    (ho : o.op = .call { callee := .builtin .append, args := #[s, x], argTypes := #[22, 22] }) (W : World) (B : Nat) (v : Value) (cs : List Card) (hs : a.eval s = v) (hown : OwnC B w v cs) (hk : Kept W w) (hWB : W.heap.size ≤ B) (hBw : B ≤ w.heap.size)
    (g cap : Nat) (c : Card) (hx : a.eval x = .slice (some ⟨g, 0, none⟩) 1 cap) (hc : CardCells w g 0 c) (hl : cs.length ≤ 1048576)
    (h : ∀ v' w', OwnC B w' v' (cs ++ [c]) → Kept W w' → w.grownBy w' v.ownBlock → (v'.ownBlock = v.ownBlock ∨ v'.ownBlock = some w.heap.size) → wpList Try.prog ops Q rest (a.put o.dst v') w') : wpList Try.prog ops Q (o :: rest) a w := by
  obtain ⟨i, hi, hz, hsz, hb⟩ := info_parts info_card
  obtain ⟨h0, h1, h2, h3⟩ := hc
  refine wpList_append_own_at w hgd s x 22 ho B T4 i _ 4 32 Try.underlying22 hi hz hsz hb rfl (by decide) v cs.length (cells4 cs) hs hown ⟨g, 0, none⟩ 1 cap
    [.int .i64 c.a, .int .i64 c.b, .int .i64 c.c, .int .i64 c.d] hx rfl ?_ ?_ (by unfold maxLen; omega) (by omega) hBw ?_
  · intro j u hj
    match j, hj with
    | 0, hj => simp at hj; subst hj; exact h0
    | 1, hj => simp at hj; subst hj; exact h1
    | 2, hj => simp at hj; subst hj; exact h2
    | 3, hj => simp at hj; subst hj; exact h3
    | j + 4, hj => simp at hj
  · intro u hu
    simp at hu
    rcases hu with rfl | rfl | rfl | rfl <;> rfl
  · intro v' w' hown' hg _ hat
    refine h v' w' ?_ (hk.grown hg fun k hk => Nat.le_trans hWB (hown.lt k hk).1) hg hat
    have e : cells4 (cs ++ [c]) = cells4 cs ++ [.int .i64 c.a, .int .i64 c.b, .int .i64 c.c, .int .i64 c.d] := by simp [cells4]
    unfold OwnC
    rw [e, List.length_append]
    exact hown'
theorem eqC_any (v u : Value) (B B' : Nat) (cs : List Card) (w : World) (h : OwnC B w v cs) (h' : OwnC B' w u cs) (hl : cs.length ≤ 1048576) :
    Calls Try.prog 11 #[v, u] w fun e w' => e = .returned (.bool true) ∧ Kept w w' := by
  obtain ⟨ao, cap, rfl, hx, _⟩ := h.reads
  obtain ⟨bo, cap', rfl, hy, _⟩ := h'.reads
  have := eqIntA4S_any ao bo cap cap' cs cs w hx hy hl hl
  simpa using this
end Go.Proofs.Ytjlaoocomkonhaa
namespace Go.Proofs.Ytjlaoocomkonhaa
open Go.RowKit
def thirdT (x y : Int) : Int := (6 - x - y) % 3
def thirdC (x y : Card) : Card := ⟨thirdT x.a y.a, thirdT x.b y.b, thirdT x.c y.c, thirdT x.d y.d⟩
def lineC (x y z : Card) : Bool := !decide (x = y) && decide (thirdC x y = z)
def planeC (x y z : Card) : Bool := isCard x && isCard y && isCard z && !decide (x = y) && !decide (x = z) && !decide (y = z) && !lineC x y z
end Go.Proofs.Ytjlaoocomkonhaa
namespace Go.Proofs.Ytjlaoocomkonhaa
open Go.RowKit
/-- A table of n numbers. (A name of its own: the walk does not open it.) -/
def tab (n : Nat) (f : Nat → Int) : Array Value := ((List.range n).map fun i => Value.int .i64 (f i)).toArray
theorem tab_size (n : Nat) (f : Nat → Int) : (tab n f).size = n := by simp [tab]
theorem tab_get {n i : Nat} (f : Nat → Int) (h : i < n) : (tab n f)[i]? = some (.int .i64 (f i)) := by simp [tab, h]
def upd (f : Nat → Int) (i : Nat) (v : Int) : Nat → Int := fun j => if j = i then v else f j
theorem tab_set {n i : Nat} (f : Nat → Int) (v : Int) : (tab n f).setIfInBounds i (.int .i64 v) = tab n (upd f i v) := by
  apply Array.ext_getElem?
  intro j
  by_cases hj : j < n
  · rw [tab_get _ hj, Array.getElem?_setIfInBounds, tab_size, tab_get _ hj]
    by_cases hi : i = j
    · subst hi; simp [hj, upd]
    · simp [hi, upd, Ne.symm hi]
  · rw [Array.getElem?_eq_none (by simp [tab_size]; omega), Array.getElem?_eq_none (by rw [tab_size]; omega)]
theorem tab_one (n : Nat) (f : Nat → Int) : (tab n f).all (·.oneCell') = true := by
  rw [Array.all_eq_true_iff_forall_mem]
  intro v hv
  simp [tab] at hv
  obtain ⟨i, _, rfl⟩ := hv
  rfl
theorem tab_congr {n : Nat} {f g : Nat → Int} (h : ∀ i, i < n → f i = g i) : tab n f = tab n g := by
  apply Array.ext_getElem?
  intro j
  by_cases hj : j < n
  · rw [tab_get _ hj, tab_get _ hj, h j hj]
  · rw [Array.getElem?_eq_none (by rw [tab_size]; omega), Array.getElem?_eq_none (by rw [tab_size]; omega)]
theorem setRow_alloc (W : World) (cs ds : Array Value) (t : TypeId) : (W.alloc (.cells cs t)).setRow W.heap.size ds = W.alloc (.cells ds t) := by
  unfold World.setRow World.alloc
  simp only
  congr 1
  apply Array.ext_getElem?
  intro i
  rw [Array.getElem?_modify, Array.getElem?_push, Array.getElem?_push]
  by_cases hi : i = W.heap.size
  · subst hi; simp
  · rw [if_neg (Ne.symm hi), if_neg hi, if_neg hi]
/-- A cell of a table behind which memory has grown. -/
theorem tab_cell (W : World) (z : More) (n i : Nat) (f : Nat → Int) (t : TypeId) (h : i < n) : (ext (W.alloc (.cells (tab n f) t)) z).cell? ⟨W.heap.size, i, none⟩ = some (.int .i64 (f i)) := by
  rw [ext_cell _ _ _ _ (by simp), cell_of_row _ W.heap.size i (tab n f) t (0, 0) (heap_at rfl), tab_get f h]
theorem tab_frozen (W : World) (z : More) (n i : Nat) (f : Nat → Int) (t : TypeId) : (ext (W.alloc (.cells (tab n f) t)) z).frozen? ⟨W.heap.size, i, none⟩ = false := by
  rw [ext_frozen _ _ _ _ (by simp)]
  exact frozen_of_row _ W.heap.size i (tab n f) t (heap_at rfl)
theorem tab_setCell (W : World) (z : More) (n i : Nat) (f : Nat → Int) (t : TypeId) (v : Int) (_h : i < n) :
    (ext (W.alloc (.cells (tab n f) t)) z).setCell ⟨W.heap.size, i, none⟩ (.int .i64 v) = ext (W.alloc (.cells (tab n (upd f i v)) t)) z := by
  rw [ext_setCell _ _ _ _ _ (by simp), setCell_eq_setRow _ W.heap.size i (tab n f) t (0, 0) _ (heap_at rfl), setRow_alloc, tab_set]
end Go.Proofs.Ytjlaoocomkonhaa
namespace Go.Proofs.Ytjlaoocomkonhaa
open Go.RowKit
/-- The card with a number. -/
def cardN (n : Int) : Card := ⟨n / 27, n / 9 % 3, n / 3 % 3, n % 3⟩
theorem isCard_cardN {n : Int} (h : 0 ≤ n) (h' : n ≤ 80) : isCard (cardN n) = true := by
  simp only [isCard, cardN, Bool.and_eq_true]
  exact ⟨⟨⟨inB_t (by omega) (by omega), inB_t (by omega) (by omega)⟩, inB_t (by omega) (by omega)⟩, inB_t (by omega) (by omega)⟩
theorem numC_cardN {n : Int} : numC (cardN n) = n := by
  simp only [numC, cardN]; omega
theorem cardN_numC {x : Card} (h : isCard x = true) : cardN (numC x) = x := by
  obtain ⟨h1, h2, h3, h4⟩ := isCard_of h
  obtain ⟨a, b, c, d⟩ := x
  simp only [cardN, numC, Card.mk.injEq] at *
  omega
theorem l2At_any (n : Int) (h : 0 ≤ n) (h' : n ≤ 80) (w : World) : Calls Try.prog 44 #[.int .i64 n] w fun e w' => e = .returned (cardN n).v ∧ Kept w w' := by
  go_enter Try.func44, Try.ntmps44
  go_wp2
  refine bodyPost_ret (v := (cardN n).v) (by simp [results, Try.results44, go_sem, cardN]) rfl ⟨rfl, ?_⟩
  exact (by (try simp only [ext_ext]); repeat (first | exact Kept.refl _ | apply Kept.alloc | apply Kept.drew | apply kept_add | apply Kept.ext))
theorem card_any (n : Int) (h : 0 ≤ n) (h' : n ≤ 80) (w : World) : Calls Try.prog 45 #[.int .i64 n] w fun e w' => e = .returned (cardN n).v ∧ Kept w w' := by
  go_enter Try.func45, Try.ntmps45
  go_wp2
  refine bodyPost_ret (v := (cardN n).v) (by simp [results, Try.results45, go_sem, cardN]) rfl ⟨rfl, ?_⟩
  exact (by (try simp only [ext_ext]); repeat (first | exact Kept.refl _ | apply Kept.alloc | apply Kept.drew | apply kept_add | apply Kept.ext))
def thr1 (xs : List Card) (c : Card) (i k : Nat) : Int := if lineC (cx xs i) (cx xs k) c then 1 else 0
theorem thr1_bd (xs : List Card) (c : Card) (i k : Nat) : 0 ≤ thr1 xs c i k ∧ thr1 xs c i k ≤ 1 := by unfold thr1; split <;> omega
def thrIn (xs : List Card) (c : Card) (i m : Nat) : Int := rsum m fun j => thr1 xs c i (i + 1 + j)
def thrOut (xs : List Card) (c : Card) (k : Nat) : Int := rsum k fun i => thrIn xs c i (xs.length - (i + 1))
theorem thrIn_bd (xs : List Card) (c : Card) (i m : Nat) : 0 ≤ thrIn xs c i m ∧ thrIn xs c i m ≤ m := by
  have := rsum_bd (n := m) (f := fun j => thr1 xs c i (i + 1 + j)) (b := 1) fun j _ => thr1_bd _ _ _ _
  unfold thrIn; omega
theorem thrOut_bd (xs : List Card) (c : Card) (k : Nat) (h : xs.length ≤ 81) : 0 ≤ thrOut xs c k ∧ thrOut xs c k ≤ k * 81 := by
  exact rsum_bd (n := k) (f := fun i => thrIn xs c i (xs.length - (i + 1))) (b := 81) fun i _ => by
    have := thrIn_bd xs c i (xs.length - (i + 1)); omega
/-- How many lines there are of a card and two of a list. -/
def thr (xs : List Card) (c : Card) : Int := thrOut xs c xs.length
end Go.Proofs.Ytjlaoocomkonhaa
namespace Go.Proofs.Ytjlaoocomkonhaa
open Go.RowKit
theorem line_ne {x y z : Card} (hx : isCard x = true) (hy : isCard y = true) (h : lineC x y z = true) : x ≠ z ∧ y ≠ z := by
  obtain ⟨x1, x2, x3, x4⟩ := isCard_of hx
  obtain ⟨y1, y2, y3, y4⟩ := isCard_of hy
  unfold lineC at h
  rw [Bool.and_eq_true] at h
  have ht := of_decide_eq_true h.2
  have hn : x ≠ y := by simpa using h.1
  clear h
  subst ht
  obtain ⟨a, b, c, d⟩ := x
  obtain ⟨a', b', c', d'⟩ := y
  simp only at x1 x2 x3 x4 y1 y2 y3 y4
  simp only [ne_eq, Card.mk.injEq] at hn
  constructor
  · intro e
    simp only [thirdC, thirdT, Card.mk.injEq] at e
    exact hn (by omega)
  · intro e
    simp only [thirdC, thirdT, Card.mk.injEq] at e
    exact hn (by omega)
theorem thr1_no1 {xs : List Card} {c : Card} {i k : Nat} (hc : areC xs) (hi : i < xs.length) (hk : k < xs.length) (h : decide (cx xs i = c) = true) : thr1 xs c i k = 0 := by
  unfold thr1
  rw [if_neg fun e => (line_ne (hc i hi) (hc k hk) e).1 (of_decide_eq_true h)]
theorem thr1_no2 {xs : List Card} {c : Card} {i k : Nat} (hc : areC xs) (hi : i < xs.length) (hk : k < xs.length) (h : decide (cx xs k = c) = true) : thr1 xs c i k = 0 := by
  unfold thr1
  rw [if_neg fun e => (line_ne (hc i hi) (hc k hk) e).2 (of_decide_eq_true h)]
theorem thrIn_next (xs : List Card) (c : Card) (i m : Nat) : thrIn xs c i (m + 1) = thrIn xs c i m + thr1 xs c i (i + 1 + m) := rfl
theorem thrOut_next (xs : List Card) (c : Card) (k : Nat) : thrOut xs c (k + 1) = thrOut xs c k + thrIn xs c k (xs.length - (k + 1)) := rfl
/-- No card twice. -/
def distC (xs : List Card) : Prop := ∀ i j, i < xs.length → j < xs.length → cx xs i = cx xs j → i = j
theorem distC_hand {xs : List Card} (h : isHand xs = true) : distC xs := by
  obtain ⟨_, hh⟩ := isHand_of h
  have lt : ∀ d i, i + d + 1 < xs.length → numC (cx xs i) < numC (cx xs (i + d + 1)) := by
    intro d
    induction d with
    | zero =>
      intro i hi
      have := hh (i + 0 + 1) hi
      simp [handOk] at this
      simpa using this.2
    | succ d ih =>
      intro i hi
      have h1 := ih i (by omega)
      have := hh (i + (d + 1) + 1) hi
      simp [handOk] at this
      have h2 := this.2
      rw [show i + (d + 1) = i + d + 1 by omega] at h2 ⊢
      omega
  intro i j hi hj e
  rcases Nat.lt_trichotomy i j with h | h | h
  · have := lt (j - i - 1) i (by omega)
    rw [show i + (j - i - 1) + 1 = j by omega, e] at this
    omega
  · exact h
  · have := lt (i - j - 1) j (by omega)
    rw [show j + (i - j - 1) + 1 = i by omega, e] at this
    omega
end Go.Proofs.Ytjlaoocomkonhaa
