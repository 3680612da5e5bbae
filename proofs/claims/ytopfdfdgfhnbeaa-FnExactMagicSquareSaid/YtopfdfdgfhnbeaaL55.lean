/- Walk: the law of MagicSquare. -/
import Derived.Test.YtopfdfdgfhnbeaaT55
import Derived.Test.YtopfdfdgfhnbeaaC1
import Derived.Test.YtopfdfdgfhnbeaaE4
import Derived.Test.YtopfdfdgfhnbeaaT35
import Derived.Deep.Cut
import Derived.Deep.RegionHeld
namespace Go.Proofs.Ytopfdfdgfhnbeaa
open Go.RowKit
theorem eqSq_any (f : Nat → Int) (w : World) : Calls Try.prog 12 #[.agg (tab 36 f), .agg (tab 36 f)] w fun e w' => e = .returned (.bool true) ∧ Kept w w' := by
  go_enter Try.func12, Try.ntmps12
  go_wp2
  go_loopw [5] (fun i wr => ∃ k : Nat, k ≤ 9 ∧ i = .int .i64 k ∧ Kept ((w.alloc (.cells (tab 36 f) 23)).alloc (.cells (tab 36 f) 23)) wr) (fun i _ => 9 - (intOf i).toNat)
  case atStart => exact ⟨0, by omega, rfl, (by (try simp only [ext_ext]); repeat (first | exact Kept.refl _ | apply Kept.alloc | apply Kept.drew | apply kept_add | apply Kept.ext))⟩
  case round =>
    obtain ⟨k, hk, rfl, u, rfl⟩ := hrel
    by_cases hlt : k < 9
    · have t0 := tab_get (n := 36) f (i := k * 4) (by omega)
      have t1 := tab_get (n := 36) f (i := k * 4 + 1) (by omega)
      have t2 := tab_get (n := 36) f (i := k * 4 + 2) (by omega)
      have t3 := tab_get (n := 36) f (i := k * 4 + 3) (by omega)
      go_wp2_with (first | (refine wp_region_ext (by kernel_rfl) (by kernel_rfl) ?_; (repeat (go_big_quiet_step (((go_at_call 39; first | exact ext_call (eqIntA4_any ⟨f (k * 4), f (k * 4 + 1), f (k * 4 + 2), f (k * 4 + 3)⟩ ⟨f (k * 4), f (k * 4 + 1), f (k * 4 + 2), f (k * 4 + 3)⟩ _) | exact ext_call2 (eqIntA4_any ⟨f (k * 4), f (k * 4 + 1), f (k * 4 + 2), f (k * 4 + 3)⟩ ⟨f (k * 4), f (k * 4 + 1), f (k * 4 + 2), f (k * 4 + 3)⟩ _)))))); refine wpQuiet_end fun z => ?_))
      go_roundw
      case rel => exact ⟨k + 1, hlt, by go_num, (by (try simp only [ext_ext]); repeat (first | exact Kept.refl _ | apply Kept.alloc | apply Kept.drew | apply kept_add | apply Kept.ext))⟩
      case measure => simp [intOf]; omega
    · obtain rfl : k = 9 := by omega
      go_wp2
      go_ret
      exact ⟨rfl, (by (try simp only [ext_ext]); repeat (first | exact Kept.refl _ | apply Kept.alloc | apply Kept.drew | apply kept_add | apply Kept.ext))⟩
/-- A square stored in the middle of a region: the world goes on with no more known than that. -/
theorem upon_sq_store {o : Oper} {a : Act} {K : Act → World → Prop} {Q : Exit → Act → World → Prop} (W3 : World) {W : World} {g : Nat} {cur : Array Value} {f : Nat → Int} (hh : W.heap[g]? = some (.cells cur 23)) (hk : Kept W3 W) (hge : W3.heap.size ≤ g) (hc : cur.size = 36)
    (h : ∀ W', Kept W3 W' → W'.heap[g]? = some (.cells (tab 36 f) 23) → K (a.put o.dst undef) W') :
    Oper.upon Try.prog o a K Q (((storeCells ⟨g, 0, none⟩ (tab 36 f).toList).run Try.prog W).andThen fun _ w' => .ok .skip w') := by
  have hall : ∀ v ∈ (tab 36 f).toList, v.oneCell' = true := fun v hv => by
    have := tab_one 36 f
    rw [Array.all_eq_true_iff_forall_mem] at this
    exact this v (by simpa using hv)
  have hr := run_storeCells_from (P := Try.prog) g 23 (tab 36 f).toList 0 cur W hh (by simp [tab_size, hc]) hall
  rw [hr]
  have e : (cur.toList.take 0 ++ (tab 36 f).toList).toArray = tab 36 f := by simp
  rw [e]
  exact h _ (Kept.setRow hk hge _) (setRow_heap _ _ cur _ _ (0, 0) hh)
theorem setCells_row {W : World} {g : Nat} {cur A : Array Value} (hh : W.heap[g]? = some (.cells cur 23)) (hc : cur.size = A.toList.length) (h1 : ∀ v ∈ A.toList, v.oneCell' = true) : W.setCells g 0 A.toList = W.setRow g A := by
  have r1 := run_storeCells_from (P := Try.prog) g 23 A.toList 0 cur W hh (by omega) h1
  have hcell : ∀ j, W.cell? ⟨g, j, none⟩ = cur[j]? := fun j => cell_of_row W g j cur 23 (0, 0) hh
  have r2 := run_storeCells_cells (P := Try.prog) g 0 A.toList 0 W (fun j hj => by rw [hcell]; simp; omega) (fun j hj => frozen_of_row W g _ cur 23 hh) h1
  have r3 := r1.symm.trans r2
  have e : (cur.toList.take 0 ++ A.toList).toArray = A := by simp
  rw [e] at r3
  have r4 := Result.ok.inj r3
  exact r4.2.symm
theorem there_new (W : World) (g : Nat) (h : g = W.heap.size) : (W.alloc (.cells #[.int .i64 0, .int .i64 0, .int .i64 0, .int .i64 0, .int .i64 0, .int .i64 0, .int .i64 0, .int .i64 0, .int .i64 0, .int .i64 0, .int .i64 0, .int .i64 0, .int .i64 0, .int .i64 0, .int .i64 0, .int .i64 0, .int .i64 0, .int .i64 0, .int .i64 0, .int .i64 0, .int .i64 0, .int .i64 0, .int .i64 0, .int .i64 0, .int .i64 0, .int .i64 0, .int .i64 0, .int .i64 0, .int .i64 0, .int .i64 0, .int .i64 0, .int .i64 0, .int .i64 0, .int .i64 0, .int .i64 0, .int .i64 0] 23)).there g 0 36 := fun j hj => by
  have hh := heap_at (o := .cells #[.int .i64 0, .int .i64 0, .int .i64 0, .int .i64 0, .int .i64 0, .int .i64 0, .int .i64 0, .int .i64 0, .int .i64 0, .int .i64 0, .int .i64 0, .int .i64 0, .int .i64 0, .int .i64 0, .int .i64 0, .int .i64 0, .int .i64 0, .int .i64 0, .int .i64 0, .int .i64 0, .int .i64 0, .int .i64 0, .int .i64 0, .int .i64 0, .int .i64 0, .int .i64 0, .int .i64 0, .int .i64 0, .int .i64 0, .int .i64 0, .int .i64 0, .int .i64 0, .int .i64 0, .int .i64 0, .int .i64 0, .int .i64 0] 23) h
  refine ⟨?_, frozen_of_row _ g _ _ 23 hh⟩
  rw [cell_of_row _ g _ _ 23 (0, 0) hh]
  simp
  omega
theorem there_ext (W : World) (u : More) (g : Nat) (h : W.there g 0 36) : (ext W u).there g 0 36 := fun j hj => by
  obtain ⟨h1, h2⟩ := h j hj
  obtain ⟨v, hv⟩ := Option.isSome_iff_exists.1 h1
  have hlt : g < W.heap.size := World.block_lt_of_cell? W _ hv
  rw [ext_cell _ _ _ _ hlt, ext_frozen _ _ _ _ hlt]
  exact ⟨h1, h2⟩
theorem kept_setCells {W W3 : World} {g : Nat} (hk : Kept W3 W) (hg : W3.heap.size ≤ g) : ∀ (vs : List Value) (o : Nat), Kept W3 (W.setCells g o vs) := fun vs => by
  induction vs generalizing W with
  | nil => intro o; exact hk
  | cons v r ih => intro o; exact ih (kept_setOwn hk hg) (o + 1)
theorem setCells_heap {W : World} {g : Nat} {cur A : Array Value} (hh : W.heap[g]? = some (.cells cur 23)) (hc : cur.size = A.toList.length) (h1 : ∀ v ∈ A.toList, v.oneCell' = true) : (W.setCells g 0 A.toList).heap[g]? = some (.cells A 23) := by
  rw [setCells_row hh hc h1]
  exact setRow_heap _ _ cur _ _ (0, 0) hh
theorem twoMagicSquare (x y z : Card) : ∃ (A : Array Value) (ok : Bool), (∀ w, Calls Try.prog 9 #[x.v, y.v, z.v] w fun e w' => e = .returned (.tuple #[.agg A, .bool ok]) ∧ Kept w w') ∧ (∀ w, Calls Try.prog 11 #[x.v, y.v, z.v] w fun e w' => e = .returned (.tuple #[.agg A, .bool ok]) ∧ Kept w w') ∧
    (∀ w, Calls Try.prog 12 #[.agg A, .agg A] w fun e w' => e = .returned (.bool true) ∧ Kept w w') ∧ A.size = 36 ∧ ∀ v ∈ A.toList, v.oneCell' = true := by
  have hall : ∀ f, ∀ v ∈ (tab 36 f).toList, v.oneCell' = true := fun f v hv => by
    have := tab_one 36 f
    rw [Array.all_eq_true_iff_forall_mem] at this
    exact this v (by simpa using hv)
  cases h : planeC x y z
  · exact ⟨tab 36 fun _ => 0, false, fun w => sMagicSquare_no x y z h w, fun w => iMagicSquare_no x y z h w, fun w => eqSq_any _ w, tab_size _ _, hall _⟩
  · exact ⟨tab 36 (sqF x y z 36), true, fun w => sMagicSquare_yes x y z h w, fun w => iMagicSquare_yes x y z h w, fun w => eqSq_any _ w, tab_size _ _, hall _⟩
set_option maxHeartbeats 8000000 in
set_option maxRecDepth 20000 in
theorem walk_FnExactMagicSquare (x yy zz : Card) (w : World) : Calls Try.prog 3 #[x.v, yy.v, zz.v] w fun e w' => e = .returned (.bool true) ∧ Kept w w' := by
  obtain ⟨A, ok, hS, hI, hE, hA, hA1⟩ := twoMagicSquare x yy zz
  have hu := Try.underlying23
  have hAl : A.toList.length = 36 := by simpa using hA
  have hi : (Try.prog.info? 23).map (·.size) = some A.toList.length := by rw [hAl]; exact sq_info
  have hS3 := hid (fun (w' : World) (hk : Kept (((w.alloc (.cells #[.int .i64 x.a, .int .i64 x.b, .int .i64 x.c, .int .i64 x.d] 22)).alloc (.cells #[.int .i64 yy.a, .int .i64 yy.b, .int .i64 yy.c, .int .i64 yy.d] 22)).alloc (.cells #[.int .i64 zz.a, .int .i64 zz.b, .int .i64 zz.c, .int .i64 zz.d] 22)) w') => show w'.cell? ⟨w.heap.size, 0, none⟩ = some (.int .i64 x.a) ∧ w'.cell? ⟨w.heap.size, 1, none⟩ = some (.int .i64 x.b) ∧ w'.cell? ⟨w.heap.size, 2, none⟩ = some (.int .i64 x.c) ∧ w'.cell? ⟨w.heap.size, 3, none⟩ = some (.int .i64 x.d) ∧ w'.cell? ⟨w.heap.size + 1, 0, none⟩ = some (.int .i64 yy.a) ∧ w'.cell? ⟨w.heap.size + 1, 1, none⟩ = some (.int .i64 yy.b) ∧ w'.cell? ⟨w.heap.size + 1, 2, none⟩ = some (.int .i64 yy.c) ∧ w'.cell? ⟨w.heap.size + 1, 3, none⟩ = some (.int .i64 yy.d) ∧ w'.cell? ⟨w.heap.size + 1 + 1, 0, none⟩ = some (.int .i64 zz.a) ∧ w'.cell? ⟨w.heap.size + 1 + 1, 1, none⟩ = some (.int .i64 zz.b) ∧ w'.cell? ⟨w.heap.size + 1 + 1, 2, none⟩ = some (.int .i64 zz.c) ∧ w'.cell? ⟨w.heap.size + 1 + 1, 3, none⟩ = some (.int .i64 zz.d) from by obtain ⟨u, rfl⟩ := hk; simp [go_sem])
  have q1 := there_new
  have q2 := there_ext
  have q3 := fun (W : World) (u : More) => (show (ext W u).heap.size = W.heap.size + u.os.length by simp)
  have q4 := fun (W : World) (o : Obj) => (show (W.alloc o).heap.size = W.heap.size + 1 by simp)
  go_enter Try.func3, Try.ntmps3
  go_upto_region 1 with (fail)
  go_cut [7, 8] from 11 (fun s7 s8 wx => ∃ g, s7 = .pointer (some ⟨g, 0, none⟩) ∧ s8 = .bool ok ∧ Kept (((w.alloc (.cells #[.int .i64 x.a, .int .i64 x.b, .int .i64 x.c, .int .i64 x.d] 22)).alloc (.cells #[.int .i64 yy.a, .int .i64 yy.b, .int .i64 yy.c, .int .i64 yy.d] 22)).alloc (.cells #[.int .i64 zz.a, .int .i64 zz.b, .int .i64 zz.c, .int .i64 zz.d] 22)) wx ∧ w.heap.size + 3 ≤ g ∧ wx.heap[g]? = some (.cells A 23))
  case first =>
    go_region_held (fun w' => w'.cell? ⟨w.heap.size, 0, none⟩ = some (.int .i64 x.a) ∧ w'.cell? ⟨w.heap.size, 1, none⟩ = some (.int .i64 x.b) ∧ w'.cell? ⟨w.heap.size, 2, none⟩ = some (.int .i64 x.c) ∧ w'.cell? ⟨w.heap.size, 3, none⟩ = some (.int .i64 x.d) ∧ w'.cell? ⟨w.heap.size + 1, 0, none⟩ = some (.int .i64 yy.a) ∧ w'.cell? ⟨w.heap.size + 1, 1, none⟩ = some (.int .i64 yy.b) ∧ w'.cell? ⟨w.heap.size + 1, 2, none⟩ = some (.int .i64 yy.c) ∧ w'.cell? ⟨w.heap.size + 1, 3, none⟩ = some (.int .i64 yy.d) ∧ w'.cell? ⟨w.heap.size + 1 + 1, 0, none⟩ = some (.int .i64 zz.a) ∧ w'.cell? ⟨w.heap.size + 1 + 1, 1, none⟩ = some (.int .i64 zz.b) ∧ w'.cell? ⟨w.heap.size + 1 + 1, 2, none⟩ = some (.int .i64 zz.c) ∧ w'.cell? ⟨w.heap.size + 1 + 1, 3, none⟩ = some (.int .i64 zz.d))
      (exact hS3.out _ (by (try simp only [ext_ext]); repeat (first | assumption | exact Kept.refl _ | apply Kept.alloc | apply Kept.drew | apply kept_add | apply Kept.ext | refine kept_setCells ?_ (by simp <;> omega) _ _)))
      (first | (go_at_call 10; refine Calls.mono (toIntA4_any _ _) ?_; rintro e w' ⟨rfl, y, rfl⟩) | (go_at_call 9; refine Calls.mono (hS _) ?_; rintro e w' ⟨rfl, y, rfl⟩))
    all_goals go_wp2_with (fail)
    all_goals go_meet
    all_goals refine ⟨_, rfl, rfl, (by (try simp only [ext_ext]); repeat (first | assumption | exact Kept.refl _ | apply Kept.alloc | apply Kept.drew | apply kept_add | apply Kept.ext | refine kept_setCells ?_ (by simp <;> omega) _ _)), by simp <;> omega, ?_⟩
    all_goals first | exact setCells_heap (heap_at (by simp)) (by rw [hAl]; rfl) hA1 | exact setCells_heap ((ext_heap _ _ _ (by simp)).trans (heap_at (by simp))) (by rw [hAl]; rfl) hA1
  case rest =>
    obtain ⟨g, rfl, rfl, k1, hg, hh⟩ := hcut
    have hS3b := hid (fun w' (hk : Kept wc w') => hS3.out w' (k1.trans hk))
    go_upto_region 2 with (fail)
    go_cut [9, 10] from 11 (fun s9 s10 wx => ∃ g2, s9 = .pointer (some ⟨g2, 0, none⟩) ∧ s10 = .bool ok ∧ Kept wc wx ∧ wc.heap.size ≤ g2 ∧ wx.heap[g2]? = some (.cells A 23))
    case first =>
      go_region_held (fun w' => w'.cell? ⟨w.heap.size, 0, none⟩ = some (.int .i64 x.a) ∧ w'.cell? ⟨w.heap.size, 1, none⟩ = some (.int .i64 x.b) ∧ w'.cell? ⟨w.heap.size, 2, none⟩ = some (.int .i64 x.c) ∧ w'.cell? ⟨w.heap.size, 3, none⟩ = some (.int .i64 x.d) ∧ w'.cell? ⟨w.heap.size + 1, 0, none⟩ = some (.int .i64 yy.a) ∧ w'.cell? ⟨w.heap.size + 1, 1, none⟩ = some (.int .i64 yy.b) ∧ w'.cell? ⟨w.heap.size + 1, 2, none⟩ = some (.int .i64 yy.c) ∧ w'.cell? ⟨w.heap.size + 1, 3, none⟩ = some (.int .i64 yy.d) ∧ w'.cell? ⟨w.heap.size + 1 + 1, 0, none⟩ = some (.int .i64 zz.a) ∧ w'.cell? ⟨w.heap.size + 1 + 1, 1, none⟩ = some (.int .i64 zz.b) ∧ w'.cell? ⟨w.heap.size + 1 + 1, 2, none⟩ = some (.int .i64 zz.c) ∧ w'.cell? ⟨w.heap.size + 1 + 1, 3, none⟩ = some (.int .i64 zz.d))
        (exact hS3b.out _ (by (try simp only [ext_ext]); repeat (first | assumption | exact Kept.refl _ | apply Kept.alloc | apply Kept.drew | apply kept_add | apply Kept.ext | refine kept_setCells ?_ (by simp <;> omega) _ _)))
        (first | (go_at_call 10; refine Calls.mono (toIntA4_any _ _) ?_; rintro e w' ⟨rfl, y, rfl⟩) | (go_at_call 11; refine Calls.mono (hI _) ?_; rintro e w' ⟨rfl, y, rfl⟩))
      all_goals go_wp2_with (fail)
      all_goals go_meet
      all_goals refine ⟨_, rfl, rfl, (by (try simp only [ext_ext]); repeat (first | assumption | exact Kept.refl _ | apply Kept.alloc | apply Kept.drew | apply kept_add | apply Kept.ext | refine kept_setCells ?_ (by simp <;> omega) _ _)), by simp <;> omega, ?_⟩
      all_goals first | exact setCells_heap (heap_at (by simp)) (by rw [hAl]; rfl) hA1 | exact setCells_heap ((ext_heap _ _ _ (by simp)).trans (heap_at (by simp))) (by rw [hAl]; rfl) hA1
    case rest =>
      obtain ⟨g2, rfl, rfl, k2, hg2, hh2⟩ := hcut
      have hh1 := (k2.below.block g (Array.getElem?_eq_some_iff.1 hh).1).trans hh
      have kw := Kept.trans (show Kept w _ from (by (try simp only [ext_ext]); repeat (first | exact Kept.refl _ | apply Kept.alloc | apply Kept.drew | apply kept_add | apply Kept.ext))) (k1.trans k2)
      have hiA : (Try.prog.info? 23).map (·.size) = some A.size := by rw [hA]; exact sq_info
      go_wp2_with (first | (refine wpList_load_row rfl 23 _ rfl g2 rfl 23 A (0, 0) _ hh2 hu rfl hiA ?_) | (refine wpList_load_row rfl 23 _ rfl g rfl 23 A (0, 0) _ hh1 hu rfl hiA ?_) | (go_at_call 12; refine Calls.mono (hE _) ?_; rintro e w' ⟨rfl, y, rfl⟩))
      go_ret
      exact ⟨rfl, kw.trans (by (try simp only [ext_ext]); repeat (first | exact Kept.refl _ | apply Kept.alloc | apply Kept.drew | apply kept_add | apply Kept.ext))⟩
end Go.Proofs.Ytopfdfdgfhnbeaa
