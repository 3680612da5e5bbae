/- Walk: the law of MiddlesOf. -/
import Derived.Test.YtenmnipgnjaheaaT85
import Derived.Test.YtenmnipgnjaheaaT28
import Derived.Test.YtenmnipgnjaheaaT18
import Derived.Deep.CutRange
import Derived.Deep.RegionHeld
import Derived.Test.YtenmnipgnjaheaaB2
import Derived.Test.YtenmnipgnjaheaaC1
namespace Go.Proofs.Ytenmnipgnjaheaa
open Go.RowKit
set_option maxHeartbeats 8000000 in
set_option maxRecDepth 20000 in
theorem walk_FnExactMiddlesOf (x0 x1 x2 x3 : Card) (w : World) : Calls Try.prog 6 #[x0.v, x1.v, x2.v, x3.v] w fun e w' => e = .returned (.bool true) ∧ Kept w w' := by
  obtain ⟨ok, ls, hS, hI, hll⟩ := twoMiddlesOf x0 x1 x2 x3
  have hC : ∀ w', Kept ((((w.alloc (.cells #[.int .i64 x0.a, .int .i64 x0.b, .int .i64 x0.c, .int .i64 x0.d] 48)).alloc (.cells #[.int .i64 x1.a, .int .i64 x1.b, .int .i64 x1.c, .int .i64 x1.d] 48)).alloc (.cells #[.int .i64 x2.a, .int .i64 x2.b, .int .i64 x2.c, .int .i64 x2.d] 48)).alloc (.cells #[.int .i64 x3.a, .int .i64 x3.b, .int .i64 x3.c, .int .i64 x3.d] 48)) w' → w'.cell? ⟨w.heap.size, 0, none⟩ = some (.int .i64 x0.a) ∧ w'.cell? ⟨w.heap.size, 1, none⟩ = some (.int .i64 x0.b) ∧ w'.cell? ⟨w.heap.size, 2, none⟩ = some (.int .i64 x0.c) ∧ w'.cell? ⟨w.heap.size, 3, none⟩ = some (.int .i64 x0.d) ∧ w'.cell? ⟨w.heap.size + 1, 0, none⟩ = some (.int .i64 x1.a) ∧ w'.cell? ⟨w.heap.size + 1, 1, none⟩ = some (.int .i64 x1.b) ∧ w'.cell? ⟨w.heap.size + 1, 2, none⟩ = some (.int .i64 x1.c) ∧ w'.cell? ⟨w.heap.size + 1, 3, none⟩ = some (.int .i64 x1.d) ∧ w'.cell? ⟨w.heap.size + 1 + 1, 0, none⟩ = some (.int .i64 x2.a) ∧ w'.cell? ⟨w.heap.size + 1 + 1, 1, none⟩ = some (.int .i64 x2.b) ∧ w'.cell? ⟨w.heap.size + 1 + 1, 2, none⟩ = some (.int .i64 x2.c) ∧ w'.cell? ⟨w.heap.size + 1 + 1, 3, none⟩ = some (.int .i64 x2.d) ∧ w'.cell? ⟨w.heap.size + 1 + 1 + 1, 0, none⟩ = some (.int .i64 x3.a) ∧ w'.cell? ⟨w.heap.size + 1 + 1 + 1, 1, none⟩ = some (.int .i64 x3.b) ∧ w'.cell? ⟨w.heap.size + 1 + 1 + 1, 2, none⟩ = some (.int .i64 x3.c) ∧ w'.cell? ⟨w.heap.size + 1 + 1 + 1, 3, none⟩ = some (.int .i64 x3.d) ∧ w.heap.size < w'.heap.size ∧ w.heap.size + 1 < w'.heap.size ∧ w.heap.size + 1 + 1 < w'.heap.size ∧ w.heap.size + 1 + 1 + 1 < w'.heap.size := fun w' hk => by
    have hb := hk.below
    have hs : w.heap.size + 1 + 1 + 1 + 1 ≤ w'.heap.size := by have := hb.size; simpa using this
    obtain ⟨a0, b0, c0, d0⟩ := ckX (w := (w.alloc (.cells #[.int .i64 x0.a, .int .i64 x0.b, .int .i64 x0.c, .int .i64 x0.d] 48))) (g := w.heap.size) (o := 0) (cardCells_new x0 (by simp)) (by simp) (show Kept (w.alloc (.cells #[.int .i64 x0.a, .int .i64 x0.b, .int .i64 x0.c, .int .i64 x0.d] 48)) w' from ((((Kept.refl _).alloc _).alloc _).alloc _).trans hk)
    obtain ⟨a1, b1, c1, d1⟩ := ckX (w := ((w.alloc (.cells #[.int .i64 x0.a, .int .i64 x0.b, .int .i64 x0.c, .int .i64 x0.d] 48)).alloc (.cells #[.int .i64 x1.a, .int .i64 x1.b, .int .i64 x1.c, .int .i64 x1.d] 48))) (g := w.heap.size + 1) (o := 0) (cardCells_new x1 (by simp)) (by simp) (show Kept ((w.alloc (.cells #[.int .i64 x0.a, .int .i64 x0.b, .int .i64 x0.c, .int .i64 x0.d] 48)).alloc (.cells #[.int .i64 x1.a, .int .i64 x1.b, .int .i64 x1.c, .int .i64 x1.d] 48)) w' from (((Kept.refl _).alloc _).alloc _).trans hk)
    obtain ⟨a2, b2, c2, d2⟩ := ckX (w := (((w.alloc (.cells #[.int .i64 x0.a, .int .i64 x0.b, .int .i64 x0.c, .int .i64 x0.d] 48)).alloc (.cells #[.int .i64 x1.a, .int .i64 x1.b, .int .i64 x1.c, .int .i64 x1.d] 48)).alloc (.cells #[.int .i64 x2.a, .int .i64 x2.b, .int .i64 x2.c, .int .i64 x2.d] 48))) (g := w.heap.size + 1 + 1) (o := 0) (cardCells_new x2 (by simp)) (by simp) (show Kept (((w.alloc (.cells #[.int .i64 x0.a, .int .i64 x0.b, .int .i64 x0.c, .int .i64 x0.d] 48)).alloc (.cells #[.int .i64 x1.a, .int .i64 x1.b, .int .i64 x1.c, .int .i64 x1.d] 48)).alloc (.cells #[.int .i64 x2.a, .int .i64 x2.b, .int .i64 x2.c, .int .i64 x2.d] 48)) w' from ((Kept.refl _).alloc _).trans hk)
    obtain ⟨a3, b3, c3, d3⟩ := ckX (w := ((((w.alloc (.cells #[.int .i64 x0.a, .int .i64 x0.b, .int .i64 x0.c, .int .i64 x0.d] 48)).alloc (.cells #[.int .i64 x1.a, .int .i64 x1.b, .int .i64 x1.c, .int .i64 x1.d] 48)).alloc (.cells #[.int .i64 x2.a, .int .i64 x2.b, .int .i64 x2.c, .int .i64 x2.d] 48)).alloc (.cells #[.int .i64 x3.a, .int .i64 x3.b, .int .i64 x3.c, .int .i64 x3.d] 48))) (g := w.heap.size + 1 + 1 + 1) (o := 0) (cardCells_new x3 (by simp)) (by simp) (show Kept ((((w.alloc (.cells #[.int .i64 x0.a, .int .i64 x0.b, .int .i64 x0.c, .int .i64 x0.d] 48)).alloc (.cells #[.int .i64 x1.a, .int .i64 x1.b, .int .i64 x1.c, .int .i64 x1.d] 48)).alloc (.cells #[.int .i64 x2.a, .int .i64 x2.b, .int .i64 x2.c, .int .i64 x2.d] 48)).alloc (.cells #[.int .i64 x3.a, .int .i64 x3.b, .int .i64 x3.c, .int .i64 x3.d] 48)) w' from (Kept.refl _).trans hk)
    exact ⟨a0, b0, c0, d0, a1, b1, c1, d1, a2, b2, c2, d2, a3, b3, c3, d3, by omega, by omega, by omega, by omega⟩
  have hCH := hid hC
  have hSH := hid (show ∀ w', Kept ((((w.alloc (.cells #[.int .i64 x0.a, .int .i64 x0.b, .int .i64 x0.c, .int .i64 x0.d] 48)).alloc (.cells #[.int .i64 x1.a, .int .i64 x1.b, .int .i64 x1.c, .int .i64 x1.d] 48)).alloc (.cells #[.int .i64 x2.a, .int .i64 x2.b, .int .i64 x2.c, .int .i64 x2.d] 48)).alloc (.cells #[.int .i64 x3.a, .int .i64 x3.b, .int .i64 x3.c, .int .i64 x3.d] 48)) w' → w'.cell? ⟨w.heap.size, 0, none⟩ = some (.int .i64 x0.a) ∧ w'.cell? ⟨w.heap.size, 1, none⟩ = some (.int .i64 x0.b) ∧ w'.cell? ⟨w.heap.size, 2, none⟩ = some (.int .i64 x0.c) ∧ w'.cell? ⟨w.heap.size, 3, none⟩ = some (.int .i64 x0.d) ∧ w'.cell? ⟨w.heap.size + 1, 0, none⟩ = some (.int .i64 x1.a) ∧ w'.cell? ⟨w.heap.size + 1, 1, none⟩ = some (.int .i64 x1.b) ∧ w'.cell? ⟨w.heap.size + 1, 2, none⟩ = some (.int .i64 x1.c) ∧ w'.cell? ⟨w.heap.size + 1, 3, none⟩ = some (.int .i64 x1.d) ∧ w'.cell? ⟨w.heap.size + 1 + 1, 0, none⟩ = some (.int .i64 x2.a) ∧ w'.cell? ⟨w.heap.size + 1 + 1, 1, none⟩ = some (.int .i64 x2.b) ∧ w'.cell? ⟨w.heap.size + 1 + 1, 2, none⟩ = some (.int .i64 x2.c) ∧ w'.cell? ⟨w.heap.size + 1 + 1, 3, none⟩ = some (.int .i64 x2.d) ∧ w'.cell? ⟨w.heap.size + 1 + 1 + 1, 0, none⟩ = some (.int .i64 x3.a) ∧ w'.cell? ⟨w.heap.size + 1 + 1 + 1, 1, none⟩ = some (.int .i64 x3.b) ∧ w'.cell? ⟨w.heap.size + 1 + 1 + 1, 2, none⟩ = some (.int .i64 x3.c) ∧ w'.cell? ⟨w.heap.size + 1 + 1 + 1, 3, none⟩ = some (.int .i64 x3.d) from fun w' hk => by
    obtain ⟨t0, t1, t2, t3, t4, t5, t6, t7, t8, t9, t10, t11, t12, t13, t14, t15, t16, t17, t18, t19⟩ := hC w' hk
    exact ⟨t0, t1, t2, t3, t4, t5, t6, t7, t8, t9, t10, t11, t12, t13, t14, t15⟩)
  have KB := hid (Kept.refl ((((w.alloc (.cells #[.int .i64 x0.a, .int .i64 x0.b, .int .i64 x0.c, .int .i64 x0.d] 48)).alloc (.cells #[.int .i64 x1.a, .int .i64 x1.b, .int .i64 x1.c, .int .i64 x1.d] 48)).alloc (.cells #[.int .i64 x2.a, .int .i64 x2.b, .int .i64 x2.c, .int .i64 x2.d] 48)).alloc (.cells #[.int .i64 x3.a, .int .i64 x3.b, .int .i64 x3.c, .int .i64 x3.d] 48)))
  have p2 : ¬ ((1 : Int) + (ls.length : Int) * 4 < 0) := by omega
  clear hC
  go_enter Try.func6, Try.ntmps6
  go_upto_region 1 with (fail)
  go_cut [9, 10] from 17 (fun u1 u2 wx => u2 = .bool ok ∧ OwnC ((((w.alloc (.cells #[.int .i64 x0.a, .int .i64 x0.b, .int .i64 x0.c, .int .i64 x0.d] 48)).alloc (.cells #[.int .i64 x1.a, .int .i64 x1.b, .int .i64 x1.c, .int .i64 x1.d] 48)).alloc (.cells #[.int .i64 x2.a, .int .i64 x2.b, .int .i64 x2.c, .int .i64 x2.d] 48)).alloc (.cells #[.int .i64 x3.a, .int .i64 x3.b, .int .i64 x3.c, .int .i64 x3.d] 48)).heap.size wx u1 ls ∧ Kept ((((w.alloc (.cells #[.int .i64 x0.a, .int .i64 x0.b, .int .i64 x0.c, .int .i64 x0.d] 48)).alloc (.cells #[.int .i64 x1.a, .int .i64 x1.b, .int .i64 x1.c, .int .i64 x1.d] 48)).alloc (.cells #[.int .i64 x2.a, .int .i64 x2.b, .int .i64 x2.c, .int .i64 x2.d] 48)).alloc (.cells #[.int .i64 x3.a, .int .i64 x3.b, .int .i64 x3.c, .int .i64 x3.d] 48)) wx)
  case first =>
    go_region_held (fun w' => w'.cell? ⟨w.heap.size, 0, none⟩ = some (.int .i64 x0.a) ∧ w'.cell? ⟨w.heap.size, 1, none⟩ = some (.int .i64 x0.b) ∧ w'.cell? ⟨w.heap.size, 2, none⟩ = some (.int .i64 x0.c) ∧ w'.cell? ⟨w.heap.size, 3, none⟩ = some (.int .i64 x0.d) ∧ w'.cell? ⟨w.heap.size + 1, 0, none⟩ = some (.int .i64 x1.a) ∧ w'.cell? ⟨w.heap.size + 1, 1, none⟩ = some (.int .i64 x1.b) ∧ w'.cell? ⟨w.heap.size + 1, 2, none⟩ = some (.int .i64 x1.c) ∧ w'.cell? ⟨w.heap.size + 1, 3, none⟩ = some (.int .i64 x1.d) ∧ w'.cell? ⟨w.heap.size + 1 + 1, 0, none⟩ = some (.int .i64 x2.a) ∧ w'.cell? ⟨w.heap.size + 1 + 1, 1, none⟩ = some (.int .i64 x2.b) ∧ w'.cell? ⟨w.heap.size + 1 + 1, 2, none⟩ = some (.int .i64 x2.c) ∧ w'.cell? ⟨w.heap.size + 1 + 1, 3, none⟩ = some (.int .i64 x2.d) ∧ w'.cell? ⟨w.heap.size + 1 + 1 + 1, 0, none⟩ = some (.int .i64 x3.a) ∧ w'.cell? ⟨w.heap.size + 1 + 1 + 1, 1, none⟩ = some (.int .i64 x3.b) ∧ w'.cell? ⟨w.heap.size + 1 + 1 + 1, 2, none⟩ = some (.int .i64 x3.c) ∧ w'.cell? ⟨w.heap.size + 1 + 1 + 1, 3, none⟩ = some (.int .i64 x3.d))
      (exact hSH.out _ (KB.out.trans (by (try simp only [ext_ext]); repeat (first | assumption | exact Kept.refl _ | apply Kept.alloc | apply Kept.drew | apply kept_add | apply Kept.ext))))
      (first | (go_at_call 26; refine Calls.mono (toIntA4_any _ _) ?_; rintro e w' ⟨rfl, y, rfl⟩) | (go_at_call 25; refine Calls.mono (hS _) ?_; rintro e w9 ⟨v9, rfl, ho9, k9⟩; have ho9' := ho9.mono (show ((((w.alloc (.cells #[.int .i64 x0.a, .int .i64 x0.b, .int .i64 x0.c, .int .i64 x0.d] 48)).alloc (.cells #[.int .i64 x1.a, .int .i64 x1.b, .int .i64 x1.c, .int .i64 x1.d] 48)).alloc (.cells #[.int .i64 x2.a, .int .i64 x2.b, .int .i64 x2.c, .int .i64 x2.d] 48)).alloc (.cells #[.int .i64 x3.a, .int .i64 x3.b, .int .i64 x3.c, .int .i64 x3.d] 48)).heap.size ≤ _ from (Kept.below (show Kept ((((w.alloc (.cells #[.int .i64 x0.a, .int .i64 x0.b, .int .i64 x0.c, .int .i64 x0.d] 48)).alloc (.cells #[.int .i64 x1.a, .int .i64 x1.b, .int .i64 x1.c, .int .i64 x1.d] 48)).alloc (.cells #[.int .i64 x2.a, .int .i64 x2.b, .int .i64 x2.c, .int .i64 x2.d] 48)).alloc (.cells #[.int .i64 x3.a, .int .i64 x3.b, .int .i64 x3.c, .int .i64 x3.d] 48)) _ from (by (try simp only [ext_ext]); repeat (first | assumption | exact Kept.refl _ | apply Kept.alloc | apply Kept.drew | apply kept_add | apply Kept.ext)))).size); have K9 := Kept.trans (show Kept ((((w.alloc (.cells #[.int .i64 x0.a, .int .i64 x0.b, .int .i64 x0.c, .int .i64 x0.d] 48)).alloc (.cells #[.int .i64 x1.a, .int .i64 x1.b, .int .i64 x1.c, .int .i64 x1.d] 48)).alloc (.cells #[.int .i64 x2.a, .int .i64 x2.b, .int .i64 x2.c, .int .i64 x2.d] 48)).alloc (.cells #[.int .i64 x3.a, .int .i64 x3.b, .int .i64 x3.c, .int .i64 x3.d] 48)) _ from (by (try simp only [ext_ext]); repeat (first | assumption | exact Kept.refl _ | apply Kept.alloc | apply Kept.drew | apply kept_add | apply Kept.ext))) k9))
    all_goals go_wp2_with (fail)
    all_goals go_meet
    all_goals exact ⟨rfl, ho9'.kept (by (try simp only [ext_ext]); repeat (first | assumption | exact Kept.refl _ | apply Kept.alloc | apply Kept.drew | apply kept_add | apply Kept.ext)), K9.trans (by (try simp only [ext_ext]); repeat (first | assumption | exact Kept.refl _ | apply Kept.alloc | apply Kept.drew | apply kept_add | apply Kept.ext))⟩
  obtain ⟨rfl, ho2, K2⟩ := hcut
  obtain ⟨v2, hv2⟩ : ∃ v2, v2 = u9 := ⟨_, rfl⟩
  subst hv2
  obtain ⟨w2, hw2⟩ : ∃ w2, w2 = wc := ⟨_, rfl⟩
  subst hw2
  obtain ⟨q0, q1, q2, q3, q4, q5, q6, q7, q8, q9, q10, q11, q12, q13, q14, q15, q16, q17, q18, q19⟩ := hCH.out _ K2
  have hzz : w.heap.size + 1 + 1 + 1 + 1 ≤ w2.heap.size := by have := K2.below.size; simpa using this
  clear KB
  have KB := hid K2
  go_upto_region 2 with (fail)
  go_cut [11, 12] from 29 (fun u1 u2 wx => u2 = .bool ok ∧ OwnC w2.heap.size wx u1 ls ∧ Kept w2 wx)
  case first =>
    go_region_held (fun w' => w'.cell? ⟨w.heap.size, 0, none⟩ = some (.int .i64 x0.a) ∧ w'.cell? ⟨w.heap.size, 1, none⟩ = some (.int .i64 x0.b) ∧ w'.cell? ⟨w.heap.size, 2, none⟩ = some (.int .i64 x0.c) ∧ w'.cell? ⟨w.heap.size, 3, none⟩ = some (.int .i64 x0.d) ∧ w'.cell? ⟨w.heap.size + 1, 0, none⟩ = some (.int .i64 x1.a) ∧ w'.cell? ⟨w.heap.size + 1, 1, none⟩ = some (.int .i64 x1.b) ∧ w'.cell? ⟨w.heap.size + 1, 2, none⟩ = some (.int .i64 x1.c) ∧ w'.cell? ⟨w.heap.size + 1, 3, none⟩ = some (.int .i64 x1.d) ∧ w'.cell? ⟨w.heap.size + 1 + 1, 0, none⟩ = some (.int .i64 x2.a) ∧ w'.cell? ⟨w.heap.size + 1 + 1, 1, none⟩ = some (.int .i64 x2.b) ∧ w'.cell? ⟨w.heap.size + 1 + 1, 2, none⟩ = some (.int .i64 x2.c) ∧ w'.cell? ⟨w.heap.size + 1 + 1, 3, none⟩ = some (.int .i64 x2.d) ∧ w'.cell? ⟨w.heap.size + 1 + 1 + 1, 0, none⟩ = some (.int .i64 x3.a) ∧ w'.cell? ⟨w.heap.size + 1 + 1 + 1, 1, none⟩ = some (.int .i64 x3.b) ∧ w'.cell? ⟨w.heap.size + 1 + 1 + 1, 2, none⟩ = some (.int .i64 x3.c) ∧ w'.cell? ⟨w.heap.size + 1 + 1 + 1, 3, none⟩ = some (.int .i64 x3.d))
      (exact hSH.out _ (KB.out.trans (by (try simp only [ext_ext]); repeat (first | assumption | exact Kept.refl _ | apply Kept.alloc | apply Kept.drew | apply kept_add | apply Kept.ext))))
      (first | (go_at_call 26; refine Calls.mono (toIntA4_any _ _) ?_; rintro e w' ⟨rfl, y, rfl⟩) | (go_at_call 27; refine Calls.mono (hI _) ?_; rintro e w9 ⟨v9, rfl, ho9, k9⟩; have ho9' := ho9.mono (show w2.heap.size ≤ _ from (Kept.below (show Kept w2 _ from (by (try simp only [ext_ext]); repeat (first | assumption | exact Kept.refl _ | apply Kept.alloc | apply Kept.drew | apply kept_add | apply Kept.ext)))).size); have K9 := Kept.trans (show Kept w2 _ from (by (try simp only [ext_ext]); repeat (first | assumption | exact Kept.refl _ | apply Kept.alloc | apply Kept.drew | apply kept_add | apply Kept.ext))) k9))
    all_goals go_wp2_with (fail)
    all_goals go_meet
    all_goals exact ⟨rfl, ho9'.kept (by (try simp only [ext_ext]); repeat (first | assumption | exact Kept.refl _ | apply Kept.alloc | apply Kept.drew | apply kept_add | apply Kept.ext)), K9.trans (by (try simp only [ext_ext]); repeat (first | assumption | exact Kept.refl _ | apply Kept.alloc | apply Kept.drew | apply kept_add | apply Kept.ext))⟩
  obtain ⟨rfl, ho4, k24⟩ := hcut
  obtain ⟨v4, hv4⟩ : ∃ v4, v4 = u11 := ⟨_, rfl⟩
  subst hv4
  obtain ⟨w4, hw4⟩ : ∃ w4, w4 = wc := ⟨_, rfl⟩
  subst hw4
  have K4 := K2.trans k24
  have n24 : ∀ g, v2.ownBlock = some g → v4.ownBlock ≠ some g := fun g h h' => by have := (ho2.lt g h).2; have := (ho4.lt g h').1; omega
  go_wp2_with (fail)
  (go_at_call 11; refine Calls.mono (eqC_any _ _ _ _ _ _ ho4 (ho2.kept k24) hll) ?_; rintro e w5 ⟨rfl, k5⟩)
  go_wp2_with (fail)
  (go_at_call 12; refine Calls.mono (markIntA4S_any _ _ _ _ 1 _ (ho4.kept k5) hll (by decide) (by decide)) ?_; rintro e w10 ⟨rfl, ho10, g10⟩)
  have K10 : Kept ((((w.alloc (.cells #[.int .i64 x0.a, .int .i64 x0.b, .int .i64 x0.c, .int .i64 x0.d] 48)).alloc (.cells #[.int .i64 x1.a, .int .i64 x1.b, .int .i64 x1.c, .int .i64 x1.d] 48)).alloc (.cells #[.int .i64 x2.a, .int .i64 x2.b, .int .i64 x2.c, .int .i64 x2.d] 48)).alloc (.cells #[.int .i64 x3.a, .int .i64 x3.b, .int .i64 x3.c, .int .i64 x3.d] 48)) w10 := ((K4.trans k5).grown g10 fun b hb => by have := (ho4.lt b hb).1; simp; omega)
  have ho2m := ((ho2.kept (k24.trans k5)).grown g10 n24)
  have Kw10 : Kept w w10 := (show Kept w ((((w.alloc (.cells #[.int .i64 x0.a, .int .i64 x0.b, .int .i64 x0.c, .int .i64 x0.d] 48)).alloc (.cells #[.int .i64 x1.a, .int .i64 x1.b, .int .i64 x1.c, .int .i64 x1.d] 48)).alloc (.cells #[.int .i64 x2.a, .int .i64 x2.b, .int .i64 x2.c, .int .i64 x2.d] 48)).alloc (.cells #[.int .i64 x3.a, .int .i64 x3.b, .int .i64 x3.c, .int .i64 x3.d] 48)) from (by (try simp only [ext_ext]); repeat (first | exact Kept.refl _ | apply Kept.alloc | apply Kept.drew | apply kept_add | apply Kept.ext))).trans K10
  go_wp2_with (fail)
  (go_at_call 13; refine Calls.mono (heldIntA4S_any _ _ _ 1 _ ho10 hll (by decide) (by decide)) ?_; rintro e w11 ⟨rfl, k11⟩)
  obtain ⟨s0, s1, s2, s3, s4, s5, s6, s7, s8, s9, s10, s11, s12, s13, s14, s15, s16, s17, s18, s19⟩ := hCH.out _ (K10.trans k11)
  clear KB
  have KB := hid (K10.trans k11)
  go_upto_region 13 with (fail)
  go_cut [15, 16] from 61 (fun u1 u2 wx => u2 = .bool ok ∧ OwnC w11.heap.size wx u1 ls ∧ Kept w11 wx)
  case first =>
    go_region_held (fun w' => w'.cell? ⟨w.heap.size, 0, none⟩ = some (.int .i64 x0.a) ∧ w'.cell? ⟨w.heap.size, 1, none⟩ = some (.int .i64 x0.b) ∧ w'.cell? ⟨w.heap.size, 2, none⟩ = some (.int .i64 x0.c) ∧ w'.cell? ⟨w.heap.size, 3, none⟩ = some (.int .i64 x0.d) ∧ w'.cell? ⟨w.heap.size + 1, 0, none⟩ = some (.int .i64 x1.a) ∧ w'.cell? ⟨w.heap.size + 1, 1, none⟩ = some (.int .i64 x1.b) ∧ w'.cell? ⟨w.heap.size + 1, 2, none⟩ = some (.int .i64 x1.c) ∧ w'.cell? ⟨w.heap.size + 1, 3, none⟩ = some (.int .i64 x1.d) ∧ w'.cell? ⟨w.heap.size + 1 + 1, 0, none⟩ = some (.int .i64 x2.a) ∧ w'.cell? ⟨w.heap.size + 1 + 1, 1, none⟩ = some (.int .i64 x2.b) ∧ w'.cell? ⟨w.heap.size + 1 + 1, 2, none⟩ = some (.int .i64 x2.c) ∧ w'.cell? ⟨w.heap.size + 1 + 1, 3, none⟩ = some (.int .i64 x2.d) ∧ w'.cell? ⟨w.heap.size + 1 + 1 + 1, 0, none⟩ = some (.int .i64 x3.a) ∧ w'.cell? ⟨w.heap.size + 1 + 1 + 1, 1, none⟩ = some (.int .i64 x3.b) ∧ w'.cell? ⟨w.heap.size + 1 + 1 + 1, 2, none⟩ = some (.int .i64 x3.c) ∧ w'.cell? ⟨w.heap.size + 1 + 1 + 1, 3, none⟩ = some (.int .i64 x3.d))
      (exact hSH.out _ (KB.out.trans (by (try simp only [ext_ext]); repeat (first | assumption | exact Kept.refl _ | apply Kept.alloc | apply Kept.drew | apply kept_add | apply Kept.ext))))
      (first | (go_at_call 26; refine Calls.mono (toIntA4_any _ _) ?_; rintro e w' ⟨rfl, y, rfl⟩) | (go_at_call 27; refine Calls.mono (hI _) ?_; rintro e w9 ⟨v9, rfl, ho9, k9⟩; have ho9' := ho9.mono (show w11.heap.size ≤ _ from (Kept.below (show Kept w11 _ from (by (try simp only [ext_ext]); repeat (first | assumption | exact Kept.refl _ | apply Kept.alloc | apply Kept.drew | apply kept_add | apply Kept.ext)))).size); have K9 := Kept.trans (show Kept w11 _ from (by (try simp only [ext_ext]); repeat (first | assumption | exact Kept.refl _ | apply Kept.alloc | apply Kept.drew | apply kept_add | apply Kept.ext))) k9))
    all_goals go_wp2_with (fail)
    all_goals go_meet
    all_goals exact ⟨rfl, ho9'.kept (by (try simp only [ext_ext]); repeat (first | assumption | exact Kept.refl _ | apply Kept.alloc | apply Kept.drew | apply kept_add | apply Kept.ext)), K9.trans (by (try simp only [ext_ext]); repeat (first | assumption | exact Kept.refl _ | apply Kept.alloc | apply Kept.drew | apply kept_add | apply Kept.ext))⟩
  obtain ⟨rfl, ho13, k1113⟩ := hcut
  obtain ⟨v13, hv13⟩ : ∃ v13, v13 = u15 := ⟨_, rfl⟩
  subst hv13
  obtain ⟨w13, hw13⟩ : ∃ w13, w13 = wc := ⟨_, rfl⟩
  subst hw13
  go_wp2_with (fail)
  (go_at_call 11; refine Calls.mono (eqC_any _ _ _ _ _ _ ho13 ((ho2m.kept k11).kept k1113) hll) ?_; rintro e w14 ⟨rfl, k14⟩)
  go_wp2_with (fail)
  (go_at_call 13; refine Calls.mono (heldIntA4S_any _ _ _ 1 _ (row_kept ho10 (k11.trans (k1113.trans k14))) hll (by decide) (by decide)) ?_; rintro e w15 ⟨rfl, k15⟩)
  go_wp2_with (fail)
  go_ret
  exact ⟨rfl, Kw10.trans (k11.trans (k1113.trans (k14.trans k15)))⟩
end Go.Proofs.Ytenmnipgnjaheaa
