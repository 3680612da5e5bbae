/- Contracts: the order of two cards; cards put in order by the library. -/
import Derived.Test.YtjlaoocomkonhaaT71
import Derived.Test.YtjlaoocomkonhaaT59
import Derived.Shelf.SlSortCmp.QuietGrown
import Derived.Shelf.SlSortCmp.InsertionK
namespace Go.Proofs.Ytjlaoocomkonhaa
open Go.RowKit Go.Sort Go.Shelf
theorem numberX_any (x : Card) (hx : isCard x = true) (W : World) : Calls Try.prog 58 #[x.v] W fun e w' => e = .returned (.int .i64 (numC x)) ∧ ∃ q os, w' = grow (W.drewN q) os := by
  obtain ⟨x1, x2, x3, x4⟩ := isCard_of hx
  obtain ⟨a, b, c, d⟩ := x
  have i0 : ∀ w : World, (Instr.index 29 (.agg #[.int .i64 a, .int .i64 b, .int .i64 c, .int .i64 d]) (.int .i64 0)).run Try.prog w = .ok (.int .i64 a) w := fun _ => by kernel_rfl
  have i1 : ∀ w : World, (Instr.index 29 (.agg #[.int .i64 a, .int .i64 b, .int .i64 c, .int .i64 d]) (.int .i64 1)).run Try.prog w = .ok (.int .i64 b) w := fun _ => by kernel_rfl
  have i2 : ∀ w : World, (Instr.index 29 (.agg #[.int .i64 a, .int .i64 b, .int .i64 c, .int .i64 d]) (.int .i64 2)).run Try.prog w = .ok (.int .i64 c) w := fun _ => by kernel_rfl
  have i3 : ∀ w : World, (Instr.index 29 (.agg #[.int .i64 a, .int .i64 b, .int .i64 c, .int .i64 d]) (.int .i64 3)).run Try.prog w = .ok (.int .i64 d) w := fun _ => by kernel_rfl
  simp only at x1 x2 x3 x4
  go_enter Try.func58, Try.ntmps58
  go_wp2
  refine wp_loop_rounds 5 ?_
  iterate 5
    rw [rounds_succ]
    go_wp2
  go_ret
  exact ⟨ret_of (congrArg (Value.int .i64) (by simp only [numC]; omega)), 0, _, by rw [alloc_eq_grow]; rfl⟩
theorem ckX {w w' : World} {g o : Nat} {c : Card} (h : CardCells w g o c) (hg : g < w.heap.size) (hk : Kept w w') : CardCells w' g o c := by
  obtain ⟨a, b, cc, d⟩ := h
  exact ⟨(hk.below.cell (p := ⟨_, _, none⟩) hg).trans a, (hk.below.cell (p := ⟨_, _, none⟩) hg).trans b, (hk.below.cell (p := ⟨_, _, none⟩) hg).trans cc, (hk.below.cell (p := ⟨_, _, none⟩) hg).trans d⟩
theorem compareX_any (x y : Card) (hx : isCard x = true) (hy : isCard y = true) (W : World) : Calls Try.prog 36 #[x.v, y.v] W fun e w' => e = .returned (.int .i64 (numC x - numC y)) ∧ ∃ q os, w' = grow (W.drewN q) os := by
  have mixed : Try.prog.follows .mixedOrders = true := by kernel_rfl
  have b1 := numC_bd hx
  have b2 := numC_bd hy
  obtain ⟨W2, hW2⟩ : ∃ W2, W2 = (W.alloc (.cells #[.int .i64 x.a, .int .i64 x.b, .int .i64 x.c, .int .i64 x.d] 29)).alloc (.cells #[.int .i64 y.a, .int .i64 y.b, .int .i64 y.c, .int .i64 y.d] 29) := ⟨_, rfl⟩
  have hs : W2.heap.size = W.heap.size + 1 + 1 := by rw [hW2]; simp
  have cell := fun (b : Nat) (hb : b < W2.heap.size) (o : Nat) (v : Value) (h : W2.cell? ⟨b, o, none⟩ = some v) => cell_grown (a := ⟨b, o, none⟩) hb h
  have cx0 : CardCells W2 W.heap.size 0 x := by rw [hW2]; exact ckX (cardCells_new x rfl) (by simp) ((Kept.refl _).alloc _)
  have cy0 : CardCells W2 (W.heap.size + 1) 0 y := by rw [hW2]; exact cardCells_new y (by simp)
  have k0 := cell W.heap.size (by omega) _ _ cx0.1
  have k1 := cell W.heap.size (by omega) _ _ cx0.2.1
  have k2 := cell W.heap.size (by omega) _ _ cx0.2.2.1
  have k3 := cell W.heap.size (by omega) _ _ cx0.2.2.2
  have m0 := cell (W.heap.size + 1) (by omega) _ _ cy0.1
  have m1 := cell (W.heap.size + 1) (by omega) _ _ cy0.2.1
  have m2 := cell (W.heap.size + 1) (by omega) _ _ cy0.2.2.1
  have m3 := cell (W.heap.size + 1) (by omega) _ _ cy0.2.2.2
  simp only [Nat.zero_add] at k1 k2 k3 m1 m2 m3
  have hW2H := hid hW2
  have hwr : IntKind.i64.wrap (numC x - numC y) = numC x - numC y := Go.IntWalk.i64_in _ ⟨by omega, by omega⟩
  clear cell cx0 cy0 hW2
  go_enter Try.func36, Try.ntmps36
  go_wp2_with (fail)
  rw [← hW2H.out]
  go_quiet_grown (first | (go_at_call 58; exact Calls.grown_of (numberX_any _ (by assumption) _)))
  go_wp2_with (fail)
  go_ret
  exact ⟨rfl, nq, #[_] ++ #[_] ++ osq, by rw [hW2H.out, alloc_eq_grow, alloc_eq_grow, grow_grow]; show grow (grow (W.drewN nq) _) osq = _; rw [grow_grow]⟩
end Go.Proofs.Ytjlaoocomkonhaa
