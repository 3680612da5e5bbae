/- Tables of numbers in one block: read, written, laid anew. -/
import Derived.Test.YtjlaoocomkonhaaT1
import Derived.Test.YtjlaoocomkonhaaC7
import Derived.Test.YtjlaoocomkonhaaM3
namespace Go.Proofs.Ytjlaoocomkonhaa
open Go.RowKit
/-- A table of n numbers. (A name of its own: the walk does not open it.) -/
def tab (n : Nat) (f : Nat → Int) : Array Value := ((List.range n).map fun i => Value.int .i64 (f i)).toArray
theorem tab_size (n : Nat) (f : Nat → Int) : (tab n f).size = n := by simp [tab]
theorem tab_get {n i : Nat} (f : Nat → Int) (h : i < n) : (tab n f)[i]? = some (.int .i64 (f i)) := by simp [tab, h]
def upd (f : Nat → Int) (i : Nat) (v : Int) : Nat → Int := fun j => if j = i then v else f j
theorem tab_set {n i : Nat} (f : Nat → Int) (v : Int) : (tab n f).setIfInBounds i (.int .i64 v) = tab n (upd f i v) := by
  apply Array.ext_getElem?
  intro j
  by_cases hj : j < n
  · rw [tab_get _ hj, Array.getElem?_setIfInBounds, tab_size, tab_get _ hj]
    by_cases hi : i = j
    · subst hi; simp [hj, upd]
    · simp [hi, upd, Ne.symm hi]
  · rw [Array.getElem?_eq_none (by simp [tab_size]; omega), Array.getElem?_eq_none (by rw [tab_size]; omega)]
theorem tab_one (n : Nat) (f : Nat → Int) : (tab n f).all (·.oneCell') = true := by
  rw [Array.all_eq_true_iff_forall_mem]
  intro v hv
  simp [tab] at hv
  obtain ⟨i, _, rfl⟩ := hv
  rfl
theorem tab_congr {n : Nat} {f g : Nat → Int} (h : ∀ i, i < n → f i = g i) : tab n f = tab n g := by
  apply Array.ext_getElem?
  intro j
  by_cases hj : j < n
  · rw [tab_get _ hj, tab_get _ hj, h j hj]
  · rw [Array.getElem?_eq_none (by rw [tab_size]; omega), Array.getElem?_eq_none (by rw [tab_size]; omega)]
theorem setRow_alloc (W : World) (cs ds : Array Value) (t : TypeId) : (W.alloc (.cells cs t)).setRow W.heap.size ds = W.alloc (.cells ds t) := by
  unfold World.setRow World.alloc
  simp only
  congr 1
  apply Array.ext_getElem?
  intro i
  rw [Array.getElem?_modify, Array.getElem?_push, Array.getElem?_push]
  by_cases hi : i = W.heap.size
  · subst hi; simp
  · rw [if_neg (Ne.symm hi), if_neg hi, if_neg hi]
/-- A cell of a table behind which memory has grown. -/
theorem tab_cell (W : World) (z : More) (n i : Nat) (f : Nat → Int) (t : TypeId) (h : i < n) : (ext (W.alloc (.cells (tab n f) t)) z).cell? ⟨W.heap.size, i, none⟩ = some (.int .i64 (f i)) := by
  rw [ext_cell _ _ _ _ (by simp), cell_of_row _ W.heap.size i (tab n f) t (0, 0) (heap_at rfl), tab_get f h]
theorem tab_frozen (W : World) (z : More) (n i : Nat) (f : Nat → Int) (t : TypeId) : (ext (W.alloc (.cells (tab n f) t)) z).frozen? ⟨W.heap.size, i, none⟩ = false := by
  rw [ext_frozen _ _ _ _ (by simp)]
  exact frozen_of_row _ W.heap.size i (tab n f) t (heap_at rfl)
theorem tab_setCell (W : World) (z : More) (n i : Nat) (f : Nat → Int) (t : TypeId) (v : Int) (_h : i < n) :
    (ext (W.alloc (.cells (tab n f) t)) z).setCell ⟨W.heap.size, i, none⟩ (.int .i64 v) = ext (W.alloc (.cells (tab n (upd f i v)) t)) z := by
  rw [ext_setCell _ _ _ _ _ (by simp), setCell_eq_setRow _ W.heap.size i (tab n f) t (0, 0) _ (heap_at rfl), setRow_alloc, tab_set]
end Go.Proofs.Ytjlaoocomkonhaa
