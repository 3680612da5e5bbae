/- Contracts: whether six cards are a ghost. -/
import Derived.Test.YtenmnipgnjaheaaT59
import Derived.Test.YtenmnipgnjaheaaT14
import Derived.Deep.CutRange
import Derived.Deep.RegionHeld
namespace Go.Proofs.Ytenmnipgnjaheaa
open Go.RowKit
theorem areC_mem {xs : List Card} : areC xs ↔ ∀ c, c ∈ xs → isCard c = true := by
  constructor
  · intro h c hc
    obtain ⟨i, hi, rfl⟩ := List.getElem_of_mem hc
    have := h i hi
    rwa [cx_get _ _ hi] at this
  · exact fun h i hi => h _ (cx_mem hi)
theorem areC_erase {xs : List Card} (h : areC xs) (k : Nat) : areC (xs.eraseIdx k) := areC_mem.2 fun c hc => areC_mem.1 h c (List.mem_of_mem_eraseIdx hc)
theorem distC_nodup {xs : List Card} : distC xs ↔ xs.Nodup := by
  constructor
  · intro h
    refine List.pairwise_iff_getElem.2 fun i j hi hj hij e => ?_
    have := h i j hi hj (by rw [cx_get _ _ hi, cx_get _ _ hj, e])
    omega
  · intro h i j hi hj e
    rw [cx_get _ _ hi, cx_get _ _ hj] at e
    rcases Nat.lt_trichotomy i j with h' | h' | h'
    · exact absurd e (List.pairwise_iff_getElem.1 h i j hi hj h')
    · exact h'
    · exact absurd e.symm (List.pairwise_iff_getElem.1 h j i hj hi h')
theorem distC_erase {xs : List Card} (h : distC xs) (k : Nat) : distC (xs.eraseIdx k) := distC_nodup.2 ((distC_nodup.1 h).sublist (List.eraseIdx_sublist xs k))
/-- What is left without the first card and another one. -/
def r4 (h : List Card) (k : Nat) : List Card := (h.eraseIdx k).eraseIdx 0
def oth (r : List Card) (i : Nat) : List Card := (r.eraseIdx 0).eraseIdx (i - 1)
def gh1 (a : Card) (r : List Card) (i : Nat) : Bool := lineC a (thirdC (cx r 0) (cx r i)) (thirdC (cx (oth r i) 0) (cx (oth r i) 1))
def ghT (h : List Card) (k n : Nat) : Bool := (List.range n).any fun i => gh1 (thirdC (cx h 0) (cx h k)) (r4 h k) (i + 1)
def goT (h : List Card) (n : Nat) : Bool := (List.range n).any fun k => ghT h (k + 1) 3
theorem ghT_next (h : List Card) (k n : Nat) : ghT h k (n + 1) = (ghT h k n || gh1 (thirdC (cx h 0) (cx h k)) (r4 h k) (n + 1)) := by simp [ghT, List.range_succ]
theorem goT_next (h : List Card) (n : Nat) : goT h (n + 1) = (goT h n || ghT h (n + 1) 3) := by simp [goT, List.range_succ]
theorem goT_yes {h : List Card} {n m : Nat} (hn : n ≤ m) (e : goT h n = true) : goT h m = true := by
  obtain ⟨k, hk, e⟩ := List.any_eq_true.1 e
  exact List.any_eq_true.2 ⟨k, List.mem_range.2 (by have := List.mem_range.1 hk; omega), e⟩
/-- The cards of the first places but the first one and another. -/
def rstTo (h : List Card) (k i : Nat) : List Card := ((List.range i).filter fun t => decide (t ≠ 0) && decide (t ≠ k)).map (cx h)
theorem rstTo_yes (h : List Card) {k i : Nat} (h0 : 1 ≤ i) (hk : i ≠ k) : rstTo h k (i + 1) = rstTo h k i ++ [cx h i] := by
  simp only [rstTo, List.range_succ, List.filter_append, List.map_append]
  have e : (decide (i ≠ 0) && decide (i ≠ k)) = true := by simp only [Bool.and_eq_true, decide_eq_true_eq]; exact ⟨by omega, hk⟩
  rw [List.filter_cons, if_pos e]
  rfl
theorem rstTo_no (h : List Card) {i : Nat} : rstTo h i (i + 1) = rstTo h i i := by
  simp only [rstTo, List.range_succ, List.filter_append, List.map_append]
  simp
theorem rstTo_len (h : List Card) (k i : Nat) : (rstTo h k i).length ≤ i := by
  have := List.length_filter_le (fun t => decide (t ≠ 0) && decide (t ≠ k)) (List.range i)
  simpa [rstTo] using this
theorem rstTo_all {h : List Card} (hn : h.length = 6) {k : Nat} (h1 : 1 ≤ k) (h6 : k < 6) : rstTo h k 6 = r4 h k := by
  match h, hn with
  | [a, b, c, d, e, f], _ =>
    obtain rfl | rfl | rfl | rfl | rfl : k = 1 ∨ k = 2 ∨ k = 3 ∨ k = 4 ∨ k = 5 := by omega
    all_goals rfl
theorem r4_len {h : List Card} (hn : h.length = 6) {k : Nat} (h1 : 1 ≤ k) (h6 : k < 6) : (r4 h k).length = 4 := by
  have e1 : (h.eraseIdx k).length = 5 := by rw [List.length_eraseIdx, if_pos (by omega)]; omega
  rw [r4, List.length_eraseIdx, if_pos (by omega)]; omega
theorem oth_len {r : List Card} (hn : r.length = 4) {i : Nat} (h1 : 1 ≤ i) (h4 : i < 4) : (oth r i).length = 2 := by
  have e1 : (r.eraseIdx 0).length = 3 := by rw [List.length_eraseIdx, if_pos (by omega)]; omega
  rw [oth, List.length_eraseIdx, if_pos (by omega)]; omega
theorem erase0_at {r : List Card} (hn : r.length = 4) {i : Nat} (h1 : 1 ≤ i) (h4 : i < 4) : cx (r.eraseIdx 0) (i - 1) = cx r i := by
  match r, hn with
  | [a, b, c, d], _ =>
    obtain rfl | rfl | rfl : i = 1 ∨ i = 2 ∨ i = 3 := by omega
    all_goals rfl
theorem dist_ne {xs : List Card} (hd : distC xs) {p m : Nat} (hn : xs.length = m + 1) (hp : p ≤ m) : ∀ j, j ≤ m → j ≠ p → cx xs j ≠ cx xs p := fun j hj hne e => hne (hd j p (by omega) (by omega) e)
theorem cardCells_ext {W : World} {g : Nat} {t : TypeId} (c : Card) (y : More) (h : g = W.heap.size) : CardCells (ext (W.alloc (.cells #[.int .i64 c.a, .int .i64 c.b, .int .i64 c.c, .int .i64 c.d] t)) y) g 0 c :=
  cardCells_kept (cardCells_new c h) (by rw [h]; simp) ⟨y, rfl⟩
end Go.Proofs.Ytenmnipgnjaheaa
