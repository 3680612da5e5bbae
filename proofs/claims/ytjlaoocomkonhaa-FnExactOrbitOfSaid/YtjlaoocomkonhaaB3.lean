/- Slices of cards in memory. -/
import Derived.Test.YtjlaoocomkonhaaB0
namespace Go.Proofs.Ytjlaoocomkonhaa
open Go.RowKit

/-- The number of a card. -/
def numC (x : Card) : Int := 27 * x.a + 9 * x.b + 3 * x.c + x.d
theorem numC_bd {x : Card} (h : isCard x = true) : 0 ≤ numC x ∧ numC x ≤ 80 := by
  obtain ⟨x1, x2, x3, x4⟩ := isCard_of h
  unfold numC; omega
/-- The card at a place of a list; zeros behind its end. (A name of its own: the walk does not open it.) -/
def cx (cs : List Card) (i : Nat) : Card := cs.getD i ⟨0, 0, 0, 0⟩
theorem cx_get (cs : List Card) (i : Nat) (h : i < cs.length) : cx cs i = cs[i] := by simp [cx, h]
theorem cx_mem {cs : List Card} {i : Nat} (h : i < cs.length) : cx cs i ∈ cs := by rw [cx_get cs i h]; exact List.getElem_mem h

/-- A card's four cells at an address. -/
def CardCells (w : World) (g off : Nat) (x : Card) : Prop :=
  w.cell? ⟨g, off, none⟩ = some (.int .i64 x.a) ∧ w.cell? ⟨g, off + 1, none⟩ = some (.int .i64 x.b) ∧ w.cell? ⟨g, off + 2, none⟩ = some (.int .i64 x.c) ∧ w.cell? ⟨g, off + 3, none⟩ = some (.int .i64 x.d)

/-- A slice's address reads as these cards. -/
def CardsAt (w : World) (ao : Option Addr) (cs : List Card) : Prop :=
  ∀ i, i < cs.length → ∃ g off, ao = some ⟨g, off, none⟩ ∧ g < w.heap.size ∧ CardCells w g (off + i * 4) (cx cs i)

theorem CardsAt.kept {w w' : World} {ao : Option Addr} {cs : List Card} (h : CardsAt w ao cs) (hk : Kept w w') : CardsAt w' ao cs := by
  have hb := hk.below
  intro i hi
  obtain ⟨g, off, ha, hg, h1, h2, h3, h4⟩ := h i hi
  exact ⟨g, off, ha, Nat.lt_of_lt_of_le hg hb.size, (hb.cell (p := ⟨_, _, none⟩) hg).trans h1, (hb.cell (p := ⟨_, _, none⟩) hg).trans h2, (hb.cell (p := ⟨_, _, none⟩) hg).trans h3, (hb.cell (p := ⟨_, _, none⟩) hg).trans h4⟩
/-- The cells of a list of cards. -/
def cells4 (cs : List Card) : List Value := cs.flatMap fun x => [.int .i64 x.a, .int .i64 x.b, .int .i64 x.c, .int .i64 x.d]
theorem cells4_length (cs : List Card) : (cells4 cs).length = cs.length * 4 := by
  induction cs with
  | nil => rfl
  | cons x cs ih => simp only [cells4, List.flatMap_cons, List.length_append, List.length_cons] at ih ⊢; simp only [ih]; simp; omega
theorem cells4_get (cs : List Card) (i : Nat) (h : i < cs.length) :
    (cells4 cs)[i * 4]? = some (.int .i64 (cx cs i).a) ∧ (cells4 cs)[i * 4 + 1]? = some (.int .i64 (cx cs i).b) ∧ (cells4 cs)[i * 4 + 2]? = some (.int .i64 (cx cs i).c) ∧ (cells4 cs)[i * 4 + 3]? = some (.int .i64 (cx cs i).d) := by
  induction cs generalizing i with
  | nil => simp at h
  | cons x cs ih =>
    have e : cells4 (x :: cs) = [.int .i64 x.a, .int .i64 x.b, .int .i64 x.c, .int .i64 x.d] ++ cells4 cs := rfl
    cases i with
    | zero => rw [e]; simp [cx]
    | succ i =>
      have h' := ih i (by simpa using h)
      have ec : cx (x :: cs) (i + 1) = cx cs i := by simp [cx]
      rw [e, ec]
      have l : ∀ j, ([Value.int .i64 x.a, .int .i64 x.b, .int .i64 x.c, .int .i64 x.d] ++ cells4 cs)[(i + 1) * 4 + j]? = (cells4 cs)[i * 4 + j]? := fun j => by
        rw [List.getElem?_append_right (by simp; omega)]
        congr 1
        simp; omega
      exact ⟨(l 0).trans h'.1, (l 1).trans h'.2.1, (l 2).trans h'.2.2.1, (l 3).trans h'.2.2.2⟩
theorem cardsAt_of_cells {w : World} {g off : Nat} {cs : List Card} (hg : g < w.heap.size) (h : ∀ j u, (cells4 cs)[j]? = some u → w.cell? ⟨g, off + j, none⟩ = some u) : CardsAt w (some ⟨g, off, none⟩) cs := by
  intro i hi
  obtain ⟨h1, h2, h3, h4⟩ := cells4_get cs i hi
  exact ⟨g, off, rfl, hg, by simpa using h _ _ h1, by simpa [Nat.add_assoc] using h _ _ h2, by simpa [Nat.add_assoc] using h _ _ h3, by simpa [Nat.add_assoc] using h _ _ h4⟩
/-- A block that begins with the cells of cards reads as these cards. -/
theorem cardsAt_block {w : World} {g : Nat} {e : TypeId} {fr : Nat × Nat} {cs : List Card} (h : w.heap[g]? = some (.cells (cells4 cs).toArray e fr)) : CardsAt w (some ⟨g, 0, none⟩) cs := by
  refine cardsAt_of_cells (Array.getElem?_eq_some_iff.1 h).1 fun j u hu => ?_
  rw [Nat.zero_add, cell_of_row w g j _ e fr h]
  simpa using hu
/-- A row of n cards: first those of a list, behind them zeros. -/
def rowC (cs : List Card) (n : Nat) : Array Value := (cells4 cs ++ List.replicate (n * 4 - cs.length * 4) (Value.int .i64 0)).toArray
theorem rowC_size (cs : List Card) (n : Nat) (h : cs.length ≤ n) : (rowC cs n).size = n * 4 := by
  simp only [rowC, List.size_toArray, List.length_append, cells4_length, List.length_replicate]; omega
theorem rowC_some (cs : List Card) {n m : Nat} (h : cs.length ≤ n) (hm : m < n * 4) : ∃ v, (rowC cs n)[m]? = some v :=
  ⟨_, Array.getElem?_eq_getElem (by rw [rowC_size cs n h]; exact hm)⟩
theorem rowC_low (cs : List Card) {n m : Nat} (h : m < cs.length * 4) : (rowC cs n)[m]? = (cells4 cs)[m]? := by
  simp only [rowC, List.getElem?_toArray]
  rw [List.getElem?_append_left (by rw [cells4_length]; exact h)]
theorem rowC_high (cs : List Card) {n m : Nat} (h : cs.length * 4 ≤ m) (hm : m < n * 4) : (rowC cs n)[m]? = some (.int .i64 0) := by
  simp only [rowC, List.getElem?_toArray]
  rw [List.getElem?_append_right (by rw [cells4_length]; exact h), cells4_length, List.getElem?_replicate, if_pos (by omega)]
theorem rowC_none (cs : List Card) {n m : Nat} (h : cs.length ≤ n) (hm : n * 4 ≤ m) : (rowC cs n)[m]? = none :=
  Array.getElem?_eq_none (by rw [rowC_size cs n h]; exact hm)
theorem rowC_nil (n : Nat) : madeCells #[.int .i64 0, .int .i64 0, .int .i64 0, .int .i64 0] (n * 4) = rowC [] n := by
  apply Array.ext_getElem?
  intro i
  by_cases hi : i < n * 4
  · rw [rowC_high [] (by simp) hi]
    have h4 : i % 4 < 4 := Nat.mod_lt _ (by omega)
    have e : ∀ j, j < 4 → (#[Value.int .i64 0, .int .i64 0, .int .i64 0, .int .i64 0] : Array Value)[j]! = .int .i64 0 := by
      intro j hj
      match j, hj with
      | 0, _ => rfl
      | 1, _ => rfl
      | 2, _ => rfl
      | 3, _ => rfl
    simp only [madeCells, Array.getElem?_map, Array.getElem?_range, hi, if_true, Option.map_some]
    exact congrArg some (e _ h4)
  · rw [rowC_none [] (by simp) (by omega)]
    exact Array.getElem?_eq_none (by rw [size_madeCells]; omega)
theorem rowC_set (cs : List Card) {n k : Nat} (x : Card) (hk : cs.length = k) (h : k < n) :
    ((((rowC cs n).setIfInBounds (k * 4) (.int .i64 x.a)).setIfInBounds (k * 4 + 1) (.int .i64 x.b)).setIfInBounds (k * 4 + 2) (.int .i64 x.c)).setIfInBounds (k * 4 + 3) (.int .i64 x.d) = rowC (cs ++ [x]) n := by
  subst hk
  have hs := rowC_size cs n (by omega)
  have ex : cx (cs ++ [x]) cs.length = x := by simp [cx]
  obtain ⟨g1, g2, g3, g4⟩ := cells4_get (cs ++ [x]) cs.length (by simp)
  rw [ex] at g1 g2 g3 g4
  apply Array.ext_getElem?
  intro m
  simp only [Array.getElem?_setIfInBounds, Array.size_setIfInBounds, hs]
  by_cases h0 : m < cs.length * 4
  · rw [if_neg (by omega), if_neg (by omega), if_neg (by omega), if_neg (by omega), rowC_low cs h0, rowC_low (cs ++ [x]) (by simp; omega)]
    simp only [cells4, List.flatMap_append]
    rw [List.getElem?_append_left]
    exact Nat.lt_of_lt_of_eq h0 (cells4_length cs).symm
  · by_cases h1 : m < (cs.length + 1) * 4
    · rw [rowC_low (cs ++ [x]) (by simp; omega)]
      obtain rfl | rfl | rfl | rfl : m = cs.length * 4 ∨ m = cs.length * 4 + 1 ∨ m = cs.length * 4 + 2 ∨ m = cs.length * 4 + 3 := by omega
      · rw [if_neg (by omega), if_neg (by omega), if_neg (by omega), if_pos rfl, if_pos (by omega), g1]
      · rw [if_neg (by omega), if_neg (by omega), if_pos rfl, if_pos (by omega), g2]
      · rw [if_neg (by omega), if_pos rfl, if_pos (by omega), g3]
      · rw [if_pos rfl, if_pos (by omega), g4]
    · rw [if_neg (by omega), if_neg (by omega), if_neg (by omega), if_neg (by omega)]
      by_cases h2 : m < n * 4
      · rw [rowC_high cs (by omega) h2, rowC_high (cs ++ [x]) (by simp; omega) h2]
      · rw [rowC_none cs (by omega) (by omega), rowC_none (cs ++ [x]) (by simp; omega) (by omega)]
/-- A block that begins with such a row, all of it cards, reads as these cards. -/
theorem cardsAt_row {w : World} {g : Nat} {e : TypeId} {fr : Nat × Nat} {cs : List Card} {n : Nat} (h : w.heap[g]? = some (.cells (rowC cs n) e fr)) : CardsAt w (some ⟨g, 0, none⟩) cs := by
  refine cardsAt_of_cells (Array.getElem?_eq_some_iff.1 h).1 fun j u hu => ?_
  rw [Nat.zero_add, cell_of_row w g j _ e fr h]
  have hj : j < cs.length * 4 := by rw [← cells4_length]; exact (List.getElem?_eq_some_iff.1 hu).1
  rw [rowC_low cs hj, hu]
theorem take_cx (xs : List Card) (k : Nat) (h : k < xs.length) : xs.take (k + 1) = xs.take k ++ [cx xs k] := by
  rw [List.take_succ_eq_append_getElem h, cx_get xs k h]
theorem eq_of_cx {xs ys : List Card} (hl : xs.length = ys.length) (h : ∀ j, j < xs.length → cx xs j = cx ys j) : xs = ys := by
  apply List.ext_getElem hl
  intro j h1 h2
  have := h j h1
  rwa [cx_get xs j h1, cx_get ys j h2] at this
/-- One place of a hand: a card, and greater than the one ahead of it. -/
def handOk (xs : List Card) (i : Nat) : Bool := isCard (cx xs i) && (decide (i = 0) || decide (numC (cx xs (i - 1)) < numC (cx xs i)))
def isHand (xs : List Card) : Bool := decide (xs.length ≤ 27) && (List.range xs.length).all (handOk xs)
theorem isHand_no {xs : List Card} {k : Nat} (hk : k < xs.length) (h : handOk xs k = false) : isHand xs = false := by
  unfold isHand
  have : (List.range xs.length).all (handOk xs) = false := by
    rw [List.all_eq_false]
    exact ⟨k, List.mem_range.2 hk, by simp [h]⟩
  rw [this, Bool.and_false]
theorem isHand_long {xs : List Card} (h : 27 < xs.length) : isHand xs = false := by
  unfold isHand
  rw [decide_eq_false (by omega), Bool.false_and]
theorem isHand_yes {xs : List Card} (hl : xs.length ≤ 27) (h : ∀ j, j < xs.length → handOk xs j = true) : isHand xs = true := by
  unfold isHand
  rw [decide_eq_true hl, Bool.true_and]
  exact List.all_eq_true.2 fun j hj => h j (List.mem_range.1 hj)
theorem isHand_of {xs : List Card} (h : isHand xs = true) : xs.length ≤ 27 ∧ ∀ j, j < xs.length → handOk xs j = true := by
  simp only [isHand, Bool.and_eq_true, decide_eq_true_eq] at h
  exact ⟨h.1, fun j hj => List.all_eq_true.1 h.2 j (List.mem_range.2 hj)⟩
theorem handOk_card {xs : List Card} {i : Nat} (h : handOk xs i = true) : isCard (cx xs i) = true := by
  simp only [handOk, Bool.and_eq_true] at h
  exact h.1
theorem rowC_full (xs : List Card) : (rowC xs xs.length).toList = cells4 xs := by simp [rowC]
theorem heap_at {w : World} {o : Obj} {n : Nat} (h : n = w.heap.size) : (w.alloc o).heap[n]? = some o := h ▸ heap_alloc_new w o
theorem heap_past {w : World} {o x : Obj} {n : Nat} (hn : n < w.heap.size) (h : w.heap[n]? = some x) : (w.alloc o).heap[n]? = some x := (Below.heap_alloc w o n hn).trans h
end Go.Proofs.Ytjlaoocomkonhaa
