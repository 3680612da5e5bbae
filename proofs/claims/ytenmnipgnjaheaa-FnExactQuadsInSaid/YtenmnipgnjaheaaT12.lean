/- Rows of three numbers: slices of them in memory, append, comparison. -/
import Derived.Test.YtenmnipgnjaheaaT1
import Derived.Maps.AppendAt
namespace Go.Proofs.Ytenmnipgnjaheaa
open Go.RowKit
/-- A line's three places, or any three numbers. -/
structure Ln where
  a : Int
  b : Int
  c : Int
  deriving DecidableEq
abbrev Ln.v (x : Ln) : Value := .agg #[.int .i64 x.a, .int .i64 x.b, .int .i64 x.c]
/-- The row at a place of a list; zeros behind its end. -/
def lx (ls : List Ln) (i : Nat) : Ln := ls.getD i ⟨0, 0, 0⟩
theorem lx_get (ls : List Ln) (i : Nat) (h : i < ls.length) : lx ls i = ls[i] := by simp [lx, h]
theorem lx_mem {ls : List Ln} {i : Nat} (h : i < ls.length) : lx ls i ∈ ls := by rw [lx_get ls i h]; exact List.getElem_mem h
theorem take_lx (ls : List Ln) (k : Nat) (h : k < ls.length) : ls.take (k + 1) = ls.take k ++ [lx ls k] := by
  rw [List.take_succ_eq_append_getElem h, lx_get ls k h]
theorem eq_of_lx {xs ys : List Ln} (h : xs.length = ys.length) (he : ∀ j, j < xs.length → lx xs j = lx ys j) : xs = ys := by
  apply List.ext_getElem h
  intro i h1 h2
  rw [← lx_get xs i h1, ← lx_get ys i h2]
  exact he i h1
def LnCells (w : World) (g off : Nat) (x : Ln) : Prop :=
  w.cell? ⟨g, off, none⟩ = some (.int .i64 x.a) ∧ w.cell? ⟨g, off + 1, none⟩ = some (.int .i64 x.b) ∧ w.cell? ⟨g, off + 2, none⟩ = some (.int .i64 x.c)
/-- A slice's address reads as these rows. -/
def LinesAt (w : World) (ao : Option Addr) (ls : List Ln) : Prop :=
  ∀ i, i < ls.length → ∃ g off, ao = some ⟨g, off, none⟩ ∧ g < w.heap.size ∧ LnCells w g (off + i * 3) (lx ls i)
theorem LinesAt.kept {w w' : World} {ao : Option Addr} {ls : List Ln} (h : LinesAt w ao ls) (hk : Kept w w') : LinesAt w' ao ls := by
  have hb := hk.below
  intro i hi
  obtain ⟨g, off, ha, hg, h1, h2, h3⟩ := h i hi
  exact ⟨g, off, ha, Nat.lt_of_lt_of_le hg hb.size, (hb.cell (p := ⟨_, _, none⟩) hg).trans h1, (hb.cell (p := ⟨_, _, none⟩) hg).trans h2, (hb.cell (p := ⟨_, _, none⟩) hg).trans h3⟩
def cells3 (ls : List Ln) : List Value := ls.flatMap fun x => [.int .i64 x.a, .int .i64 x.b, .int .i64 x.c]
theorem cells3_length (ls : List Ln) : (cells3 ls).length = ls.length * 3 := by
  induction ls with
  | nil => rfl
  | cons x ls ih => simp only [cells3, List.flatMap_cons, List.length_append, List.length_cons] at ih ⊢; simp only [ih]; simp; omega
theorem cells3_get (ls : List Ln) (i : Nat) (h : i < ls.length) :
    (cells3 ls)[i * 3]? = some (.int .i64 (lx ls i).a) ∧ (cells3 ls)[i * 3 + 1]? = some (.int .i64 (lx ls i).b) ∧ (cells3 ls)[i * 3 + 2]? = some (.int .i64 (lx ls i).c) := by
  induction ls generalizing i with
  | nil => simp at h
  | cons x ls ih =>
    have e : cells3 (x :: ls) = [.int .i64 x.a, .int .i64 x.b, .int .i64 x.c] ++ cells3 ls := rfl
    cases i with
    | zero => rw [e]; simp [lx]
    | succ i =>
      have h' := ih i (by simpa using h)
      have ec : lx (x :: ls) (i + 1) = lx ls i := by simp [lx]
      rw [e, ec]
      have l : ∀ j, ([Value.int .i64 x.a, .int .i64 x.b, .int .i64 x.c] ++ cells3 ls)[(i + 1) * 3 + j]? = (cells3 ls)[i * 3 + j]? := fun j => by
        rw [List.getElem?_append_right (by simp; omega)]
        congr 1
        simp; omega
      exact ⟨(l 0).trans h'.1, (l 1).trans h'.2.1, (l 2).trans h'.2.2⟩
theorem linesAt_of_cells {w : World} {g off : Nat} {ls : List Ln} (hg : g < w.heap.size) (h : ∀ j u, (cells3 ls)[j]? = some u → w.cell? ⟨g, off + j, none⟩ = some u) : LinesAt w (some ⟨g, off, none⟩) ls := by
  intro i hi
  obtain ⟨h1, h2, h3⟩ := cells3_get ls i hi
  exact ⟨g, off, rfl, hg, by simpa using h _ _ h1, by simpa [Nat.add_assoc] using h _ _ h2, by simpa [Nat.add_assoc] using h _ _ h3⟩
theorem lnCells_new {w : World} {g : Nat} {t : TypeId} (c : Ln) (h : g = w.heap.size) : LnCells (w.alloc (.cells #[.int .i64 c.a, .int .i64 c.b, .int .i64 c.c] t)) g 0 c := by
  have hh := heap_at (o := .cells #[.int .i64 c.a, .int .i64 c.b, .int .i64 c.c] t) h
  exact ⟨cell_of_row _ g 0 _ t (0, 0) hh, cell_of_row _ g 1 _ t (0, 0) hh, cell_of_row _ g 2 _ t (0, 0) hh⟩
/-- A block aside: a card's cells, not the block of a growing row. -/
def SideC (w : World) (v : Value) (g : Nat) (x : Card) : Prop := g < w.heap.size ∧ CardCells w g 0 x ∧ v.ownBlock ≠ some g
theorem SideC.kept {w w' : World} {v : Value} {g : Nat} {x : Card} (h : SideC w v g x) (hk : Kept w w') : SideC w' v g x := by
  have hb := hk.below
  obtain ⟨hg, ⟨h1, h2, h3, h4⟩, hn⟩ := h
  exact ⟨Nat.lt_of_lt_of_le hg hb.size, ⟨(hb.cell (p := ⟨_, _, none⟩) hg).trans h1, (hb.cell (p := ⟨_, _, none⟩) hg).trans h2, (hb.cell (p := ⟨_, _, none⟩) hg).trans h3, (hb.cell (p := ⟨_, _, none⟩) hg).trans h4⟩, hn⟩
theorem cell_block {w w' : World} {g : Nat} (h : w'.heap[g]? = w.heap[g]?) (o : Nat) : w'.cell? ⟨g, o, none⟩ = w.cell? ⟨g, o, none⟩ := by
  simp only [World.cell?, h]
theorem SideC.grown {w w' : World} {v v' : Value} {g : Nat} {x : Card} (h : SideC w v g x) (hg : w.grownBy w' v.ownBlock) (hv : v'.ownBlock = v.ownBlock ∨ v'.ownBlock = some w.heap.size) : SideC w' v' g x := by
  obtain ⟨hlt, ⟨h1, h2, h3, h4⟩, hn⟩ := h
  have hb : w'.heap[g]? = w.heap[g]? := hg.block g hlt (fun e => hn e.symm)
  refine ⟨Nat.lt_of_lt_of_le hlt hg.size, ⟨(cell_block hb _).trans h1, (cell_block hb _).trans h2, (cell_block hb _).trans h3, (cell_block hb _).trans h4⟩, ?_⟩
  rcases hv with e | e
  · rw [e]; exact hn
  · rw [e]; intro e'; cases e'; omega
end Go.Proofs.Ytenmnipgnjaheaa
