/- Contracts: the marks that a law writes into a game; a game in a variable. -/
import Derived.Test.YtmdnnejaipdkhaaT34
namespace Go.Proofs.Ytmdnnejaipdkhaa
open Go.RowKit
/-- A game in a block. -/
def Box5 (w : World) (g : Nat) (s n : Int) (a b c : Value) : Prop :=
  g < w.heap.size ∧ w.cell? ⟨g, 0, none⟩ = some (.int .i64 s) ∧ w.cell? ⟨g, 1, none⟩ = some (.int .i64 n) ∧ w.cell? ⟨g, 2, none⟩ = some a ∧ w.cell? ⟨g, 3, none⟩ = some b ∧ w.cell? ⟨g, 4, none⟩ = some c
theorem Box5.kept {w w' : World} {g : Nat} {s n : Int} {a b c : Value} (h : Box5 w g s n a b c) (hk : Kept w w') : Box5 w' g s n a b c := by
  obtain ⟨h0, h1, h2, h3, h4, h5⟩ := h
  have hb := hk.below
  exact ⟨Nat.lt_of_lt_of_le h0 hb.size, (hb.cell (p := ⟨_, _, none⟩) h0).trans h1, (hb.cell (p := ⟨_, _, none⟩) h0).trans h2, (hb.cell (p := ⟨_, _, none⟩) h0).trans h3, (hb.cell (p := ⟨_, _, none⟩) h0).trans h4, (hb.cell (p := ⟨_, _, none⟩) h0).trans h5⟩
theorem Box5.grown {w w' : World} {g : Nat} {s n : Int} {a b c : Value} {row : Option Nat} (h : Box5 w g s n a b c) (hg : w.grownBy w' row) (hr : row ≠ some g) : Box5 w' g s n a b c := by
  obtain ⟨h0, h1, h2, h3, h4, h5⟩ := h
  have hb : w'.heap[g]? = w.heap[g]? := hg.block g h0 (Ne.symm hr)
  exact ⟨Nat.lt_of_lt_of_le h0 hg.size, (cell_block hb _).trans h1, (cell_block hb _).trans h2, (cell_block hb _).trans h3, (cell_block hb _).trans h4, (cell_block hb _).trans h5⟩
theorem Box5.new {w : World} {g : Nat} {t : TypeId} (s n : Int) (a b c : Value) (hg : g = w.heap.size) : Box5 (w.alloc (.cells #[.int .i64 s, .int .i64 n, a, b, c] t)) g s n a b c := by
  have hh := heap_at (o := .cells #[.int .i64 s, .int .i64 n, a, b, c] t) hg
  exact ⟨by simp; omega, cell_of_row _ g 0 _ t (0, 0) hh, cell_of_row _ g 1 _ t (0, 0) hh, cell_of_row _ g 2 _ t (0, 0) hh, cell_of_row _ g 3 _ t (0, 0) hh, cell_of_row _ g 4 _ t (0, 0) hh⟩
end Go.Proofs.Ytmdnnejaipdkhaa
