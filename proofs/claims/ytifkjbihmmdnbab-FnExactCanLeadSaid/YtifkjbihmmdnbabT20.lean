/- Rows that stand aside while another row grows; a filtered list of rows. -/
import Derived.Test.YtifkjbihmmdnbabT12
import Derived.Test.YtifkjbihmmdnbabT18
namespace Go.Proofs.Ytifkjbihmmdnbab
open Go.RowKit
/-- A row of the call's own that is not the one that grows. -/
def SideL (w : World) (v u : Value) (ls : List Ln) : Prop := (∃ B, OwnL B w u ls) ∧ ∀ g, u.ownBlock = some g → v.ownBlock ≠ some g
theorem SideL.kept {w w' : World} {v u : Value} {ls : List Ln} (h : SideL w v u ls) (hk : Kept w w') : SideL w' v u ls := by
  obtain ⟨⟨B, h⟩, hn⟩ := h
  exact ⟨⟨B, h.kept hk⟩, hn⟩
theorem OwnL.grown {B : Nat} {w w' : World} {u : Value} {row : Option Nat} {ls : List Ln} (h : OwnL B w u ls) (hg : w.grownBy w' row) (hn : ∀ g, u.ownBlock = some g → row ≠ some g) : OwnL B w' u ls := by
  refine World.ownsRow.kept h hg ?_
  cases hu : u.ownBlock with
  | none => exact .inl rfl
  | some g => exact .inr fun e => hn g hu e.symm
theorem SideL.grown {w w' : World} {v v' u : Value} {ls : List Ln} (h : SideL w v u ls) (hg : w.grownBy w' v.ownBlock) (hv : v'.ownBlock = v.ownBlock ∨ v'.ownBlock = some w.heap.size) : SideL w' v' u ls := by
  obtain ⟨⟨B, h⟩, hn⟩ := h
  refine ⟨⟨B, h.grown hg hn⟩, fun g hu => ?_⟩
  rcases hv with e | e
  · rw [e]; exact hn g hu
  · rw [e]; intro e'; cases e'; have := (h.lt _ hu).2; omega
/-- The rows among the first k of which a test says yes. -/
def fil {α : Type} (p : α → Bool) (ls : List α) (k : Nat) : List α := (ls.take k).filter p
theorem fil_zero {α : Type} (p : α → Bool) (ls : List α) : fil p ls 0 = [] := by simp [fil]
theorem fil_all {α : Type} (p : α → Bool) (ls : List α) : fil p ls ls.length = ls.filter p := by simp [fil]
theorem fil_next (p : Ln → Bool) (ls : List Ln) (k : Nat) (h : k < ls.length) : fil p ls (k + 1) = fil p ls k ++ if p (lx ls k) then [lx ls k] else [] := by
  simp only [fil, take_lx ls k h, List.filter_append]
  cases hp : p (lx ls k) <;> simp [hp]
theorem fil_len {α : Type} (p : α → Bool) (ls : List α) (k : Nat) : (fil p ls k).length ≤ ls.length := by
  have h1 := List.length_filter_le p (ls.take k)
  have h2 := List.length_take_le k ls
  have h3 := List.length_take_le' k ls
  unfold fil; omega
end Go.Proofs.Ytifkjbihmmdnbab
