/- Rows that stand aside while another row grows; a filtered list of rows. -/
import Derived.Test.YtjlaoocomkonhaaT12
import Derived.Test.YtjlaoocomkonhaaT18
namespace Go.Proofs.Ytjlaoocomkonhaa
open Go.RowKit
/- The rows' type is 30 here. -/
/-- A row of the call's own that is not the one that grows. -/
def SideL (w : World) (v u : Value) (ls : List Ln) : Prop := (∃ B, OwnL B w u ls) ∧ ∀ g, u.ownBlock = some g → v.ownBlock ≠ some g
theorem SideL.kept {w w' : World} {v u : Value} {ls : List Ln} (h : SideL w v u ls) (hk : Kept w w') : SideL w' v u ls := by
  obtain ⟨⟨B, h⟩, hn⟩ := h
  exact ⟨⟨B, h.kept hk⟩, hn⟩
theorem OwnL.grown {B : Nat} {w w' : World} {u : Value} {row : Option Nat} {ls : List Ln} (h : OwnL B w u ls) (hg : w.grownBy w' row) (hn : ∀ g, u.ownBlock = some g → row ≠ some g) : OwnL B w' u ls := by
  refine World.ownsRow.kept h hg ?_
  cases hu : u.ownBlock with
  | none => exact .inl rfl
  | some g => exact .inr fun e => hn g hu e.symm
theorem SideL.grown {w w' : World} {v v' u : Value} {ls : List Ln} (h : SideL w v u ls) (hg : w.grownBy w' v.ownBlock) (hv : v'.ownBlock = v.ownBlock ∨ v'.ownBlock = some w.heap.size) : SideL w' v' u ls := by
  obtain ⟨⟨B, h⟩, hn⟩ := h
  refine ⟨⟨B, h.grown hg hn⟩, fun g hu => ?_⟩
  rcases hv with e | e
  · rw [e]; exact hn g hu
  · rw [e]; intro e'; cases e'; have := (h.lt _ hu).2; omega
/-- The rows among the first k of which a test says yes. -/
def fil {α : Type} (p : α → Bool) (ls : List α) (k : Nat) : List α := (ls.take k).filter p
theorem fil_zero {α : Type} (p : α → Bool) (ls : List α) : fil p ls 0 = [] := by simp [fil]
theorem fil_all {α : Type} (p : α → Bool) (ls : List α) : fil p ls ls.length = ls.filter p := by simp [fil]
theorem fil_next (p : Ln → Bool) (ls : List Ln) (k : Nat) (h : k < ls.length) : fil p ls (k + 1) = fil p ls k ++ if p (lx ls k) then [lx ls k] else [] := by
  simp only [fil, take_lx ls k h, List.filter_append]
  cases hp : p (lx ls k) <;> simp [hp]
theorem fil_len {α : Type} (p : α → Bool) (ls : List α) (k : Nat) : (fil p ls k).length ≤ ls.length := by
  have h1 := List.length_filter_le p (ls.take k)
  have h2 := List.length_take_le k ls
  have h3 := List.length_take_le' k ls
  unfold fil; omega
/-- append of one row; where the new row lies. -/
theorem wpList_append_ln_at {ops : Array Oper} {rest : List Oper} {o : Oper} {a : Act} {Q : Exit → Act → World → Prop} {w : World} (hgd : o.guard = none) (s x : Operand)
    (ho : o.op = .call { callee := .builtin .append, args := #[s, x], argTypes := #[64, 64] }) (W : World) (B : Nat) (v : Value) (ls : List Ln) (hs : a.eval s = v) (hown : OwnL B w v ls) (hk : Kept W w) (hWB : W.heap.size ≤ B) (hBw : B ≤ w.heap.size)
    (g cap : Nat) (c : Ln) (hx : a.eval x = .slice (some ⟨g, 0, none⟩) 1 cap) (hc : LnCells w g 0 c) (hl : ls.length ≤ 1048576)
    (h : ∀ v' w', OwnL B w' v' (ls ++ [c]) → Kept W w' → w.grownBy w' v.ownBlock → (v'.ownBlock = v.ownBlock ∨ v'.ownBlock = some w.heap.size) → wpList Try.prog ops Q rest (a.put o.dst v') w') : wpList Try.prog ops Q (o :: rest) a w := by
  obtain ⟨i, hi, hz, hsz, hb⟩ := info_parts info_ln
  obtain ⟨h0, h1, h2⟩ := hc
  refine wpList_append_own_at w hgd s x 64 ho B T3 i _ 3 24 Try.underlying64 hi hz hsz hb rfl (by decide) v ls.length (cells3 ls) hs hown ⟨g, 0, none⟩ 1 cap
    [.int .i64 c.a, .int .i64 c.b, .int .i64 c.c] hx rfl ?_ ?_ (by unfold maxLen; omega) (by omega) hBw ?_
  · intro j u hj
    match j, hj with
    | 0, hj => simp at hj; subst hj; exact h0
    | 1, hj => simp at hj; subst hj; exact h1
    | 2, hj => simp at hj; subst hj; exact h2
    | j + 3, hj => simp at hj
  · intro u hu
    simp at hu
    rcases hu with rfl | rfl | rfl <;> rfl
  · intro v' w' hown' hg _ hat
    refine h v' w' ?_ (hk.grown hg fun k hk => Nat.le_trans hWB (hown.lt k hk).1) hg hat
    have e : cells3 (ls ++ [c]) = cells3 ls ++ [.int .i64 c.a, .int .i64 c.b, .int .i64 c.c] := by simp [cells3]
    unfold OwnL
    rw [e, List.length_append]
    exact hown'
end Go.Proofs.Ytjlaoocomkonhaa
