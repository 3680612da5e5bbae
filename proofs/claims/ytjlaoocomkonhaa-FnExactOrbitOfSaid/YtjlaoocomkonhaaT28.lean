/- Rows of cards of the call's own: append beside other rows, comparison. -/
import Derived.Test.YtjlaoocomkonhaaT9
import Derived.Test.YtjlaoocomkonhaaT20
namespace Go.Proofs.Ytjlaoocomkonhaa
open Go.RowKit
theorem OwnC.mono {B B' : Nat} {w : World} {v : Value} {cs : List Card} (h : OwnC B w v cs) (hB : B' ≤ B) : OwnC B' w v cs := by
  rcases h.2 with h0 | ⟨g, cap, cur, h1, hb, h2⟩
  · exact ⟨h.1, .inl h0⟩
  · exact ⟨h.1, .inr ⟨g, cap, cur, h1, by omega, h2⟩⟩
theorem OwnC.grown {B : Nat} {w w' : World} {u : Value} {row : Option Nat} {cs : List Card} (h : OwnC B w u cs) (hg : w.grownBy w' row) (hn : ∀ g, u.ownBlock = some g → row ≠ some g) : OwnC B w' u cs := by
  refine World.ownsRow.kept h hg ?_
  cases hu : u.ownBlock with
  | none => exact .inl rfl
  | some g => exact .inr fun e => hn g hu e.symm
theorem ownC_none (B : Nat) (w : World) : OwnC B w (.slice none 0 0) [] := ⟨rfl, .inl ⟨rfl, rfl⟩⟩
def RetCT (W : World) (ok : Bool) (cs : List Card) (e : Ending) (w' : World) : Prop := ∃ v, e = .returned (.tuple #[v, .bool ok]) ∧ OwnC W.heap.size w' v cs ∧ Kept W w'
/-- A row of cards of the call's own that is not the one that grows. -/
def SideK (w : World) (v u : Value) (cs : List Card) : Prop := (∃ B, OwnC B w u cs) ∧ ∀ g, u.ownBlock = some g → v.ownBlock ≠ some g
theorem SideK.kept {w w' : World} {v u : Value} {cs : List Card} (h : SideK w v u cs) (hk : Kept w w') : SideK w' v u cs := by
  obtain ⟨⟨B, h⟩, hn⟩ := h
  exact ⟨⟨B, h.kept hk⟩, hn⟩
theorem SideK.grown {w w' : World} {v v' u : Value} {cs : List Card} (h : SideK w v u cs) (hg : w.grownBy w' v.ownBlock) (hv : v'.ownBlock = v.ownBlock ∨ v'.ownBlock = some w.heap.size) : SideK w' v' u cs := by
  obtain ⟨⟨B, h⟩, hn⟩ := h
  refine ⟨⟨B, h.grown hg hn⟩, fun g hu => ?_⟩
  rcases hv with e | e
  · rw [e]; exact hn g hu
  · rw [e]; intro e'; cases e'; have := (h.lt _ hu).2; omega
theorem fil_nextC (p : Card → Bool) (cs : List Card) (k : Nat) (h : k < cs.length) : fil p cs (k + 1) = fil p cs k ++ if p (cx cs k) then [cx cs k] else [] := by
  simp only [fil, take_cx cs k h, List.filter_append]
  cases hp : p (cx cs k) <;> simp [hp]
/-- append of one card; where the new row lies. -/
theorem wpList_append_card_at {ops : Array Oper} {rest : List Oper} {o : Oper} {a : Act} {Q : Exit → Act → World → Prop} {w : World} (hgd : o.guard = none) (s x : Operand)
    (ho : o.op = .call { callee := .builtin .append, args := #[s, x], argTypes := #[22, 22] }) (W : World) (B : Nat) (v : Value) (cs : List Card) (hs : a.eval s = v) (hown : OwnC B w v cs) (hk : Kept W w) (hWB : W.heap.size ≤ B) (hBw : B ≤ w.heap.size)
    (g cap : Nat) (c : Card) (hx : a.eval x = .slice (some ⟨g, 0, none⟩) 1 cap) (hc : CardCells w g 0 c) (hl : cs.length ≤ 1048576)
    (h : ∀ v' w', OwnC B w' v' (cs ++ [c]) → Kept W w' → w.grownBy w' v.ownBlock → (v'.ownBlock = v.ownBlock ∨ v'.ownBlock = some w.heap.size) → wpList Try.prog ops Q rest (a.put o.dst v') w') : wpList Try.prog ops Q (o :: rest) a w := by
  obtain ⟨i, hi, hz, hsz, hb⟩ := info_parts info_card
  obtain ⟨h0, h1, h2, h3⟩ := hc
  refine wpList_append_own_at w hgd s x 22 ho B T4 i _ 4 32 Try.underlying22 hi hz hsz hb rfl (by decide) v cs.length (cells4 cs) hs hown ⟨g, 0, none⟩ 1 cap
    [.int .i64 c.a, .int .i64 c.b, .int .i64 c.c, .int .i64 c.d] hx rfl ?_ ?_ (by unfold maxLen; omega) (by omega) hBw ?_
  · intro j u hj
    match j, hj with
    | 0, hj => simp at hj; subst hj; exact h0
    | 1, hj => simp at hj; subst hj; exact h1
    | 2, hj => simp at hj; subst hj; exact h2
    | 3, hj => simp at hj; subst hj; exact h3
    | j + 4, hj => simp at hj
  · intro u hu
    simp at hu
    rcases hu with rfl | rfl | rfl | rfl <;> rfl
  · intro v' w' hown' hg _ hat
    refine h v' w' ?_ (hk.grown hg fun k hk => Nat.le_trans hWB (hown.lt k hk).1) hg hat
    have e : cells4 (cs ++ [c]) = cells4 cs ++ [.int .i64 c.a, .int .i64 c.b, .int .i64 c.c, .int .i64 c.d] := by simp [cells4]
    unfold OwnC
    rw [e, List.length_append]
    exact hown'
theorem eqC_any (v u : Value) (B B' : Nat) (cs : List Card) (w : World) (h : OwnC B w v cs) (h' : OwnC B' w u cs) (hl : cs.length ≤ 1048576) :
    Calls Try.prog 11 #[v, u] w fun e w' => e = .returned (.bool true) ∧ Kept w w' := by
  obtain ⟨ao, cap, rfl, hx, _⟩ := h.reads
  obtain ⟨bo, cap', rfl, hy, _⟩ := h'.reads
  have := eqIntA4S_any ao bo cap cap' cs cs w hx hy hl hl
  simpa using this
end Go.Proofs.Ytjlaoocomkonhaa
