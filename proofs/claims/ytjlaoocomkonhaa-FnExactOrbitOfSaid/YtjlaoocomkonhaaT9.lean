/- append of one card onto a row of the call's own. -/
import Derived.Test.YtjlaoocomkonhaaT1
namespace Go.Proofs.Ytjlaoocomkonhaa
open Go.RowKit
theorem ownC_nil {B g : Nat} {w : World} (hB : B ≤ g) (h : w.heap[g]? = some (.cells #[] T4 (0, 0))) : OwnC B w (.slice (some ⟨g, 0, none⟩) 0 0) [] :=
  ⟨rfl, .inr ⟨g, 0, #[], rfl, hB, h, Nat.le_refl _, by unfold maxLen; omega, rfl, by simp [cells4]⟩⟩
theorem cardCells_new {w : World} {g : Nat} {t : TypeId} (c : Card) (h : g = w.heap.size) : CardCells (w.alloc (.cells #[.int .i64 c.a, .int .i64 c.b, .int .i64 c.c, .int .i64 c.d] t)) g 0 c := by
  have hh := heap_at (o := .cells #[.int .i64 c.a, .int .i64 c.b, .int .i64 c.c, .int .i64 c.d] t) h
  exact ⟨cell_of_row _ g 0 _ t (0, 0) hh, cell_of_row _ g 1 _ t (0, 0) hh, cell_of_row _ g 2 _ t (0, 0) hh, cell_of_row _ g 3 _ t (0, 0) hh⟩
theorem wpList_append_card {ops : Array Oper} {rest : List Oper} {o : Oper} {a : Act} {Q : Exit → Act → World → Prop} {w : World} (hgd : o.guard = none) (s x : Operand)
    (ho : o.op = .call { callee := .builtin .append, args := #[s, x], argTypes := #[22, 22] }) (W : World) (v : Value) (cs : List Card) (hs : a.eval s = v) (hown : OwnC W.heap.size w v cs) (hk : Kept W w)
    (g cap : Nat) (c : Card) (hx : a.eval x = .slice (some ⟨g, 0, none⟩) 1 cap) (hc : CardCells w g 0 c) (hl : cs.length ≤ 1048576)
    (h : ∀ v' z, OwnC W.heap.size (ext W z) v' (cs ++ [c]) → wpList Try.prog ops Q rest (a.put o.dst v') (ext W z)) : wpList Try.prog ops Q (o :: rest) a w := by
  obtain ⟨i, hi, hz, hsz, hb⟩ := info_parts info_card
  obtain ⟨h0, h1, h2, h3⟩ := hc
  refine wpList_append_own w hgd s x 22 ho W.heap.size T4 i _ 4 32 Try.underlying22 hi hz hsz hb rfl (by decide) v cs.length (cells4 cs) hs hown ⟨g, 0, none⟩ 1 cap
    [.int .i64 c.a, .int .i64 c.b, .int .i64 c.c, .int .i64 c.d] hx rfl ?_ ?_ (by unfold maxLen; omega) (by omega) hk.below.size ?_
  · intro j u hj
    match j, hj with
    | 0, hj => simp at hj; subst hj; exact h0
    | 1, hj => simp at hj; subst hj; exact h1
    | 2, hj => simp at hj; subst hj; exact h2
    | 3, hj => simp at hj; subst hj; exact h3
    | j + 4, hj => simp at hj
  · intro u hu
    simp at hu
    rcases hu with rfl | rfl | rfl | rfl <;> rfl
  · intro v' w' hown' hg _
    have hk' : Kept W w' := hk.grown hg fun k hk => (hown.lt k hk).1
    obtain ⟨z, rfl⟩ := hk'
    refine h v' z ?_
    have e : cells4 (cs ++ [c]) = cells4 cs ++ [.int .i64 c.a, .int .i64 c.b, .int .i64 c.c, .int .i64 c.d] := by simp [cells4]
    unfold OwnC
    rw [e, List.length_append]
    exact hown'
end Go.Proofs.Ytjlaoocomkonhaa
