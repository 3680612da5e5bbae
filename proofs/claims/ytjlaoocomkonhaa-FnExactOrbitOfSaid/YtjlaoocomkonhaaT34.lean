/- Contracts: what a law does with a game that it is given: its size, its copy, and whether two are the same. -/
import Derived.Test.YtjlaoocomkonhaaT16
import Derived.Test.YtjlaoocomkonhaaT24
import Derived.Test.YtjlaoocomkonhaaT28
namespace Go.Proofs.Ytjlaoocomkonhaa
open Go.RowKit
def cpF (xs : List Int) (k : Nat) : Nat → Int := fun i => if i < k then ix xs i else 0
theorem own_tab2 {w : World} {B g n : Nat} {f : Nat → Int} (hB : B ≤ g) (hn : n ≤ maxLen) (h : w.heap[g]? = some (.cells (tab n f) 3)) : OwnI B w (.slice (some ⟨g, 0, none⟩) n n) (tl n f) := by
  have e : (tab n f).toList = vals1 (tl n f) := by simp [tab, tl]
  unfold OwnI
  rw [tl_len]
  exact ⟨by simp [tl], .inr ⟨g, n, tab n f, rfl, hB, h, Nat.le_refl _, hn, by rw [tab_size, Nat.mul_one], by rw [e, List.take_of_length_le (by simp [tl])]⟩⟩
theorem cpF_end (xs : List Int) : tl xs.length (cpF xs xs.length) = xs := by
  apply List.ext_getElem (by simp [tl])
  intro i h1 h2
  simp only [tl, List.getElem_map, List.getElem_range, cpF, if_pos h2, ix_get xs i h2]
/-- A deal's and a game's values. -/
abbrev dv (s n : Int) (a : Value) : Value := .agg #[.int .i64 s, .int .i64 n, a]
abbrev gv (s n : Int) (a b c : Value) : Value := .agg #[.int .i64 s, .int .i64 n, a, b, c]
/-- A row of its own beside blocks that lie before it and change. -/
theorem own_move {V V' : World} {z y : More} {B n len : Nat} {t : TypeId} {v : Value} {cells : List Value} (h : (ext V z).ownsRow B t n v len cells) (hs : V'.heap.size = V.heap.size) (hB : V.heap.size ≤ B) : (ext V' (z.add y)).ownsRow B t n v len cells := by
  rcases h.2 with h0 | ⟨g, cap, cur, h1, hb, h2, h3⟩
  · exact ⟨h.1, .inl h0⟩
  · refine ⟨h.1, .inr ⟨g, cap, cur, h1, hb, ?_, h3⟩⟩
    rw [← ext_ext]
    have hg : g < (ext V' z).heap.size := by
      have := (Array.getElem?_eq_some_iff.1 h2).1
      rw [ext_size] at this ⊢
      omega
    rw [ext_heap _ _ _ hg, ← h2]
    simp only [ext]
    rw [Array.getElem?_append_right (by omega), Array.getElem?_append_right (by omega), hs]
theorem own_here {V V' : World} {z : More} {B n len : Nat} {t : TypeId} {v : Value} {cells : List Value} (h : (ext V z).ownsRow B t n v len cells) (hs : V'.heap.size = V.heap.size) (hB : V.heap.size ≤ B) : (ext V' z).ownsRow B t n v len cells := by
  rcases h.2 with h0 | ⟨g, cap, cur, h1, hb, h2, h3⟩
  · exact ⟨h.1, .inl h0⟩
  · refine ⟨h.1, .inr ⟨g, cap, cur, h1, hb, ?_, h3⟩⟩
    rw [← h2]
    simp only [ext]
    rw [Array.getElem?_append_right (by omega), Array.getElem?_append_right (by omega), hs]
theorem szIntA4S_any' (ao : Option Addr) (n cap : Nat) (left : Int) (hn : n ≤ 9223372036854775807) (h0 : 0 ≤ left) (h1 : left ≤ 1048576) (w : World) :
    Calls Try.prog 7 #[.slice ao n cap, .int .i64 left] w fun e w' => e = .returned (.int .i64 (if (n : Int) ≤ left then left - n else -1)) ∧ w = w' := by
  by_cases h : (n : Int) ≤ left
  all_goals
    go_enter Try.func7, Try.ntmps7
    go_wp2
    go_ret
    exact ⟨ret_of (by simp [h]), rfl⟩
/-- A call hands back a game that lies in memory of its own. -/
def RetG (W : World) (s n : Int) (laid : List Card) (scores wrong : List Int) (e : Ending) (w' : World) : Prop :=
  ∃ lo lc so sc wo wc, e = .returned (gv s n (.slice lo laid.length lc) (.slice so scores.length sc) (.slice wo wrong.length wc)) ∧
    OwnC W.heap.size w' (.slice lo laid.length lc) laid ∧ OwnI W.heap.size w' (.slice so scores.length sc) scores ∧ OwnI W.heap.size w' (.slice wo wrong.length wc) wrong ∧
    (∀ g, (Value.slice lo laid.length lc).ownBlock = some g → (Value.slice so scores.length sc).ownBlock ≠ some g) ∧ (∀ g, (Value.slice lo laid.length lc).ownBlock = some g → (Value.slice wo wrong.length wc).ownBlock ≠ some g) ∧
    (∀ g, (Value.slice so scores.length sc).ownBlock = some g → (Value.slice wo wrong.length wc).ownBlock ≠ some g) ∧ Kept W w'
end Go.Proofs.Ytjlaoocomkonhaa
