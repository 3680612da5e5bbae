/- Contracts: the marks that a law writes into a game; a game in a variable. -/
import Derived.Test.YtjlaoocomkonhaaT34
namespace Go.Proofs.Ytjlaoocomkonhaa
open Go.RowKit
/-- A game in a block. -/
def Box5 (w : World) (g : Nat) (s n : Int) (a b c : Value) : Prop :=
  g < w.heap.size ∧ w.cell? ⟨g, 0, none⟩ = some (.int .i64 s) ∧ w.cell? ⟨g, 1, none⟩ = some (.int .i64 n) ∧ w.cell? ⟨g, 2, none⟩ = some a ∧ w.cell? ⟨g, 3, none⟩ = some b ∧ w.cell? ⟨g, 4, none⟩ = some c
theorem Box5.kept {w w' : World} {g : Nat} {s n : Int} {a b c : Value} (h : Box5 w g s n a b c) (hk : Kept w w') : Box5 w' g s n a b c := by
  obtain ⟨h0, h1, h2, h3, h4, h5⟩ := h
  have hb := hk.below
  exact ⟨Nat.lt_of_lt_of_le h0 hb.size, (hb.cell (p := ⟨_, _, none⟩) h0).trans h1, (hb.cell (p := ⟨_, _, none⟩) h0).trans h2, (hb.cell (p := ⟨_, _, none⟩) h0).trans h3, (hb.cell (p := ⟨_, _, none⟩) h0).trans h4, (hb.cell (p := ⟨_, _, none⟩) h0).trans h5⟩
theorem Box5.grown {w w' : World} {g : Nat} {s n : Int} {a b c : Value} {row : Option Nat} (h : Box5 w g s n a b c) (hg : w.grownBy w' row) (hr : row ≠ some g) : Box5 w' g s n a b c := by
  obtain ⟨h0, h1, h2, h3, h4, h5⟩ := h
  have hb : w'.heap[g]? = w.heap[g]? := hg.block g h0 (Ne.symm hr)
  exact ⟨Nat.lt_of_lt_of_le h0 hg.size, (cell_block hb _).trans h1, (cell_block hb _).trans h2, (cell_block hb _).trans h3, (cell_block hb _).trans h4, (cell_block hb _).trans h5⟩
theorem Box5.new {w : World} {g : Nat} {t : TypeId} (s n : Int) (a b c : Value) (hg : g = w.heap.size) : Box5 (w.alloc (.cells #[.int .i64 s, .int .i64 n, a, b, c] t)) g s n a b c := by
  have hh := heap_at (o := .cells #[.int .i64 s, .int .i64 n, a, b, c] t) hg
  exact ⟨by simp; omega, cell_of_row _ g 0 _ t (0, 0) hh, cell_of_row _ g 1 _ t (0, 0) hh, cell_of_row _ g 2 _ t (0, 0) hh, cell_of_row _ g 3 _ t (0, 0) hh, cell_of_row _ g 4 _ t (0, 0) hh⟩
theorem markIntS_big (v : Value) (n : Nat) (cells : List Value) (B : Nat) (k : Int) (w : World) (h : w.ownsRow B 3 1 v n cells) (hn : n ≤ 1048576) (hk : 0 ≤ k) (hk' : k ≤ 100000000) :
    Calls Try.prog 20 #[v, .int .i64 k] w fun e w' => e = .returned (.int .i64 (k + n)) ∧ w'.ownsRow B 3 1 v n (marks k n) ∧ w.grownBy w' v.ownBlock := by
  rcases h.2 with ⟨rfl, h0⟩ | ⟨g, cap, cur, rfl, hb, hg, hcap, hmax, hs, ht⟩
  · subst h0
    go_enter Try.func20, Try.ntmps20
    go_wp2
    refine wp_loop_rounds 1 ?_
    rw [rounds_succ]
    go_wp2
    go_ret
    exact ⟨ret_of (by simp), ⟨by simp [marks], .inl ⟨rfl, rfl⟩⟩, grown_refl _ _⟩
  · have hgs := (Array.getElem?_eq_some_iff.1 hg).1
    have hs' : n ≤ cur.size := by omega
    have hown := hid (show ∀ wr : World, wr.heap[g]? = some (.cells (mkd k cur n) 3) → wr.ownsRow B 3 1 (.slice (some ⟨g, 0, none⟩) n cap) n (marks k n) from fun wr hw => ⟨by simp [marks], .inr ⟨g, cap, _, rfl, hb, hw, hcap, hmax, by rw [mkd_size _ _ hs', hs], by rw [Nat.mul_one]; exact mkd_take _ _ _⟩⟩)
    have hsH := hid hs'
    clear hs ht hmax hcap hs'
    go_enter Try.func20, Try.ntmps20
    go_wp2
    go_loopw [5, 1] (fun i s wr => ∃ m : Nat, m ≤ n ∧ i = .int .i64 m ∧ s = .int .i64 (k + m) ∧ wr.heap[g]? = some (.cells (mkd k cur m) 3) ∧ w.grownBy wr (some g)) (fun i _ _ => n - (intOf i).toNat)
    case atStart => exact ⟨0, Nat.zero_le _, rfl, by simp, by rw [mkd_zero]; exact hg, grown_refl _ _⟩
    case round wr =>
      obtain ⟨m, hm, rfl, rfl, hw, hgr⟩ := hrel
      by_cases hlt : m < n
      · have hwH := hid hw
        have hgrH := hid hgr
        have hlen := hid (show m < cur.size by have := hsH.out; omega)
        obtain ⟨v0, hv0⟩ := mkd_some k (cur := cur) (t := m) hlen.out
        have hc := (cell_of_row _ g m _ _ (0, 0) hw).trans hv0
        have hf := frozen_of_row _ g m _ _ hw
        have hset := hid (mkd_set k (cur := cur) (t := m) hlen.out)
        clear hw hgr hv0
        go_wp2
        go_roundw
        case rel =>
          refine ⟨m + 1, by omega, by go_num, by go_num, ?_, ?_⟩
          · rw [heap_setCell_same _ _ _ _ _ _ hwH.out]
            exact congrArg (fun c => some (Obj.cells c 3 (0, 0))) hset.out
          · exact grown_setCell hgrH.out (p := ⟨g, _, none⟩) rfl _
        case measure => simp [intOf]; omega
      · obtain rfl : m = n := by omega
        go_wp2
        go_ret
        exact ⟨rfl, hown.out _ hw, hgr⟩
end Go.Proofs.Ytjlaoocomkonhaa
