/- Contracts: the pile of a seed. -/
import Derived.Test.YtjlaoocomkonhaaT28
import Derived.Test.YtjlaoocomkonhaaT16
import Derived.Deep.RegionHeld3
import Derived.Deep.AppendLies
namespace Go.Proofs.Ytjlaoocomkonhaa
open Go.RowKit
theorem cells4_set (cs : List Card) (i : Nat) (c : Card) (h : i < cs.length) :
    cells4 (cs.set i c) = ((((cells4 cs).set (i * 4) (.int .i64 c.a)).set (i * 4 + 1) (.int .i64 c.b)).set (i * 4 + 2) (.int .i64 c.c)).set (i * 4 + 3) (.int .i64 c.d) := by
  induction cs generalizing i with
  | nil => simp at h
  | cons x cs ih =>
    cases i with
    | zero => rfl
    | succ i =>
      rw [show (i + 1) * 4 = i * 4 + 4 by omega]
      exact congrArg (fun l => Value.int .i64 x.a :: .int .i64 x.b :: .int .i64 x.c :: .int .i64 x.d :: l) (ih i (by simpa using h))
theorem OwnC.setCard {B : Nat} {w : World} {g cap i : Nat} {cs : List Card} (c : Card) (h : OwnC B w (.slice (some ⟨g, 0, none⟩) cs.length cap) cs) (hi : i < cs.length) :
    OwnC B ((((w.setCell ⟨g, i * 4, none⟩ (.int .i64 c.a)).setCell ⟨g, i * 4 + 1, none⟩ (.int .i64 c.b)).setCell ⟨g, i * 4 + 2, none⟩ (.int .i64 c.c)).setCell ⟨g, i * 4 + 3, none⟩ (.int .i64 c.d)) (.slice (some ⟨g, 0, none⟩) cs.length cap) (cs.set i c) := by
  rcases h.2 with ⟨h0, _⟩ | ⟨g', cap', cur, h1, hb, hg, hn, hm, hs, ht⟩
  · cases h0
  · cases h1
    have e1 := heap_setCell_same w g (i * 4) _ _ (.int .i64 c.a) hg
    have e2 := heap_setCell_same _ g (i * 4 + 1) _ _ (.int .i64 c.b) e1
    have e3 := heap_setCell_same _ g (i * 4 + 2) _ _ (.int .i64 c.c) e2
    have e4 := heap_setCell_same _ g (i * 4 + 3) _ _ (.int .i64 c.d) e3
    refine ⟨by rw [cells4_length], .inr ⟨g, cap, _, by rw [List.length_set], hb, e4, by rw [List.length_set]; exact hn, hm, by simp [hs], ?_⟩⟩
    rw [List.length_set, cells4_set cs i c hi, ← ht]
    simp only [Array.toList_setIfInBounds, List.take_set]
theorem OwnC.setCardN {B : Nat} {w : World} {g cap i n : Nat} {cs : List Card} (c : Card) (h : OwnC B w (.slice (some ⟨g, 0, none⟩) n cap) cs) (hn : cs.length = n) (hi : i < n) :
    OwnC B ((((w.setCell ⟨g, i * 4, none⟩ (.int .i64 c.a)).setCell ⟨g, i * 4 + 1, none⟩ (.int .i64 c.b)).setCell ⟨g, i * 4 + 2, none⟩ (.int .i64 c.c)).setCell ⟨g, i * 4 + 3, none⟩ (.int .i64 c.d)) (.slice (some ⟨g, 0, none⟩) n cap) (cs.set i c) := by
  subst hn
  exact h.setCard c hi
theorem OwnC.cellsN {B : Nat} {w : World} {g cap i n : Nat} {cs : List Card} (h : OwnC B w (.slice (some ⟨g, 0, none⟩) n cap) cs) (hn : cs.length = n) (hi : i < n) : CardCells w g (i * 4) (cx cs i) := by
  subst hn
  obtain ⟨ao, cap', hv, hx, _⟩ := h.reads
  cases hv
  obtain ⟨g', off', hh, _, hc⟩ := hx i hi
  cases hh
  simpa using hc
theorem OwnC.frozenN {B : Nat} {w : World} {g cap n : Nat} {cs : List Card} (h : OwnC B w (.slice (some ⟨g, 0, none⟩) n cap) cs) (j : Nat) : w.frozen? ⟨g, j, none⟩ = false := by
  rcases h.2 with ⟨h0, _⟩ | ⟨g', cap', cur, h1, hb, hg, _⟩
  · cases h0
  · cases h1
    exact frozen_of_row w g j _ _ hg
theorem kept_setOwn {W w : World} {g o : Nat} {u : Value} (hk : Kept W w) (hg : W.heap.size ≤ g) : Kept W (w.setCell ⟨g, o, none⟩ u) :=
  hk.grown (grown_setCell (grown_refl _ (some g)) (p := ⟨g, o, none⟩) rfl u) fun k hk => by cases hk; exact hg
theorem kept_setCard {W w : World} {g o1 o2 o3 o4 : Nat} {u1 u2 u3 u4 : Value} (hk : Kept W w) (hg : W.heap.size ≤ g) : Kept W ((((w.setCell ⟨g, o1, none⟩ u1).setCell ⟨g, o2, none⟩ u2).setCell ⟨g, o3, none⟩ u3).setCell ⟨g, o4, none⟩ u4) :=
  kept_setOwn (kept_setOwn (kept_setOwn (kept_setOwn hk hg) hg) hg) hg
/-- Two cards change places. -/
def cswap (cs : List Card) (i k : Nat) : List Card := (cs.set i (cx cs k)).set k (cx cs i)
theorem cswap_len (cs : List Card) (i k : Nat) : (cswap cs i k).length = cs.length := by simp [cswap]
def behI (s : Int) : Int := (25173 * s + 13849) % 65536
theorem behI_bd (s : Int) : 0 ≤ behI s ∧ behI s ≤ 65535 := by unfold behI; omega
def placeI (s : Int) (i : Nat) : Nat := (s / 8 % ((i : Int) + 1)).toNat
theorem placeI_lt (s : Int) (i : Nat) : placeI s i ≤ i := by
  unfold placeI
  have h1 := Int.emod_nonneg (s / 8) (show ((i : Int) + 1) ≠ 0 by omega)
  have h2 := Int.emod_lt_of_pos (s / 8) (show 0 < ((i : Int) + 1) by omega)
  omega
theorem placeI_eq (s : Int) (i : Nat) : s / 8 % ((i : Int) + 1) = (placeI s i : Nat) := by
  unfold placeI
  have h1 := Int.emod_nonneg (s / 8) (show ((i : Int) + 1) ≠ 0 by omega)
  omega
/-- What is left of the shuffling. -/
def pileR (s : Int) (cs : List Card) (i : Nat) : List Card := if i = 0 then cs else pileR (behI s) (cswap cs i (placeI (behI s) i)) (i - 1)
termination_by i
decreasing_by omega
theorem pileR_zero (s : Int) (cs : List Card) : pileR s cs 0 = cs := by rw [pileR]; simp
theorem pileR_next (s : Int) (cs : List Card) {i : Nat} (h : 0 < i) : pileR s cs i = pileR (behI s) (cswap cs i (placeI (behI s) i)) (i - 1) := by rw [pileR, if_neg (by omega)]
theorem pileR_len : ∀ (i : Nat) (s : Int) (cs : List Card), (pileR s cs i).length = cs.length
  | 0, s, cs => by rw [pileR_zero]
  | i + 1, s, cs => by rw [pileR_next s cs (by omega), pileR_len, cswap_len]
def deckN (k : Nat) : List Card := (List.range k).map fun i => cardN (i : Nat)
theorem deckN_next (k : Nat) : deckN (k + 1) = deckN k ++ [cardN (k : Nat)] := by simp [deckN, List.range_succ]
theorem deckN_len (k : Nat) : (deckN k).length = k := by simp [deckN]
def pileC (s : Int) : List Card := pileR s (deckN 81) 80
theorem pileC_len (s : Int) : (pileC s).length = 81 := by rw [pileC, pileR_len, deckN_len]
end Go.Proofs.Ytjlaoocomkonhaa
