/- Contracts: how many pairs of a hand have each card as their third one; the greatest of some numbers, its place. -/
import Derived.Test.YtjlaoocomkonhaaT11
import Derived.Test.YtjlaoocomkonhaaT15
namespace Go.Proofs.Ytjlaoocomkonhaa
open Go.RowKit
theorem thirdT_comm (x y : Int) : thirdT x y = thirdT y x := by unfold thirdT; omega
theorem thirdC_comm (x y : Card) : thirdC x y = thirdC y x := by simp only [thirdC, thirdT_comm]
theorem isCard_third {x y : Card} (hx : isCard x = true) (hy : isCard y = true) : isCard (thirdC x y) = true := by
  obtain ⟨x1, x2, x3, x4⟩ := isCard_of hx
  obtain ⟨y1, y2, y3, y4⟩ := isCard_of hy
  simp only [isCard, thirdC, thirdT, Bool.and_eq_true]
  exact ⟨⟨⟨inB_t (by omega) (by omega), inB_t (by omega) (by omega)⟩, inB_t (by omega) (by omega)⟩, inB_t (by omega) (by omega)⟩
def ind (xs : List Card) (i j n : Nat) : Int := if n = (numC (thirdC (cx xs i) (cx xs j))).toNat then 1 else 0
theorem ind_bd (xs : List Card) (i j n : Nat) : 0 ≤ ind xs i j n ∧ ind xs i j n ≤ 1 := by unfold ind; split <;> omega
/-- The counts behind the pairs of the first k cards and m pairs of the next. -/
def thT (xs : List Card) (k m : Nat) : Nat → Int := fun n => (rsum k fun i => rsum i fun j => ind xs i j n) + rsum m fun j => ind xs k j n
theorem thT_next (xs : List Card) (k m : Nat) : upd (thT xs k m) (numC (thirdC (cx xs k) (cx xs m))).toNat (thT xs k m (numC (thirdC (cx xs k) (cx xs m))).toNat + 1) = thT xs k (m + 1) := by
  funext n
  unfold upd
  by_cases h : n = (numC (thirdC (cx xs k) (cx xs m))).toNat
  · rw [if_pos h, ← h]
    simp only [thT, rsum_succ, ind, if_pos h]
    omega
  · rw [if_neg h]
    simp only [thT, rsum_succ, ind, if_neg h]
    omega
theorem thT_turn (xs : List Card) (k : Nat) : thT xs k k = thT xs (k + 1) 0 := by
  funext n
  simp only [thT, rsum_succ]
  simp [rsum]
theorem thT_bd (xs : List Card) (k m n : Nat) (hk : k ≤ 81) (hm : m ≤ 81) : 0 ≤ thT xs k m n ∧ thT xs k m n ≤ 6642 := by
  have h1 := rsum_bd (n := k) (f := fun i => rsum i fun j => ind xs i j n) (b := 81) fun i hi => by
    have := rsum_bd (n := i) (f := fun j => ind xs i j n) (b := 1) fun j _ => ind_bd xs i j n
    omega
  have h2 := rsum_bd (n := m) (f := fun j => ind xs k j n) (b := 1) fun j _ => ind_bd xs k j n
  unfold thT
  omega
theorem thT_thr {xs : List Card} (hc : areC xs) (hd : distC xs) {n : Nat} (hn : n ≤ 80) : thT xs xs.length 0 n = thr xs (cardN n) := by
  have e : thr xs (cardN n) = lowP xs.length fun i k => thr1 xs (cardN n) i k := (lowP_upP _ _).symm
  rw [e]
  unfold thT lowP
  rw [show rsum 0 _ = (0 : Int) from rfl, Int.add_zero]
  refine rsum_congr fun i hi => rsum_congr fun j hj => ?_
  have h1 := hc i hi
  have h2 := hc j (by omega)
  have h3 := isCard_third h1 h2
  have hne : cx xs j ≠ cx xs i := fun e => by have := hd j i (by omega) hi e; omega
  have h4 := numC_bd h3
  unfold ind thr1 lineC
  simp only [hne, decide_false, Bool.not_false, Bool.true_and, decide_eq_true_eq]
  rw [thirdC_comm (cx xs j) (cx xs i)]
  by_cases hq : n = (numC (thirdC (cx xs i) (cx xs j))).toNat
  · rw [if_pos hq, if_pos (by rw [← cardN_numC h3]; congr 1; omega)]
  · rw [if_neg hq, if_neg (fun e => hq (by rw [e, numC_cardN]; rfl))]
theorem Kept.setRow {a w : World} (h : Kept a w) {g : Nat} (hg : a.heap.size ≤ g) (cs : Array Value) : Kept a (w.setRow g cs) := by
  have hb := h.below
  refine .of_below ⟨by rw [setRow_os]; exact hb.os, by rw [setRow_tape]; exact hb.tape, by rw [setRow_output]; exact hb.output, by rw [setRow_size]; exact hb.size, fun k hk => ?_⟩
  rw [setRow_other _ _ _ _ (by omega)]
  exact hb.block k hk
/-- The numbers of a table. -/
def tl (n : Nat) (f : Nat → Int) : List Int := (List.range n).map f
theorem tl_len (n : Nat) (f : Nat → Int) : (tl n f).length = n := by simp [tl]
theorem tl_ix {n i : Nat} (f : Nat → Int) (h : i < n) : ix (tl n f) i = f i := by rw [ix_get _ _ (by rw [tl_len]; exact h)]; simp [tl]
theorem intsAt_tab {w : World} {g n : Nat} {f : Nat → Int} {t : TypeId} {fr : Nat × Nat} (h : w.heap[g]? = some (.cells (tab n f) t fr)) : IntsAt w (some ⟨g, 0, none⟩) (tl n f) := by
  refine intsAt_block (e := t) (fr := fr) ?_
  rw [h]; simp [tab, tl]
/-- The greatest of the first numbers. -/
def maxTo (xs : List Int) : Nat → Int
  | 0 => ix xs 0
  | k + 1 => max (maxTo xs k) (ix xs (k + 1))
theorem maxTo_ge (xs : List Int) : ∀ (k j : Nat), j ≤ k → ix xs j ≤ maxTo xs k
  | 0, j, h => by obtain rfl : j = 0 := by omega
                  exact Int.le_refl _
  | k + 1, j, h => by
    unfold maxTo
    by_cases hj : j = k + 1
    · subst hj; omega
    · have := maxTo_ge xs k j (by omega); omega
theorem maxTo_at (xs : List Int) : ∀ (k : Nat), ∃ j, j ≤ k ∧ ix xs j = maxTo xs k
  | 0 => ⟨0, Nat.le_refl _, rfl⟩
  | k + 1 => by
    obtain ⟨j, hj, e⟩ := maxTo_at xs k
    unfold maxTo
    by_cases h : maxTo xs k ≤ ix xs (k + 1)
    · exact ⟨k + 1, Nat.le_refl _, by omega⟩
    · exact ⟨j, by omega, by omega⟩
end Go.Proofs.Ytjlaoocomkonhaa
