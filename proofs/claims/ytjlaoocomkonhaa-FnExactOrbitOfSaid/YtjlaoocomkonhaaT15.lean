/- Contracts: how many pairs make a line with a card. -/
import Derived.Test.YtjlaoocomkonhaaT7
import Derived.Test.YtjlaoocomkonhaaT9
import Derived.Test.YtjlaoocomkonhaaT12
namespace Go.Proofs.Ytjlaoocomkonhaa
open Go.RowKit
theorem line_ne {x y z : Card} (hx : isCard x = true) (hy : isCard y = true) (h : lineC x y z = true) : x ≠ z ∧ y ≠ z := by
  obtain ⟨x1, x2, x3, x4⟩ := isCard_of hx
  obtain ⟨y1, y2, y3, y4⟩ := isCard_of hy
  unfold lineC at h
  rw [Bool.and_eq_true] at h
  have ht := of_decide_eq_true h.2
  have hn : x ≠ y := by simpa using h.1
  clear h
  subst ht
  obtain ⟨a, b, c, d⟩ := x
  obtain ⟨a', b', c', d'⟩ := y
  simp only at x1 x2 x3 x4 y1 y2 y3 y4
  simp only [ne_eq, Card.mk.injEq] at hn
  constructor
  · intro e
    simp only [thirdC, thirdT, Card.mk.injEq] at e
    exact hn (by omega)
  · intro e
    simp only [thirdC, thirdT, Card.mk.injEq] at e
    exact hn (by omega)
theorem thr1_no1 {xs : List Card} {c : Card} {i k : Nat} (hc : areC xs) (hi : i < xs.length) (hk : k < xs.length) (h : decide (cx xs i = c) = true) : thr1 xs c i k = 0 := by
  unfold thr1
  rw [if_neg fun e => (line_ne (hc i hi) (hc k hk) e).1 (of_decide_eq_true h)]
theorem thr1_no2 {xs : List Card} {c : Card} {i k : Nat} (hc : areC xs) (hi : i < xs.length) (hk : k < xs.length) (h : decide (cx xs k = c) = true) : thr1 xs c i k = 0 := by
  unfold thr1
  rw [if_neg fun e => (line_ne (hc i hi) (hc k hk) e).2 (of_decide_eq_true h)]
theorem thrIn_next (xs : List Card) (c : Card) (i m : Nat) : thrIn xs c i (m + 1) = thrIn xs c i m + thr1 xs c i (i + 1 + m) := rfl
theorem thrOut_next (xs : List Card) (c : Card) (k : Nat) : thrOut xs c (k + 1) = thrOut xs c k + thrIn xs c k (xs.length - (k + 1)) := rfl
/-- No card twice. -/
def distC (xs : List Card) : Prop := ∀ i j, i < xs.length → j < xs.length → cx xs i = cx xs j → i = j
theorem distC_hand {xs : List Card} (h : isHand xs = true) : distC xs := by
  obtain ⟨_, hh⟩ := isHand_of h
  have lt : ∀ d i, i + d + 1 < xs.length → numC (cx xs i) < numC (cx xs (i + d + 1)) := by
    intro d
    induction d with
    | zero =>
      intro i hi
      have := hh (i + 0 + 1) hi
      simp [handOk] at this
      simpa using this.2
    | succ d ih =>
      intro i hi
      have h1 := ih i (by omega)
      have := hh (i + (d + 1) + 1) hi
      simp [handOk] at this
      have h2 := this.2
      rw [show i + (d + 1) = i + d + 1 by omega] at h2 ⊢
      omega
  intro i j hi hj e
  rcases Nat.lt_trichotomy i j with h | h | h
  · have := lt (j - i - 1) i (by omega)
    rw [show i + (j - i - 1) + 1 = j by omega, e] at this
    omega
  · exact h
  · have := lt (i - j - 1) j (by omega)
    rw [show j + (i - j - 1) + 1 = i by omega, e] at this
    omega
end Go.Proofs.Ytjlaoocomkonhaa
