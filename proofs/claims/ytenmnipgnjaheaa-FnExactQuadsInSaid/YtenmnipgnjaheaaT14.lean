/- Contracts: all lines among cards, found by a table of places. -/
import Derived.Test.YtenmnipgnjaheaaT13
import Derived.Test.YtenmnipgnjaheaaT15
namespace Go.Proofs.Ytenmnipgnjaheaa
open Go.RowKit
theorem isCard_third {x y : Card} (hx : isCard x = true) (hy : isCard y = true) : isCard (thirdC x y) = true := by
  obtain ⟨x1, x2, x3, x4⟩ := isCard_of hx
  obtain ⟨y1, y2, y3, y4⟩ := isCard_of hy
  simp only [isCard, thirdC, thirdT, Bool.and_eq_true]
  exact ⟨⟨⟨inB_t (by omega) (by omega), inB_t (by omega) (by omega)⟩, inB_t (by omega) (by omega)⟩, inB_t (by omega) (by omega)⟩
/-- The table of places, behind the first k cards. -/
def placesF (xs : List Card) : Nat → Nat → Int
  | 0 => fun _ => 0
  | k + 1 => upd (placesF xs k) (numC (cx xs k)).toNat (k + 1)
theorem placesF_next (xs : List Card) (k : Nat) : placesF xs (k + 1) = upd (placesF xs k) (numC (cx xs k)).toNat (k + 1) := rfl
theorem placesF_bd (xs : List Card) (k n : Nat) : 0 ≤ placesF xs k n ∧ placesF xs k n ≤ k := by
  induction k with
  | zero => simp [placesF]
  | succ k ih =>
    rw [placesF_next]
    unfold upd
    split <;> omega
theorem placesF_none {xs : List Card} {n : Nat} : ∀ {k : Nat}, (∀ j, j < k → (numC (cx xs j)).toNat ≠ n) → placesF xs k n = 0
  | 0, _ => rfl
  | k + 1, h => by
    rw [placesF_next]
    unfold upd
    rw [if_neg (fun e => h k (by omega) e.symm)]
    exact placesF_none fun j hj => h j (by omega)
theorem placesF_some {xs : List Card} {n j : Nat} : ∀ {k : Nat}, j < k → (numC (cx xs j)).toNat = n → (∀ i, i < k → (numC (cx xs i)).toNat = n → i = j) → placesF xs k n = j + 1
  | k + 1, hj, he, hu => by
    rw [placesF_next]
    unfold upd
    by_cases hk : n = (numC (cx xs k)).toNat
    · rw [if_pos hk]
      have := hu k (by omega) hk.symm
      subst this; rfl
    · rw [if_neg hk]
      have : j ≠ k := fun e => hk (by rw [← e]; exact he.symm)
      exact placesF_some (by omega) he fun i hi => hu i (by omega)
theorem placesF_place {xs : List Card} (hc : areC xs) (hd : distC xs) {c : Card} (hcc : isCard c = true) : placesF xs xs.length (numC c).toNat = placeC xs c + 1 := by
  have inj : ∀ j, j < xs.length → (numC (cx xs j)).toNat = (numC c).toNat → cx xs j = c := fun j hj he => by
    have h1 := numC_bd (hc j hj)
    have h2 := numC_bd hcc
    rw [← cardN_numC (hc j hj), ← cardN_numC hcc, show numC (cx xs j) = numC c by omega]
  by_cases h : ∃ j, j < xs.length ∧ cx xs j = c
  · obtain ⟨j, hj, he⟩ := h
    rw [placesF_some hj (by rw [he]) fun i hi hn => hd i j hi hj ((inj i hi hn).trans he.symm)]
    rw [placeC_some hj he fun i hi => decide_eq_false fun e => by have := hd i j (by omega) hj (e.trans he.symm); omega]
  · rw [placesF_none fun j hj e => h ⟨j, hj, inj j hj e⟩, placeC_none fun j hj => decide_eq_false fun e => h ⟨j, hj, e⟩]
    rfl
end Go.Proofs.Ytenmnipgnjaheaa
