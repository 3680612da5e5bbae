/- Contracts: lines through a card, the card with a number. -/
import Derived.Test.YtjlaoocomkonhaaT1
import Derived.Test.YtjlaoocomkonhaaC7
import Derived.Test.YtjlaoocomkonhaaM3
namespace Go.Proofs.Ytjlaoocomkonhaa
open Go.RowKit
/-- The card with a number. -/
def cardN (n : Int) : Card := ⟨n / 27, n / 9 % 3, n / 3 % 3, n % 3⟩
theorem isCard_cardN {n : Int} (h : 0 ≤ n) (h' : n ≤ 80) : isCard (cardN n) = true := by
  simp only [isCard, cardN, Bool.and_eq_true]
  exact ⟨⟨⟨inB_t (by omega) (by omega), inB_t (by omega) (by omega)⟩, inB_t (by omega) (by omega)⟩, inB_t (by omega) (by omega)⟩
theorem numC_cardN {n : Int} : numC (cardN n) = n := by
  simp only [numC, cardN]; omega
theorem cardN_numC {x : Card} (h : isCard x = true) : cardN (numC x) = x := by
  obtain ⟨h1, h2, h3, h4⟩ := isCard_of h
  obtain ⟨a, b, c, d⟩ := x
  simp only [cardN, numC, Card.mk.injEq] at *
  omega
theorem l2At_any (n : Int) (h : 0 ≤ n) (h' : n ≤ 80) (w : World) : Calls Try.prog 44 #[.int .i64 n] w fun e w' => e = .returned (cardN n).v ∧ Kept w w' := by
  go_enter Try.func44, Try.ntmps44
  go_wp2
  refine bodyPost_ret (v := (cardN n).v) (by simp [results, Try.results44, go_sem, cardN]) rfl ⟨rfl, ?_⟩
  exact (by (try simp only [ext_ext]); repeat (first | exact Kept.refl _ | apply Kept.alloc | apply Kept.drew | apply kept_add | apply Kept.ext))
theorem card_any (n : Int) (h : 0 ≤ n) (h' : n ≤ 80) (w : World) : Calls Try.prog 45 #[.int .i64 n] w fun e w' => e = .returned (cardN n).v ∧ Kept w w' := by
  go_enter Try.func45, Try.ntmps45
  go_wp2
  refine bodyPost_ret (v := (cardN n).v) (by simp [results, Try.results45, go_sem, cardN]) rfl ⟨rfl, ?_⟩
  exact (by (try simp only [ext_ext]); repeat (first | exact Kept.refl _ | apply Kept.alloc | apply Kept.drew | apply kept_add | apply Kept.ext))
def thr1 (xs : List Card) (c : Card) (i k : Nat) : Int := if lineC (cx xs i) (cx xs k) c then 1 else 0
theorem thr1_bd (xs : List Card) (c : Card) (i k : Nat) : 0 ≤ thr1 xs c i k ∧ thr1 xs c i k ≤ 1 := by unfold thr1; split <;> omega
def thrIn (xs : List Card) (c : Card) (i m : Nat) : Int := rsum m fun j => thr1 xs c i (i + 1 + j)
def thrOut (xs : List Card) (c : Card) (k : Nat) : Int := rsum k fun i => thrIn xs c i (xs.length - (i + 1))
theorem thrIn_bd (xs : List Card) (c : Card) (i m : Nat) : 0 ≤ thrIn xs c i m ∧ thrIn xs c i m ≤ m := by
  have := rsum_bd (n := m) (f := fun j => thr1 xs c i (i + 1 + j)) (b := 1) fun j _ => thr1_bd _ _ _ _
  unfold thrIn; omega
theorem thrOut_bd (xs : List Card) (c : Card) (k : Nat) (h : xs.length ≤ 81) : 0 ≤ thrOut xs c k ∧ thrOut xs c k ≤ k * 81 := by
  exact rsum_bd (n := k) (f := fun i => thrIn xs c i (xs.length - (i + 1))) (b := 81) fun i _ => by
    have := thrIn_bd xs c i (xs.length - (i + 1)); omega
/-- How many lines there are of a card and two of a list. -/
def thr (xs : List Card) (c : Card) : Int := thrOut xs c xs.length
end Go.Proofs.Ytjlaoocomkonhaa
