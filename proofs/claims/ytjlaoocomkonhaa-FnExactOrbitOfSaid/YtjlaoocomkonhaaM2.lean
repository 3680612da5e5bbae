/- Plain laws: choices, fractions in lowest terms. -/
import Derived.WalkKit
namespace Go.Proofs.Ytjlaoocomkonhaa

/-- The number of choices of k of n, as both texts reckon it. -/
def chooseL (n : Nat) : Nat → Int
  | 0 => 1
  | i + 1 => chooseL n i * ((n : Int) - i) / (i + 1)
/-- What is asked of one step of it. -/
def chooseOk (n i : Nat) : Bool := decide (0 ≤ chooseL n i * ((n : Int) - i)) && decide (chooseL n i * ((n : Int) - i) ≤ 4000000000000000000) && decide (0 ≤ chooseL n i) && decide (chooseL n i ≤ 4000000000000000000)
theorem chooseOk_all : (List.range 82).all (fun n => (List.range 17).all fun i => chooseOk n i) = true := by decide +kernel
theorem choose_ok {n i : Nat} (hn : n ≤ 81) (hi : i ≤ 16) : 0 ≤ chooseL n i * ((n : Int) - i) ∧ chooseL n i * ((n : Int) - i) ≤ 4000000000000000000 ∧ 0 ≤ chooseL n i ∧ chooseL n i ≤ 4000000000000000000 := by
  have h := List.all_eq_true.1 (List.all_eq_true.1 chooseOk_all n (List.mem_range.2 (by omega))) i (List.mem_range.2 (by omega))
  simp only [chooseOk, Bool.and_eq_true, decide_eq_true_eq] at h
  omega

/-- The greatest common divisor of two whole numbers. -/
def gcdI (a b : Int) : Int := (Nat.gcd a.toNat b.toNat : Nat)
theorem gcdI_step {a b : Int} (ha : 0 ≤ a) (hb : 0 < b) : gcdI b (a % b) = gcdI a b := by
  unfold gcdI
  congr 1
  obtain ⟨n, rfl⟩ := Int.eq_ofNat_of_zero_le ha
  obtain ⟨m, rfl⟩ := Int.eq_ofNat_of_zero_le (Int.le_of_lt hb)
  have e : ((n : Int) % (m : Int)).toNat = n % m := by rw [← Int.natCast_emod]; rfl
  rw [e]
  simp only [Int.toNat_natCast]
  rw [Nat.gcd_comm m, ← Nat.gcd_rec, Nat.gcd_comm]
theorem gcdI_zero {a : Int} (ha : 0 ≤ a) : gcdI a 0 = a := by
  unfold gcdI
  simp
  omega
theorem gcdI_pos {a b : Int} (hb : 0 < b) : 1 ≤ gcdI a b := by
  unfold gcdI
  have : 0 < Nat.gcd a.toNat b.toNat := Nat.gcd_pos_of_pos_right _ (by omega)
  omega
theorem gcdI_le {a b : Int} (hb : 0 < b) : gcdI a b ≤ b := by
  unfold gcdI
  have := Nat.gcd_le_right (m := a.toNat) (n := b.toNat) (by omega)
  omega
def cutN (a b : Int) : Int := a / gcdI a b
def cutD (a b : Int) : Int := b / gcdI a b
theorem choosePos_all : (List.range 82).all (fun n => (List.range 17).all fun i => decide (n < i) || decide (1 ≤ chooseL n i)) = true := by decide +kernel
theorem choose_pos {n i : Nat} (hn : n ≤ 81) (hi : i ≤ 16) (h : i ≤ n) : 1 ≤ chooseL n i := by
  have h1 := List.all_eq_true.1 choosePos_all n (List.mem_range.2 (by omega))
  have h2 := List.all_eq_true.1 h1 i (List.mem_range.2 (by omega))
  simp only [Bool.or_eq_true, decide_eq_true_eq] at h2
  omega
end Go.Proofs.Ytjlaoocomkonhaa
