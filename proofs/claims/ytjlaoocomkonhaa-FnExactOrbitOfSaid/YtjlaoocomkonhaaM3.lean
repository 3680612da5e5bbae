/- Plain sums over numbers and pairs of numbers. -/
namespace Go.Proofs.Ytjlaoocomkonhaa
def rsum : Nat → (Nat → Int) → Int
  | 0, _ => 0
  | n + 1, f => rsum n f + f n
theorem rsum_succ (n : Nat) (f : Nat → Int) : rsum (n + 1) f = rsum n f + f n := rfl
theorem rsum_congr {n : Nat} {f g : Nat → Int} (h : ∀ i, i < n → f i = g i) : rsum n f = rsum n g := by
  induction n with
  | zero => rfl
  | succ n ih => rw [rsum_succ, rsum_succ, ih fun i hi => h i (by omega), h n (by omega)]
theorem rsum_add (n : Nat) (f g : Nat → Int) : rsum n (fun i => f i + g i) = rsum n f + rsum n g := by
  induction n with
  | zero => rfl
  | succ n ih => simp only [rsum_succ, ih]; omega
theorem rsum_zero (n : Nat) : rsum n (fun _ => 0) = 0 := by
  induction n with
  | zero => rfl
  | succ n ih => simp only [rsum_succ, ih]; rfl
theorem rsum_bd {n : Nat} {f : Nat → Int} {b : Int} (h : ∀ i, i < n → 0 ≤ f i ∧ f i ≤ b) : 0 ≤ rsum n f ∧ rsum n f ≤ n * b := by
  induction n with
  | zero => simp [rsum]
  | succ n ih =>
    have h1 := ih fun i hi => h i (by omega)
    have h2 := h n (by omega)
    rw [rsum_succ]
    have : ((n + 1 : Nat) : Int) * b = n * b + b := by rw [Int.natCast_add, Int.add_mul]; simp
    omega
/-- Pairs, the later place ahead; pairs, the earlier place ahead. -/
def lowP (n : Nat) (f : Nat → Nat → Int) : Int := rsum n fun i => rsum i fun k => f k i
def upP (n : Nat) (f : Nat → Nat → Int) : Int := rsum n fun i => rsum (n - (i + 1)) fun j => f i (i + 1 + j)
theorem lowP_upP (n : Nat) (f : Nat → Nat → Int) : lowP n f = upP n f := by
  induction n with
  | zero => rfl
  | succ n ih =>
    have e1 : lowP (n + 1) f = lowP n f + rsum n fun k => f k n := rfl
    have e2 : upP (n + 1) f = upP n f + rsum n fun k => f k n := by
      unfold upP
      rw [rsum_succ, show n + 1 - (n + 1) = 0 by omega, ← rsum_add]
      show _ + rsum 0 _ = _
      rw [show rsum 0 _ = 0 from rfl, Int.add_zero]
      apply rsum_congr
      intro i hi
      rw [show n + 1 - (i + 1) = (n - (i + 1)) + 1 by omega, rsum_succ, show i + 1 + (n - (i + 1)) = n by omega]
    rw [e1, e2, ih]
theorem rsum_swap (n m : Nat) (f : Nat → Nat → Int) : (rsum n fun i => rsum m fun j => f i j) = rsum m fun j => rsum n fun i => f i j := by
  induction n with
  | zero => exact (rsum_zero m).symm
  | succ n ih => rw [rsum_succ, ih, ← rsum_add]; rfl
theorem lowP_congr {n : Nat} {f g : Nat → Nat → Int} (h : ∀ i k, k < i → i < n → f k i = g k i) : lowP n f = lowP n g :=
  rsum_congr fun i hi => rsum_congr fun k hk => h i k hk hi
end Go.Proofs.Ytjlaoocomkonhaa
