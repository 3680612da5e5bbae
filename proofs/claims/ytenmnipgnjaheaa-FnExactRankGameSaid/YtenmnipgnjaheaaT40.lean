/- Contracts: the best points of the others; whether there is a player. -/
import Derived.Test.YtenmnipgnjaheaaT38
import Derived.Test.YtenmnipgnjaheaaC2
namespace Go.Proofs.Ytenmnipgnjaheaa
open Go.RowKit
/-- The most points of the first players but one. -/
def bestK (xs : List Int) (but : Int) : Nat → Int
  | 0 => -61
  | k + 1 => if (k : Int) = but then bestK xs but k else max (bestK xs but k) (ix xs k)
theorem bestK_bd (xs : List Int) (but : Int) (n : Nat) (hb : ∀ i, i < n → -60 ≤ ix xs i ∧ ix xs i ≤ 60) : ∀ k, k ≤ n → -61 ≤ bestK xs but k ∧ bestK xs but k ≤ 60
  | 0, _ => by simp [bestK]
  | k + 1, h => by
    have h1 := bestK_bd xs but n hb k (by omega)
    have h2 := hb k (by omega)
    unfold bestK
    split
    · exact h1
    · omega
theorem bestK_lt (xs : List Int) (but t : Int) (ht : -61 < t) : ∀ k, bestK xs but k < t ↔ ∀ j, j < k → (j : Int) ≠ but → ix xs j < t
  | 0 => by simp [bestK, ht]
  | k + 1 => by
    have ih := bestK_lt xs but t ht k
    unfold bestK
    split
    · rename_i h
      rw [ih]
      constructor
      · intro hj j h1 h2
        rcases Nat.lt_or_eq_of_le (Nat.le_of_lt_succ h1) with h3 | rfl
        · exact hj j h3 h2
        · exact absurd h h2
      · exact fun hj j h1 h2 => hj j (by omega) h2
    · rename_i h
      constructor
      · intro hm j h1 h2
        rcases Nat.lt_or_eq_of_le (Nat.le_of_lt_succ h1) with h3 | rfl
        · exact ih.1 (by omega) j h3 h2
        · omega
      · intro hj
        have h1 := ih.2 fun j h1 h2 => hj j (by omega) h2
        have h2 := hj k (by omega) h
        omega
theorem ptsK_bd {s n : Int} {laid : List Card} {scores wrong : List Int} (hG : GameOk s n laid scores wrong) : ∀ i, i < scores.length → -60 ≤ ix (ptsK scores wrong scores.length) i ∧ ix (ptsK scores wrong scores.length) i ≤ 60 := fun i hi => by
  rw [ptsK_ix _ _ hi]
  have := hG.sb i hi
  have := hG.wb i hi
  omega
theorem aheadI_bd {s n : Int} {laid : List Card} {scores wrong : List Int} (hG : GameOk s n laid scores wrong) : 0 ≤ aheadI n laid ∧ aheadI n laid ≤ 100 := by
  have := hG.n0
  have := hG.n1
  have := hG.laid81
  unfold aheadI; omega
/-- Whether a player can still lead. -/
def canB (pts : List Int) (n : Nat) (player ahead : Int) : Bool := decide (bestK pts player n < ix pts player.toNat + ahead)
theorem canB_eq (pts : List Int) (n : Nat) (player ahead : Int) (h : -61 < ix pts player.toNat + ahead) : (canB pts n player ahead = true) ↔ ∀ j, j < n → (j : Int) ≠ player → ix pts j < ix pts player.toNat + ahead := by
  unfold canB
  rw [decide_eq_true_iff]
  exact bestK_lt _ _ _ h n
end Go.Proofs.Ytenmnipgnjaheaa
