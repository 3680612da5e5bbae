/- Contracts: all lines among cards. -/
import Derived.Test.YtenmnipgnjaheaaT7
import Derived.Test.YtenmnipgnjaheaaT8
import Derived.Test.YtenmnipgnjaheaaT11
import Derived.Test.YtenmnipgnjaheaaT12
namespace Go.Proofs.Ytenmnipgnjaheaa
open Go.RowKit
/-- The line of two places of a list, if there is one and its third place is behind them. -/
def lineAt (xs : List Card) (i k : Nat) : List Ln := if (k : Int) < placeC xs (thirdC (cx xs i) (cx xs k)) then [⟨i, k, placeC xs (thirdC (cx xs i) (cx xs k))⟩] else []
def linesMid (xs : List Card) (i m : Nat) : List Ln := (List.range m).flatMap fun j => lineAt xs i (i + 1 + j)
def linesTo (xs : List Card) (k : Nat) : List Ln := (List.range k).flatMap fun i => linesMid xs i (xs.length - (i + 1))
/-- All lines among cards. -/
def linesC (xs : List Card) : List Ln := linesTo xs xs.length
theorem lineAt_len (xs : List Card) (i k : Nat) : (lineAt xs i k).length ≤ 1 := by unfold lineAt; split <;> simp
theorem linesMid_next (xs : List Card) (i m : Nat) : linesMid xs i (m + 1) = linesMid xs i m ++ lineAt xs i (i + 1 + m) := by simp [linesMid, List.range_succ]
theorem linesTo_next (xs : List Card) (k : Nat) : linesTo xs (k + 1) = linesTo xs k ++ linesMid xs k (xs.length - (k + 1)) := by simp [linesTo, List.range_succ]
theorem linesMid_len (xs : List Card) (i m : Nat) : (linesMid xs i m).length ≤ m := by
  induction m with
  | zero => simp [linesMid]
  | succ m ih => rw [linesMid_next, List.length_append]; have := lineAt_len xs i (i + 1 + m); omega
theorem linesTo_len (xs : List Card) (k : Nat) (h : xs.length ≤ 81) : (linesTo xs k).length ≤ k * 81 := by
  induction k with
  | zero => simp [linesTo]
  | succ k ih => rw [linesTo_next, List.length_append]; have := linesMid_len xs k (xs.length - (k + 1)); omega
theorem linesC_len (xs : List Card) (h : xs.length ≤ 81) : (linesC xs).length ≤ 6561 := by
  have := linesTo_len xs xs.length h
  unfold linesC; omega
end Go.Proofs.Ytenmnipgnjaheaa
