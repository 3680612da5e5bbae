/- What the lines of a list are; rows and tables where one cell is written. -/
import Derived.Test.YtenmnipgnjaheaaT13
import Derived.Test.YtenmnipgnjaheaaT3
import Derived.Test.YtenmnipgnjaheaaT15
namespace Go.Proofs.Ytenmnipgnjaheaa
open Go.RowKit
theorem idxOf_spec {α : Type} {p : α → Bool} {xs : List α} {d : α} (h : 0 ≤ idxOf p xs) : ∃ m : Nat, idxOf p xs = m ∧ m < xs.length ∧ p (xs.getD m d) = true := by
  unfold idxOf at h ⊢
  cases hf : xs.findIdx? p with
  | none => rw [hf] at h; simp at h
  | some i =>
    obtain ⟨hi, hp, _⟩ := List.findIdx?_eq_some_iff_getElem.1 hf
    exact ⟨i, rfl, hi, by simpa [List.getD, hi] using hp⟩
theorem placeC_spec {xs : List Card} {c : Card} (h : 0 ≤ placeC xs c) : ∃ m : Nat, placeC xs c = m ∧ m < xs.length ∧ cx xs m = c := by
  obtain ⟨m, h1, h2, h3⟩ := idxOf_spec (d := ⟨0, 0, 0, 0⟩) (show 0 ≤ idxOf (fun x => decide (x = c)) xs from h)
  exact ⟨m, h1, h2, of_decide_eq_true h3⟩
theorem mem_linesC {xs : List Card} {l : Ln} (h : l ∈ linesC xs) : ∃ i k m : Nat, l = ⟨i, k, m⟩ ∧ i < k ∧ k < m ∧ m < xs.length ∧ cx xs m = thirdC (cx xs i) (cx xs k) := by
  simp only [linesC, linesTo, linesMid, List.mem_flatMap, List.mem_range] at h
  obtain ⟨i, hi, j, hj, h⟩ := h
  unfold lineAt at h
  split at h
  · rename_i hp
    obtain ⟨m, e, hm, hc⟩ := placeC_spec (xs := xs) (c := thirdC (cx xs i) (cx xs (i + 1 + j))) (by omega)
    rw [List.mem_singleton] at h
    rw [e] at h hp
    exact ⟨i, i + 1 + j, m, h, by omega, by omega, hm, hc⟩
  · cases h
theorem linesC_at {xs : List Card} {j : Nat} (h : j < (linesC xs).length) : ∃ i k m : Nat, lx (linesC xs) j = ⟨i, k, m⟩ ∧ i < k ∧ k < m ∧ m < xs.length ∧ cx xs m = thirdC (cx xs i) (cx xs k) :=
  mem_linesC (lx_mem h)
/-- In how many traits the first two cards of a line differ. -/
def kd (xs : List Card) (j : Nat) : Int := differC (cx xs (lx (linesC xs) j).a.toNat) (cx xs (lx (linesC xs) j).b.toNat)
theorem kd_at {xs : List Card} {j i k m : Nat} (e : lx (linesC xs) j = ⟨i, k, m⟩) : kd xs j = differC (cx xs i) (cx xs k) := by
  unfold kd; rw [e]; rfl
end Go.Proofs.Ytenmnipgnjaheaa
