/- What the lines of a list are; rows and tables where one cell is written. -/
import Derived.Test.YtifkjbihmmdnbaaT13
import Derived.Test.YtifkjbihmmdnbaaT3
import Derived.Test.YtifkjbihmmdnbaaT15
namespace Go.Proofs.Ytifkjbihmmdnbaa
open Go.RowKit
theorem idxOf_spec {α : Type} {p : α → Bool} {xs : List α} {d : α} (h : 0 ≤ idxOf p xs) : ∃ m : Nat, idxOf p xs = m ∧ m < xs.length ∧ p (xs.getD m d) = true := by
  unfold idxOf at h ⊢
  cases hf : xs.findIdx? p with
  | none => rw [hf] at h; simp at h
  | some i =>
    obtain ⟨hi, hp, _⟩ := List.findIdx?_eq_some_iff_getElem.1 hf
    exact ⟨i, rfl, hi, by simpa [List.getD, hi] using hp⟩
theorem placeC_spec {xs : List Card} {c : Card} (h : 0 ≤ placeC xs c) : ∃ m : Nat, placeC xs c = m ∧ m < xs.length ∧ cx xs m = c := by
  obtain ⟨m, h1, h2, h3⟩ := idxOf_spec (d := ⟨0, 0, 0, 0⟩) (show 0 ≤ idxOf (fun x => decide (x = c)) xs from h)
  exact ⟨m, h1, h2, of_decide_eq_true h3⟩
theorem mem_linesC {xs : List Card} {l : Ln} (h : l ∈ linesC xs) : ∃ i k m : Nat, l = ⟨i, k, m⟩ ∧ i < k ∧ k < m ∧ m < xs.length ∧ cx xs m = thirdC (cx xs i) (cx xs k) := by
  simp only [linesC, linesTo, linesMid, List.mem_flatMap, List.mem_range] at h
  obtain ⟨i, hi, j, hj, h⟩ := h
  unfold lineAt at h
  split at h
  · rename_i hp
    obtain ⟨m, e, hm, hc⟩ := placeC_spec (xs := xs) (c := thirdC (cx xs i) (cx xs (i + 1 + j))) (by omega)
    rw [List.mem_singleton] at h
    rw [e] at h hp
    exact ⟨i, i + 1 + j, m, h, by omega, by omega, hm, hc⟩
  · cases h
theorem linesC_at {xs : List Card} {j : Nat} (h : j < (linesC xs).length) : ∃ i k m : Nat, lx (linesC xs) j = ⟨i, k, m⟩ ∧ i < k ∧ k < m ∧ m < xs.length ∧ cx xs m = thirdC (cx xs i) (cx xs k) :=
  mem_linesC (lx_mem h)
/-- In how many traits the first two cards of a line differ. -/
def kd (xs : List Card) (j : Nat) : Int := differC (cx xs (lx (linesC xs) j).a.toNat) (cx xs (lx (linesC xs) j).b.toNat)
theorem kd_at {xs : List Card} {j i k m : Nat} (e : lx (linesC xs) j = ⟨i, k, m⟩) : kd xs j = differC (cx xs i) (cx xs k) := by
  unfold kd; rw [e]; rfl
theorem OwnL.setCell {B : Nat} {w : World} {v u : Value} {ls : List Ln} {g o : Nat} (h : OwnL B w v ls) (hg : g < B) : OwnL B (w.setCell ⟨g, o, none⟩ u) v ls := by
  rcases h.2 with h0 | ⟨g', cap, cur, h1, hb, h2, h3⟩
  · exact ⟨h.1, .inl h0⟩
  · exact ⟨h.1, .inr ⟨g', cap, cur, h1, hb, (heap_setCell_other _ _ _ _ (by simp; omega)).trans h2, h3⟩⟩
end Go.Proofs.Ytifkjbihmmdnbaa
