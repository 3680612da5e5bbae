/- Arguments read as data: slices of ints. -/
import Derived.Test.YtenmnipgnjaheaaR0
namespace Go.Proofs.Ytenmnipgnjaheaa
open Go.ChangeShapes Go.WideShapes Go.ChangeAt Go.RowKit

section
variable {H : Type} {enc : TypeId × Value → H} {P : Program} {w : World} {base : Nat} {spare : Nat → Bool} {held : Bool}
/-- An argument of type []int. -/
theorem open_ints {r : Reach} {b : Nat} {t e : TypeId} {v : Value} {d : DataW H} {ps : List MemPlace} (ht : P.underlying t = some (.slice e)) (he : P.underlying e = some (.int .i64))
    (_ : P.cellsOf e = 1) (hce : P.cellsOf e = 1) (hv : Value.okWide P w r b t v) (h : DataW.Trod enc P w base spare held t v d ps) :
    ∃ (ao : Option Addr) (xs : List Int) (cap : Nat), v = .slice ao xs.length cap ∧ IntsAt w ao xs ∧ xs.length ≤ maxLen := by
  obtain ⟨ao, len, cap, rfl⟩ := okWide_slice ht hv
  obtain ⟨fuel, hf⟩ := h
  rcases Go.Deep.open_slice ht hf with ⟨h0, _⟩ | ⟨a, len', cap', m, k, D, Pl, h0, hb, hl, hm, hmm, _, hx⟩
  · simp [Value.cells] at h0
    obtain ⟨rfl, rfl, rfl⟩ := h0
    exact ⟨none, [], 0, rfl, fun i hi => by simp at hi, Nat.zero_le _⟩
  · simp [Value.cells] at h0
    obtain ⟨rfl, rfl, rfl⟩ := h0
    have hlm : len ≤ m := by rw [hmm]; split <;> omega
    have each : ∀ i, i < len → ∃ z : Int, ∃ g off, a = ⟨g, off, none⟩ ∧ g < w.heap.size ∧ w.cell? ⟨g, off + i, none⟩ = some (.int .i64 z) := by
      intro i hi
      obtain ⟨cs', h1, h2⟩ := hx i (by omega)
      obtain ⟨z, hz, _⟩ := DataW.trod_int he h2
      rw [hce] at h1
      obtain ⟨_, _, hcell⟩ := World.cells?_some h1
      obtain ⟨g, off, spot⟩ := a
      have g0 := hcell 0 (by omega)
      rw [hz] at g0
      have hspot : spot = none := by
        obtain ⟨cs0, k1, k2⟩ := hx 0 (by omega)
        obtain ⟨z0, hz0, _⟩ := DataW.trod_int he k2
        rw [hce] at k1
        obtain ⟨_, _, kcell⟩ := World.cells?_some k1
        have k0 := kcell 0 (by omega)
        rw [hz0] at k0
        simpa [Addr.add] using World.cell?_spot k0
      subst hspot
      rw [add_plain, add_plain] at g0
      refine ⟨z, g, off, rfl, ?_, by simpa using g0⟩
      unfold World.cell? at g0
      split at g0
      · rename_i h; exact (Array.getElem?_eq_some_iff.1 h).1
      · cases g0
    have hZ : ∃ Z : Nat → Int, ∀ i, i < len → ∃ g off, a = ⟨g, off, none⟩ ∧ g < w.heap.size ∧ w.cell? ⟨g, off + i, none⟩ = some (.int .i64 (Z i)) := Go.Deep.choose_lt each
    obtain ⟨Z, hZ⟩ := hZ
    refine ⟨some a, (List.range len).map Z, cap, by simp, fun i hi => ?_, by simp; omega⟩
    have hi' : i < len := by simpa using hi
    obtain ⟨g, off, rfl, hg, hc⟩ := hZ i hi'
    refine ⟨g, off, rfl, hg, ?_⟩
    rw [hc, ix_get _ _ hi]
    simp
end
end Go.Proofs.Ytenmnipgnjaheaa
