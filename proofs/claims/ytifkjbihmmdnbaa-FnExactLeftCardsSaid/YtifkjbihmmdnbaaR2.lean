/- Arguments read as data: slices of arrays of three ints. -/
import Derived.Test.YtifkjbihmmdnbaaR0
import Derived.Test.YtifkjbihmmdnbaaT12
namespace Go.Proofs.Ytifkjbihmmdnbaa
open Go.ChangeShapes Go.WideShapes Go.ChangeAt Go.RowKit

section
variable {H : Type} {enc : TypeId × Value → H} {P : Program} {w : World} {base : Nat} {spare : Nat → Bool} {held : Bool}
/-- An argument of type [][3]int. -/
theorem open_lines {r : Reach} {b : Nat} {t e q : TypeId} {v : Value} {d : DataW H} {ps : List MemPlace} (ht : P.underlying t = some (.slice e)) (he : P.underlying e = some (.array 3 q)) (hq : P.underlying q = some (.int .i64))
    (hcq : P.cellsOf q = 1) (hce : P.cellsOf e = 3) (hv : Value.okWide P w r b t v) (h : DataW.Trod enc P w base spare held t v d ps) :
    ∃ (ao : Option Addr) (ls : List Ln) (cap : Nat), v = .slice ao ls.length cap ∧ LinesAt w ao ls ∧ ls.length ≤ maxLen := by
  obtain ⟨ao, len, cap, Z, rfl, hl, hx⟩ := open_rows ht he hq hcq hce (by omega) hv h
  refine ⟨ao, (List.range len).map fun i => ⟨(Z i).getD 0 0, (Z i).getD 1 0, (Z i).getD 2 0⟩, cap, by simp, fun i hi => ?_, by simpa using hl⟩
  have hi' : i < len := by simpa using hi
  obtain ⟨g, off, ha, hg, hc⟩ := hx i hi'
  have e : lx ((List.range len).map fun i => (⟨(Z i).getD 0 0, (Z i).getD 1 0, (Z i).getD 2 0⟩ : Ln)) i = ⟨(Z i).getD 0 0, (Z i).getD 1 0, (Z i).getD 2 0⟩ := by
    rw [lx_get _ _ hi]; simp
  rw [e]
  exact ⟨g, off, ha, hg, hc 0 (by omega), hc 1 (by omega), hc 2 (by omega)⟩
end
end Go.Proofs.Ytifkjbihmmdnbaa
