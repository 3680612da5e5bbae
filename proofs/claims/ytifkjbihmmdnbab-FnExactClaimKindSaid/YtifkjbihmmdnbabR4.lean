/- Arguments read as data: claims. -/
import Derived.Test.YtifkjbihmmdnbabR3
import Derived.Test.YtifkjbihmmdnbabT41
import Derived.ChangeSame
namespace Go.Proofs.Ytifkjbihmmdnbab
open Go.ChangeShapes Go.WideShapes Go.ChangeAt Go.RowKit
section
variable {H : Type} {enc : TypeId × Value → H} {w : World} {base : Nat} {spare : Nat → Bool} {held : Bool}
theorem open_claim {r : Reach} {b : Nat} {v : Value} {d : DataW H} {ps : List MemPlace} (hv : Value.okWide Try.prog w r b 48 v) (h : DataW.Trod enc Try.prog w base spare held 48 v d ps) :
    ∃ (pl : Int) (l : Ln), v = cv pl l := by
  obtain ⟨cs, rfl, hsz⟩ := okWide_struct Try.underlying48 hv
  obtain ⟨l⟩ := cs
  obtain ⟨fuel, hf⟩ := h
  have hc : Try.prog.cellsOf 48 = 4 := by kernel_rfl
  have hc1 : Try.prog.cellsOf 3 = 1 := by kernel_rfl
  have hc3 : Try.prog.cellsOf 46 = 3 := by kernel_rfl
  rw [hc] at hsz
  obtain ⟨y0, y1, n, _, _, h0, h1⟩ := Go.ChangeShapes.trod_struct2 Try.underlying48 hf
  simp only [Value.cells, hc3, hc1] at h0 h1
  match l, hsz with
  | [c0, c1, c2, c3], _ =>
    simp at h0 h1
    obtain ⟨pl, es, _⟩ := DataW.trod_int Try.underlying3 h0
    cases es
    obtain ⟨xs, hxs, hxl⟩ := trod_arr_ints Try.underlying46 Try.underlying3 hc1 hc3 h1
    match xs, hxl with
    | [x, y, z], _ =>
      simp at hxs
      obtain ⟨rfl, rfl, rfl⟩ := hxs
      exact ⟨pl, ⟨x, y, z⟩, rfl⟩
end
end Go.Proofs.Ytifkjbihmmdnbab
