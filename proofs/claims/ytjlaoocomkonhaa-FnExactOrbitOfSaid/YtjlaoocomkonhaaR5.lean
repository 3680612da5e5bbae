/- Arguments read as data: maps. -/
import Derived.Test.YtjlaoocomkonhaaR0
import Derived.Test.YtjlaoocomkonhaaT93
import Derived.ChangeSame
namespace Go.Proofs.Ytjlaoocomkonhaa
open Go.ChangeShapes Go.WideShapes Go.ChangeAt Go.RowKit
section
variable {H : Type} {enc : TypeId × Value → H} {w : World} {base : Nat} {spare : Nat → Bool} {held : Bool}
set_option maxRecDepth 20000 in
theorem okWide_structM {r : Reach} {b : Nat} {v : Value} (h : Value.okWide Try.prog w r b 33 v) : ∃ cs, v = .agg cs ∧ cs.size = Try.prog.cellsOf 33 := by
  simp only [Value.okWide, Try.underlying33] at h
  obtain ⟨cs, h1, h2, _⟩ := h
  exact ⟨cs, h1, h2⟩
set_option maxRecDepth 20000 in
theorem open_map {r : Reach} {b : Nat} {v : Value} {d : DataW H} {ps : List MemPlace} (hv : Value.okWide Try.prog w r b 33 v) (h : DataW.Trod enc Try.prog w base spare held 33 v d ps) :
    ∃ f : Nat → Int, v = mpv f := by
  obtain ⟨cs, rfl, hsz⟩ := okWide_structM hv
  obtain ⟨l⟩ := cs
  obtain ⟨fuel, hf⟩ := h
  have hc : Try.prog.cellsOf 33 = 16 := by kernel_rfl
  have hc1 : Try.prog.cellsOf 3 = 1 := by kernel_rfl
  have hc3 : Try.prog.cellsOf 30 = 3 := by kernel_rfl
  have hc4 : Try.prog.cellsOf 29 = 4 := by kernel_rfl
  have hc12 : Try.prog.cellsOf 31 = 12 := by kernel_rfl
  rw [hc] at hsz
  obtain ⟨y0, y1, n, _, _, h0, h1⟩ := Go.ChangeShapes.trod_struct2 Try.underlying33 hf
  simp only [Value.cells, hc4, hc12] at h0 h1
  match l, hsz with
  | [c0, c1, c2, c3, c4, c5, c6, c7, c8, c9, c10, c11, c12, c13, c14, c15], _ =>
    simp at h0 h1
    obtain ⟨xs, hxs, hxl⟩ := trod_arr_ints Try.underlying29 Try.underlying3 hc1 hc4 h0
    obtain ⟨ys, m, _, _, hl, hys, hi⟩ := DataW.trod_array Try.underlying31 h1
    have k : ∀ i, i < 4 → ∃ zs : List Int, ([c4, c5, c6, c7, c8, c9, c10, c11, c12, c13, c14, c15].drop (i * 3)).take 3 = zs.map (Value.int .i64) ∧ zs.length = 3 := fun i hi4 => by
      have h2 := hi i hi4
      rw [hc3] at h2
      have hy : ys[i]? = some (ys[i]'(by omega)) := List.getElem?_eq_getElem (by omega)
      rw [hy] at h2
      exact trod_arr_ints Try.underlying30 Try.underlying3 hc1 hc3 h2
    obtain ⟨z0, e0, l0⟩ := k 0 (by omega)
    obtain ⟨z1, e1, l1⟩ := k 1 (by omega)
    obtain ⟨z2, e2, l2⟩ := k 2 (by omega)
    obtain ⟨z3, e3, l3⟩ := k 3 (by omega)
    match xs, hxl, z0, l0, z1, l1, z2, l2, z3, l3 with
    | [x0, x1, x2, x3], _, [a0, a1, a2], _, [b0, b1, b2], _, [g0, g1, g2], _, [d0, d1, d2], _ =>
      simp at hxs e0 e1 e2 e3
      obtain ⟨rfl, rfl, rfl, rfl⟩ := hxs
      obtain ⟨rfl, rfl, rfl⟩ := e0
      obtain ⟨rfl, rfl, rfl⟩ := e1
      obtain ⟨rfl, rfl, rfl⟩ := e2
      obtain ⟨rfl, rfl, rfl⟩ := e3
      exact ⟨ix [x0, x1, x2, x3, a0, a1, a2, b0, b1, b2, g0, g1, g2, d0, d1, d2], rfl⟩
end
end Go.Proofs.Ytjlaoocomkonhaa
