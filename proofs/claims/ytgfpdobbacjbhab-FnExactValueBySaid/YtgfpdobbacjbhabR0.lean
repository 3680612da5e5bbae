/- Arguments read as data: arrays of ints, slices of arrays of ints, opened for the walks; the row's last step for laws that leave memory as it was. -/
import Derived.Test.YtgfpdobbacjbhabB0
import Derived.ProofKit
import Derived.OpenShut
import Derived.Deep.Slices
namespace Go.Proofs.Ytgfpdobbacjbhab
open Go.ChangeShapes Go.WideShapes Go.ChangeAt Go.RowKit

section
variable {H : Type} {enc : TypeId × Value → H} {P : Program} {w : World} {base : Nat} {spare : Nat → Bool} {held : Bool}

/-- An array of ints, cell by cell. -/
theorem trod_arr_ints {t e : TypeId} {n fuel : Nat} {cs : List Value} {x : DataW H × List MemPlace} (ht : P.underlying t = some (.array n e)) (he : P.underlying e = some (.int .i64)) (hce : P.cellsOf e = 1) (hct : P.cellsOf t = n)
    (h : DataW.trod enc P w base spare held fuel t cs = some x) : ∃ xs : List Int, cs = xs.map (Value.int .i64) ∧ xs.length = n := by
  obtain ⟨ys, m, rfl, _, hl, hys, hi⟩ := DataW.trod_array ht h
  rw [hct] at hl
  have key : ∀ i, i < n → ∃ k : Int, cs[i]? = some (.int .i64 k) := by
    intro i hin
    have h1 := hi i hin
    rw [hce, Nat.mul_one] at h1
    have hy : ys[i]? = some (ys[i]'(by omega)) := List.getElem?_eq_getElem (by omega)
    rw [hy] at h1
    obtain ⟨k, hk, _⟩ := DataW.trod_int he h1
    have hd : cs[i]? = (cs.drop i).head? := by simp
    refine ⟨k, ?_⟩
    rw [hd]
    have hlt : i < cs.length := by omega
    have : (cs.drop i).take 1 = [cs[i]] := by
      rw [List.drop_eq_getElem_cons hlt]; rfl
    rw [this] at hk
    simp at hk
    simp [hlt, hk]
  refine ⟨cs.map fun v => (match v with | .int _ k => k | _ => 0), ?_, by simp [hl]⟩
  rw [List.map_map]
  apply List.ext_getElem?
  intro i
  by_cases hin : i < n
  · obtain ⟨k, hk⟩ := key i hin
    rw [List.getElem?_map, hk]; rfl
  · rw [List.getElem?_map, List.getElem?_eq_none (by omega)]; rfl

theorem okWide_array {r : Reach} {b n : Nat} {t e : TypeId} {v : Value} (ht : P.underlying t = some (.array n e)) (h : Value.okWide P w r b t v) : ∃ cs, v = .agg cs ∧ cs.size = P.cellsOf t := by
  simp only [Value.okWide, ht] at h
  obtain ⟨cs, h1, h2, _⟩ := h
  exact ⟨cs, h1, h2⟩

/-- An argument of type [4]int. -/
theorem open_card {r : Reach} {b : Nat} {t e : TypeId} {v : Value} {d : DataW H} {ps : List MemPlace} (ht : P.underlying t = some (.array 4 e)) (he : P.underlying e = some (.int .i64)) (hce : P.cellsOf e = 1) (hct : P.cellsOf t = 4)
    (hv : Value.okWide P w r b t v) (h : DataW.Trod enc P w base spare held t v d ps) : ∃ x : Card, v = x.v := by
  obtain ⟨cs, rfl, _⟩ := okWide_array ht hv
  obtain ⟨fuel, hf⟩ := h
  obtain ⟨xs, hx, hl⟩ := trod_arr_ints ht he hce hct hf
  match xs, hl with
  | [a, b, c, d], _ =>
    refine ⟨⟨a, b, c, d⟩, ?_⟩
    have : cs = (List.map (Value.int .i64) [a, b, c, d]).toArray := by
      apply Array.ext'
      simpa [Value.cells] using hx
    rw [this]; rfl
end
end Go.Proofs.Ytgfpdobbacjbhab
