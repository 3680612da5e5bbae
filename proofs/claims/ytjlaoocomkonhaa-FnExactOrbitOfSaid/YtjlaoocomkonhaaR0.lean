/- Arguments read as data: arrays of ints, slices of arrays of ints, opened for the walks; the row's last step for laws that leave memory as it was. -/
import Derived.Test.YtjlaoocomkonhaaB3
import Derived.ProofKit
import Derived.OpenShut
import Derived.Deep.Slices
namespace Go.Proofs.Ytjlaoocomkonhaa
open Go.ChangeShapes Go.WideShapes Go.ChangeAt Go.RowKit

section
variable {H : Type} {enc : TypeId × Value → H} {P : Program} {w : World} {base : Nat} {spare : Nat → Bool} {held : Bool}

/-- An array of ints, cell by cell. -/
theorem trod_arr_ints {t e : TypeId} {n fuel : Nat} {cs : List Value} {x : DataW H × List MemPlace} (ht : P.underlying t = some (.array n e)) (he : P.underlying e = some (.int .i64)) (hce : P.cellsOf e = 1) (hct : P.cellsOf t = n)
    (h : DataW.trod enc P w base spare held fuel t cs = some x) : ∃ xs : List Int, cs = xs.map (Value.int .i64) ∧ xs.length = n := by
  obtain ⟨ys, m, rfl, _, hl, hys, hi⟩ := DataW.trod_array ht h
  rw [hct] at hl
  have key : ∀ i, i < n → ∃ k : Int, cs[i]? = some (.int .i64 k) := by
    intro i hin
    have h1 := hi i hin
    rw [hce, Nat.mul_one] at h1
    have hy : ys[i]? = some (ys[i]'(by omega)) := List.getElem?_eq_getElem (by omega)
    rw [hy] at h1
    obtain ⟨k, hk, _⟩ := DataW.trod_int he h1
    have hd : cs[i]? = (cs.drop i).head? := by simp
    refine ⟨k, ?_⟩
    rw [hd]
    have hlt : i < cs.length := by omega
    have : (cs.drop i).take 1 = [cs[i]] := by
      rw [List.drop_eq_getElem_cons hlt]; rfl
    rw [this] at hk
    simp at hk
    simp [hlt, hk]
  refine ⟨cs.map fun v => (match v with | .int _ k => k | _ => 0), ?_, by simp [hl]⟩
  rw [List.map_map]
  apply List.ext_getElem?
  intro i
  by_cases hin : i < n
  · obtain ⟨k, hk⟩ := key i hin
    rw [List.getElem?_map, hk]; rfl
  · rw [List.getElem?_map, List.getElem?_eq_none (by omega)]; rfl

theorem okWide_array {r : Reach} {b n : Nat} {t e : TypeId} {v : Value} (ht : P.underlying t = some (.array n e)) (h : Value.okWide P w r b t v) : ∃ cs, v = .agg cs ∧ cs.size = P.cellsOf t := by
  simp only [Value.okWide, ht] at h
  obtain ⟨cs, h1, h2, _⟩ := h
  exact ⟨cs, h1, h2⟩

/-- An argument of type [4]int. -/
theorem open_card {r : Reach} {b : Nat} {t e : TypeId} {v : Value} {d : DataW H} {ps : List MemPlace} (ht : P.underlying t = some (.array 4 e)) (he : P.underlying e = some (.int .i64)) (hce : P.cellsOf e = 1) (hct : P.cellsOf t = 4)
    (hv : Value.okWide P w r b t v) (h : DataW.Trod enc P w base spare held t v d ps) : ∃ x : Card, v = x.v := by
  obtain ⟨cs, rfl, _⟩ := okWide_array ht hv
  obtain ⟨fuel, hf⟩ := h
  obtain ⟨xs, hx, hl⟩ := trod_arr_ints ht he hce hct hf
  match xs, hl with
  | [a, b, c, d], _ =>
    refine ⟨⟨a, b, c, d⟩, ?_⟩
    have : cs = (List.map (Value.int .i64) [a, b, c, d]).toArray := by
      apply Array.ext'
      simpa [Value.cells] using hx
    rw [this]; rfl

/-- A slice of arrays of n ints. -/
theorem open_rows {r : Reach} {b : Nat} {t e q : TypeId} {n : Nat} {v : Value} {d : DataW H} {ps : List MemPlace} (ht : P.underlying t = some (.slice e)) (he : P.underlying e = some (.array n q)) (hq : P.underlying q = some (.int .i64))
    (hcq : P.cellsOf q = 1) (hce : P.cellsOf e = n) (hn : 0 < n) (hv : Value.okWide P w r b t v) (h : DataW.Trod enc P w base spare held t v d ps) :
    ∃ (ao : Option Addr) (len cap : Nat) (Z : Nat → List Int), v = .slice ao len cap ∧ len ≤ maxLen ∧
      ∀ i, i < len → ∃ g off, ao = some ⟨g, off, none⟩ ∧ g < w.heap.size ∧ ∀ j, j < n → w.cell? ⟨g, off + i * n + j, none⟩ = some (.int .i64 ((Z i).getD j 0)) := by
  obtain ⟨ao, len, cap, rfl⟩ := okWide_slice ht hv
  obtain ⟨fuel, hf⟩ := h
  rcases Go.Deep.open_slice ht hf with ⟨h0, _⟩ | ⟨a, len', cap', m, k, D, Pl, h0, hb, hl, hm, hmm, _, hx⟩
  · simp [Value.cells] at h0
    obtain ⟨rfl, rfl, rfl⟩ := h0
    exact ⟨none, 0, 0, fun _ => [], rfl, Nat.zero_le _, fun i hi => absurd hi (Nat.not_lt_zero _)⟩
  · simp [Value.cells] at h0
    obtain ⟨rfl, rfl, rfl⟩ := h0
    have hlm : len ≤ m := by rw [hmm]; split <;> omega
    have each : ∀ i, i < len → ∃ z : List Int, ∃ g off, a = ⟨g, off, none⟩ ∧ g < w.heap.size ∧ ∀ j, j < n → w.cell? ⟨g, off + i * n + j, none⟩ = some (.int .i64 (z.getD j 0)) := by
      intro i hi
      obtain ⟨cs', h1, h2⟩ := hx i (by omega)
      obtain ⟨xs, rfl, hxl⟩ := trod_arr_ints he hq hcq hce h2
      rw [hce] at h1
      obtain ⟨_, _, hcell⟩ := World.cells?_some h1
      obtain ⟨g, off, spot⟩ := a
      have g0 := hcell 0 hn
      have hs0 : (xs.map (Value.int .i64))[0]? = some (.int .i64 (xs.getD 0 0)) := by
        rw [List.getElem?_map]
        simp [List.getD, List.getElem?_eq_getElem (show 0 < xs.length by omega)]
      rw [hs0] at g0
      have hspot : spot = none := by
        obtain ⟨cs0, k1, k2⟩ := hx 0 (by omega)
        obtain ⟨ys, rfl, hyl⟩ := trod_arr_ints he hq hcq hce k2
        rw [hce] at k1
        obtain ⟨_, _, kcell⟩ := World.cells?_some k1
        have k0 := kcell 0 hn
        rw [List.getElem?_map, List.getElem?_eq_getElem (show 0 < ys.length by omega)] at k0
        simpa [Addr.add] using World.cell?_spot k0
      subst hspot
      refine ⟨xs, g, off, rfl, ?_, fun j hj => ?_⟩
      · rw [add_plain, add_plain] at g0
        unfold World.cell? at g0
        split at g0
        · rename_i h; exact (Array.getElem?_eq_some_iff.1 h).1
        · cases g0
      · have := hcell j hj
        rw [add_plain, add_plain] at this
        rw [this, List.getElem?_map]
        simp [List.getD, List.getElem?_eq_getElem (show j < xs.length by omega)]
    have hZ : ∃ Z : Nat → List Int, ∀ i, i < len → ∃ g off, a = ⟨g, off, none⟩ ∧ g < w.heap.size ∧ ∀ j, j < n → w.cell? ⟨g, off + i * n + j, none⟩ = some (.int .i64 ((Z i).getD j 0)) := Go.Deep.choose_lt each
    obtain ⟨Z, hZ⟩ := hZ
    exact ⟨some a, len, cap, Z, rfl, by omega, fun i hi => by
      obtain ⟨g, off, rfl, hg, hc⟩ := hZ i hi
      exact ⟨g, off, rfl, hg, hc⟩⟩

/-- An argument of type [][4]int. -/
theorem open_cards {r : Reach} {b : Nat} {t e q : TypeId} {v : Value} {d : DataW H} {ps : List MemPlace} (ht : P.underlying t = some (.slice e)) (he : P.underlying e = some (.array 4 q)) (hq : P.underlying q = some (.int .i64))
    (hcq : P.cellsOf q = 1) (hce : P.cellsOf e = 4) (hv : Value.okWide P w r b t v) (h : DataW.Trod enc P w base spare held t v d ps) :
    ∃ (ao : Option Addr) (xs : List Card) (cap : Nat), v = .slice ao xs.length cap ∧ CardsAt w ao xs ∧ xs.length ≤ maxLen := by
  obtain ⟨ao, len, cap, Z, rfl, hl, hx⟩ := open_rows ht he hq hcq hce (by omega) hv h
  refine ⟨ao, (List.range len).map fun i => ⟨(Z i).getD 0 0, (Z i).getD 1 0, (Z i).getD 2 0, (Z i).getD 3 0⟩, cap, by simp, fun i hi => ?_, by simpa using hl⟩
  have hi' : i < len := by simpa using hi
  obtain ⟨g, off, ha, hg, hc⟩ := hx i hi'
  have e : cx ((List.range len).map fun i => (⟨(Z i).getD 0 0, (Z i).getD 1 0, (Z i).getD 2 0, (Z i).getD 3 0⟩ : Card)) i = ⟨(Z i).getD 0 0, (Z i).getD 1 0, (Z i).getD 2 0, (Z i).getD 3 0⟩ := by
    rw [cx_get _ _ hi]; simp
  rw [e]
  exact ⟨g, off, ha, hg, hc 0 (by omega), hc 1 (by omega), hc 2 (by omega), hc 3 (by omega)⟩
end
end Go.Proofs.Ytjlaoocomkonhaa
