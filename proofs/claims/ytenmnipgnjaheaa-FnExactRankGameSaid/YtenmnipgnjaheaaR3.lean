/- Arguments read as data: games. -/
import Derived.Test.YtenmnipgnjaheaaR0
import Derived.Test.YtenmnipgnjaheaaR1
import Derived.Test.YtenmnipgnjaheaaT34
import Derived.Deep.Strs
namespace Go.Proofs.Ytenmnipgnjaheaa
open Go.ChangeShapes Go.WideShapes Go.ChangeAt Go.RowKit

section
variable {H : Type} {enc : TypeId × Value → H} {P : Program} {w : World} {base : Nat} {spare : Nat → Bool} {held : Bool}
theorem open_rows' {t e q : TypeId} {n : Nat} {v : Value} {d : DataW H} {ps : List MemPlace} (ht : P.underlying t = some (.slice e)) (he : P.underlying e = some (.array n q)) (hq : P.underlying q = some (.int .i64))
    (hcq : P.cellsOf q = 1) (hce : P.cellsOf e = n) (hn : 0 < n) (hv : ∃ a len cap, v = .slice a len cap) (h : DataW.Trod enc P w base spare held t v d ps) :
    ∃ (ao : Option Addr) (len cap : Nat) (Z : Nat → List Int), v = .slice ao len cap ∧ len ≤ maxLen ∧
      ∀ i, i < len → ∃ g off, ao = some ⟨g, off, none⟩ ∧ g < w.heap.size ∧ ∀ j, j < n → w.cell? ⟨g, off + i * n + j, none⟩ = some (.int .i64 ((Z i).getD j 0)) := by
  obtain ⟨ao, len, cap, rfl⟩ := hv
  obtain ⟨fuel, hf⟩ := h
  rcases Go.Deep.open_slice ht hf with ⟨h0, _⟩ | ⟨a, len', cap', m, k, D, Pl, h0, hb, hl, hm, hmm, _, hx⟩
  · simp [Value.cells] at h0
    obtain ⟨rfl, rfl, rfl⟩ := h0
    exact ⟨none, 0, 0, fun _ => [], rfl, Nat.zero_le _, fun i hi => absurd hi (Nat.not_lt_zero _)⟩
  · simp [Value.cells] at h0
    obtain ⟨rfl, rfl, rfl⟩ := h0
    have hlm : len ≤ m := by rw [hmm]; split <;> omega
    have each : ∀ i, i < len → ∃ z : List Int, ∃ g off, a = ⟨g, off, none⟩ ∧ g < w.heap.size ∧ ∀ j, j < n → w.cell? ⟨g, off + i * n + j, none⟩ = some (.int .i64 (z.getD j 0)) := by
      intro i hi
      obtain ⟨cs', h1, h2⟩ := hx i (by omega)
      obtain ⟨xs, rfl, hxl⟩ := trod_arr_ints he hq hcq hce h2
      rw [hce] at h1
      obtain ⟨_, _, hcell⟩ := World.cells?_some h1
      obtain ⟨g, off, spot⟩ := a
      have g0 := hcell 0 hn
      have hs0 : (xs.map (Value.int .i64))[0]? = some (.int .i64 (xs.getD 0 0)) := by
        rw [List.getElem?_map]
        simp [List.getD, List.getElem?_eq_getElem (show 0 < xs.length by omega)]
      rw [hs0] at g0
      have hspot : spot = none := by
        obtain ⟨cs0, k1, k2⟩ := hx 0 (by omega)
        obtain ⟨ys, rfl, hyl⟩ := trod_arr_ints he hq hcq hce k2
        rw [hce] at k1
        obtain ⟨_, _, kcell⟩ := World.cells?_some k1
        have k0 := kcell 0 hn
        rw [List.getElem?_map, List.getElem?_eq_getElem (show 0 < ys.length by omega)] at k0
        simpa [Addr.add] using World.cell?_spot k0
      subst hspot
      refine ⟨xs, g, off, rfl, ?_, fun j hj => ?_⟩
      · rw [add_plain, add_plain] at g0
        unfold World.cell? at g0
        split at g0
        · rename_i h; exact (Array.getElem?_eq_some_iff.1 h).1
        · cases g0
      · have := hcell j hj
        rw [add_plain, add_plain] at this
        rw [this, List.getElem?_map]
        simp [List.getD, List.getElem?_eq_getElem (show j < xs.length by omega)]
    have hZ : ∃ Z : Nat → List Int, ∀ i, i < len → ∃ g off, a = ⟨g, off, none⟩ ∧ g < w.heap.size ∧ ∀ j, j < n → w.cell? ⟨g, off + i * n + j, none⟩ = some (.int .i64 ((Z i).getD j 0)) := Go.Deep.choose_lt each
    obtain ⟨Z, hZ⟩ := hZ
    exact ⟨some a, len, cap, Z, rfl, by omega, fun i hi => by
      obtain ⟨g, off, rfl, hg, hc⟩ := hZ i hi
      exact ⟨g, off, rfl, hg, hc⟩⟩

theorem open_cards' {t e q : TypeId} {v : Value} {d : DataW H} {ps : List MemPlace} (ht : P.underlying t = some (.slice e)) (he : P.underlying e = some (.array 4 q)) (hq : P.underlying q = some (.int .i64))
    (hcq : P.cellsOf q = 1) (hce : P.cellsOf e = 4) (hv : ∃ a len cap, v = .slice a len cap) (h : DataW.Trod enc P w base spare held t v d ps) :
    ∃ (ao : Option Addr) (xs : List Card) (cap : Nat), v = .slice ao xs.length cap ∧ CardsAt w ao xs ∧ xs.length ≤ maxLen := by
  obtain ⟨ao, len, cap, Z, rfl, hl, hx⟩ := open_rows' ht he hq hcq hce (by omega) hv h
  refine ⟨ao, (List.range len).map fun i => ⟨(Z i).getD 0 0, (Z i).getD 1 0, (Z i).getD 2 0, (Z i).getD 3 0⟩, cap, by simp, fun i hi => ?_, by simpa using hl⟩
  have hi' : i < len := by simpa using hi
  obtain ⟨g, off, ha, hg, hc⟩ := hx i hi'
  have e : cx ((List.range len).map fun i => (⟨(Z i).getD 0 0, (Z i).getD 1 0, (Z i).getD 2 0, (Z i).getD 3 0⟩ : Card)) i = ⟨(Z i).getD 0 0, (Z i).getD 1 0, (Z i).getD 2 0, (Z i).getD 3 0⟩ := by
    rw [cx_get _ _ hi]; simp
  rw [e]
  exact ⟨g, off, ha, hg, hc 0 (by omega), hc 1 (by omega), hc 2 (by omega), hc 3 (by omega)⟩
theorem open_ints' {t e : TypeId} {v : Value} {d : DataW H} {ps : List MemPlace} (ht : P.underlying t = some (.slice e)) (he : P.underlying e = some (.int .i64))
    (_ : P.cellsOf e = 1) (hce : P.cellsOf e = 1) (hv : ∃ a len cap, v = .slice a len cap) (h : DataW.Trod enc P w base spare held t v d ps) :
    ∃ (ao : Option Addr) (xs : List Int) (cap : Nat), v = .slice ao xs.length cap ∧ IntsAt w ao xs ∧ xs.length ≤ maxLen := by
  obtain ⟨ao, len, cap, rfl⟩ := hv
  obtain ⟨fuel, hf⟩ := h
  rcases Go.Deep.open_slice ht hf with ⟨h0, _⟩ | ⟨a, len', cap', m, k, D, Pl, h0, hb, hl, hm, hmm, _, hx⟩
  · simp [Value.cells] at h0
    obtain ⟨rfl, rfl, rfl⟩ := h0
    exact ⟨none, [], 0, rfl, fun i hi => by simp at hi, Nat.zero_le _⟩
  · simp [Value.cells] at h0
    obtain ⟨rfl, rfl, rfl⟩ := h0
    have hlm : len ≤ m := by rw [hmm]; split <;> omega
    have each : ∀ i, i < len → ∃ z : Int, ∃ g off, a = ⟨g, off, none⟩ ∧ g < w.heap.size ∧ w.cell? ⟨g, off + i, none⟩ = some (.int .i64 z) := by
      intro i hi
      obtain ⟨cs', h1, h2⟩ := hx i (by omega)
      obtain ⟨z, hz, _⟩ := DataW.trod_int he h2
      rw [hce] at h1
      obtain ⟨_, _, hcell⟩ := World.cells?_some h1
      obtain ⟨g, off, spot⟩ := a
      have g0 := hcell 0 (by omega)
      rw [hz] at g0
      have hspot : spot = none := by
        obtain ⟨cs0, k1, k2⟩ := hx 0 (by omega)
        obtain ⟨z0, hz0, _⟩ := DataW.trod_int he k2
        rw [hce] at k1
        obtain ⟨_, _, kcell⟩ := World.cells?_some k1
        have k0 := kcell 0 (by omega)
        rw [hz0] at k0
        simpa [Addr.add] using World.cell?_spot k0
      subst hspot
      rw [add_plain, add_plain] at g0
      refine ⟨z, g, off, rfl, ?_, by simpa using g0⟩
      unfold World.cell? at g0
      split at g0
      · rename_i h; exact (Array.getElem?_eq_some_iff.1 h).1
      · cases g0
    have hZ : ∃ Z : Nat → Int, ∀ i, i < len → ∃ g off, a = ⟨g, off, none⟩ ∧ g < w.heap.size ∧ w.cell? ⟨g, off + i, none⟩ = some (.int .i64 (Z i)) := Go.Deep.choose_lt each
    obtain ⟨Z, hZ⟩ := hZ
    refine ⟨some a, (List.range len).map Z, cap, by simp, fun i hi => ?_, by simp; omega⟩
    have hi' : i < len := by simpa using hi
    obtain ⟨g, off, rfl, hg, hc⟩ := hZ i hi'
    refine ⟨g, off, rfl, hg, ?_⟩
    rw [hc, ix_get _ _ hi]
    simp

theorem slice_form {t e : TypeId} {n : Nat} {c : Value} {x : DataW H × List MemPlace} (ht : P.underlying t = some (.slice e)) (h : DataW.trod enc P w base spare held n t [c] = some x) : ∃ a len cap, c = .slice a len cap := by
  rcases DataW.trod_slice ht h with ⟨h0, _⟩ | ⟨a, len, cap, _, _, _, _, h0, _⟩
  · cases h0; exact ⟨_, _, _, rfl⟩
  · cases h0; exact ⟨_, _, _, rfl⟩
theorem slice_trod {t e : TypeId} {n : Nat} {c : Value} {x : DataW H × List MemPlace} (ht : P.underlying t = some (.slice e)) (h : DataW.trod enc P w base spare held n t [c] = some x) : DataW.Trod enc P w base spare held t c x.1 x.2 := by
  obtain ⟨a, len, cap, rfl⟩ := slice_form ht h
  exact ⟨n, by simpa [Value.cells] using h⟩
end
section
variable {H : Type} {enc : TypeId × Value → H} {w : World} {base : Nat} {spare : Nat → Bool} {held : Bool}
set_option maxRecDepth 20000 in
theorem open_game {r : Reach} {b : Nat} {v : Value} {d : DataW H} {ps : List MemPlace} (hv : Value.okWide Try.prog w r b 35 v) (h : DataW.Trod enc Try.prog w base spare held 35 v d ps) :
    ∃ (s n : Int) (lo so wo : Option Addr) (lc sc wc : Nat) (laid : List Card) (scores wrong : List Int), v = gv s n (.slice lo laid.length lc) (.slice so scores.length sc) (.slice wo wrong.length wc) ∧ CardsAt w lo laid ∧ IntsAt w so scores ∧ IntsAt w wo wrong ∧ laid.length ≤ maxLen ∧ scores.length ≤ maxLen ∧ wrong.length ≤ maxLen := by
  obtain ⟨cs, rfl, hsz⟩ := okWide_struct Try.underlying35 hv
  obtain ⟨l⟩ := cs
  obtain ⟨fuel, hf⟩ := h
  have hc : Try.prog.cellsOf 35 = 5 := by kernel_rfl
  have hc3 : Try.prog.cellsOf 32 = 3 := by kernel_rfl
  have hc1 : Try.prog.cellsOf 3 = 1 := by kernel_rfl
  have hcs : Try.prog.cellsOf 22 = 1 := by kernel_rfl
  have hci : Try.prog.cellsOf 33 = 1 := by kernel_rfl
  rw [hc] at hsz
  obtain ⟨y0, y1, y2, n, _, _, h0, h1, h2⟩ := Go.Deep.trod_struct3 Try.underlying35 hf
  obtain ⟨z0, z1, z2, k, _, _, e0, e1, e2⟩ := Go.Deep.trod_struct3 Try.underlying32 h0
  simp only [Value.cells, hc3, hc1, hcs, hci] at h0 h1 h2 e0 e1 e2
  match l, hsz with
  | [c0, c1, c2, c3, c4], _ =>
    simp at h0 h1 h2 e0 e1 e2
    obtain ⟨s, es, _⟩ := DataW.trod_int Try.underlying3 e0
    obtain ⟨m, em, _⟩ := DataW.trod_int Try.underlying3 e1
    cases es
    cases em
    obtain ⟨lo, laid, lc, rfl, hx, hl⟩ := open_cards' Try.underlying22 Try.underlying48 Try.underlying3 (by kernel_rfl) (by kernel_rfl) (slice_form Try.underlying22 e2) (slice_trod Try.underlying22 e2)
    obtain ⟨so, scores, sc, rfl, hy, hl2⟩ := open_ints' Try.underlying33 Try.underlying3 (by kernel_rfl) (by kernel_rfl) (slice_form Try.underlying33 h1) (slice_trod Try.underlying33 h1)
    obtain ⟨wo, wrong, wc, rfl, hz, hl3⟩ := open_ints' Try.underlying33 Try.underlying3 (by kernel_rfl) (by kernel_rfl) (slice_form Try.underlying33 h2) (slice_trod Try.underlying33 h2)
    exact ⟨s, m, lo, so, wo, lc, sc, wc, laid, scores, wrong, rfl, hx, hy, hz, hl, hl2, hl3⟩
end
end Go.Proofs.Ytenmnipgnjaheaa
