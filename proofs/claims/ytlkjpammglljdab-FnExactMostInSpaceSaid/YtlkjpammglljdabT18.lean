/- Contracts: the marks that a law writes into rows, and reads again. -/
import Derived.Test.YtlkjpammglljdabT12
namespace Go.Proofs.Ytlkjpammglljdab
open Go.RowKit
/-- Numbers that count on. -/
def marks (k : Int) (n : Nat) : List Value := (List.range n).map fun i => Value.int .i64 (k + (i : Nat))
theorem marks_len (k : Int) (n : Nat) : (marks k n).length = n := by simp [marks]
theorem marks_get (k : Int) {n i : Nat} (h : i < n) : (marks k n)[i]? = some (.int .i64 (k + (i : Nat))) := by simp [marks, h]
/-- A row whose first cells are marked. -/
def mkd (k : Int) (cur : Array Value) (t : Nat) : Array Value := (marks k t ++ cur.toList.drop t).toArray
theorem mkd_zero (k : Int) (cur : Array Value) : mkd k cur 0 = cur := by simp [mkd, marks]
theorem mkd_size (k : Int) (cur : Array Value) {t : Nat} (h : t ≤ cur.size) : (mkd k cur t).size = cur.size := by
  simp [mkd, marks_len]; omega
theorem mkd_low (k : Int) (cur : Array Value) {t i : Nat} (h : i < t) : (mkd k cur t)[i]? = some (.int .i64 (k + (i : Nat))) := by
  simp only [mkd, List.getElem?_toArray]
  rw [List.getElem?_append_left (by rw [marks_len]; exact h), marks_get k h]
theorem mkd_high (k : Int) (cur : Array Value) {t i : Nat} (h : t ≤ i) : (mkd k cur t)[i]? = cur[i]? := by
  simp only [mkd, List.getElem?_toArray]
  rw [List.getElem?_append_right (by rw [marks_len]; exact h), marks_len, List.getElem?_drop, show t + (i - t) = i by omega]
  simp
theorem mkd_some (k : Int) {cur : Array Value} {t : Nat} (h : t < cur.size) : ∃ v, (mkd k cur t)[t]? = some v :=
  ⟨_, Array.getElem?_eq_getElem (by rw [mkd_size k cur (by omega)]; exact h)⟩
theorem mkd_set (k : Int) {cur : Array Value} {t : Nat} (h : t < cur.size) : (mkd k cur t).setIfInBounds t (.int .i64 (k + (t : Nat))) = mkd k cur (t + 1) := by
  apply Array.ext_getElem?
  intro i
  rw [Array.getElem?_setIfInBounds, mkd_size k cur (by omega)]
  by_cases hi : t = i
  · subst hi
    rw [if_pos rfl, if_pos h, mkd_low k cur (by omega)]
  · rw [if_neg hi]
    by_cases hl : i < t
    · rw [mkd_low k cur hl, mkd_low k cur (by omega)]
    · rw [mkd_high k cur (by omega), mkd_high k cur (by omega)]
theorem mkd_take (k : Int) (cur : Array Value) (t : Nat) : (mkd k cur t).toList.take t = marks k t := by
  simp only [mkd]
  rw [List.take_append_of_le_length (by rw [marks_len]; exact Nat.le_refl _), List.take_of_length_le (by rw [marks_len]; exact Nat.le_refl _)]
theorem row_kept {w w' : World} {B n len : Nat} {t : TypeId} {v : Value} {cells : List Value} (h : w.ownsRow B t n v len cells) (hk : Kept w w') : w'.ownsRow B t n v len cells :=
  World.ownsRow.kept h ⟨hk.below.os, hk.below.tape, hk.below.output, hk.below.size, fun k hk' _ => hk.below.block k hk'⟩ (by cases v.ownBlock <;> simp) (row := none)
theorem grown_refl (w : World) (row : Option Nat) : w.grownBy w row := ⟨rfl, rfl, rfl, Nat.le_refl _, fun _ _ _ => rfl⟩
theorem grown_setCell {w w' : World} {row : Option Nat} (h : w.grownBy w' row) {p : Addr} (hp : row = some p.block) (u : Value) : w.grownBy (w'.setCell p u) row := by
  subst hp
  refine h.trans ⟨rfl, rfl, rfl, by simp, fun k _ hk => heap_setCell_other _ _ _ _ (fun e => hk (by rw [e]))⟩
end Go.Proofs.Ytlkjpammglljdab
