/- Contracts: rows of three ints that a law makes; a row among rows; what makes a picking. -/
import Derived.Test.YtifkjbihmmdnbabT11
import Derived.Test.YtifkjbihmmdnbabT19
import Derived.Test.YtifkjbihmmdnbabT20
import Derived.Test.YtifkjbihmmdnbabT21
import Derived.Test.YtifkjbihmmdnbabT31
namespace Go.Proofs.Ytifkjbihmmdnbab
open Go.RowKit
/-- The number at a cell of a list of rows. -/
def cellL (ls : List Ln) (j : Nat) : Int := if j % 3 = 0 then (lx ls (j / 3)).a else if j % 3 = 1 then (lx ls (j / 3)).b else (lx ls (j / 3)).c
def cpL (ls : List Ln) (k : Nat) : Nat → Int := fun j => if j < k * 3 then cellL ls j else 0
theorem cpL_next (ls : List Ln) (k n : Nat) (hk : k < n) :
    tab (n * 3) (upd (upd (upd (cpL ls k) (k * 3) (lx ls k).a) (k * 3 + 1) (lx ls k).b) (k * 3 + 2) (lx ls k).c) = tab (n * 3) (cpL ls (k + 1)) := by
  refine tab_congr fun j hj => ?_
  unfold upd cpL
  by_cases h2 : j = k * 3 + 2
  · rw [if_pos h2, if_pos (by omega), cellL, if_neg (by omega), if_neg (by omega), show j / 3 = k by omega]
  · rw [if_neg h2]
    by_cases h1 : j = k * 3 + 1
    · rw [if_pos h1, if_pos (by omega), cellL, if_neg (by omega), if_pos (by omega), show j / 3 = k by omega]
    · rw [if_neg h1]
      by_cases h0 : j = k * 3
      · rw [if_pos h0, if_pos (by omega), cellL, if_pos (by omega), show j / 3 = k by omega]
      · rw [if_neg h0]
        by_cases h : j < k * 3
        · rw [if_pos h, if_pos (by omega)]
        · rw [if_neg h, if_neg (by omega)]
theorem cpL_end (ls : List Ln) : (tab (ls.length * 3) (cpL ls ls.length)).toList = cells3 ls := by
  apply List.ext_getElem?
  intro j
  by_cases hj : j < ls.length * 3
  · rw [Array.getElem?_toList, tab_get _ hj]
    obtain ⟨h1, h2, h3⟩ := cells3_get ls (j / 3) (by omega)
    unfold cpL cellL
    rw [if_pos hj]
    have hm : j % 3 = 0 ∨ j % 3 = 1 ∨ j % 3 = 2 := by omega
    rcases hm with h | h | h
    · rw [if_pos h]
      rw [show j / 3 * 3 = j by omega] at h1
      exact h1.symm
    · rw [if_neg (by omega), if_pos h]
      rw [show j / 3 * 3 + 1 = j by omega] at h2
      exact h2.symm
    · rw [if_neg (by omega), if_neg (by omega)]
      rw [show j / 3 * 3 + 2 = j by omega] at h3
      exact h3.symm
  · rw [List.getElem?_eq_none (by simp [tab_size]; omega), List.getElem?_eq_none (by rw [cells3_length]; omega)]
theorem own_rows {w : World} {B g : Nat} {ls : List Ln} (hB : B ≤ g) (hn : ls.length ≤ maxLen) (h : w.heap[g]? = some (.cells (tab (ls.length * 3) (cpL ls ls.length)) T3)) : OwnL B w (.slice (some ⟨g, 0, none⟩) ls.length ls.length) ls :=
  ⟨cells3_length ls, .inr ⟨g, ls.length, _, rfl, hB, h, Nat.le_refl _, hn, by rw [tab_size], by rw [cpL_end, List.take_of_length_le (by rw [cells3_length]; exact Nat.le_refl _)]⟩⟩
/-- The order of lines. -/
def lexL (a b : Ln) : Bool := decide (a.a < b.a) || (decide (a.a = b.a) && (decide (a.b < b.b) || (decide (a.b = b.b) && decide (a.c < b.c))))
/-- One step of a picking: the line is there, apart from those ahead, and behind the one ahead. -/
def pickAt (all ls : List Ln) (i : Nat) : Bool := decide (lx ls i ∈ all) && !hitL (ls.take i) (lx ls i) && (decide (i = 0) || lexL (lx ls (i - 1)) (lx ls i))
def isPick (all ls : List Ln) : Bool := (List.range ls.length).all fun i => pickAt all ls i
theorem isPick_no {all ls : List Ln} {i : Nat} (hi : i < ls.length) (h : pickAt all ls i = false) : isPick all ls = false := by
  cases hp : isPick all ls with
  | false => rfl
  | true =>
    have := List.all_eq_true.1 hp i (List.mem_range.2 hi)
    rw [h] at this; cases this
theorem isPick_yes {all ls : List Ln} (h : ∀ i, i < ls.length → pickAt all ls i = true) : isPick all ls = true :=
  List.all_eq_true.2 fun i hi => h i (List.mem_range.1 hi)
theorem hit_take {xs : List Card} {ls : List Ln} {i : Nat} (ha : lx ls i ∈ linesC xs) (h : ∀ j, j < i → lx ls j ∈ linesC xs) (hi : i < ls.length) : hitS (ls.take i) (lx ls i) = hitL (ls.take i) (lx ls i) := by
  refine hitS_hitL (sort_lines ha) fun b hb => ?_
  obtain ⟨j, hj, rfl⟩ := List.mem_iff_getElem.1 hb
  have hj' : j < i := by rw [List.length_take] at hj; omega
  rw [List.getElem_take, ← lx_get ls j (by omega)]
  exact sort_lines (h j hj')
theorem pickAt_mem {all ls : List Ln} {i : Nat} (h : pickAt all ls i = true) : lx ls i ∈ all := by
  simp only [pickAt, Bool.and_eq_true, decide_eq_true_eq] at h
  exact h.1.1
/-- A slice's first rows. -/
theorem LinesAt.take {w : World} {ao : Option Addr} {ls : List Ln} (h : LinesAt w ao ls) {i : Nat} (hi : i ≤ ls.length) : LinesAt w ao (ls.take i) := by
  intro j hj
  have hj' : j < i := by rw [List.length_take] at hj; omega
  have e : lx (ls.take i) j = lx ls j := by rw [lx_get _ _ hj, lx_get _ _ (by omega), List.getElem_take]
  rw [e]
  exact h j (by omega)
theorem take_len {ls : List Ln} {i : Nat} (hi : i ≤ ls.length) : (ls.take i).length = i := by rw [List.length_take]; omega
theorem toIntA3_any (x : Ln) (w : World) :
    Calls Try.prog 47 #[x.v] w fun e w' => e = .returned x.v ∧ Kept w w' := by
  go_enter Try.func47, Try.ntmps47
  go_wp2
  refine wp_loop_rounds 4 ?_
  rw [rounds_succ]
  go_wp2
  rw [rounds_succ]
  go_wp2
  rw [rounds_succ]
  go_wp2
  rw [rounds_succ]
  go_wp2
  refine bodyPost_ret (v := x.v) (by simp [results, Try.results47, go_sem]) rfl ⟨rfl, ?_⟩
  exact (by (try simp only [ext_ext]); repeat (first | exact Kept.refl _ | apply Kept.alloc | apply Kept.drew | apply kept_add | apply Kept.ext))
end Go.Proofs.Ytifkjbihmmdnbab
