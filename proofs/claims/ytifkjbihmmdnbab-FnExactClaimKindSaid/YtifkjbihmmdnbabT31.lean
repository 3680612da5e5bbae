/- Contracts: whether a line is disjoint from all of a list. -/
import Derived.Test.YtifkjbihmmdnbabT19
import Derived.Test.YtifkjbihmmdnbabT20
import Derived.Test.YtifkjbihmmdnbabT23
namespace Go.Proofs.Ytifkjbihmmdnbab
open Go.RowKit
theorem eq01_comm (x y : Int) : eq01 x y = eq01 y x := by
  unfold eq01
  by_cases h : x = y
  · rw [if_pos h, if_pos h.symm]
  · rw [if_neg h, if_neg (Ne.symm h)]
theorem comS_comm (a b : Ln) : comS a b = comS b a := by
  unfold comS comRow
  rw [rsum_swap]
  exact rsum_congr fun i _ => rsum_congr fun j _ => eq01_comm _ _
def sortL (l : Ln) : Prop := l.a < l.b ∧ l.b < l.c
theorem sort_lines {xs : List Card} {l : Ln} (h : l ∈ linesC xs) : sortL l := by
  obtain ⟨i, k, m, rfl, h1, h2, _⟩ := mem_linesC h
  exact ⟨by simp only; omega, by simp only; omega⟩
theorem comI_comm {a b : Ln} (ha : sortL a) (hb : sortL b) : comI a b = comI b a := by
  rw [← comS_comI hb.1 hb.2, ← comS_comI ha.1 ha.2, comS_comm]
/-- Whether a line has a card in common with one of a list. -/
def hitL (ls : List Ln) (a : Ln) : Bool := ls.any fun b => decide (0 < comI a b)
def hitS (ls : List Ln) (a : Ln) : Bool := ls.any fun b => decide (0 < comS b a)
theorem hitS_hitL {ls : List Ln} {a : Ln} (ha : sortL a) (h : ∀ b, b ∈ ls → sortL b) : hitS ls a = hitL ls a := by
  unfold hitS hitL
  induction ls with
  | nil => rfl
  | cons b ls ih =>
    have hb := h b (by simp)
    rw [List.any_cons, List.any_cons, ih fun b hb => h b (by simp [hb]), comS_comI ha.1 ha.2, comI_comm hb ha]
end Go.Proofs.Ytifkjbihmmdnbab
