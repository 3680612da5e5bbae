/- Rows that stand aside while another row grows; a filtered list of rows. -/
import Derived.Test.YtenmnipgnjaheaaT12
import Derived.Test.YtenmnipgnjaheaaT18
namespace Go.Proofs.Ytenmnipgnjaheaa
open Go.RowKit
/-- The rows among the first k of which a test says yes. -/
def fil {α : Type} (p : α → Bool) (ls : List α) (k : Nat) : List α := (ls.take k).filter p
theorem fil_zero {α : Type} (p : α → Bool) (ls : List α) : fil p ls 0 = [] := by simp [fil]
theorem fil_all {α : Type} (p : α → Bool) (ls : List α) : fil p ls ls.length = ls.filter p := by simp [fil]
theorem fil_next (p : Ln → Bool) (ls : List Ln) (k : Nat) (h : k < ls.length) : fil p ls (k + 1) = fil p ls k ++ if p (lx ls k) then [lx ls k] else [] := by
  simp only [fil, take_lx ls k h, List.filter_append]
  cases hp : p (lx ls k) <;> simp [hp]
theorem fil_len {α : Type} (p : α → Bool) (ls : List α) (k : Nat) : (fil p ls k).length ≤ ls.length := by
  have h1 := List.length_filter_le p (ls.take k)
  have h2 := List.length_take_le k ls
  have h3 := List.length_take_le' k ls
  unfold fil; omega
end Go.Proofs.Ytenmnipgnjaheaa
