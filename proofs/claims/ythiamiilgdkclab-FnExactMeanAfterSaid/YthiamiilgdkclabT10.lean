/- Contracts: the cards that a hand has not. -/
import Derived.Test.YthiamiilgdkclabT7
import Derived.Test.YthiamiilgdkclabT8
import Derived.Test.YthiamiilgdkclabT9
namespace Go.Proofs.Ythiamiilgdkclab
open Go.RowKit
/-- Of the first k cards those that are not in a list. -/
def restK (xs : List Card) (k : Nat) : List Card := ((List.range k).map fun n : Nat => cardN (n : Int)).filter fun c => !hasC xs c
theorem restK_next (xs : List Card) (k : Nat) : restK xs (k + 1) = restK xs k ++ if hasC xs (cardN k) then [] else [cardN k] := by
  simp only [restK, List.range_succ, List.map_append, List.filter_append, List.map_cons, List.map_nil]
  cases h : hasC xs (cardN k) <;> simp [h]
theorem restK_len (xs : List Card) (k : Nat) : (restK xs k).length ≤ k := by
  have := List.length_filter_le (fun c => !hasC xs c) ((List.range k).map fun n : Nat => cardN (n : Int))
  simpa [restK] using this
theorem l9Rest_any (ao : Option Addr) (cap : Nat) (xs : List Card) (w : World) (hx : CardsAt w ao xs) (hl : xs.length ≤ 1048576) :
    Calls Try.prog 51 #[.slice ao xs.length cap] w (RetC w (restK xs 81)) := by
  go_enter Try.func51, Try.ntmps51
  go_wp2
  go_loopw [4, 3] (fun i v wr => ∃ k : Nat, k ≤ 81 ∧ i = .int .i64 k ∧ OwnC w.heap.size wr v (restK xs k) ∧ Kept w wr) (fun i _ _ => 81 - (intOf i).toNat)
  case atStart => exact ⟨0, by omega, rfl, show OwnC _ _ _ [] from ownC_nil (Nat.le_refl _) (heap_at rfl), (by (try simp only [ext_ext]); repeat (first | exact Kept.refl _ | apply Kept.alloc | apply Kept.drew | apply kept_add | apply Kept.ext))⟩
  case round =>
    obtain ⟨k, hk, rfl, hown, z, rfl⟩ := hrel
    have hlen := restK_len xs k
    have hnx := hid (restK_next xs k)
    by_cases hlt : k < 81
    · have hownH := hid hown
      clear hown
      go_wp2_with (first | (go_at_call 64; refine Calls.mono (l2At_any _ (by omega) (by omega) _) ?_; rintro e w' ⟨rfl, y, rfl⟩) | (go_at_call 53; refine Calls.mono (l2Has_any _ _ _ (cardN k) _ (by first | assumption | exact CardsAt.kept (by assumption) (by (try simp only [ext_ext]); repeat (first | exact Kept.refl _ | apply Kept.alloc | apply Kept.drew | apply kept_add | apply Kept.ext))) hl) ?_; rintro e w' ⟨rfl, y, rfl⟩) | (at_builtin; refine wpList_append_card rfl _ _ rfl w _ _ rfl (hownH.out.kept (by (try simp only [ext_ext]); repeat (first | exact Kept.refl _ | apply Kept.alloc | apply Kept.drew | apply kept_add | apply Kept.ext))) (by (try simp only [ext_ext]); repeat (first | exact Kept.refl _ | apply Kept.alloc | apply Kept.drew | apply kept_add | apply Kept.ext)) _ _ (cardN k) rfl ?_ (by omega) ?_; rotate_left; intro v' z' hown'))
      case refine_1 =>
        exact cardCells_new _ (by simp)
      all_goals
        rename_i h
        go_roundw
        case rel =>
          first
          | exact ⟨k + 1, by omega, by go_num, by rw [hnx.out, if_neg (by simpa using h)]; exact hown', (by (try simp only [ext_ext]); repeat (first | exact Kept.refl _ | apply Kept.alloc | apply Kept.drew | apply kept_add | apply Kept.ext))⟩
          | exact ⟨k + 1, by omega, by go_num, by rw [hnx.out, if_pos (by simpa using h), List.append_nil]; exact hownH.out.kept (by (try simp only [ext_ext]); repeat (first | exact Kept.refl _ | apply Kept.alloc | apply Kept.drew | apply kept_add | apply Kept.ext)), (by (try simp only [ext_ext]); repeat (first | exact Kept.refl _ | apply Kept.alloc | apply Kept.drew | apply kept_add | apply Kept.ext))⟩
        case measure => simp [intOf]; omega
    · obtain rfl : k = 81 := by omega
      have hownH := hid hown
      clear hown
      go_wp2
      go_ret
      exact ⟨_, rfl, hownH.out.kept (by (try simp only [ext_ext]); repeat (first | exact Kept.refl _ | apply Kept.alloc | apply Kept.drew | apply kept_add | apply Kept.ext)), (by (try simp only [ext_ext]); repeat (first | exact Kept.refl _ | apply Kept.alloc | apply Kept.drew | apply kept_add | apply Kept.ext))⟩
end Go.Proofs.Ythiamiilgdkclab
