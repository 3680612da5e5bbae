/- Contracts: all weights. -/
import Derived.Test.YtlkjpammglljdabT7
import Derived.Test.YtlkjpammglljdabT28
import Derived.Test.YtlkjpammglljdabC3
import Derived.Test.YtlkjpammglljdabT5
namespace Go.Proofs.Ytlkjpammglljdab
open Go.RowKit
/-- The weights among the first k cards. -/
def wtK (k : Nat) : List Card := ((List.range k).map fun n : Nat => cardN (n : Int)).filter isWeight
theorem wtK_next (k : Nat) : wtK (k + 1) = wtK k ++ if isWeight (cardN k) = true then [cardN k] else [] := by
  simp only [wtK, List.range_succ, List.map_append, List.filter_append, List.map_cons, List.map_nil]
  cases h : isWeight (cardN k) <;> simp [h]
theorem wtK_len (k : Nat) : (wtK k).length ≤ k := by
  have := List.length_filter_le isWeight ((List.range k).map fun n : Nat => cardN (n : Int))
  simpa [wtK] using this
theorem wtK_card {k : Nat} (hk : k ≤ 81) : areC (wtK k) := by
  intro j hj
  have hm := cx_mem hj
  generalize cx (wtK k) j = c at hm ⊢
  simp only [wtK, List.mem_filter, List.mem_map, List.mem_range] at hm
  obtain ⟨⟨i, hi, rfl⟩, _⟩ := hm
  exact isCard_cardN (by omega) (by omega)
theorem weights_any (w : World) : Calls Try.prog 44 #[] w (RetC w (wtK 81)) := by
  go_enter Try.func44, Try.ntmps44
  go_wp2
  go_loopw [5, 1] (fun i v wr => ∃ k : Nat, k ≤ 81 ∧ i = .int .i64 k ∧ OwnC w.heap.size wr v (wtK k) ∧ Kept w wr) (fun i _ _ => 81 - (intOf i).toNat)
  case atStart => exact ⟨0, by omega, rfl, show OwnC _ _ _ [] from ownC_nil (Nat.le_refl _) (heap_at rfl), (by (try simp only [ext_ext]); repeat (first | exact Kept.refl _ | apply Kept.alloc | apply Kept.drew | apply kept_add | apply Kept.ext))⟩
  case round =>
    obtain ⟨k, hk, rfl, hown, z, rfl⟩ := hrel
    have hlen := hid (wtK_len k)
    have hnx := hid (wtK_next k)
    by_cases hlt : k < 81
    · have hownH := hid hown
      clear hown
      go_wp2_with (first | (go_at_call 34; refine Calls.mono (card_any _ (by omega) (by omega) _) ?_; rintro e w' ⟨rfl, y, rfl⟩) | (go_at_call 63; refine Calls.mono (IsWeight_any (cardN k) _) ?_; rintro e w' ⟨rfl, y, rfl⟩) | (at_builtin; refine wpList_append_card_at rfl _ _ rfl w w.heap.size _ _ rfl (hownH.out.kept (by (try simp only [ext_ext]); repeat (first | exact Kept.refl _ | apply Kept.alloc | apply Kept.drew | apply kept_add | apply Kept.ext))) (by (try simp only [ext_ext]); repeat (first | exact Kept.refl _ | apply Kept.alloc | apply Kept.drew | apply kept_add | apply Kept.ext)) (Nat.le_refl _) (by simp; omega) _ _ (cardN k) rfl ?_ (by have := hlen.out; omega) ?_; rotate_left; intro v' w' hown' hkw' hgr' hat'))
      case refine_1 => exact cardCells_new _ (by simp)
      all_goals
        rename_i h
        go_roundw
        case rel =>
          first
          | exact ⟨k + 1, by omega, by go_num, by rw [hnx.out, if_pos (by simpa using h)]; exact hown', hkw'⟩
          | exact ⟨k + 1, by omega, by go_num, by rw [hnx.out, if_neg (by simpa using h), List.append_nil]; exact hownH.out.kept (by (try simp only [ext_ext]); repeat (first | exact Kept.refl _ | apply Kept.alloc | apply Kept.drew | apply kept_add | apply Kept.ext)), (by (try simp only [ext_ext]); repeat (first | exact Kept.refl _ | apply Kept.alloc | apply Kept.drew | apply kept_add | apply Kept.ext))⟩
        case measure => simp [intOf]; omega
    · obtain rfl : k = 81 := by omega
      have hownH := hid hown
      clear hown
      go_wp2
      go_ret
      exact ⟨_, rfl, hownH.out.kept (by (try simp only [ext_ext]); repeat (first | exact Kept.refl _ | apply Kept.alloc | apply Kept.drew | apply kept_add | apply Kept.ext)), (by (try simp only [ext_ext]); repeat (first | exact Kept.refl _ | apply Kept.alloc | apply Kept.drew | apply kept_add | apply Kept.ext))⟩
end Go.Proofs.Ytlkjpammglljdab
