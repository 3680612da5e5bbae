/- Contracts: the cards that a hand blocks, or does not. -/
import Derived.Test.YthiamiilgdkclabT8
import Derived.Test.YthiamiilgdkclabT15
import Derived.Test.YthiamiilgdkclabT24
namespace Go.Proofs.Ythiamiilgdkclab
open Go.RowKit
def outP (xs : List Card) (b : Bool) (n : Nat) : Bool := !hasC xs (cardN n) && (decide (0 < thr xs (cardN n)) == b)
def outL (xs : List Card) (b : Bool) (k : Nat) : List Int := ((List.range k).filter (outP xs b)).map fun n : Nat => (n : Int)
theorem outL_next (xs : List Card) (b : Bool) (k : Nat) : outL xs b (k + 1) = outL xs b k ++ if outP xs b k then [(k : Int)] else [] := by
  simp only [outL, List.range_succ, List.filter_append, List.map_append]
  cases h : outP xs b k <;> simp [h]
theorem outL_len (xs : List Card) (b : Bool) (k : Nat) : (outL xs b k).length ≤ k := by
  have := List.length_filter_le (outP xs b) (List.range k)
  simpa [outL] using this
theorem l3Cards_any (ao : Option Addr) (cap : Nat) (xs : List Card) (b : Bool) (w : World) (hx : CardsAt w ao xs) (hl : xs.length ≤ 81) (hc : areC xs) :
    Calls Try.prog 31 #[.slice ao xs.length cap, .bool b] w (RetI w (outL xs b 81)) := by
  go_enter Try.func31, Try.ntmps31
  go_wp2
  go_loopw [6, 5] (fun i v wr => ∃ n : Nat, n ≤ 81 ∧ i = .int .i64 n ∧ OwnI w.heap.size wr v (outL xs b n) ∧ Kept w wr) (fun i _ _ => 81 - (intOf i).toNat)
  case atStart => exact ⟨0, by omega, rfl, show OwnI _ _ _ [] from ownI_nil (Nat.le_refl _) (heap_at rfl), (by (try simp only [ext_ext]); repeat (first | exact Kept.refl _ | apply Kept.alloc | apply Kept.drew | apply kept_add | apply Kept.ext))⟩
  case round =>
    obtain ⟨n, hn, rfl, hown, z, rfl⟩ := hrel
    have hownH := hid hown
    have hln := hid (outL_len xs b n)
    have hnx := hid (outL_next xs b n)
    clear hown
    by_cases hlt : n < 81
    · have hok : Hid (outP xs b n = (!hasC xs (cardN n) && (decide (0 < thr xs (cardN n)) == b))) := hid rfl
      have hth := hid (fun w' hw => l2Through_any ao cap xs (cardN n) w' (hx.kept hw) hl hc)
      cases hh : hasC xs (cardN n) <;> cases ht : decide (0 < thr xs (cardN n)) <;> cases b
      all_goals
        have hhH := hid hh
        have htH := hid ht
        go_wp2_with (first | (go_at_call 64; refine Calls.mono (l2At_any _ (by omega) (by omega) _) ?_; rintro e w' ⟨rfl, y, rfl⟩) | (go_at_call 53; refine Calls.mono (l2Has_any _ _ _ (cardN n) _ (by first | assumption | exact CardsAt.kept (by assumption) (by (try simp only [ext_ext]); repeat (first | exact Kept.refl _ | apply Kept.alloc | apply Kept.drew | apply kept_add | apply Kept.ext))) (by omega)) ?_; rintro e w' ⟨rfl, y, rfl⟩) | (go_at_call 52; refine Calls.mono (hth.out _ ((by (try simp only [ext_ext]); repeat (first | exact Kept.refl _ | apply Kept.alloc | apply Kept.drew | apply kept_add | apply Kept.ext)))) ?_; rintro e w' ⟨rfl, y, rfl⟩) | (at_builtin; refine wpList_append_int rfl _ _ rfl w w.heap.size _ _ rfl (hownH.out.kept (by (try simp only [ext_ext]); repeat (first | exact Kept.refl _ | apply Kept.alloc | apply Kept.drew | apply kept_add | apply Kept.ext))) (by (try simp only [ext_ext]); repeat (first | exact Kept.refl _ | apply Kept.alloc | apply Kept.drew | apply kept_add | apply Kept.ext)) (Nat.le_refl _) (by simp; omega) _ _ (n : Int) rfl ?_ (by have := hln.out; omega) ?_; rotate_left; intro v' w' hown' hkw' hgr' hat'))
        try (case refine_1 => exact cell_of_row _ _ 0 _ _ (0, 0) (heap_at (by simp)))
        go_roundw
        case rel =>
          first
          | exact ⟨n + 1, by omega, by go_num, by rw [hnx.out, hok.out, hhH.out, htH.out]; exact hown', hkw'⟩
          | exact ⟨n + 1, by omega, by go_num, by rw [hnx.out, hok.out, hhH.out, htH.out]; simpa using hownH.out.kept (by (try simp only [ext_ext]); repeat (first | exact Kept.refl _ | apply Kept.alloc | apply Kept.drew | apply kept_add | apply Kept.ext)), (by (try simp only [ext_ext]); repeat (first | exact Kept.refl _ | apply Kept.alloc | apply Kept.drew | apply kept_add | apply Kept.ext))⟩
        case measure => simp [intOf]; omega
    · obtain rfl : n = 81 := by omega
      go_wp2
      go_ret
      exact ⟨_, rfl, hownH.out.kept (by (try simp only [ext_ext]); repeat (first | exact Kept.refl _ | apply Kept.alloc | apply Kept.drew | apply kept_add | apply Kept.ext)), (by (try simp only [ext_ext]); repeat (first | exact Kept.refl _ | apply Kept.alloc | apply Kept.drew | apply kept_add | apply Kept.ext))⟩
theorem isBlocked_any (ao : Option Addr) (cap : Nat) (xs : List Card) (c : Card) (w : World) (hx : CardsAt w ao xs) (hl : xs.length ≤ 81) (hc : areC xs) (hd : distC xs) :
    Calls Try.prog 67 #[.slice ao xs.length cap, c.v] w fun e w' => e = .returned (.bool (decide (0 < thr xs c))) ∧ Kept w w' := by
  go_enter Try.func67, Try.ntmps67
  go_wp2_with (first | (go_at_call 58; refine Calls.mono (pairsFor_any _ _ _ c _ (by first | assumption | exact CardsAt.kept (by assumption) (by (try simp only [ext_ext]); repeat (first | exact Kept.refl _ | apply Kept.alloc | apply Kept.drew | apply kept_add | apply Kept.ext))) hl hc hd) ?_; rintro e w' ⟨bo, nn, cap', rfl, hnn, y, rfl⟩))
  go_ret
  exact ⟨ret_of (by rw [← hnn]; simp), (by (try simp only [ext_ext]); repeat (first | exact Kept.refl _ | apply Kept.alloc | apply Kept.drew | apply kept_add | apply Kept.ext))⟩
theorem outside_any (ao : Option Addr) (cap : Nat) (xs : List Card) (b : Bool) (w : World) (hx : CardsAt w ao xs) (hl : xs.length ≤ 81) (hc : areC xs) (hd : distC xs) :
    Calls Try.prog 35 #[.slice ao xs.length cap, .bool b] w (RetI w (outL xs b 81)) := by
  go_enter Try.func35, Try.ntmps35
  go_wp2
  go_loopw [9, 5] (fun i v wr => ∃ n : Nat, n ≤ 81 ∧ i = .int .i64 n ∧ OwnI w.heap.size wr v (outL xs b n) ∧ Kept w wr) (fun i _ _ => 81 - (intOf i).toNat)
  case atStart => exact ⟨0, by omega, rfl, show OwnI _ _ _ [] from ownI_nil (Nat.le_refl _) (heap_at rfl), (by (try simp only [ext_ext]); repeat (first | exact Kept.refl _ | apply Kept.alloc | apply Kept.drew | apply kept_add | apply Kept.ext))⟩
  case round =>
    obtain ⟨n, hn, rfl, hown, z, rfl⟩ := hrel
    have hownH := hid hown
    have hln := hid (outL_len xs b n)
    have hnx := hid (outL_next xs b n)
    clear hown
    by_cases hlt : n < 81
    · have hok : Hid (outP xs b n = (!hasC xs (cardN n) && (decide (0 < thr xs (cardN n)) == b))) := hid rfl
      have hbl := hid (fun w' hw => isBlocked_any ao cap xs (cardN n) w' (hx.kept hw) hl hc hd)
      cases hh : hasC xs (cardN n) <;> cases ht : decide (0 < thr xs (cardN n)) <;> cases b
      all_goals
        have hhH := hid hh
        have htH := hid ht
        have hbl1 := hbl.out
        rw [ht] at hbl1
        clear ht
        have hbl2 := hid hbl1
        clear hbl1
        go_wp2_with (first | (go_at_call 56; refine Calls.mono (card_any _ (by omega) (by omega) _) ?_; rintro e w' ⟨rfl, y, rfl⟩) | (go_at_call 57; refine Calls.mono (has_any _ _ _ (cardN n) _ (by first | assumption | exact CardsAt.kept (by assumption) (by (try simp only [ext_ext]); repeat (first | exact Kept.refl _ | apply Kept.alloc | apply Kept.drew | apply kept_add | apply Kept.ext))) (by omega)) ?_; rintro e w' ⟨rfl, y, rfl⟩) | (go_at_call 67; refine Calls.mono (hbl2.out _ ((by (try simp only [ext_ext]); repeat (first | exact Kept.refl _ | apply Kept.alloc | apply Kept.drew | apply kept_add | apply Kept.ext)))) ?_; rintro e w' ⟨rfl, y, rfl⟩) | (at_builtin; refine wpList_append_int rfl _ _ rfl w w.heap.size _ _ rfl (hownH.out.kept (by (try simp only [ext_ext]); repeat (first | exact Kept.refl _ | apply Kept.alloc | apply Kept.drew | apply kept_add | apply Kept.ext))) (by (try simp only [ext_ext]); repeat (first | exact Kept.refl _ | apply Kept.alloc | apply Kept.drew | apply kept_add | apply Kept.ext)) (Nat.le_refl _) (by simp; omega) _ _ (n : Int) rfl ?_ (by have := hln.out; omega) ?_; rotate_left; intro v' w' hown' hkw' hgr' hat'))
        try (case refine_1 => exact cell_of_row _ _ 0 _ _ (0, 0) (heap_at (by simp)))
        go_roundw
        case rel =>
          first
          | exact ⟨n + 1, by omega, by go_num, by rw [hnx.out, hok.out, hhH.out, htH.out]; exact hown', hkw'⟩
          | exact ⟨n + 1, by omega, by go_num, by rw [hnx.out, hok.out, hhH.out, htH.out]; simpa using hownH.out.kept (by (try simp only [ext_ext]); repeat (first | exact Kept.refl _ | apply Kept.alloc | apply Kept.drew | apply kept_add | apply Kept.ext)), (by (try simp only [ext_ext]); repeat (first | exact Kept.refl _ | apply Kept.alloc | apply Kept.drew | apply kept_add | apply Kept.ext))⟩
        case measure => simp [intOf]; omega
    · obtain rfl : n = 81 := by omega
      go_wp2
      go_ret
      exact ⟨_, rfl, hownH.out.kept (by (try simp only [ext_ext]); repeat (first | exact Kept.refl _ | apply Kept.alloc | apply Kept.drew | apply kept_add | apply Kept.ext)), (by (try simp only [ext_ext]); repeat (first | exact Kept.refl _ | apply Kept.alloc | apply Kept.drew | apply kept_add | apply Kept.ext))⟩
end Go.Proofs.Ythiamiilgdkclab
