/- Contracts: all lines among cards. -/
import Derived.Test.YtifkjbihmmdnbaaT7
import Derived.Test.YtifkjbihmmdnbaaT8
import Derived.Test.YtifkjbihmmdnbaaT11
import Derived.Test.YtifkjbihmmdnbaaT12
namespace Go.Proofs.Ytifkjbihmmdnbaa
open Go.RowKit
/-- The line of two places of a list, if there is one and its third place is behind them. -/
def lineAt (xs : List Card) (i k : Nat) : List Ln := if (k : Int) < placeC xs (thirdC (cx xs i) (cx xs k)) then [⟨i, k, placeC xs (thirdC (cx xs i) (cx xs k))⟩] else []
def linesMid (xs : List Card) (i m : Nat) : List Ln := (List.range m).flatMap fun j => lineAt xs i (i + 1 + j)
def linesTo (xs : List Card) (k : Nat) : List Ln := (List.range k).flatMap fun i => linesMid xs i (xs.length - (i + 1))
/-- All lines among cards. -/
def linesC (xs : List Card) : List Ln := linesTo xs xs.length
theorem lineAt_len (xs : List Card) (i k : Nat) : (lineAt xs i k).length ≤ 1 := by unfold lineAt; split <;> simp
theorem linesMid_next (xs : List Card) (i m : Nat) : linesMid xs i (m + 1) = linesMid xs i m ++ lineAt xs i (i + 1 + m) := by simp [linesMid, List.range_succ]
theorem linesTo_next (xs : List Card) (k : Nat) : linesTo xs (k + 1) = linesTo xs k ++ linesMid xs k (xs.length - (k + 1)) := by simp [linesTo, List.range_succ]
theorem linesMid_len (xs : List Card) (i m : Nat) : (linesMid xs i m).length ≤ m := by
  induction m with
  | zero => simp [linesMid]
  | succ m ih => rw [linesMid_next, List.length_append]; have := lineAt_len xs i (i + 1 + m); omega
theorem linesTo_len (xs : List Card) (k : Nat) (h : xs.length ≤ 81) : (linesTo xs k).length ≤ k * 81 := by
  induction k with
  | zero => simp [linesTo]
  | succ k ih => rw [linesTo_next, List.length_append]; have := linesMid_len xs k (xs.length - (k + 1)); omega
theorem linesC_len (xs : List Card) (h : xs.length ≤ 81) : (linesC xs).length ≤ 6561 := by
  have := linesTo_len xs xs.length h
  unfold linesC; omega
theorem l2Lines_any (ao : Option Addr) (cap : Nat) (xs : List Card) (w : World) (hx : CardsAt w ao xs) (hl : xs.length ≤ 81) (hc : areC xs) :
    Calls Try.prog 34 #[.slice ao xs.length cap] w (RetL w (linesC xs)) := by
  go_enter Try.func34, Try.ntmps34
  go_wp2
  go_loopw [4, 3] (fun i v wr => ∃ k : Nat, k ≤ xs.length ∧ i = .int .i64 k ∧ OwnL w.heap.size wr v (linesTo xs k) ∧ Kept w wr) (fun i _ _ => xs.length - (intOf i).toNat)
  case atStart => exact ⟨0, by omega, rfl, show OwnL _ _ _ [] from ownL_nil (Nat.le_refl _) (heap_at rfl), (by (try simp only [ext_ext]); repeat (first | exact Kept.refl _ | apply Kept.alloc | apply Kept.drew | apply kept_add | apply Kept.ext))⟩
  case round =>
    obtain ⟨k, hk, rfl, hown, z, rfl⟩ := hrel
    have hownH := hid hown
    clear hown
    have hlo := linesTo_len xs k hl
    by_cases hlt : k < xs.length
    · go_wp2
      go_loopw [5, 3] (fun j v wr => ∃ m : Nat, k + 1 + m ≤ xs.length ∧ j = .int .i64 ((k + 1 + m : Nat) : Int) ∧ OwnL w.heap.size wr v (linesTo xs k ++ linesMid xs k m) ∧ Kept w wr) (fun j _ _ => xs.length - (intOf j).toNat)
      case atStart => exact ⟨0, hlt, by go_num, by simpa [linesMid] using hownH.out.kept (by (try simp only [ext_ext]); repeat (first | exact Kept.refl _ | apply Kept.alloc | apply Kept.drew | apply kept_add | apply Kept.ext)), (by (try simp only [ext_ext]); repeat (first | exact Kept.refl _ | apply Kept.alloc | apply Kept.drew | apply kept_add | apply Kept.ext))⟩
      case round =>
        obtain ⟨m, hm, hj, hown2, z, rfl⟩ := hrel
        have hown2H := hid hown2
        clear hown2
        obtain ⟨q, hq⟩ : ∃ q, q = k + 1 + m := ⟨_, rfl⟩
        rw [← hq] at hm hj
        subst hj
        have hqH := hid hq
        have hln : (linesTo xs k ++ linesMid xs k m).length ≤ 1048576 := by
          have := linesMid_len xs k m
          rw [List.length_append]; omega
        have hlnH := hid hln
        clear hln
        by_cases hlt2 : q < xs.length
        · obtain ⟨g, off, rfl, hg, h1, h2, h3, h4⟩ := hx k hlt
          obtain ⟨g', off', he, hg', p1, p2, p3, p4⟩ := hx q hlt2
          cases he
          have hck := hc k hlt
          have hcq := hc q hlt2
          clear hq
          have hpl := placeC_le xs (thirdC (cx xs k) (cx xs q))
          have hnx := hid (linesMid_next xs k m)
          have hla : Hid (lineAt xs k q = if (q : Int) < placeC xs (thirdC (cx xs k) (cx xs q)) then [⟨k, q, placeC xs (thirdC (cx xs k) (cx xs q))⟩] else []) := hid rfl
          go_wp2_with (first | (refine wp_region_ext (by kernel_rfl) (by kernel_rfl) ?_; (repeat (go_big_quiet_step (((first | (go_at_call 54; first | exact ext_call (l2Third_any _ _ hck hcq _) | exact ext_call2 (l2Third_any _ _ hck hcq _)) | (go_at_call 53; first | exact ext_call (l2Place_any _ _ _ (thirdC (cx xs k) (cx xs q)) _ (by first | assumption | exact CardsAt.kept (by assumption) (by (try simp only [ext_ext]); repeat (first | exact Kept.refl _ | apply Kept.alloc | apply Kept.drew | apply kept_add | apply Kept.ext))) (by omega)) | exact ext_call2 (l2Place_any _ _ _ (thirdC (cx xs k) (cx xs q)) _ (by first | assumption | exact CardsAt.kept (by assumption) (by (try simp only [ext_ext]); repeat (first | exact Kept.refl _ | apply Kept.alloc | apply Kept.drew | apply kept_add | apply Kept.ext))) (by omega)))))))); refine wpQuiet_end fun z => ?_) | (at_builtin; refine wpList_append_ln rfl _ _ rfl w _ _ rfl (hown2H.out.kept (by (try simp only [ext_ext]); repeat (first | exact Kept.refl _ | apply Kept.alloc | apply Kept.drew | apply kept_add | apply Kept.ext))) (by (try simp only [ext_ext]); repeat (first | exact Kept.refl _ | apply Kept.alloc | apply Kept.drew | apply kept_add | apply Kept.ext)) _ _ ⟨k, q, placeC xs (thirdC (cx xs k) (cx xs q))⟩ rfl ?_ hlnH.out ?_; rotate_left; intro v' z' hown'))
          case refine_1 => exact lnCells_new ⟨_, _, _⟩ (by simp)
          all_goals
            rename_i h
            go_roundw
            case rel =>
              refine ⟨m + 1, by have := hqH.out; omega, by have := hqH.out; go_num, ?_, (by (try simp only [ext_ext]); repeat (first | exact Kept.refl _ | apply Kept.alloc | apply Kept.drew | apply kept_add | apply Kept.ext))⟩
              rw [hnx.out, ← hqH.out, hla.out]
              first
              | (rw [if_neg (by omega), List.append_nil]; exact hown2H.out.kept (by (try simp only [ext_ext]); repeat (first | exact Kept.refl _ | apply Kept.alloc | apply Kept.drew | apply kept_add | apply Kept.ext)))
              | (rw [if_pos (by omega), ← List.append_assoc]; exact hown')
            case measure => simp [intOf]; omega
        · have em : m = xs.length - (k + 1) := by have := hqH.out; omega
          have eo : Hid (linesTo xs (k + 1) = linesTo xs k ++ linesMid xs k m) := hid (by rw [linesTo_next, em])
          clear em hq
          go_wp2
          go_roundw
          case rel => exact ⟨k + 1, hlt, by go_num, by rw [eo.out]; exact hown2H.out.kept (by (try simp only [ext_ext]); repeat (first | exact Kept.refl _ | apply Kept.alloc | apply Kept.drew | apply kept_add | apply Kept.ext)), (by (try simp only [ext_ext]); repeat (first | exact Kept.refl _ | apply Kept.alloc | apply Kept.drew | apply kept_add | apply Kept.ext))⟩
          case measure => simp [intOf]; omega
    · obtain rfl : k = xs.length := by omega
      go_wp2
      go_ret
      exact ⟨_, rfl, hownH.out.kept (by (try simp only [ext_ext]); repeat (first | exact Kept.refl _ | apply Kept.alloc | apply Kept.drew | apply kept_add | apply Kept.ext)), (by (try simp only [ext_ext]); repeat (first | exact Kept.refl _ | apply Kept.alloc | apply Kept.drew | apply kept_add | apply Kept.ext))⟩
end Go.Proofs.Ytifkjbihmmdnbaa
