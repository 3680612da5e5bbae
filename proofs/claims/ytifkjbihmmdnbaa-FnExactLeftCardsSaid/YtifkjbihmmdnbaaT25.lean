/- Contracts: the lines of a list that have a place. -/
import Derived.Test.YtifkjbihmmdnbaaT19
import Derived.Test.YtifkjbihmmdnbaaT20
namespace Go.Proofs.Ytifkjbihmmdnbaa
open Go.RowKit
def hasPl (i : Int) (l : Ln) : Bool := decide (l.a = i) || decide (l.b = i) || decide (l.c = i)
theorem l7At_any (ao : Option Addr) (cap : Nat) (ls : List Ln) (i : Int) (w : World) (hx : LinesAt w ao ls) (hl : ls.length ≤ 1048576) :
    Calls Try.prog 48 #[.slice ao ls.length cap, .int .i64 i] w (RetL w (ls.filter (hasPl i))) := by
  have hfa := hid (fil_all (hasPl i) ls)
  go_enter Try.func48, Try.ntmps48
  go_wp2
  go_loopw [6, 5] (fun k v wr => ∃ n : Nat, n ≤ ls.length ∧ k = .int .i64 n ∧ OwnL w.heap.size wr v (fil (hasPl i) ls n) ∧ Kept w wr) (fun k _ _ => ls.length - (intOf k).toNat)
  case atStart => exact ⟨0, Nat.zero_le _, rfl, by rw [fil_zero]; exact ownL_nil (Nat.le_refl _) (heap_at rfl), (by (try simp only [ext_ext]); repeat (first | exact Kept.refl _ | apply Kept.alloc | apply Kept.drew | apply kept_add | apply Kept.ext))⟩
  case round =>
    obtain ⟨n, hn, rfl, hown, z, rfl⟩ := hrel
    have hownH := hid hown
    have hfl := hid (Nat.le_trans (fil_len (hasPl i) ls n) hl)
    clear hown
    by_cases hlt : n < ls.length
    · obtain ⟨g, off, rfl, hg, q1, q2, q3⟩ := hx n hlt
      have hnx := hid (fil_next (hasPl i) ls n hlt)
      have hok : Hid (hasPl i (lx ls n) = (decide ((lx ls n).a = i) || decide ((lx ls n).b = i) || decide ((lx ls n).c = i))) := hid rfl
      have g1 : g < w.heap.size + z.os.length := by omega
      have g2 : g < w.heap.size + z.os.length + 1 := by omega
      by_cases c1 : (lx ls n).a = i
      · subst c1
        go_wp2_with (first | (at_builtin; refine wpList_append_ln_at rfl _ _ rfl w w.heap.size _ _ rfl (hownH.out.kept (by (try simp only [ext_ext]); repeat (first | exact Kept.refl _ | apply Kept.alloc | apply Kept.drew | apply kept_add | apply Kept.ext))) (by (try simp only [ext_ext]); repeat (first | exact Kept.refl _ | apply Kept.alloc | apply Kept.drew | apply kept_add | apply Kept.ext)) (Nat.le_refl _) (by simp; omega) _ _ (lx ls n) rfl ?_ hfl.out ?_; rotate_left; intro v' w' hown' hkw' hgr' hat'))
        case refine_1 => exact lnCells_new ⟨_, _, _⟩ (by simp)
        go_roundw
        case rel => exact ⟨n + 1, hlt, by go_num, by rw [hnx.out, if_pos (by rw [hok.out]; simp)]; exact hown', hkw'⟩
        case measure => simp [intOf]; omega
      · by_cases c2 : (lx ls n).b = i
        · subst c2
          have d1 : ((lx ls n).a == (lx ls n).b) = false := by simpa using c1
          clear c1
          go_wp2_with (first | (at_builtin; refine wpList_append_ln_at rfl _ _ rfl w w.heap.size _ _ rfl (hownH.out.kept (by (try simp only [ext_ext]); repeat (first | exact Kept.refl _ | apply Kept.alloc | apply Kept.drew | apply kept_add | apply Kept.ext))) (by (try simp only [ext_ext]); repeat (first | exact Kept.refl _ | apply Kept.alloc | apply Kept.drew | apply kept_add | apply Kept.ext)) (Nat.le_refl _) (by simp; omega) _ _ (lx ls n) rfl ?_ hfl.out ?_; rotate_left; intro v' w' hown' hkw' hgr' hat'))
          case refine_1 => exact lnCells_new ⟨_, _, _⟩ (by simp)
          go_roundw
          case rel => exact ⟨n + 1, hlt, by go_num, by rw [hnx.out, if_pos (by rw [hok.out]; simp)]; exact hown', hkw'⟩
          case measure => simp [intOf]; omega
        · by_cases c3 : (lx ls n).c = i
          · subst c3
            have d1 : ((lx ls n).a == (lx ls n).c) = false := by simpa using c1
            clear c1
            have d2 : ((lx ls n).b == (lx ls n).c) = false := by simpa using c2
            clear c2
            go_wp2_with (first | (at_builtin; refine wpList_append_ln_at rfl _ _ rfl w w.heap.size _ _ rfl (hownH.out.kept (by (try simp only [ext_ext]); repeat (first | exact Kept.refl _ | apply Kept.alloc | apply Kept.drew | apply kept_add | apply Kept.ext))) (by (try simp only [ext_ext]); repeat (first | exact Kept.refl _ | apply Kept.alloc | apply Kept.drew | apply kept_add | apply Kept.ext)) (Nat.le_refl _) (by simp; omega) _ _ (lx ls n) rfl ?_ hfl.out ?_; rotate_left; intro v' w' hown' hkw' hgr' hat'))
            case refine_1 => exact lnCells_new ⟨_, _, _⟩ (by simp)
            go_roundw
            case rel => exact ⟨n + 1, hlt, by go_num, by rw [hnx.out, if_pos (by rw [hok.out]; simp)]; exact hown', hkw'⟩
            case measure => simp [intOf]; omega
          · have d1 : ((lx ls n).a == i) = false := by simpa using c1
            have d2 : ((lx ls n).b == i) = false := by simpa using c2
            have d3 : ((lx ls n).c == i) = false := by simpa using c3
            have c1H := hid c1
            have c2H := hid c2
            have c3H := hid c3
            clear c1 c2 c3
            go_wp2_with (first | (at_builtin; refine wpList_append_ln_at rfl _ _ rfl w w.heap.size _ _ rfl (hownH.out.kept (by (try simp only [ext_ext]); repeat (first | exact Kept.refl _ | apply Kept.alloc | apply Kept.drew | apply kept_add | apply Kept.ext))) (by (try simp only [ext_ext]); repeat (first | exact Kept.refl _ | apply Kept.alloc | apply Kept.drew | apply kept_add | apply Kept.ext)) (Nat.le_refl _) (by simp; omega) _ _ (lx ls n) rfl ?_ hfl.out ?_; rotate_left; intro v' w' hown' hkw' hgr' hat'))
            go_roundw
            case rel => exact ⟨n + 1, hlt, by go_num, by rw [hnx.out, if_neg (by rw [hok.out]; simp [c1H.out, c2H.out, c3H.out]), List.append_nil]; exact hownH.out.kept (by (try simp only [ext_ext]); repeat (first | exact Kept.refl _ | apply Kept.alloc | apply Kept.drew | apply kept_add | apply Kept.ext)), (by (try simp only [ext_ext]); repeat (first | exact Kept.refl _ | apply Kept.alloc | apply Kept.drew | apply kept_add | apply Kept.ext))⟩
            case measure => simp [intOf]; omega
    · obtain rfl : n = ls.length := by omega
      go_wp2
      go_ret
      exact ⟨_, rfl, by rw [← hfa.out]; exact hownH.out.kept (by (try simp only [ext_ext]); repeat (first | exact Kept.refl _ | apply Kept.alloc | apply Kept.drew | apply kept_add | apply Kept.ext)), (by (try simp only [ext_ext]); repeat (first | exact Kept.refl _ | apply Kept.alloc | apply Kept.drew | apply kept_add | apply Kept.ext))⟩
end Go.Proofs.Ytifkjbihmmdnbaa
