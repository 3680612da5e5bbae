/- Contracts: how many cards of a hand have each value by a weight. -/
import Derived.Test.YtlkjpammglljdabT4
import Derived.Test.YtlkjpammglljdabC6
namespace Go.Proofs.Ytlkjpammglljdab
open Go.RowKit
theorem valueC_3 (x y : Card) : valueC x y = 0 ∨ valueC x y = 1 ∨ valueC x y = 2 := by unfold valueC; omega
def vals (xs : List Card) (y : Card) (i : Nat) : Int := valueC (cx xs i) y
theorem l6Split_any (ao : Option Addr) (cap : Nat) (xs : List Card) (y : Card) (w : World) (hx : CardsAt w ao xs) (hl : xs.length ≤ 1048576) (hc : areC xs) (hy : isCard y = true) :
    Calls Try.prog 43 #[.slice ao xs.length cap, y.v] w fun e w' => e = .returned (cnt3 (vals xs y) xs.length) ∧ Kept w w' := by
  go_enter Try.func43, Try.ntmps43
  go_wp2
  go_loopw [6] (fun i wr => ∃ (k : Nat) (s0 s1 s2 : Int), k ≤ xs.length ∧ s0 = cnt (vals xs y) k 0 ∧ s1 = cnt (vals xs y) k 1 ∧ s2 = cnt (vals xs y) k 2 ∧ i = .int .i64 k ∧
      Kept (((w.alloc (.cells #[.int .i64 y.a, .int .i64 y.b, .int .i64 y.c, .int .i64 y.d] 24)).alloc (.cells #[.int .i64 0, .int .i64 0, .int .i64 0] 58)).alloc (.cells #[.int .i64 s0, .int .i64 s1, .int .i64 s2] 58)) wr) (fun i _ => xs.length - (intOf i).toNat)
  case atStart => exact ⟨0, 0, 0, 0, Nat.zero_le _, rfl, rfl, rfl, rfl, (by (try simp only [ext_ext]); repeat (first | exact Kept.refl _ | apply Kept.alloc | apply Kept.drew | apply kept_add | apply Kept.ext))⟩
  case round =>
    obtain ⟨k, s0, s1, s2, hk, h0, h1, h2, rfl, z, rfl⟩ := hrel
    have b0 := cnt_bd (vals xs y) k 0
    have b1 := cnt_bd (vals xs y) k 1
    have b2 := cnt_bd (vals xs y) k 2
    rw [← h0] at b0
    rw [← h1] at b1
    rw [← h2] at b2
    by_cases hlt : k < xs.length
    · obtain ⟨g, off, rfl, hg, c1, c2, c3, c4⟩ := hx k hlt
      have hck := hc k hlt
      have g1 : g < w.heap.size + 1 + 1 + 1 := by omega
      have g2 : g < w.heap.size + 1 + 1 + 1 + z.os.length := by omega
      have e0 := hid h0
      have e1 := hid h1
      have e2 := hid h2
      clear h0 h1 h2
      rcases valueC_3 (cx xs k) y with hv | hv | hv
      all_goals
        have hvH := hid hv
        go_wp2_with (first | (refine wp_region_ext_tail 9 (by kernel_rfl) (by kernel_rfl) ?_; simp only [List.take_succ_cons, List.take_zero, List.drop_succ_cons, List.drop_zero]; (repeat (go_big_quiet_step (((go_at_call 62; first | exact ext_call (l6Value_any _ _ hck hy _) | exact ext_call2 (l6Value_any _ _ hck hy _)))))); refine wpQuiet_tail fun z => ?_))
        go_roundw
        case measure => simp [intOf]; omega
      · exact ⟨k + 1, s0 + 1, s1, s2, hlt, by rw [cnt_next, e0.out]; simp [vals, hvH.out], by rw [cnt_next, e1.out]; simp [vals, hvH.out], by rw [cnt_next, e2.out]; simp [vals, hvH.out], by go_num, (by (try simp only [ext_ext]); repeat (first | exact Kept.refl _ | apply Kept.alloc | apply Kept.drew | apply kept_add | apply Kept.ext))⟩
      · exact ⟨k + 1, s0, s1 + 1, s2, hlt, by rw [cnt_next, e0.out]; simp [vals, hvH.out], by rw [cnt_next, e1.out]; simp [vals, hvH.out], by rw [cnt_next, e2.out]; simp [vals, hvH.out], by go_num, (by (try simp only [ext_ext]); repeat (first | exact Kept.refl _ | apply Kept.alloc | apply Kept.drew | apply kept_add | apply Kept.ext))⟩
      · exact ⟨k + 1, s0, s1, s2 + 1, hlt, by rw [cnt_next, e0.out]; simp [vals, hvH.out], by rw [cnt_next, e1.out]; simp [vals, hvH.out], by rw [cnt_next, e2.out]; simp [vals, hvH.out], by go_num, (by (try simp only [ext_ext]); repeat (first | exact Kept.refl _ | apply Kept.alloc | apply Kept.drew | apply kept_add | apply Kept.ext))⟩
    · obtain rfl : k = xs.length := by omega
      subst h0 h1 h2
      go_wp2
      refine bodyPost_ret (v := cnt3 (vals xs y) xs.length) (by simp [results, Try.results43, go_sem]) rfl ⟨rfl, ?_⟩
      exact (by (try simp only [ext_ext]); repeat (first | exact Kept.refl _ | apply Kept.alloc | apply Kept.drew | apply kept_add | apply Kept.ext))
theorem split_any (ao : Option Addr) (cap : Nat) (xs : List Card) (y : Card) (w : World) (hx : CardsAt w ao xs) (hl : xs.length ≤ 1048576) (hc : areC xs) (hy : isCard y = true) :
    Calls Try.prog 45 #[.slice ao xs.length cap, y.v] w fun e w' => e = .returned (cnt3 (vals xs y) xs.length) ∧ Kept w w' := by
  go_enter Try.func45, Try.ntmps45
  go_wp2
  go_loopw [11] (fun i wr => ∃ (k : Nat) (s0 s1 s2 : Int), k ≤ xs.length ∧ s0 = cnt (vals xs y) k 0 ∧ s1 = cnt (vals xs y) k 1 ∧ s2 = cnt (vals xs y) k 2 ∧ i = .int .i64 k ∧
      Kept (((w.alloc (.cells #[.int .i64 y.a, .int .i64 y.b, .int .i64 y.c, .int .i64 y.d] 24)).alloc (.cells #[.int .i64 0, .int .i64 0, .int .i64 0] 58)).alloc (.cells #[.int .i64 s0, .int .i64 s1, .int .i64 s2] 58)) wr) (fun i _ => xs.length - (intOf i).toNat)
  case atStart => exact ⟨0, 0, 0, 0, Nat.zero_le _, rfl, rfl, rfl, rfl, (by (try simp only [ext_ext]); repeat (first | exact Kept.refl _ | apply Kept.alloc | apply Kept.drew | apply kept_add | apply Kept.ext))⟩
  case round =>
    obtain ⟨k, s0, s1, s2, hk, h0, h1, h2, rfl, z, rfl⟩ := hrel
    have b0 := cnt_bd (vals xs y) k 0
    have b1 := cnt_bd (vals xs y) k 1
    have b2 := cnt_bd (vals xs y) k 2
    rw [← h0] at b0
    rw [← h1] at b1
    rw [← h2] at b2
    by_cases hlt : k < xs.length
    · obtain ⟨g, off, rfl, hg, c1, c2, c3, c4⟩ := hx k hlt
      have hck := hc k hlt
      have g1 : g < w.heap.size + 1 + 1 + 1 := by omega
      have g2 : g < w.heap.size + 1 + 1 + 1 + z.os.length := by omega
      have e0 := hid h0
      have e1 := hid h1
      have e2 := hid h2
      clear h0 h1 h2
      rcases valueC_3 (cx xs k) y with hv | hv | hv
      all_goals
        have hvH := hid hv
        go_wp2_with (first | (go_at_call 64; refine Calls.mono (value_any _ _ hck hy _) ?_; rintro e w' ⟨rfl, y, rfl⟩))
        go_roundw
        case measure => simp [intOf]; omega
      · exact ⟨k + 1, s0 + 1, s1, s2, hlt, by rw [cnt_next, e0.out]; simp [vals, hvH.out], by rw [cnt_next, e1.out]; simp [vals, hvH.out], by rw [cnt_next, e2.out]; simp [vals, hvH.out], by go_num, (by (try simp only [ext_ext]); repeat (first | exact Kept.refl _ | apply Kept.alloc | apply Kept.drew | apply kept_add | apply Kept.ext))⟩
      · exact ⟨k + 1, s0, s1 + 1, s2, hlt, by rw [cnt_next, e0.out]; simp [vals, hvH.out], by rw [cnt_next, e1.out]; simp [vals, hvH.out], by rw [cnt_next, e2.out]; simp [vals, hvH.out], by go_num, (by (try simp only [ext_ext]); repeat (first | exact Kept.refl _ | apply Kept.alloc | apply Kept.drew | apply kept_add | apply Kept.ext))⟩
      · exact ⟨k + 1, s0, s1, s2 + 1, hlt, by rw [cnt_next, e0.out]; simp [vals, hvH.out], by rw [cnt_next, e1.out]; simp [vals, hvH.out], by rw [cnt_next, e2.out]; simp [vals, hvH.out], by go_num, (by (try simp only [ext_ext]); repeat (first | exact Kept.refl _ | apply Kept.alloc | apply Kept.drew | apply kept_add | apply Kept.ext))⟩
    · obtain rfl : k = xs.length := by omega
      subst h0 h1 h2
      go_wp2
      refine bodyPost_ret (v := cnt3 (vals xs y) xs.length) (by simp [results, Try.results45, go_sem]) rfl ⟨rfl, ?_⟩
      exact (by (try simp only [ext_ext]); repeat (first | exact Kept.refl _ | apply Kept.alloc | apply Kept.drew | apply kept_add | apply Kept.ext))
end Go.Proofs.Ytlkjpammglljdab
