/- Contracts: sums of cards. -/
import Derived.Test.YtmdnnejaipdkhabT1
namespace Go.Proofs.Ytmdnnejaipdkhab
open Go.RowKit
def sumA (s c : Card) : Card := ⟨(s.a + c.a) % 3, (s.b + c.b) % 3, (s.c + c.c) % 3, (s.d + c.d) % 3⟩
/-- The sum of cards. -/
def sumC (cs : List Card) : Card := cs.foldl sumA ⟨0, 0, 0, 0⟩
theorem isCard_mk {x : Card} (h1 : 0 ≤ x.a ∧ x.a ≤ 2) (h2 : 0 ≤ x.b ∧ x.b ≤ 2) (h3 : 0 ≤ x.c ∧ x.c ≤ 2) (h4 : 0 ≤ x.d ∧ x.d ≤ 2) : isCard x = true := by
  simp only [isCard, inB_t h1.1 h1.2, inB_t h2.1 h2.2, inB_t h3.1 h3.2, inB_t h4.1 h4.2, Bool.and_self]
theorem sumC_next (xs : List Card) (k : Nat) (h : k < xs.length) : sumC (xs.take (k + 1)) = sumA (sumC (xs.take k)) (cx xs k) := by
  rw [take_cx xs k h]; simp [sumC]
theorem isCard_sumA (s c : Card) : isCard (sumA s c) = true := by
  refine isCard_mk ?_ ?_ ?_ ?_
  all_goals simp only [sumA]; omega
theorem isCard_sumC (cs : List Card) : isCard (sumC cs) = true := by
  unfold sumC
  rw [List.foldl_eq_foldr_reverse]
  cases cs.reverse with
  | nil => rfl
  | cons x l => exact isCard_sumA _ _
theorem sum_any (ao : Option Addr) (cap : Nat) (xs : List Card) (w : World) (hx : CardsAt w ao xs) (hl : xs.length ≤ 1048576) (hc : areC xs) :
    Calls Try.prog 41 #[.slice ao xs.length cap] w fun e w' => e = .returned (sumC xs).v ∧ Kept w w' := by
  go_enter Try.func41, Try.ntmps41
  go_wp2
  go_loopw [11] (fun i wr => ∃ (k : Nat) (s : Card), k ≤ xs.length ∧ s = sumC (xs.take k) ∧ i = .int .i64 k ∧ Kept ((w.alloc (.cells #[.int .i64 0, .int .i64 0, .int .i64 0, .int .i64 0] 29)).alloc (.cells #[.int .i64 s.a, .int .i64 s.b, .int .i64 s.c, .int .i64 s.d] 29)) wr) (fun i _ => xs.length - (intOf i).toNat)
  case atStart => exact ⟨0, ⟨0, 0, 0, 0⟩, Nat.zero_le _, rfl, rfl, Kept.refl _⟩
  case round =>
    obtain ⟨k, s, hk, hs, rfl, z, rfl⟩ := hrel
    by_cases hlt : k < xs.length
    · obtain ⟨g, off, rfl, hg, h1, h2, h3, h4⟩ := hx k hlt
      obtain ⟨x1, x2, x3, x4⟩ := isCard_of (hc k hlt)
      obtain ⟨s1, s2, s3, s4⟩ := isCard_of (hs ▸ isCard_sumC (xs.take k))
      have hnx := hid (hs ▸ sumC_next xs k hlt)
      clear hs
      generalize cx xs k = x at *
      obtain ⟨a, b, c, d⟩ := x
      simp only at h1 h2 h3 h4 x1 x2 x3 x4
      have i0 : ∀ w : World, (Instr.index 29 (.agg #[.int .i64 a, .int .i64 b, .int .i64 c, .int .i64 d]) (.int .i64 0)).run Try.prog w = .ok (.int .i64 a) w := fun _ => by kernel_rfl
      have i1 : ∀ w : World, (Instr.index 29 (.agg #[.int .i64 a, .int .i64 b, .int .i64 c, .int .i64 d]) (.int .i64 1)).run Try.prog w = .ok (.int .i64 b) w := fun _ => by kernel_rfl
      have i2 : ∀ w : World, (Instr.index 29 (.agg #[.int .i64 a, .int .i64 b, .int .i64 c, .int .i64 d]) (.int .i64 2)).run Try.prog w = .ok (.int .i64 c) w := fun _ => by kernel_rfl
      have i3 : ∀ w : World, (Instr.index 29 (.agg #[.int .i64 a, .int .i64 b, .int .i64 c, .int .i64 d]) (.int .i64 3)).run Try.prog w = .ok (.int .i64 d) w := fun _ => by kernel_rfl
      go_wp2
      refine wp_loop_rounds 5 ?_
      iterate 5
        (all_goals try rw [rounds_succ])
        go_wp2_with (first | (refine wp_region_ext_tail 7 (by kernel_rfl) (by kernel_rfl) ?_; simp only [List.take_succ_cons, List.take_zero, List.drop_succ_cons, List.drop_zero]; (repeat (go_big_quiet_step ((fail)))); refine wpQuiet_tail fun z => ?_))
      go_roundw
      case rel => exact ⟨k + 1, sumA s ⟨a, b, c, d⟩, hlt, hnx.out.symm, by go_num, (by (try simp only [ext_ext]); repeat (first | exact Kept.refl _ | apply Kept.alloc | apply Kept.drew | apply kept_add | apply Kept.ext))⟩
      case measure => simp [intOf]; omega
    · obtain rfl : k = xs.length := by omega
      rw [List.take_length] at hs
      subst hs
      go_wp2
      refine bodyPost_ret (v := (sumC xs).v) (by simp [results, Try.results41, go_sem]) rfl ⟨rfl, ?_⟩
      exact (by (try simp only [ext_ext]); repeat (first | exact Kept.refl _ | apply Kept.alloc | apply Kept.drew | apply kept_add | apply Kept.ext))
end Go.Proofs.Ytmdnnejaipdkhab
