/- Contracts: a law's map turned into the program's. -/
import Derived.Test.YtjlaoocomkonhaaT93
namespace Go.Proofs.Ytjlaoocomkonhaa
open Go.RowKit
theorem toIntA3_any (a b c : Int) (w : World) :
    Calls Try.prog 60 #[.agg #[.int .i64 a, .int .i64 b, .int .i64 c]] w fun e w' => e = .returned (.agg #[.int .i64 a, .int .i64 b, .int .i64 c]) ∧ Kept w w' := by
  go_enter Try.func60, Try.ntmps60
  go_wp2
  refine wp_loop_rounds 4 ?_
  iterate 4
    (all_goals try rw [rounds_succ])
    go_wp2
  refine bodyPost_ret (v := .agg #[.int .i64 a, .int .i64 b, .int .i64 c]) (by simp [results, Try.results60, go_sem]) rfl ⟨rfl, ?_⟩
  exact (by (try simp only [ext_ext]); repeat (first | exact Kept.refl _ | apply Kept.alloc | apply Kept.drew | apply kept_add | apply Kept.ext))
set_option maxRecDepth 20000 in
set_option maxHeartbeats 1000000 in
theorem toIntA3A4_any (f : Nat → Int) (w : World) :
    Calls Try.prog 40 #[.agg #[.int .i64 (f 4), .int .i64 (f 5), .int .i64 (f 6), .int .i64 (f 7), .int .i64 (f 8), .int .i64 (f 9), .int .i64 (f 10), .int .i64 (f 11), .int .i64 (f 12), .int .i64 (f 13), .int .i64 (f 14), .int .i64 (f 15)]] w fun e w' => e = .returned (.agg #[.int .i64 (f 4), .int .i64 (f 5), .int .i64 (f 6), .int .i64 (f 7), .int .i64 (f 8), .int .i64 (f 9), .int .i64 (f 10), .int .i64 (f 11), .int .i64 (f 12), .int .i64 (f 13), .int .i64 (f 14), .int .i64 (f 15)]) ∧ Kept w w' := by
  go_enter Try.func40, Try.ntmps40
  go_wp2
  refine wp_loop_rounds 5 ?_
  iterate 5
    (all_goals try rw [rounds_succ])
    go_wp2_with (first | (go_at_call 60; refine Calls.mono (toIntA3_any _ _ _ _) ?_; rintro e w' ⟨rfl, y, rfl⟩))
  refine bodyPost_ret (v := .agg #[.int .i64 (f 4), .int .i64 (f 5), .int .i64 (f 6), .int .i64 (f 7), .int .i64 (f 8), .int .i64 (f 9), .int .i64 (f 10), .int .i64 (f 11), .int .i64 (f 12), .int .i64 (f 13), .int .i64 (f 14), .int .i64 (f 15)]) (by simp [results, Try.results40, go_sem]) rfl ⟨rfl, ?_⟩
  exact (by (try simp only [ext_ext]); repeat (first | exact Kept.refl _ | apply Kept.alloc | apply Kept.drew | apply kept_add | apply Kept.ext))
set_option maxRecDepth 20000 in
set_option maxHeartbeats 1000000 in
theorem toMap_any (f : Nat → Int) (w : World) :
    Calls Try.prog 15 #[mpv f] w fun e w' => e = .returned (mpv f) ∧ Kept w w' := by
  go_enter Try.func15, Try.ntmps15
  go_wp2_with (first | (go_at_call 23; refine Calls.mono (toIntA4_any (⟨f 0, f 1, f 2, f 3⟩ : Card) _) ?_; rintro e w' ⟨rfl, y, rfl⟩) | (go_at_call 40; refine Calls.mono (toIntA3A4_any f _) ?_; rintro e w' ⟨rfl, y, rfl⟩))
  refine bodyPost_ret (v := mpv f) (by simp [results, Try.results15, go_sem]) rfl ⟨rfl, ?_⟩
  exact (by (try simp only [ext_ext]); repeat (first | exact Kept.refl _ | apply Kept.alloc | apply Kept.drew | apply kept_add | apply Kept.ext))
end Go.Proofs.Ytjlaoocomkonhaa
