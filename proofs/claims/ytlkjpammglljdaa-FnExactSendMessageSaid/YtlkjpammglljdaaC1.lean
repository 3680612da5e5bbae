/- Contracts of the functions behind IsCodeword. -/
import Derived.Test.YtlkjpammglljdaaC0
namespace Go.Proofs.Ytlkjpammglljdaa
open Go.RowKit

def wordC (a b : Int) : Card := ⟨a, (a + b) % 3, (a + 2 * b) % 3, b⟩
theorem toIntA4_any (x : Card) (w : World) :
    Calls Try.prog 24 #[x.v] w fun e w' => e = .returned x.v ∧ Kept w w' := by
  go_enter Try.func24, Try.ntmps24
  go_wp2
  refine wp_loop_rounds 5 ?_
  rw [rounds_succ]
  go_wp2
  rw [rounds_succ]
  go_wp2
  rw [rounds_succ]
  go_wp2
  rw [rounds_succ]
  go_wp2
  rw [rounds_succ]
  go_wp2
  refine bodyPost_ret (v := x.v) (by simp [results, Try.results24, go_sem]) rfl ⟨rfl, ?_⟩
  exact (((Kept.refl _).alloc _).alloc _).alloc _
theorem l11Word_any (a b : Int) (ha : 0 ≤ a) (ha' : a ≤ 2) (hb : 0 ≤ b) (hb' : b ≤ 2) (w : World) :
    Calls Try.prog 33 #[.int .i64 a, .int .i64 b] w fun e w' => e = .returned (wordC a b).v ∧ Kept w w' := by
  go_enter Try.func33, Try.ntmps33
  go_wp2
  refine bodyPost_ret (v := (wordC a b).v) (by simp [results, Try.results33, go_sem, wordC]) rfl ⟨rfl, ?_⟩
  exact (Kept.refl _).alloc _
theorem codeword_any (a b : Int) (ha : 0 ≤ a) (ha' : a ≤ 2) (hb : 0 ≤ b) (hb' : b ≤ 2) (w : World) :
    Calls Try.prog 35 #[.int .i64 a, .int .i64 b] w fun e w' => e = .returned (wordC a b).v ∧ Kept w w' := by
  go_enter Try.func35, Try.ntmps35
  go_wp2
  refine bodyPost_ret (v := (wordC a b).v) (by simp [results, Try.results35, go_sem, wordC]) rfl ⟨rfl, ?_⟩
  exact (Kept.refl _).alloc _
end Go.Proofs.Ytlkjpammglljdaa
