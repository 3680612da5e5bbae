/- Contracts of the small functions on numbers and cards. -/
import Derived.Test.YtjlaoocomkonhaaProg
import Derived.Test.YtjlaoocomkonhaaB0
import Derived.ChangeKeysEq
import Derived.KernelRfl
namespace Go.Proofs.Ytjlaoocomkonhaa
open Go.RowKit

theorem cells_int : Try.prog.cellsOf 3 = 1 := by kernel_rfl
theorem info_int : (Try.prog.info? 3).map (fun i => (i.zero, i.size, i.bytes)) = some (some (.int .i64 0), 1, 8) := by kernel_rfl
/-- '==' of two cards. -/
@[go_sem] theorem equalIn_card (x y : Card) (w : World) : (Op.equalIn 10000 29 x.v y.v).run Try.prog w = .ok (decide (x = y)) w := by
  obtain ⟨i, hi, _⟩ := info_parts info_int
  have h := run_equalIn_array (P := Try.prog) w 9999 #[.int .i64 x.a, .int .i64 x.b, .int .i64 x.c, .int .i64 x.d] #[.int .i64 y.a, .int .i64 y.b, .int .i64 y.c, .int .i64 y.d] Try.underlying29 hi
  refine h.trans ?_
  rw [cells_int]
  have r4 : List.range 4 = [0, 1, 2, 3] := rfl
  obtain ⟨xa, xb, xc, xd⟩ := x
  obtain ⟨ya, yb, yc, yd⟩ := y
  rw [r4]
  simp [Op.eqItems, go_sem]
  by_cases h1 : xa = ya <;> by_cases h2 : xb = yb <;> by_cases h3 : xc = yc <;> simp [h1, h2, h3]
  split <;> simp [*]
theorem l1In_any (n lo hi : Int) (w : World) :
    Calls Try.prog 62 #[.int .i64 n, .int .i64 lo, .int .i64 hi] w fun e w' => e = .returned (.bool (inB n lo hi)) ∧ w = w' := by
  by_cases h1 : lo ≤ n
  · go_enter Try.func62, Try.ntmps62
    go_wp2
    go_ret
    exact ⟨by rw [inB_eq _ _ _ h1]; rfl, rfl⟩
  · go_enter Try.func62, Try.ntmps62
    go_wp2
    go_ret
    exact ⟨by rw [inB_f1 (by omega)]; rfl, rfl⟩
theorem within_any (n lo hi : Int) (w : World) :
    Calls Try.prog 75 #[.int .i64 n, .int .i64 lo, .int .i64 hi] w fun e w' => e = .returned (.bool (inB n lo hi)) ∧ w = w' := by
  by_cases h1 : lo ≤ n
  · go_enter Try.func75, Try.ntmps75
    go_wp2
    go_ret
    exact ⟨by rw [inB_eq _ _ _ h1]; rfl, rfl⟩
  · go_enter Try.func75, Try.ntmps75
    go_wp2
    go_ret
    exact ⟨by rw [inB_f1 (by omega)]; rfl, rfl⟩
theorem l2Card_any (x : Card) (w : World) :
    Calls Try.prog 47 #[x.v] w fun e w' => e = .returned (.bool (isCard x)) ∧ Kept w w' := by
  go_enter Try.func47, Try.ntmps47
  go_wp2
  refine wp_loop_rounds 5 ?_
  rw [rounds_succ]
  go_wp2_with (go_at_call 62; refine (l1In_any _ _ _ _).mono ?_; rintro e w' ⟨rfl, rfl⟩)
  all_goals try rw [rounds_succ]
  go_wp2_with (go_at_call 62; refine (l1In_any _ _ _ _).mono ?_; rintro e w' ⟨rfl, rfl⟩)
  all_goals try rw [rounds_succ]
  go_wp2_with (go_at_call 62; refine (l1In_any _ _ _ _).mono ?_; rintro e w' ⟨rfl, rfl⟩)
  all_goals try rw [rounds_succ]
  go_wp2_with (go_at_call 62; refine (l1In_any _ _ _ _).mono ?_; rintro e w' ⟨rfl, rfl⟩)
  all_goals try rw [rounds_succ]
  go_wp2_with (go_at_call 62; refine (l1In_any _ _ _ _).mono ?_; rintro e w' ⟨rfl, rfl⟩)
  all_goals
    go_ret
    exact ⟨ret_of (by simp_all [isCard]), (Kept.refl _).alloc _⟩
theorem allWithin1_any (B C : Nat) (n lo hi : Int) (w : World) (h1 : w.cell? ⟨B, 0, none⟩ = some (.int .i64 lo)) (h2 : w.cell? ⟨C, 0, none⟩ = some (.int .i64 hi)) :
    Calls Try.prog 74 #[.int .i64 n, .pointer (some ⟨B, 0, none⟩), .pointer (some ⟨C, 0, none⟩)] w fun e w' => e = .returned (.bool (!inB n lo hi)) ∧ w = w' := by
  go_enter Try.func74, Try.ntmps74
  go_wp2_with (go_at_call 75; refine (within_any _ _ _ _).mono ?_; rintro e w' ⟨rfl, rfl⟩)
  go_ret
  exact ⟨rfl, rfl⟩
theorem indexFunc_within (B C : Nat) (lo hi : Int) (ao : Option Addr) (cap : Nat) (xs : List Int) (w : World) (hx : IntsAt w ao xs) (hl : xs.length ≤ 1048576)
    (h1 : w.cell? ⟨B, 0, none⟩ = some (.int .i64 lo)) (h2 : w.cell? ⟨C, 0, none⟩ = some (.int .i64 hi)) :
    Calls Try.prog 90 #[.slice ao xs.length cap, .func (.func 74) #[] #[.pointer (some ⟨B, 0, none⟩), .pointer (some ⟨C, 0, none⟩)]] w
      fun e w' => e = .returned (.int .i64 (idxOf (fun x => !inB x lo hi) xs)) ∧ w = w' := by
  go_enter Try.func90, Try.ntmps90
  go_wp2
  go_loop [8] (fun i => ∃ k : Nat, k ≤ xs.length ∧ i = .int .i64 k ∧ ∀ j, j < k → (!inB (ix xs j) lo hi) = false) (fun i => xs.length - (intOf i).toNat)
  case atStart => exact ⟨0, Nat.zero_le _, rfl, fun j hj => absurd hj (Nat.not_lt_zero _)⟩
  case round =>
    obtain ⟨k, hk, rfl, hn⟩ := hrel
    have hn := hid hn
    by_cases hlt : k < xs.length
    · obtain ⟨g, off, rfl, hg, hc⟩ := hx k hlt
      go_wp2_with (go_at_call 74; refine (allWithin1_any _ _ _ _ _ _ h1 h2).mono ?_; rintro e w' ⟨rfl, rfl⟩)
      · go_ret
        exact ⟨ret_of (by rw [idxOf_some (d := 0) hlt ‹_› hn.out]; rfl), rfl⟩
      · go_round
        case rel =>
          refine ⟨k + 1, hlt, by go_num, fun j hj => ?_⟩
          rcases Nat.lt_or_eq_of_le (Nat.le_of_lt_succ hj) with h | rfl
          · exact hn.out j h
          · assumption
        case measure => simp [intOf]; omega
    · go_wp2
      go_ret
      exact ⟨ret_of (by rw [idxOf_none (d := 0) fun j hj => hn.out j (by omega)]; rfl), rfl⟩
theorem containsFunc_within (B C : Nat) (lo hi : Int) (ao : Option Addr) (cap : Nat) (xs : List Int) (w : World) (hx : IntsAt w ao xs) (hl : xs.length ≤ 1048576)
    (h1 : w.cell? ⟨B, 0, none⟩ = some (.int .i64 lo)) (h2 : w.cell? ⟨C, 0, none⟩ = some (.int .i64 hi)) :
    Calls Try.prog 73 #[.slice ao xs.length cap, .func (.func 74) #[] #[.pointer (some ⟨B, 0, none⟩), .pointer (some ⟨C, 0, none⟩)]] w
      fun e w' => e = .returned (.bool (xs.any fun x => !inB x lo hi)) ∧ w = w' := by
  have hi := indexFunc_within B C lo hi ao cap xs w hx hl h1 h2
  go_enter Try.func73, Try.ntmps73
  go_wp2_with (go_at_call 90; refine hi.mono ?_; rintro e w' ⟨rfl, rfl⟩)
  go_ret
  exact ⟨ret_of (congrArg Value.bool (idxOf_any _ xs)), rfl⟩
theorem allWithin_any (lo hi : Int) (ao : Option Addr) (cap : Nat) (xs : List Int) (w : World) (hx : IntsAt w ao xs) (hl : xs.length ≤ 1048576) :
    Calls Try.prog 64 #[.slice ao xs.length cap, .int .i64 lo, .int .i64 hi] w
      fun e w' => e = .returned (.bool (xs.all fun x => inB x lo hi)) ∧ Kept w w' := by
  have hb : Kept w ((w.alloc (.cells #[.int .i64 lo] 3)).alloc (.cells #[.int .i64 hi] 3)) := ((Kept.refl _).alloc _).alloc _
  have hc := containsFunc_within w.heap.size (w.heap.size + 1) lo hi ao cap xs _ (hx.kept hb) hl (by simp) (by simp)
  go_enter Try.func64, Try.ntmps64
  go_wp2_with (go_at_call 73; refine hc.mono ?_; rintro e w' ⟨rfl, rfl⟩)
  go_ret
  refine ⟨ret_of (congrArg Value.bool ?_), hb⟩
  rw [Bool.eq_iff_iff]
  simp
theorem IsCard_any (x : Card) (w : World) :
    Calls Try.prog 49 #[x.v] w fun e w' => e = .returned (.bool (isCard x)) ∧ Kept w w' := by
  go_enter Try.func49, Try.ntmps49
  go_wp2_with (go_at_call 64; refine (allWithin_any 0 2 _ 4 [x.a, x.b, x.c, x.d] _ (intsAt_block (heap_alloc_new w _)) (by simp)).mono ?_; rintro e w' ⟨rfl, y, rfl⟩)
  go_ret
  exact ⟨ret_of (by simp [isCard, Bool.and_assoc]), ((Kept.refl _).alloc _).ext _⟩
end Go.Proofs.Ytjlaoocomkonhaa
