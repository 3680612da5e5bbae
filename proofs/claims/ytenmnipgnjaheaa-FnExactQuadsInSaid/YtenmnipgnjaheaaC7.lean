/- Contracts and walk: the magic square. -/
import Derived.Test.YtenmnipgnjaheaaC0
import Derived.Test.YtenmnipgnjaheaaB2
import Derived.Test.YtenmnipgnjaheaaB3
namespace Go.Proofs.Ytenmnipgnjaheaa
open Go.RowKit
def thirdT (x y : Int) : Int := (6 - x - y) % 3
def thirdC (x y : Card) : Card := ⟨thirdT x.a y.a, thirdT x.b y.b, thirdT x.c y.c, thirdT x.d y.d⟩
theorem l2Third_any (x y : Card) (hx : isCard x = true) (hy : isCard y = true) (w : World) : Calls Try.prog 36 #[x.v, y.v] w fun e w' => e = .returned (thirdC x y).v ∧ Kept w w' := by
  obtain ⟨x1, x2, x3, x4⟩ := isCard_of hx
  obtain ⟨y1, y2, y3, y4⟩ := isCard_of hy
  go_enter Try.func36, Try.ntmps36
  go_wp2
  refine wp_loop_rounds 5 ?_
  iterate 5
    (all_goals try rw [rounds_succ])
    go_wp2_with (first | (refine wp_region_ext_tail 11 (by kernel_rfl) (by kernel_rfl) ?_; simp only [List.take_succ_cons, List.take_zero, List.drop_succ_cons, List.drop_zero]; (repeat (go_big_quiet_step ((fail)))); refine wpQuiet_tail fun z => ?_))
  refine bodyPost_ret (v := (thirdC x y).v) (by simp [results, Try.results36, go_sem, thirdC, thirdT]) rfl ⟨rfl, ?_⟩
  exact (by (try simp only [ext_ext]); repeat (first | exact Kept.refl _ | apply Kept.alloc | apply Kept.drew | apply kept_add | apply Kept.ext))
theorem third_any (x y : Card) (hx : isCard x = true) (hy : isCard y = true) (w : World) : Calls Try.prog 62 #[x.v, y.v] w fun e w' => e = .returned (thirdC x y).v ∧ Kept w w' := by
  obtain ⟨x1, x2, x3, x4⟩ := isCard_of hx
  obtain ⟨y1, y2, y3, y4⟩ := isCard_of hy
  go_enter Try.func62, Try.ntmps62
  go_wp2
  refine wp_loop_rounds 5 ?_
  iterate 5
    (all_goals try rw [rounds_succ])
    go_wp2_with (first | (refine wp_region_ext_tail 11 (by kernel_rfl) (by kernel_rfl) ?_; simp only [List.take_succ_cons, List.take_zero, List.drop_succ_cons, List.drop_zero]; (repeat (go_big_quiet_step ((fail)))); refine wpQuiet_tail fun z => ?_))
  refine bodyPost_ret (v := (thirdC x y).v) (by simp [results, Try.results62, go_sem, thirdC, thirdT]) rfl ⟨rfl, ?_⟩
  exact (by (try simp only [ext_ext]); repeat (first | exact Kept.refl _ | apply Kept.alloc | apply Kept.drew | apply kept_add | apply Kept.ext))
theorem areCards1_any (x : Card) (w : World) : Calls Try.prog 93 #[x.v] w fun e w' => e = .returned (.bool (!isCard x)) ∧ Kept w w' := by
  go_enter Try.func93, Try.ntmps93
  go_wp2_with (first | (go_at_call 61; refine Calls.mono (IsCard_any _ _) ?_; rintro e w' ⟨rfl, y, rfl⟩))
  go_ret
  exact ⟨rfl, (by (try simp only [ext_ext]); repeat (first | exact Kept.refl _ | apply Kept.alloc | apply Kept.drew | apply kept_add | apply Kept.ext))⟩
theorem indexFunc_cards (ao : Option Addr) (cap : Nat) (xs : List Card) (w : World) (hx : CardsAt w ao xs) (hl : xs.length ≤ 1048576) :
    Calls Try.prog 103 #[.slice ao xs.length cap, .func (.func 93) #[] #[]] w
      fun e w' => e = .returned (.int .i64 (idxOf (fun x => !isCard x) xs)) ∧ Kept w w' := by
  go_enter Try.func103, Try.ntmps103
  go_wp2
  go_loopw [8] (fun i wr => ∃ k : Nat, k ≤ xs.length ∧ i = .int .i64 k ∧ (∀ j, j < k → (!isCard (cx xs j)) = false) ∧ Kept w wr) (fun i _ => xs.length - (intOf i).toNat)
  case atStart => exact ⟨0, Nat.zero_le _, rfl, fun j hj => absurd hj (Nat.not_lt_zero _), Kept.refl _⟩
  case round =>
    obtain ⟨k, hk, rfl, hn, z, rfl⟩ := hrel
    have hnH := hid hn
    clear hn
    by_cases hlt : k < xs.length
    · obtain ⟨g, off, rfl, hg, h1, h2, h3, h4⟩ := hx k hlt
      go_wp2_with (first | (go_at_call 93; refine Calls.mono (areCards1_any _ _) ?_; rintro e w' ⟨rfl, y, rfl⟩))
      · go_ret
        exact ⟨ret_of (by rw [idxOf_some (d := ⟨0, 0, 0, 0⟩) hlt ‹_› hnH.out]; rfl), (by (try simp only [ext_ext]); repeat (first | exact Kept.refl _ | apply Kept.alloc | apply Kept.drew | apply kept_add | apply Kept.ext))⟩
      · go_roundw
        case rel =>
          refine ⟨k + 1, hlt, by go_num, fun j hj => ?_, (by (try simp only [ext_ext]); repeat (first | exact Kept.refl _ | apply Kept.alloc | apply Kept.drew | apply kept_add | apply Kept.ext))⟩
          rcases Nat.lt_or_eq_of_le (Nat.le_of_lt_succ hj) with h | rfl
          · exact hnH.out j h
          · assumption
        case measure => simp [intOf]; omega
    · go_wp2
      go_ret
      exact ⟨ret_of (by rw [idxOf_none (d := ⟨0, 0, 0, 0⟩) fun j hj => hnH.out j (by omega)]; rfl), (by (try simp only [ext_ext]); repeat (first | exact Kept.refl _ | apply Kept.alloc | apply Kept.drew | apply kept_add | apply Kept.ext))⟩
theorem containsFunc_cards (ao : Option Addr) (cap : Nat) (xs : List Card) (w : World) (hx : CardsAt w ao xs) (hl : xs.length ≤ 1048576) :
    Calls Try.prog 92 #[.slice ao xs.length cap, .func (.func 93) #[] #[]] w
      fun e w' => e = .returned (.bool (xs.any fun x => !isCard x)) ∧ Kept w w' := by
  have hi := indexFunc_cards ao cap xs w hx hl
  go_enter Try.func92, Try.ntmps92
  go_wp2_with (first | (go_at_call 103; refine Calls.mono (hi) ?_; rintro e w' ⟨rfl, y, rfl⟩))
  go_ret
  exact ⟨ret_of (congrArg Value.bool (idxOf_any _ xs)), (by (try simp only [ext_ext]); repeat (first | exact Kept.refl _ | apply Kept.alloc | apply Kept.drew | apply kept_add | apply Kept.ext))⟩
theorem areCards_any (ao : Option Addr) (cap : Nat) (xs : List Card) (w : World) (hx : CardsAt w ao xs) (hl : xs.length ≤ 1048576) :
    Calls Try.prog 74 #[.slice ao xs.length cap] w fun e w' => e = .returned (.bool (xs.all isCard)) ∧ Kept w w' := by
  have hi := containsFunc_cards ao cap xs w hx hl
  go_enter Try.func74, Try.ntmps74
  go_wp2_with (first | (go_at_call 92; refine Calls.mono (hi) ?_; rintro e w' ⟨rfl, y, rfl⟩))
  go_ret
  refine ⟨ret_of (congrArg Value.bool ?_), (by (try simp only [ext_ext]); repeat (first | exact Kept.refl _ | apply Kept.alloc | apply Kept.drew | apply kept_add | apply Kept.ext))⟩
  rw [Bool.eq_iff_iff]
  simp
def lineC (x y z : Card) : Bool := !decide (x = y) && decide (thirdC x y = z)
theorem isLine_any (x y z : Card) (hx : isCard x = true) (hy : isCard y = true) (w : World) : Calls Try.prog 82 #[x.v, y.v, z.v] w fun e w' => e = .returned (.bool (lineC x y z)) ∧ Kept w w' := by
  have ht := third_any x y hx hy
  by_cases h : x = y
  · subst h
    go_enter Try.func82, Try.ntmps82
    go_wp2_with (first | (refine wp_region_ext (by kernel_rfl) (by kernel_rfl) ?_; (repeat (go_big_quiet_step ((fail)))); refine wpQuiet_end fun z => ?_))
    go_ret
    exact ⟨ret_of (by simp [lineC]), (by (try simp only [ext_ext]); repeat (first | exact Kept.refl _ | apply Kept.alloc | apply Kept.drew | apply kept_add | apply Kept.ext))⟩
  · have h' : decide (x = y) = false := by simpa using h
    clear h
    go_enter Try.func82, Try.ntmps82
    go_wp2_with (first | (refine wp_region_ext (by kernel_rfl) (by kernel_rfl) ?_; (repeat (go_big_quiet_step (((first | (go_at_call 62; first | exact ext_call (ht _) | exact ext_call2 (ht _))))))); refine wpQuiet_end fun z => ?_))
    go_ret
    exact ⟨ret_of (by simp [lineC, h']), (by (try simp only [ext_ext]); repeat (first | exact Kept.refl _ | apply Kept.alloc | apply Kept.drew | apply kept_add | apply Kept.ext))⟩
def planeC (x y z : Card) : Bool := isCard x && isCard y && isCard z && !decide (x = y) && !decide (x = z) && !decide (y = z) && !lineC x y z
theorem arePlane_any (x y z : Card) (w : World) : Calls Try.prog 66 #[x.v, y.v, z.v] w fun e w' => e = .returned (.bool (planeC x y z)) ∧ Kept w w' := by
  have hc : ∀ (W : World) (g : Nat), W.heap[g]? = some (.cells #[.int .i64 x.a, .int .i64 x.b, .int .i64 x.c, .int .i64 x.d, .int .i64 y.a, .int .i64 y.b, .int .i64 y.c, .int .i64 y.d, .int .i64 z.a, .int .i64 z.b, .int .i64 z.c, .int .i64 z.d] 48) →
      Calls Try.prog 74 #[.slice (some ⟨g, 0, none⟩) 3 3] W fun e w' => e = .returned (.bool (isCard x && isCard y && isCard z)) ∧ Kept W w' := fun W g hg => by
    have h := areCards_any (some ⟨g, 0, none⟩) 3 [x, y, z] W (cardsAt_block (cs := [x, y, z]) hg) (by simp)
    rw [show ([x, y, z].all isCard) = (isCard x && isCard y && isCard z) from by simp [Bool.and_assoc]] at h
    exact h
  cases hx : isCard x with
  | false =>
    go_enter Try.func66, Try.ntmps66
    go_wp2_with (first | (go_at_call 74; refine (hc _ _ (heap_at (by simp))).mono ?_; rintro e w' ⟨rfl, y, rfl⟩))
    go_ret
    exact ⟨ret_of (by simp [planeC, hx]), (by (try simp only [ext_ext]); repeat (first | exact Kept.refl _ | apply Kept.alloc | apply Kept.drew | apply kept_add | apply Kept.ext))⟩
  | true =>
  cases hy : isCard y with
  | false =>
    go_enter Try.func66, Try.ntmps66
    go_wp2_with (first | (go_at_call 74; refine (hc _ _ (heap_at (by simp))).mono ?_; rintro e w' ⟨rfl, y, rfl⟩))
    go_ret
    exact ⟨ret_of (by simp [planeC, hy]), (by (try simp only [ext_ext]); repeat (first | exact Kept.refl _ | apply Kept.alloc | apply Kept.drew | apply kept_add | apply Kept.ext))⟩
  | true =>
  cases hz : isCard z with
  | false =>
    go_enter Try.func66, Try.ntmps66
    go_wp2_with (first | (go_at_call 74; refine (hc _ _ (heap_at (by simp))).mono ?_; rintro e w' ⟨rfl, y, rfl⟩))
    go_ret
    exact ⟨ret_of (by simp [planeC, hz]), (by (try simp only [ext_ext]); repeat (first | exact Kept.refl _ | apply Kept.alloc | apply Kept.drew | apply kept_add | apply Kept.ext))⟩
  | true =>
  have hl := isLine_any x y z hx hy
  cases h1 : decide (x = y) with
  | true =>
    go_enter Try.func66, Try.ntmps66
    go_wp2_with (first | (go_at_call 74; refine (hc _ _ (heap_at (by simp))).mono ?_; rintro e w' ⟨rfl, y, rfl⟩))
    go_ret
    exact ⟨ret_of (by simp [planeC, h1]), (by (try simp only [ext_ext]); repeat (first | exact Kept.refl _ | apply Kept.alloc | apply Kept.drew | apply kept_add | apply Kept.ext))⟩
  | false =>
  cases h2 : decide (x = z) with
  | true =>
    go_enter Try.func66, Try.ntmps66
    go_wp2_with (first | (go_at_call 74; refine (hc _ _ (heap_at (by simp))).mono ?_; rintro e w' ⟨rfl, y, rfl⟩))
    go_ret
    exact ⟨ret_of (by simp [planeC, h2]), (by (try simp only [ext_ext]); repeat (first | exact Kept.refl _ | apply Kept.alloc | apply Kept.drew | apply kept_add | apply Kept.ext))⟩
  | false =>
  cases h3 : decide (y = z) with
  | true =>
    go_enter Try.func66, Try.ntmps66
    go_wp2_with (first | (go_at_call 74; refine (hc _ _ (heap_at (by simp))).mono ?_; rintro e w' ⟨rfl, y, rfl⟩))
    go_ret
    exact ⟨ret_of (by simp [planeC, h3]), (by (try simp only [ext_ext]); repeat (first | exact Kept.refl _ | apply Kept.alloc | apply Kept.drew | apply kept_add | apply Kept.ext))⟩
  | false =>
    go_enter Try.func66, Try.ntmps66
    go_wp2_with (first | (go_at_call 74; refine (hc _ _ (heap_at (by simp))).mono ?_; rintro e w' ⟨rfl, y, rfl⟩) | (go_at_call 82; refine Calls.mono (hl _) ?_; rintro e w' ⟨rfl, y, rfl⟩))
    go_ret
    exact ⟨ret_of (by simp [planeC, hx, hy, hz, h1, h2, h3]), (by (try simp only [ext_ext]); repeat (first | exact Kept.refl _ | apply Kept.alloc | apply Kept.drew | apply kept_add | apply Kept.ext))⟩
end Go.Proofs.Ytenmnipgnjaheaa
