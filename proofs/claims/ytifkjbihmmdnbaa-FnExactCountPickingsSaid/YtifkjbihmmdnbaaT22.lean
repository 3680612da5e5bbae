/- Contracts: how many places two lines have in common. -/
import Derived.Test.YtifkjbihmmdnbaaT12
import Derived.Test.YtifkjbihmmdnbaaT21
import Derived.Test.YtifkjbihmmdnbaaM3
namespace Go.Proofs.Ytifkjbihmmdnbaa
open Go.RowKit
def lnF (a : Ln) (i : Nat) : Int := if i = 0 then a.a else if i = 1 then a.b else a.c
def eq01 (x y : Int) : Int := if x = y then 1 else 0
def comRow (a b : Ln) (i k : Nat) : Int := rsum k fun j => eq01 (lnF a i) (lnF b j)
/-- How many pairs of places are the same. -/
def comS (a b : Ln) : Int := rsum 3 fun i => comRow a b i 3
def isIn (b : Ln) (x : Int) : Bool := [b.a, b.b, b.c].any fun y => decide (y = x)
def in01 (b : Ln) (x : Int) : Int := if isIn b x = true then 1 else 0
/-- How many places of one line are in another one. -/
def comI (a b : Ln) : Int := rsum 3 fun i => in01 b (lnF a i)
theorem eq01_bd (x y : Int) : 0 ≤ eq01 x y ∧ eq01 x y ≤ 1 := by unfold eq01; split <;> omega
theorem in01_bd (b : Ln) (x : Int) : 0 ≤ in01 b x ∧ in01 b x ≤ 1 := by unfold in01; split <;> omega
theorem comI_bd (a b : Ln) : 0 ≤ comI a b ∧ comI a b ≤ 3 := by
  have := rsum_bd (n := 3) (f := fun i => in01 b (lnF a i)) (b := 1) fun i _ => in01_bd _ _
  unfold comI; omega
theorem comS_comI {a b : Ln} (h1 : b.a < b.b) (h2 : b.b < b.c) : comS a b = comI a b := by
  unfold comS comI
  refine rsum_congr fun i _ => ?_
  simp only [comRow, rsum, in01, isIn, List.any_cons, List.any_nil, Bool.or_false, Bool.or_eq_true, decide_eq_true_eq]
  generalize lnF a i = x
  have e0 : lnF b 0 = b.a := rfl
  have e1 : lnF b 1 = b.b := rfl
  have e2 : lnF b 2 = b.c := rfl
  rw [e0, e1, e2]
  unfold eq01
  split <;> split <;> split <;> split <;> omega
theorem l7Common_any (a b : Ln) (w : World) : Calls Try.prog 71 #[a.v, b.v] w fun e w' => e = .returned (.int .i64 (comS a b)) ∧ Kept w w' := by
  go_enter Try.func71, Try.ntmps71
  go_wp2
  go_loopw [6, 5] (fun i s wr => ∃ k : Nat, k ≤ 3 ∧ i = .int .i64 k ∧ s = .int .i64 (rsum k fun i => comRow a b i 3) ∧ Kept ((w.alloc (.cells #[.int .i64 a.a, .int .i64 a.b, .int .i64 a.c] 50)).alloc (.cells #[.int .i64 b.a, .int .i64 b.b, .int .i64 b.c] 50)) wr) (fun i _ _ => 3 - (intOf i).toNat)
  case atStart => exact ⟨0, by omega, rfl, rfl, (by (try simp only [ext_ext]); repeat (first | exact Kept.refl _ | apply Kept.alloc | apply Kept.drew | apply kept_add | apply Kept.ext))⟩
  case round =>
    obtain ⟨k, hk, rfl, rfl, z, rfl⟩ := hrel
    by_cases hlt : k < 3
    · have hb1 := rsum_bd (n := k) (f := fun i => comRow a b i 3) (b := 3) fun i _ => by
        have := rsum_bd (n := 3) (f := fun j => eq01 (lnF a i) (lnF b j)) (b := 1) fun j _ => eq01_bd _ _
        unfold comRow; omega
      have hs1 : Hid ((rsum (k + 1) fun i => comRow a b i 3) = (rsum k fun i => comRow a b i 3) + comRow a b k 3) := hid rfl
      generalize (rsum k fun i => comRow a b i 3) = s1 at hb1 hs1 ⊢
      go_wp2
      go_loopw [7, 5] (fun j s wr => ∃ m : Nat, m ≤ 3 ∧ j = .int .i64 m ∧ s = .int .i64 (s1 + comRow a b k m) ∧ Kept ((w.alloc (.cells #[.int .i64 a.a, .int .i64 a.b, .int .i64 a.c] 50)).alloc (.cells #[.int .i64 b.a, .int .i64 b.b, .int .i64 b.c] 50)) wr) (fun j _ _ => 3 - (intOf j).toNat)
      case atStart => exact ⟨0, by omega, rfl, by simp [comRow, rsum], (by (try simp only [ext_ext]); repeat (first | exact Kept.refl _ | apply Kept.alloc | apply Kept.drew | apply kept_add | apply Kept.ext))⟩
      case round =>
        obtain ⟨m, hm, rfl, rfl, z, rfl⟩ := hrel
        have hb2 := rsum_bd (n := m) (f := fun j => eq01 (lnF a k) (lnF b j)) (b := 1) fun j _ => eq01_bd _ _
        have hs2 : Hid (comRow a b k (m + 1) = comRow a b k m + eq01 (lnF a k) (lnF b m)) := hid rfl
        have hb3 : 0 ≤ comRow a b k m ∧ comRow a b k m ≤ m * 1 := hb2
        clear hb2
        by_cases hlt2 : m < 3
        · generalize comRow a b k m = s2 at hb3 hs2 ⊢
          have hk3 : k = 0 ∨ k = 1 ∨ k = 2 := by omega
          have hm3 : m = 0 ∨ m = 1 ∨ m = 2 := by omega
          clear hs1
          rcases hk3 with rfl | rfl | rfl <;> rcases hm3 with rfl | rfl | rfl
          all_goals
            go_wp2_with (first | (refine wp_region_ext (by kernel_rfl) (by kernel_rfl) ?_; (repeat (go_big_quiet_step (fail))); refine wpQuiet_end fun z => ?_))
            all_goals
              rename_i h
              go_roundw
              case rel =>
                refine ⟨_ + 1, hlt2, by go_num, ?_, (by (try simp only [ext_ext]); repeat (first | exact Kept.refl _ | apply Kept.alloc | apply Kept.drew | apply kept_add | apply Kept.ext))⟩
                rw [hs2.out]
                have hh := h
                simp only [lnF] at *
                first
                | (rw [show eq01 _ _ = 1 from if_pos (by simpa using h)]; go_num)
                | (rw [show eq01 _ _ = 0 from if_neg (by simpa using h)]; go_num)
              case measure => simp [intOf]
        · obtain rfl : m = 3 := by omega
          go_wp2
          go_roundw
          case rel => exact ⟨k + 1, hlt, by go_num, by rw [hs1.out], (by (try simp only [ext_ext]); repeat (first | exact Kept.refl _ | apply Kept.alloc | apply Kept.drew | apply kept_add | apply Kept.ext))⟩
          case measure => simp [intOf]; omega
    · obtain rfl : k = 3 := by omega
      go_wp2
      go_ret
      exact ⟨rfl, (by (try simp only [ext_ext]); repeat (first | exact Kept.refl _ | apply Kept.alloc | apply Kept.drew | apply kept_add | apply Kept.ext))⟩
theorem common_any (a b : Ln) (w : World) : Calls Try.prog 68 #[a.v, b.v] w fun e w' => e = .returned (.int .i64 (comI a b)) ∧ Kept w w' := by
  have i0 : ∀ w : World, (Instr.index 50 (.agg #[.int .i64 a.a, .int .i64 a.b, .int .i64 a.c]) (.int .i64 0)).run Try.prog w = .ok (.int .i64 a.a) w := fun _ => by kernel_rfl
  have i1 : ∀ w : World, (Instr.index 50 (.agg #[.int .i64 a.a, .int .i64 a.b, .int .i64 a.c]) (.int .i64 1)).run Try.prog w = .ok (.int .i64 a.b) w := fun _ => by kernel_rfl
  have i2 : ∀ w : World, (Instr.index 50 (.agg #[.int .i64 a.a, .int .i64 a.b, .int .i64 a.c]) (.int .i64 2)).run Try.prog w = .ok (.int .i64 a.c) w := fun _ => by kernel_rfl
  go_enter Try.func68, Try.ntmps68
  go_wp2
  go_loopw [9, 5] (fun i s wr => ∃ k : Nat, k ≤ 3 ∧ i = .int .i64 k ∧ s = .int .i64 (rsum k fun i => in01 b (lnF a i)) ∧ Kept ((w.alloc (.cells #[.int .i64 a.a, .int .i64 a.b, .int .i64 a.c] 50)).alloc (.cells #[.int .i64 b.a, .int .i64 b.b, .int .i64 b.c] 50)) wr) (fun i _ _ => 3 - (intOf i).toNat)
  case atStart => exact ⟨0, by omega, rfl, rfl, (by (try simp only [ext_ext]); repeat (first | exact Kept.refl _ | apply Kept.alloc | apply Kept.drew | apply kept_add | apply Kept.ext))⟩
  case round =>
    obtain ⟨k, hk, rfl, rfl, z, rfl⟩ := hrel
    by_cases hlt : k < 3
    · have hb1 := rsum_bd (n := k) (f := fun i => in01 b (lnF a i)) (b := 1) fun i _ => in01_bd _ _
      have hs1 : Hid ((rsum (k + 1) fun i => in01 b (lnF a i)) = (rsum k fun i => in01 b (lnF a i)) + in01 b (lnF a k)) := hid rfl
      generalize (rsum k fun i => in01 b (lnF a i)) = s1 at hb1 hs1 ⊢
      have hk3 : k = 0 ∨ k = 1 ∨ k = 2 := by omega
      rcases hk3 with rfl | rfl | rfl
      all_goals
        go_wp2_with (first | (go_at_call 51; refine Calls.mono (containsIntsN _ _ 3 [b.a, b.b, b.c] _ _ (by refine IntsAt.kept ?_ ⟨_, rfl⟩; exact intsAt_block (heap_at (by simp))) rfl (by omega)) ?_; rintro e w' ⟨rfl, y, rfl⟩))
      all_goals
        rename_i h
        go_roundw
        case rel =>
          refine ⟨_ + 1, hlt, by go_num, ?_, (by (try simp only [ext_ext]); repeat (first | exact Kept.refl _ | apply Kept.alloc | apply Kept.drew | apply kept_add | apply Kept.ext))⟩
          rw [hs1.out]
          first
          | (rw [show in01 _ _ = 1 from if_pos (by simpa [isIn, lnF] using h)])
          | (rw [show in01 _ _ = 0 from if_neg (by simpa [isIn, lnF] using h), Int.add_zero])
        case measure => simp [intOf]
    · obtain rfl : k = 3 := by omega
      go_wp2
      go_ret
      exact ⟨rfl, (by (try simp only [ext_ext]); repeat (first | exact Kept.refl _ | apply Kept.alloc | apply Kept.drew | apply kept_add | apply Kept.ext))⟩
end Go.Proofs.Ytifkjbihmmdnbaa
