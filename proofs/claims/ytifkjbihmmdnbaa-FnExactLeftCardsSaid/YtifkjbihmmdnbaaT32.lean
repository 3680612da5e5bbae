/- Contracts: whether a row is among rows; the order of rows; pickings. -/
import Derived.Test.YtifkjbihmmdnbaaT14
import Derived.Test.YtifkjbihmmdnbaaT30
namespace Go.Proofs.Ytifkjbihmmdnbaa
open Go.RowKit
/-- '==' of two rows of three numbers. -/
@[go_sem] theorem equalIn_ln (x y : Ln) (w : World) : (Op.equalIn 10000 50 x.v y.v).run Try.prog w = .ok (decide (x = y)) w := by
  obtain ⟨i, hi, _⟩ := info_parts info_int
  have h := run_equalIn_array (P := Try.prog) w 9999 #[.int .i64 x.a, .int .i64 x.b, .int .i64 x.c] #[.int .i64 y.a, .int .i64 y.b, .int .i64 y.c] Try.underlying50 hi
  refine h.trans ?_
  rw [cells_int]
  have r3 : List.range 3 = [0, 1, 2] := rfl
  obtain ⟨xa, xb, xc⟩ := x
  obtain ⟨ya, yb, yc⟩ := y
  rw [r3]
  simp [Op.eqItems, go_sem]
  by_cases h1 : xa = ya <;> by_cases h2 : xb = yb <;> simp [h1, h2]
  split <;> simp [*]
def hasLn (ls : List Ln) (l : Ln) : Bool := ls.any fun x => decide (x = l)
theorem hasLn_mem (ls : List Ln) (l : Ln) : hasLn ls l = decide (l ∈ ls) := by
  rw [Bool.eq_iff_iff]
  simp [hasLn]
theorem l7Has_any (ao : Option Addr) (cap : Nat) (ls : List Ln) (l : Ln) (w : World) (hx : LinesAt w ao ls) (hl : ls.length ≤ 1048576) :
    Calls Try.prog 62 #[.slice ao ls.length cap, l.v] w fun e w' => e = .returned (.bool (hasLn ls l)) ∧ Kept w w' := by
  go_enter Try.func62, Try.ntmps62
  go_wp2
  go_loopw [5] (fun i wr => ∃ k : Nat, k ≤ ls.length ∧ i = .int .i64 k ∧ (∀ j, j < k → decide (lx ls j = l) = false) ∧ Kept (w.alloc (.cells #[.int .i64 l.a, .int .i64 l.b, .int .i64 l.c] 50)) wr) (fun i _ => ls.length - (intOf i).toNat)
  case atStart => exact ⟨0, Nat.zero_le _, rfl, fun j hj => absurd hj (Nat.not_lt_zero _), (by (try simp only [ext_ext]); repeat (first | exact Kept.refl _ | apply Kept.alloc | apply Kept.drew | apply kept_add | apply Kept.ext))⟩
  case round =>
    obtain ⟨k, hk, rfl, hn, z, rfl⟩ := hrel
    have hnH := hid hn
    clear hn
    by_cases hlt : k < ls.length
    · obtain ⟨g, off, rfl, hg, h1, h2, h3⟩ := hx k hlt
      have g1 : g < w.heap.size + 1 := by omega
      have g2 : g < w.heap.size + 1 + z.os.length := by omega
      have hmem := hid (lx_mem hlt)
      go_wp2_with (first | (refine wp_region_ext (by kernel_rfl) (by kernel_rfl) ?_; (repeat (go_big_quiet_step (fail))); refine wpQuiet_end fun z => ?_))
      · rename_i h
        have hy : Hid (hasLn ls l = true) := hid (List.any_eq_true.2 ⟨_, hmem.out, by simpa using h⟩)
        go_ret
        exact ⟨ret_of (by rw [hy.out]; rfl), (by (try simp only [ext_ext]); repeat (first | exact Kept.refl _ | apply Kept.alloc | apply Kept.drew | apply kept_add | apply Kept.ext))⟩
      · rename_i h
        go_roundw
        case rel =>
          refine ⟨k + 1, hlt, by go_num, fun j hj => ?_, (by (try simp only [ext_ext]); repeat (first | exact Kept.refl _ | apply Kept.alloc | apply Kept.drew | apply kept_add | apply Kept.ext))⟩
          rcases Nat.lt_or_eq_of_le (Nat.le_of_lt_succ hj) with h' | rfl
          · exact hnH.out j h'
          · simpa using h
        case measure => simp [intOf]; omega
    · have hno : Hid (hasLn ls l = false) := hid (by
        unfold hasLn
        rw [List.any_eq_false]
        intro b hb
        obtain ⟨j, hj, rfl⟩ := List.mem_iff_getElem.1 hb
        have := hnH.out j (by omega)
        rw [lx_get ls j hj] at this
        simpa using this)
      go_wp2
      go_ret
      exact ⟨ret_of (by rw [hno.out]; rfl), (by (try simp only [ext_ext]); repeat (first | exact Kept.refl _ | apply Kept.alloc | apply Kept.drew | apply kept_add | apply Kept.ext))⟩
theorem indexLn_any (ao : Option Addr) (cap : Nat) (ls : List Ln) (l : Ln) (w : World) (hx : LinesAt w ao ls) (hl : ls.length ≤ 1048576) :
    Calls Try.prog 76 #[.slice ao ls.length cap, l.v] w fun e w' => e = .returned (.int .i64 (idxOf (fun x => decide (x = l)) ls)) ∧ Kept w w' := by
  go_enter Try.func76, Try.ntmps76
  go_wp2
  go_loopw [8] (fun i wr => ∃ k : Nat, k ≤ ls.length ∧ i = .int .i64 k ∧ (∀ j, j < k → decide (lx ls j = l) = false) ∧ Kept (w.alloc (.cells #[.int .i64 l.a, .int .i64 l.b, .int .i64 l.c] 50)) wr) (fun i _ => ls.length - (intOf i).toNat)
  case atStart => exact ⟨0, Nat.zero_le _, rfl, fun j hj => absurd hj (Nat.not_lt_zero _), (by (try simp only [ext_ext]); repeat (first | exact Kept.refl _ | apply Kept.alloc | apply Kept.drew | apply kept_add | apply Kept.ext))⟩
  case round =>
    obtain ⟨k, hk, rfl, hn, z, rfl⟩ := hrel
    have hnH := hid hn
    clear hn
    by_cases hlt : k < ls.length
    · obtain ⟨g, off, rfl, hg, h1, h2, h3⟩ := hx k hlt
      have g1 : g < w.heap.size + 1 := by omega
      have g2 : g < w.heap.size + 1 + z.os.length := by omega
      go_wp2_with (first | (refine wp_region_ext (by kernel_rfl) (by kernel_rfl) ?_; (repeat (go_big_quiet_step (fail))); refine wpQuiet_end fun z => ?_))
      · rename_i h
        go_ret
        exact ⟨ret_of (by rw [idxOf_some (d := ⟨0, 0, 0⟩) hlt (decide_eq_true (show lx ls k = l by first | exact h.symm | exact (of_decide_eq_true h).symm)) hnH.out]; rfl), (by (try simp only [ext_ext]); repeat (first | exact Kept.refl _ | apply Kept.alloc | apply Kept.drew | apply kept_add | apply Kept.ext))⟩
      · rename_i h
        go_roundw
        case rel =>
          refine ⟨k + 1, hlt, by go_num, fun j hj => ?_, (by (try simp only [ext_ext]); repeat (first | exact Kept.refl _ | apply Kept.alloc | apply Kept.drew | apply kept_add | apply Kept.ext))⟩
          rcases Nat.lt_or_eq_of_le (Nat.le_of_lt_succ hj) with h' | rfl
          · exact hnH.out j h'
          · first | exact decide_eq_false (fun e => h e.symm) | exact decide_eq_false (fun e => of_decide_eq_false h e.symm)
        case measure => simp [intOf]; omega
    · go_wp2
      go_ret
      exact ⟨ret_of (by rw [idxOf_none (d := ⟨0, 0, 0⟩) fun j hj => hnH.out j (by omega)]; rfl), (by (try simp only [ext_ext]); repeat (first | exact Kept.refl _ | apply Kept.alloc | apply Kept.drew | apply kept_add | apply Kept.ext))⟩
theorem containsLn_any (ao : Option Addr) (cap : Nat) (ls : List Ln) (l : Ln) (w : World) (hx : LinesAt w ao ls) (hl : ls.length ≤ 1048576) :
    Calls Try.prog 66 #[.slice ao ls.length cap, l.v] w fun e w' => e = .returned (.bool (hasLn ls l)) ∧ Kept w w' := by
  go_enter Try.func66, Try.ntmps66
  go_wp2_with (first | (go_at_call 76; refine Calls.mono (indexLn_any _ _ _ l _ (LinesAt.kept hx (by (try simp only [ext_ext]); repeat (first | exact Kept.refl _ | apply Kept.alloc | apply Kept.drew | apply kept_add | apply Kept.ext))) hl) ?_; rintro e w' ⟨rfl, y, rfl⟩))
  go_ret
  exact ⟨ret_of (congrArg Value.bool (idxOf_any _ ls)), (by (try simp only [ext_ext]); repeat (first | exact Kept.refl _ | apply Kept.alloc | apply Kept.drew | apply kept_add | apply Kept.ext))⟩
theorem l7Before_any (a b : Ln) (w : World) : Calls Try.prog 63 #[a.v, b.v] w fun e w' => e = .returned (.bool (lexL a b)) ∧ Kept w w' := by
  by_cases h1 : a.a = b.a <;> by_cases h2 : a.b = b.b <;> by_cases h3 : a.c = b.c
  all_goals
    have hv : Hid (lexL a b = (decide (a.a < b.a) || (decide (a.a = b.a) && (decide (a.b < b.b) || (decide (a.b = b.b) && decide (a.c < b.c)))))) := hid rfl
    have h1H := hid h1
    have h2H := hid h2
    have h3H := hid h3
    go_enter Try.func63, Try.ntmps63
    go_wp2
    refine wp_loop_rounds 4 ?_
    iterate 4
      (all_goals try rw [rounds_succ])
      go_wp2_with (first | (refine wp_region_ext (by kernel_rfl) (by kernel_rfl) ?_; (repeat (go_big_quiet_step (fail))); refine wpQuiet_end fun z => ?_))
    all_goals
      go_ret
      exact ⟨ret_of (by rw [hv.out]; have q1 := h1H.out; have q2 := h2H.out; have q3 := h3H.out; simp [q1, q2, q3]), (by (try simp only [ext_ext]); repeat (first | exact Kept.refl _ | apply Kept.alloc | apply Kept.drew | apply kept_add | apply Kept.ext))⟩
theorem isNaN_any (x : Int) (w : World) : Calls Try.prog 80 #[.int .i64 x] w fun e w' => e = .returned (.bool false) ∧ Kept w w' := by
  go_enter Try.func80, Try.ntmps80
  go_wp2
  go_ret
  exact ⟨ret_of (by simp), (by (try simp only [ext_ext]); repeat (first | exact Kept.refl _ | apply Kept.alloc | apply Kept.drew | apply kept_add | apply Kept.ext))⟩
def cmpI (x y : Int) : Int := if x < y then -1 else if y < x then 1 else 0
theorem cmpI_any (x y : Int) (w : World) : Calls Try.prog 77 #[.int .i64 x, .int .i64 y] w fun e w' => e = .returned (.int .i64 (cmpI x y)) ∧ Kept w w' := by
  by_cases h1 : x < y
  · have hv : Hid (cmpI x y = -1) := hid (if_pos h1)
    go_enter Try.func77, Try.ntmps77
    go_wp2_with (first | (go_at_call 80; refine Calls.mono (isNaN_any _ _) ?_; rintro e w' ⟨rfl, y, rfl⟩))
    go_ret
    exact ⟨ret_of (by rw [hv.out]; rfl), (by (try simp only [ext_ext]); repeat (first | exact Kept.refl _ | apply Kept.alloc | apply Kept.drew | apply kept_add | apply Kept.ext))⟩
  · by_cases h2 : y < x
    · have hv : Hid (cmpI x y = 1) := hid (by unfold cmpI; rw [if_neg h1, if_pos h2])
      go_enter Try.func77, Try.ntmps77
      go_wp2_with (first | (go_at_call 80; refine Calls.mono (isNaN_any _ _) ?_; rintro e w' ⟨rfl, y, rfl⟩))
      go_ret
      exact ⟨ret_of (by rw [hv.out]; rfl), (by (try simp only [ext_ext]); repeat (first | exact Kept.refl _ | apply Kept.alloc | apply Kept.drew | apply kept_add | apply Kept.ext))⟩
    · have hv : Hid (cmpI x y = 0) := hid (by unfold cmpI; rw [if_neg h1, if_neg h2])
      go_enter Try.func77, Try.ntmps77
      go_wp2_with (first | (go_at_call 80; refine Calls.mono (isNaN_any _ _) ?_; rintro e w' ⟨rfl, y, rfl⟩))
      go_ret
      exact ⟨ret_of (by rw [hv.out]; rfl), (by (try simp only [ext_ext]); repeat (first | exact Kept.refl _ | apply Kept.alloc | apply Kept.drew | apply kept_add | apply Kept.ext))⟩
def cmpL (a b : Ln) : Int := if cmpI a.a b.a ≠ 0 then cmpI a.a b.a else if cmpI a.b b.b ≠ 0 then cmpI a.b b.b else cmpI a.c b.c
theorem cmpL_lex (a b : Ln) : decide (0 ≤ cmpL a b) = !lexL a b := by
  unfold cmpL cmpI lexL
  rcases Int.lt_trichotomy a.a b.a with h1 | h1 | h1
  · have : ¬ b.a < a.a := by omega
    simp [h1]
  · rcases Int.lt_trichotomy a.b b.b with h2 | h2 | h2
    · simp [h1, h2]
    · rcases Int.lt_trichotomy a.c b.c with h3 | h3 | h3
      · simp [h1, h2, h3]
      · simp [h1, h2, h3]
      · have q3 : ¬ a.c < b.c := by omega
        simp [h1, h2, h3, q3]
    · have q2 : ¬ a.b < b.b := by omega
      have q3 : ¬ a.b = b.b := by omega
      simp [h1, h2, q2, q3]
  · have q1 : ¬ a.a < b.a := by omega
    have q2 : ¬ a.a = b.a := by omega
    simp [h1, q1, q2]
theorem cmpI_bd (x y : Int) : -1 ≤ cmpI x y ∧ cmpI x y ≤ 1 := by unfold cmpI; split <;> (try split) <;> omega
theorem compare_any (g off cap g' off' cap' : Nat) (a b : Ln) (w : World) (hg : g < w.heap.size) (hg' : g' < w.heap.size) (hx : LnCells w g off a) (hy : LnCells w g' off' b) :
    Calls Try.prog 67 #[.slice (some ⟨g, off, none⟩) 3 cap, .slice (some ⟨g', off', none⟩) 3 cap'] w fun e w' => e = .returned (.int .i64 (cmpL a b)) ∧ Kept w w' := by
  obtain ⟨x1, x2, x3⟩ := hx
  obtain ⟨y1, y2, y3⟩ := hy
  have hv : Hid (cmpL a b = if cmpI a.a b.a ≠ 0 then cmpI a.a b.a else if cmpI a.b b.b ≠ 0 then cmpI a.b b.b else cmpI a.c b.c) := hid rfl
  have b1 := cmpI_bd a.a b.a
  have b2 := cmpI_bd a.b b.b
  have b3 := cmpI_bd a.c b.c
  go_enter Try.func67, Try.ntmps67
  go_wp2
  refine wp_loop_rounds 4 ?_
  iterate 4
    (all_goals try rw [rounds_succ])
    go_wp2_with (first | (go_at_call 77; refine Calls.mono (cmpI_any _ _ _) ?_; rintro e w' ⟨rfl, y, rfl⟩))
  all_goals
    go_ret
    exact ⟨ret_of (by rw [hv.out]; simp_all), (by (try simp only [ext_ext]); repeat (first | exact Kept.refl _ | apply Kept.alloc | apply Kept.drew | apply kept_add | apply Kept.ext))⟩
end Go.Proofs.Ytifkjbihmmdnbaa
