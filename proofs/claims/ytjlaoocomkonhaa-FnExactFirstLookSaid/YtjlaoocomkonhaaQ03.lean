/- Contracts: the number of a card, hands, slices of cards that a law makes and compares. -/
import Derived.Test.YtjlaoocomkonhaaQ02
import Derived.Test.YtjlaoocomkonhaaQ01
namespace Go.Proofs.Ytjlaoocomkonhaa
open Go.RowKit

/-- All of a list are cards. -/
def areC (xs : List Card) : Prop := ∀ j, j < xs.length → isCard (cx xs j) = true
theorem areC_hand {xs : List Card} (h : isHand xs = true) : areC xs := fun j hj => handOk_card ((isHand_of h).2 j hj)
abbrev T4 : TypeId := 29
theorem info_card : (Try.prog.info? 29).map (fun i => (i.zero, i.size, i.bytes)) = some (some (.agg #[.int .i64 0, .int .i64 0, .int .i64 0, .int .i64 0]), 4, 32) := by kernel_rfl
theorem l2Number_any (x : Card) (hx : isCard x = true) (w : World) : Calls Try.prog 63 #[x.v] w fun e w' => e = .returned (.int .i64 (numC x)) ∧ Kept w w' := by
  obtain ⟨x1, x2, x3, x4⟩ := isCard_of hx
  go_enter Try.func63, Try.ntmps63
  go_wp2
  go_ret
  exact ⟨ret_of (by simp [numC]), (by (try simp only [ext_ext]); repeat (first | exact Kept.refl _ | apply Kept.alloc | apply Kept.drew | apply kept_add | apply Kept.ext))⟩
theorem number_any (x : Card) (hx : isCard x = true) (w : World) : Calls Try.prog 58 #[x.v] w fun e w' => e = .returned (.int .i64 (numC x)) ∧ Kept w w' := by
  obtain ⟨x1, x2, x3, x4⟩ := isCard_of hx
  obtain ⟨a, b, c, d⟩ := x
  have i0 : ∀ w : World, (Instr.index 29 (.agg #[.int .i64 a, .int .i64 b, .int .i64 c, .int .i64 d]) (.int .i64 0)).run Try.prog w = .ok (.int .i64 a) w := fun _ => by kernel_rfl
  have i1 : ∀ w : World, (Instr.index 29 (.agg #[.int .i64 a, .int .i64 b, .int .i64 c, .int .i64 d]) (.int .i64 1)).run Try.prog w = .ok (.int .i64 b) w := fun _ => by kernel_rfl
  have i2 : ∀ w : World, (Instr.index 29 (.agg #[.int .i64 a, .int .i64 b, .int .i64 c, .int .i64 d]) (.int .i64 2)).run Try.prog w = .ok (.int .i64 c) w := fun _ => by kernel_rfl
  have i3 : ∀ w : World, (Instr.index 29 (.agg #[.int .i64 a, .int .i64 b, .int .i64 c, .int .i64 d]) (.int .i64 3)).run Try.prog w = .ok (.int .i64 d) w := fun _ => by kernel_rfl
  simp only at x1 x2 x3 x4
  go_enter Try.func58, Try.ntmps58
  go_wp2
  refine wp_loop_rounds 5 ?_
  iterate 5
    (all_goals try rw [rounds_succ])
    go_wp2
  go_ret
  exact ⟨ret_of (congrArg (Value.int .i64) (by simp only [numC]; omega)), (by (try simp only [ext_ext]); repeat (first | exact Kept.refl _ | apply Kept.alloc | apply Kept.drew | apply kept_add | apply Kept.ext))⟩
theorem l2Less_any (x y : Card) (hx : isCard x = true) (hy : isCard y = true) (w : World) : Calls Try.prog 53 #[x.v, y.v] w fun e w' => e = .returned (.bool (decide (numC x < numC y))) ∧ Kept w w' := by
  go_enter Try.func53, Try.ntmps53
  go_wp2_with (first | (refine wp_region_ext (by kernel_rfl) (by kernel_rfl) ?_; (repeat (go_big_quiet_step (((go_at_call 63; first | exact ext_call (l2Number_any _ (by assumption) _) | exact ext_call2 (l2Number_any _ (by assumption) _)))))); refine wpQuiet_end fun z => ?_))
  go_ret
  exact ⟨rfl, (by (try simp only [ext_ext]); repeat (first | exact Kept.refl _ | apply Kept.alloc | apply Kept.drew | apply kept_add | apply Kept.ext))⟩
theorem szIntA4S_any (ao : Option Addr) (n cap : Nat) (hn : n ≤ 9223372036854775807) (w : World) : Calls Try.prog 7 #[.slice ao n cap, .int .i64 1048576] w fun e w' => e = .returned (.int .i64 (if n ≤ 1048576 then 1048576 - n else -1)) ∧ w = w' := by
  by_cases h : n ≤ 1048576
  all_goals
    go_enter Try.func7, Try.ntmps7
    go_wp2
    go_ret
    exact ⟨ret_of (by simp [h]), rfl⟩
/-- A slice of the call's own that holds cards. -/
def OwnC (B : Nat) (w : World) (v : Value) (cs : List Card) : Prop := w.ownsRow B T4 4 v cs.length (cells4 cs)
theorem OwnC.kept {B : Nat} {w w' : World} {v : Value} {cs : List Card} (h : OwnC B w v cs) (hk : Kept w w') : OwnC B w' v cs :=
  World.ownsRow.kept h ⟨hk.below.os, hk.below.tape, hk.below.output, hk.below.size, fun k hk' _ => hk.below.block k hk'⟩ (by cases v.ownBlock <;> simp) (row := none)
theorem OwnC.reads {B : Nat} {w : World} {v : Value} {cs : List Card} (h : OwnC B w v cs) : ∃ ao cap, v = .slice ao cs.length cap ∧ CardsAt w ao cs ∧ cs.length ≤ cap := by
  rcases h.2 with ⟨rfl, h0⟩ | ⟨g, cap, cur, rfl, hb, hg, hn, hm, hs, ht⟩
  · have : cs = [] := List.eq_nil_of_length_eq_zero h0
    subst this
    exact ⟨none, 0, rfl, fun i hi => by simp at hi, Nat.le_refl _⟩
  · refine ⟨_, cap, rfl, cardsAt_of_cells (Array.getElem?_eq_some_iff.1 hg).1 fun j u hu => ?_, hn⟩
    have := World.ownsRow.cells h (g := g) rfl j u hu
    rw [Addr.add_lit] at this
    exact this
theorem ownC_row {B g : Nat} {w : World} {xs : List Card} (hB : B ≤ g) (h : w.heap[g]? = some (.cells (rowC xs xs.length) T4)) (hl : xs.length ≤ maxLen) : OwnC B w (.slice (some ⟨g, 0, none⟩) xs.length xs.length) xs :=
  ⟨cells4_length xs, .inr ⟨g, xs.length, _, rfl, hB, h, Nat.le_refl _, hl, rowC_size xs _ (Nat.le_refl _), by rw [rowC_full, List.take_of_length_le (by rw [cells4_length]; exact Nat.le_refl _)]⟩⟩
/-- A call hands back cards in memory of its own. -/
def RetC (W : World) (cs : List Card) (e : Ending) (w' : World) : Prop := ∃ v, e = .returned v ∧ OwnC W.heap.size w' v cs ∧ Kept W w'
theorem toIntA4S_any (ao : Option Addr) (cap : Nat) (xs : List Card) (w : World) (hx : CardsAt w ao xs) (hl : xs.length ≤ 1048576) :
    Calls Try.prog 9 #[.slice ao xs.length cap] w (RetC w xs) := by
  have hmk : ∀ w : World, (Instr.makeSlice 22 (.int .i64 (xs.length : Int)) (.int .i64 (xs.length : Int))).run Try.prog w = .ok (.slice (some ⟨w.heap.size, 0, none⟩) xs.length xs.length) (w.alloc (.cells (rowC [] xs.length) T4)) := fun w => by
    obtain ⟨i, hi, hz, hs, hb⟩ := info_parts info_card
    have := run_make (P := Try.prog) w 22 29 i _ Try.underlying22 hi hz .i64 .i64 (xs.length : Int) (xs.length : Int) (by omega) (Int.le_refl _) (by rw [hb]; omega) (by omega)
    rw [hs] at this
    simpa [Value.cells, rowC_nil] using this
  go_enter Try.func9, Try.ntmps9
  go_wp2
  go_loopw [4] (fun i wr => ∃ (k : Nat) (z : More), k ≤ xs.length ∧ i = .int .i64 k ∧ wr = ext (w.alloc (.cells (rowC (xs.take k) xs.length) T4)) z) (fun i _ => xs.length - (intOf i).toNat)
  case atStart =>
    obtain ⟨z, hz⟩ := Kept.refl (w.alloc (.cells (rowC [] xs.length) T4))
    exact ⟨0, z, Nat.zero_le _, rfl, by simpa using hz⟩
  case round =>
    obtain ⟨k, z, hk, rfl, rfl⟩ := hrel
    have htk : (xs.take k).length = k := by simp; omega
    by_cases hlt : k < xs.length
    · obtain ⟨g, off, rfl, hg, h1, h2, h3, h4⟩ := hx k hlt
      obtain ⟨v0, e0⟩ := rowC_some (xs.take k) (n := xs.length) (m := k * 4) (by omega) (by omega)
      obtain ⟨v1, e1⟩ := rowC_some (xs.take k) (n := xs.length) (m := k * 4 + 1) (by omega) (by omega)
      obtain ⟨v2, e2⟩ := rowC_some (xs.take k) (n := xs.length) (m := k * 4 + 2) (by omega) (by omega)
      obtain ⟨v3, e3⟩ := rowC_some (xs.take k) (n := xs.length) (m := k * 4 + 3) (by omega) (by omega)
      have hset := hid (rowC_set (xs.take k) (n := xs.length) (cx xs k) htk hlt)
      clear htk
      go_wp2_with (first | (go_at_call 23; refine Calls.mono (toIntA4_any _ _) ?_; rintro e w' ⟨rfl, y, rfl⟩))
      go_roundw
      case rel => exact ⟨k + 1, _, hlt, by go_num, by rw [hset.out, ← take_cx xs k hlt]⟩
      case measure => simp [intOf]; omega
    · have hk' : k = xs.length := by omega
      subst hk'
      go_wp2
      go_ret
      exact ⟨_, rfl, ownC_row (Nat.le_refl _) ((ext_heap _ _ _ (by simp)).trans (heap_at rfl)) (by unfold maxLen; omega), (by (try simp only [ext_ext]); repeat (first | exact Kept.refl _ | apply Kept.alloc | apply Kept.drew | apply kept_add | apply Kept.ext))⟩
theorem eqIntA4S_any (ao bo : Option Addr) (cap cap' : Nat) (xs ys : List Card) (w : World) (hx : CardsAt w ao xs) (hy : CardsAt w bo ys) (hl : xs.length ≤ 1048576) (hl' : ys.length ≤ 1048576) :
    Calls Try.prog 11 #[.slice ao xs.length cap, .slice bo ys.length cap'] w fun e w' => e = .returned (.bool (decide (xs = ys))) ∧ Kept w w' := by
  by_cases he : xs.length = ys.length
  · have heH := hid he
    have hb : ((xs.length : Int) != (ys.length : Int)) = false := by simp [he]
    clear he
    go_enter Try.func11, Try.ntmps11
    go_wp2
    go_loopw [5] (fun i wr => ∃ k : Nat, k ≤ xs.length ∧ i = .int .i64 k ∧ (∀ j, j < k → cx xs j = cx ys j) ∧ Kept w wr) (fun i _ => xs.length - (intOf i).toNat)
    case atStart => exact ⟨0, Nat.zero_le _, rfl, fun j hj => absurd hj (Nat.not_lt_zero _), Kept.refl _⟩
    case round =>
      obtain ⟨k, hk, rfl, hn, z, rfl⟩ := hrel
      have hnH := hid hn
      clear hn
      by_cases hlt : k < xs.length
      · obtain ⟨g, off, rfl, hg, h1, h2, h3, h4⟩ := hx k hlt
        obtain ⟨g', off', rfl, hg', h1', h2', h3', h4'⟩ := hy k (by rw [← heH.out]; exact hlt)
        have hlt' : k < ys.length := by rw [← heH.out]; exact hlt
        go_wp2_with (first | (refine wp_region_ext (by kernel_rfl) (by kernel_rfl) ?_; (repeat (go_big_quiet_step (((go_at_call 37; first | exact ext_call (eqIntA4_any _ _ _) | exact ext_call2 (eqIntA4_any _ _ _)))))); refine wpQuiet_end fun z => ?_))
        · go_ret
          exact ⟨ret_of (congrArg Value.bool (decide_eq_false (fun e => by rename_i h; simp [e] at h)).symm), (by (try simp only [ext_ext]); repeat (first | exact Kept.refl _ | apply Kept.alloc | apply Kept.drew | apply kept_add | apply Kept.ext))⟩
        · go_roundw
          case rel =>
            refine ⟨k + 1, hlt, by go_num, fun j hj => ?_, (by (try simp only [ext_ext]); repeat (first | exact Kept.refl _ | apply Kept.alloc | apply Kept.drew | apply kept_add | apply Kept.ext))⟩
            rcases Nat.lt_or_eq_of_le (Nat.le_of_lt_succ hj) with h | rfl
            · exact hnH.out j h
            · rename_i h; simpa using h
          case measure => simp [intOf]; omega
      · go_wp2
        go_ret
        exact ⟨ret_of (congrArg Value.bool (decide_eq_true (eq_of_cx heH.out fun j hj => hnH.out j (by omega))).symm), (by (try simp only [ext_ext]); repeat (first | exact Kept.refl _ | apply Kept.alloc | apply Kept.drew | apply kept_add | apply Kept.ext))⟩
  · have hb : ((xs.length : Int) != (ys.length : Int)) = true := by simp; omega
    go_enter Try.func11, Try.ntmps11
    go_wp2
    go_ret
    exact ⟨ret_of (congrArg Value.bool (decide_eq_false (fun e => he (by rw [e]))).symm), (by (try simp only [ext_ext]); repeat (first | exact Kept.refl _ | apply Kept.alloc | apply Kept.drew | apply kept_add | apply Kept.ext))⟩
theorem IsHand_any (ao : Option Addr) (cap : Nat) (xs : List Card) (w : World) (hx : CardsAt w ao xs) (hl : xs.length ≤ 1048576) :
    Calls Try.prog 42 #[.slice ao xs.length cap] w fun e w' => e = .returned (.bool (isHand xs)) ∧ Kept w w' := by
  go_enter Try.func42, Try.ntmps42
  go_wp2
  go_loopw [7] (fun i wr => ∃ k : Nat, k ≤ xs.length ∧ i = .int .i64 k ∧ (∀ j, j < k → handOk xs j = true) ∧ Kept w wr) (fun i _ => xs.length - (intOf i).toNat)
  case atStart => exact ⟨0, Nat.zero_le _, rfl, fun j hj => absurd hj (Nat.not_lt_zero _), Kept.refl _⟩
  case round =>
    obtain ⟨k, hk, rfl, hn, z, rfl⟩ := hrel
    have hnH := hid hn
    clear hn
    by_cases hlt : k < xs.length
    · obtain ⟨g, off, rfl, hg, h1, h2, h3, h4⟩ := hx k hlt
      cases hc : isCard (cx xs k) with
      | false =>
        go_wp2_with (first | (refine wp_region_ext (by kernel_rfl) (by kernel_rfl) ?_; (repeat (go_big_quiet_step (((go_at_call 49; first | exact ext_call (IsCard_any _ _) | exact ext_call2 (IsCard_any _ _)))))); refine wpQuiet_end fun z => ?_))
        go_ret
        exact ⟨ret_of (by rw [isHand_no hlt (by simp [handOk, hc])]; rfl), (by (try simp only [ext_ext]); repeat (first | exact Kept.refl _ | apply Kept.alloc | apply Kept.drew | apply kept_add | apply Kept.ext))⟩
      | true =>
        by_cases h0 : k = 0
        · have hd : decide (0 < k) = false := by simp; omega
          have h0H := hid h0
          clear h0
          go_wp2_with (first | (refine wp_region_ext (by kernel_rfl) (by kernel_rfl) ?_; (repeat (go_big_quiet_step (((go_at_call 49; first | exact ext_call (IsCard_any _ _) | exact ext_call2 (IsCard_any _ _)))))); refine wpQuiet_end fun z => ?_))
          go_roundw
          case rel =>
            refine ⟨k + 1, hlt, by go_num, fun j hj => ?_, (by (try simp only [ext_ext]); repeat (first | exact Kept.refl _ | apply Kept.alloc | apply Kept.drew | apply kept_add | apply Kept.ext))⟩
            have e0 := h0H.out
            obtain rfl : j = k := by omega
            subst e0
            simp [handOk, hc]
          case measure => simp [intOf]; omega
        · have hc' := handOk_card (hnH.out (k - 1) (by omega))
          have hd : decide (0 < k) = true := by simp; omega
          have h0' : 0 < k := by omega
          obtain ⟨g', off', he, hg', p1, p2, p3, p4⟩ := hx (k - 1) (by omega)
          cases he
          have q1 : IntKind.i64.wrap ((k : Int) - 1) = (k : Int) - 1 := IntWalk.i64_in _ (by omega)
          have q2 : ((k : Int) - 1).toNat = k - 1 := by omega
          have q3 : (0 : Int) ≤ (k : Int) - 1 := by omega
          have q4 : (k : Int) - 1 < (xs.length : Int) := by omega
          have q5 : 1 ≤ k := h0'
          have g1 : g < w.heap.size + z.os.length := by omega
          have g2 : g ≤ w.heap.size + z.os.length := by omega
          have g3 : g < w.heap.size + z.os.length + 1 := by omega
          go_wp2_with (first | (refine wp_region_ext (by kernel_rfl) (by kernel_rfl) ?_; (repeat (go_big_quiet_step (((first | (go_at_call 49; first | exact ext_call (IsCard_any _ _) | exact ext_call2 (IsCard_any _ _)) | (go_at_call 58; first | exact ext_call (number_any _ (by assumption) _) | exact ext_call2 (number_any _ (by assumption) _))))))); refine wpQuiet_end fun z => ?_))
          · go_ret
            rename_i h
            exact ⟨ret_of (by rw [isHand_no hlt (by simp [handOk, hc] at h ⊢; omega)]; rfl), (by (try simp only [ext_ext]); repeat (first | exact Kept.refl _ | apply Kept.alloc | apply Kept.drew | apply kept_add | apply Kept.ext))⟩
          · go_roundw
            case rel =>
              refine ⟨k + 1, hlt, by go_num, fun j hj => ?_, (by (try simp only [ext_ext]); repeat (first | exact Kept.refl _ | apply Kept.alloc | apply Kept.drew | apply kept_add | apply Kept.ext))⟩
              rcases Nat.lt_or_eq_of_le (Nat.le_of_lt_succ hj) with h | rfl
              · exact hnH.out j h
              · rename_i h; simp [handOk, hc] at h ⊢; omega
            case measure => simp [intOf]; omega
    · by_cases hn27 : xs.length ≤ 27
      all_goals
        go_wp2
        go_ret
      · exact ⟨ret_of (by rw [isHand_yes hn27 fun j hj => hnH.out j (by omega)]; simp; omega), (by (try simp only [ext_ext]); repeat (first | exact Kept.refl _ | apply Kept.alloc | apply Kept.drew | apply kept_add | apply Kept.ext))⟩
      · exact ⟨ret_of (by rw [isHand_long (by omega)]; simp; omega), (by (try simp only [ext_ext]); repeat (first | exact Kept.refl _ | apply Kept.alloc | apply Kept.drew | apply kept_add | apply Kept.ext))⟩
theorem l2Hand_any (ao : Option Addr) (cap : Nat) (xs : List Card) (w : World) (hx : CardsAt w ao xs) (hl : xs.length ≤ 1048576) :
    Calls Try.prog 39 #[.slice ao xs.length cap] w fun e w' => e = .returned (.bool (isHand xs)) ∧ Kept w w' := by
  go_enter Try.func39, Try.ntmps39
  go_wp2
  go_loopw [3] (fun i wr => ∃ k : Nat, k ≤ xs.length ∧ k ≤ 28 ∧ i = .int .i64 k ∧ (∀ j, j < k → handOk xs j = true) ∧ Kept w wr) (fun i _ => 28 - (intOf i).toNat)
  case atStart => exact ⟨0, Nat.zero_le _, Nat.zero_le _, rfl, fun j hj => absurd hj (Nat.not_lt_zero _), Kept.refl _⟩
  case round =>
    obtain ⟨k, hk, hk28, rfl, hn, z, rfl⟩ := hrel
    have hnH := hid hn
    clear hn
    by_cases hlt : k < xs.length ∧ k ≤ 27
    · obtain ⟨hlt, hle⟩ := hlt
      obtain ⟨g, off, rfl, hg, h1, h2, h3, h4⟩ := hx k hlt
      have g1 : g < w.heap.size + z.os.length := by omega
      have g2 : g ≤ w.heap.size + z.os.length := by omega
      have g3 : g < w.heap.size + z.os.length + 1 := by omega
      cases hc : isCard (cx xs k) with
      | false =>
        go_wp2_with (first | (refine wp_region_ext (by kernel_rfl) (by kernel_rfl) ?_; (repeat (go_big_quiet_step (((go_at_call 47; first | exact ext_call (l2Card_any _ _) | exact ext_call2 (l2Card_any _ _)))))); refine wpQuiet_end fun z => ?_))
        go_ret
        exact ⟨ret_of (by rw [isHand_no hlt (by simp [handOk, hc])]; rfl), (by (try simp only [ext_ext]); repeat (first | exact Kept.refl _ | apply Kept.alloc | apply Kept.drew | apply kept_add | apply Kept.ext))⟩
      | true =>
        by_cases h0 : k = 0
        · have hd : decide (0 < k) = false := by simp; omega
          have h0H := hid h0
          clear h0
          go_wp2_with (first | (refine wp_region_ext (by kernel_rfl) (by kernel_rfl) ?_; (repeat (go_big_quiet_step (((go_at_call 47; first | exact ext_call (l2Card_any _ _) | exact ext_call2 (l2Card_any _ _)))))); refine wpQuiet_end fun z => ?_))
          go_roundw
          case rel =>
            refine ⟨k + 1, hlt, by omega, by go_num, fun j hj => ?_, (by (try simp only [ext_ext]); repeat (first | exact Kept.refl _ | apply Kept.alloc | apply Kept.drew | apply kept_add | apply Kept.ext))⟩
            have e0 := h0H.out
            obtain rfl : j = k := by omega
            subst e0
            simp [handOk, hc]
          case measure => simp [intOf]; omega
        · have hc' := handOk_card (hnH.out (k - 1) (by omega))
          have hd : decide (0 < k) = true := by simp; omega
          have h0' : 0 < k := by omega
          obtain ⟨g', off', he, hg', p1, p2, p3, p4⟩ := hx (k - 1) (by omega)
          cases he
          have q1 : IntKind.i64.wrap ((k : Int) - 1) = (k : Int) - 1 := IntWalk.i64_in _ (by omega)
          have q2 : ((k : Int) - 1).toNat = k - 1 := by omega
          have q3 : (0 : Int) ≤ (k : Int) - 1 := by omega
          have q4 : (k : Int) - 1 < (xs.length : Int) := by omega
          have q5 : 1 ≤ k := h0'
          go_wp2_with (first | (refine wp_region_ext (by kernel_rfl) (by kernel_rfl) ?_; (repeat (go_big_quiet_step (((first | (go_at_call 47; first | exact ext_call (l2Card_any _ _) | exact ext_call2 (l2Card_any _ _)) | (go_at_call 53; first | exact ext_call (l2Less_any _ _ (by assumption) (by assumption) _) | exact ext_call2 (l2Less_any _ _ (by assumption) (by assumption) _))))))); refine wpQuiet_end fun z => ?_))
          · go_ret
            rename_i h
            exact ⟨ret_of (by rw [isHand_no hlt (by simp [handOk, hc] at h ⊢; omega)]; rfl), (by (try simp only [ext_ext]); repeat (first | exact Kept.refl _ | apply Kept.alloc | apply Kept.drew | apply kept_add | apply Kept.ext))⟩
          · go_roundw
            case rel =>
              refine ⟨k + 1, hlt, by omega, by go_num, fun j hj => ?_, (by (try simp only [ext_ext]); repeat (first | exact Kept.refl _ | apply Kept.alloc | apply Kept.drew | apply kept_add | apply Kept.ext))⟩
              rcases Nat.lt_or_eq_of_le (Nat.le_of_lt_succ hj) with h | rfl
              · exact hnH.out j h
              · rename_i h; simp [handOk, hc] at h ⊢; omega
            case measure => simp [intOf]; omega
    · by_cases hn27 : xs.length ≤ 27
      · have : ¬ k < xs.length := by omega
        go_wp2
        go_ret
        exact ⟨ret_of (by rw [isHand_yes hn27 fun j hj => hnH.out j (by omega)]; simp; omega), (by (try simp only [ext_ext]); repeat (first | exact Kept.refl _ | apply Kept.alloc | apply Kept.drew | apply kept_add | apply Kept.ext))⟩
      · by_cases h2 : k < xs.length
        · have h3 : ¬ k ≤ 27 := by omega
          clear hlt
          go_wp2
          go_ret
          exact ⟨ret_of (by rw [isHand_long (by omega)]; simp; omega), (by (try simp only [ext_ext]); repeat (first | exact Kept.refl _ | apply Kept.alloc | apply Kept.drew | apply kept_add | apply Kept.ext))⟩
        · clear hlt
          go_wp2
          go_ret
          exact ⟨ret_of (by rw [isHand_long (by omega)]; simp; omega), (by (try simp only [ext_ext]); repeat (first | exact Kept.refl _ | apply Kept.alloc | apply Kept.drew | apply kept_add | apply Kept.ext))⟩
end Go.Proofs.Ytjlaoocomkonhaa
