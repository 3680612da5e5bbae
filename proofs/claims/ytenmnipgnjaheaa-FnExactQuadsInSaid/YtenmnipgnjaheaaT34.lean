/- Contracts: what a law does with a game that it is given: its size, its copy, and whether two are the same. -/
import Derived.Test.YtenmnipgnjaheaaT16
import Derived.Test.YtenmnipgnjaheaaT24
import Derived.Test.YtenmnipgnjaheaaT28
namespace Go.Proofs.Ytenmnipgnjaheaa
open Go.RowKit
def cpF (xs : List Int) (k : Nat) : Nat → Int := fun i => if i < k then ix xs i else 0
theorem own_tab2 {w : World} {B g n : Nat} {f : Nat → Int} (hB : B ≤ g) (hn : n ≤ maxLen) (h : w.heap[g]? = some (.cells (tab n f) 3)) : OwnI B w (.slice (some ⟨g, 0, none⟩) n n) (tl n f) := by
  have e : (tab n f).toList = vals1 (tl n f) := by simp [tab, tl]
  unfold OwnI
  rw [tl_len]
  exact ⟨by simp [tl], .inr ⟨g, n, tab n f, rfl, hB, h, Nat.le_refl _, hn, by rw [tab_size, Nat.mul_one], by rw [e, List.take_of_length_le (by simp [tl])]⟩⟩
theorem cpF_end (xs : List Int) : tl xs.length (cpF xs xs.length) = xs := by
  apply List.ext_getElem (by simp [tl])
  intro i h1 h2
  simp only [tl, List.getElem_map, List.getElem_range, cpF, if_pos h2, ix_get xs i h2]
theorem toIntS_any (ao : Option Addr) (cap : Nat) (xs : List Int) (w : World) (hx : IntsAt w ao xs) (hl : xs.length ≤ 1048576) :
    Calls Try.prog 47 #[.slice ao xs.length cap] w (RetI w xs) := by
  have hmk : ∀ w : World, (Instr.makeSlice 33 (.int .i64 (xs.length : Int)) (.int .i64 (xs.length : Int))).run Try.prog w = .ok (.slice (some ⟨w.heap.size, 0, none⟩) xs.length xs.length) (w.alloc (.cells (tab xs.length (cpF xs 0)) 3)) := fun w => by
    obtain ⟨i, hi, hz, hs, hb⟩ := info_parts info_i64
    have := run_make (P := Try.prog) w 33 3 i _ Try.underlying33 hi hz .i64 .i64 (xs.length : Int) (xs.length : Int) (by omega) (Int.le_refl _) (by rw [hb]; omega) (by omega)
    rw [hs] at this
    have e : madeCells #[.int .i64 0] xs.length = tab xs.length (cpF xs 0) := by
      apply Array.ext_getElem?
      intro j
      by_cases hj : j < xs.length
      · rw [tab_get _ hj]
        simp [madeCells, hj, Nat.mod_one, cpF]
      · rw [Array.getElem?_eq_none (by rw [size_madeCells]; omega), Array.getElem?_eq_none (by rw [tab_size]; omega)]
    simpa [Value.cells, e] using this
  have hce := hid (cpF_end xs)
  go_enter Try.func47, Try.ntmps47
  go_wp2
  go_loopw [4] (fun i wr => ∃ k : Nat, k ≤ xs.length ∧ i = .int .i64 k ∧ Kept (w.alloc (.cells (tab xs.length (cpF xs k)) 3)) wr) (fun i _ => xs.length - (intOf i).toNat)
  case atStart => exact ⟨0, Nat.zero_le _, rfl, (by (try simp only [ext_ext]); repeat (first | exact Kept.refl _ | apply Kept.alloc | apply Kept.drew | apply kept_add | apply Kept.ext))⟩
  case round =>
    obtain ⟨k, hk, rfl, z, rfl⟩ := hrel
    by_cases hlt : k < xs.length
    · obtain ⟨g, off, rfl, hg, h1⟩ := hx k hlt
      have ht := tab_get (n := xs.length) (cpF xs k) hlt
      have g1 : g < w.heap.size + 1 := by omega
      have g2 : g < w.heap.size + 1 + z.os.length := by omega
      have hst : Hid (tab xs.length (upd (cpF xs k) k (ix xs k)) = tab xs.length (cpF xs (k + 1))) := hid (tab_congr fun i hi => by
        unfold upd cpF
        by_cases h1 : i = k
        · subst h1; simp
        · rw [if_neg h1]
          by_cases h2 : i < k
          · rw [if_pos h2, if_pos (by omega)]
          · rw [if_neg h2, if_neg (by omega)])
      go_wp2
      go_roundw
      case rel => exact ⟨k + 1, hlt, by go_num, by rw [tab_set, hst.out]; exact (by (try simp only [ext_ext]); repeat (first | exact Kept.refl _ | apply Kept.alloc | apply Kept.drew | apply kept_add | apply Kept.ext))⟩
      case measure => simp [intOf]; omega
    · obtain rfl : k = xs.length := by omega
      go_wp2
      go_ret
      refine ⟨_, rfl, ?_, (by (try simp only [ext_ext]); repeat (first | exact Kept.refl _ | apply Kept.alloc | apply Kept.drew | apply kept_add | apply Kept.ext))⟩
      have := own_tab2 (w := ext (w.alloc (.cells (tab xs.length (cpF xs xs.length)) 3)) z) (Nat.le_refl w.heap.size) (show xs.length ≤ maxLen by unfold maxLen; omega) ((ext_heap _ _ _ (by simp)).trans (heap_at rfl))
      rw [hce.out] at this
      exact this
/-- A deal's and a game's values. -/
abbrev dv (s n : Int) (a : Value) : Value := .agg #[.int .i64 s, .int .i64 n, a]
abbrev gv (s n : Int) (a b c : Value) : Value := .agg #[.int .i64 s, .int .i64 n, a, b, c]
/-- A row of its own beside blocks that lie before it and change. -/
theorem own_move {V V' : World} {z y : More} {B n len : Nat} {t : TypeId} {v : Value} {cells : List Value} (h : (ext V z).ownsRow B t n v len cells) (hs : V'.heap.size = V.heap.size) (hB : V.heap.size ≤ B) : (ext V' (z.add y)).ownsRow B t n v len cells := by
  rcases h.2 with h0 | ⟨g, cap, cur, h1, hb, h2, h3⟩
  · exact ⟨h.1, .inl h0⟩
  · refine ⟨h.1, .inr ⟨g, cap, cur, h1, hb, ?_, h3⟩⟩
    rw [← ext_ext]
    have hg : g < (ext V' z).heap.size := by
      have := (Array.getElem?_eq_some_iff.1 h2).1
      rw [ext_size] at this ⊢
      omega
    rw [ext_heap _ _ _ hg, ← h2]
    simp only [ext]
    rw [Array.getElem?_append_right (by omega), Array.getElem?_append_right (by omega), hs]
theorem own_here {V V' : World} {z : More} {B n len : Nat} {t : TypeId} {v : Value} {cells : List Value} (h : (ext V z).ownsRow B t n v len cells) (hs : V'.heap.size = V.heap.size) (hB : V.heap.size ≤ B) : (ext V' z).ownsRow B t n v len cells := by
  rcases h.2 with h0 | ⟨g, cap, cur, h1, hb, h2, h3⟩
  · exact ⟨h.1, .inl h0⟩
  · refine ⟨h.1, .inr ⟨g, cap, cur, h1, hb, ?_, h3⟩⟩
    rw [← h2]
    simp only [ext]
    rw [Array.getElem?_append_right (by omega), Array.getElem?_append_right (by omega), hs]
theorem szIntA4S_any' (ao : Option Addr) (n cap : Nat) (left : Int) (hn : n ≤ 9223372036854775807) (h0 : 0 ≤ left) (h1 : left ≤ 1048576) (w : World) :
    Calls Try.prog 7 #[.slice ao n cap, .int .i64 left] w fun e w' => e = .returned (.int .i64 (if (n : Int) ≤ left then left - n else -1)) ∧ w = w' := by
  by_cases h : (n : Int) ≤ left
  all_goals
    go_enter Try.func7, Try.ntmps7
    go_wp2
    go_ret
    exact ⟨ret_of (by simp [h]), rfl⟩
theorem szIntS_any' (ao : Option Addr) (n cap : Nat) (left : Int) (hn : n ≤ 9223372036854775807) (h0 : 0 ≤ left) (h1 : left ≤ 1048576) (w : World) :
    Calls Try.prog 42 #[.slice ao n cap, .int .i64 left] w fun e w' => e = .returned (.int .i64 (if (n : Int) ≤ left then left - n else -1)) ∧ w = w' := by
  by_cases h : (n : Int) ≤ left
  all_goals
    go_enter Try.func42, Try.ntmps42
    go_wp2
    go_ret
    exact ⟨ret_of (by simp [h]), rfl⟩
theorem szDeal_any (s n : Int) (ao : Option Addr) (m cap : Nat) (left : Int) (hn : m ≤ 9223372036854775807) (h0 : 0 ≤ left) (h1 : left ≤ 1048576) (w : World) :
    Calls Try.prog 41 #[dv s n (.slice ao m cap), .int .i64 left] w fun e w' => e = .returned (.int .i64 (if (m : Int) ≤ left then left - m else -1)) ∧ Kept w w' := by
  by_cases h : (m : Int) ≤ left
  all_goals
    have hS := hid (szIntA4S_any' ao m cap left hn h0 h1)
    have h2 : ¬ (left - (m : Int) < 0) ∨ ¬ ((m : Int) ≤ left) := by omega
    go_enter Try.func41, Try.ntmps41
    go_wp2_with (first | (go_at_call 7; refine Calls.mono (hS.out _) ?_; rintro e w' ⟨rfl, rfl⟩))
    go_ret
    exact ⟨ret_of (by simp [h]), (by (try simp only [ext_ext]); repeat (first | exact Kept.refl _ | apply Kept.alloc | apply Kept.drew | apply kept_add | apply Kept.ext))⟩
theorem szGame_any (s n : Int) (lo so wo : Option Addr) (l lc sl sc wl wc : Nat) (h1 : l ≤ 9223372036854775807) (h2 : sl ≤ 9223372036854775807) (h3 : wl ≤ 9223372036854775807) (w : World) :
    Calls Try.prog 16 #[gv s n (.slice lo l lc) (.slice so sl sc) (.slice wo wl wc), .int .i64 1048576] w fun e w' => e = .returned (.int .i64 (if l + sl + wl ≤ 1048576 then 1048576 - l - sl - wl else -1)) ∧ Kept w w' := by
  have hD := hid (szDeal_any s n lo l lc 1048576 h1 (by omega) (by omega))
  by_cases c1 : (l : Int) ≤ 1048576
  · have d1 : ¬ ((1048576 : Int) - (l : Int) < 0) := by omega
    have hS := hid (szIntS_any' so sl sc (1048576 - l) h2 (by omega) (by omega))
    by_cases c2 : (sl : Int) ≤ 1048576 - (l : Int)
    · have d2 : ¬ ((1048576 : Int) - (l : Int) - (sl : Int) < 0) := by omega
      have hW := hid (szIntS_any' wo wl wc (1048576 - l - sl) h3 (by omega) (by omega))
      by_cases c3 : (wl : Int) ≤ 1048576 - (l : Int) - (sl : Int)
      · have d3 : ¬ ((1048576 : Int) - (l : Int) - (sl : Int) - (wl : Int) < 0) := by omega
        have hv : Hid (l + sl + wl ≤ 1048576) := hid (by omega)
        go_enter Try.func16, Try.ntmps16
        go_wp2_with (first | (go_at_call 41; refine Calls.mono (hD.out _) ?_; rintro e w' ⟨rfl, y, rfl⟩))
        (go_at_call 42; refine Calls.mono (hS.out _) ?_; rintro e w' ⟨rfl, rfl⟩)
        go_wp2_with (fail)
        (go_at_call 42; refine Calls.mono (hW.out _) ?_; rintro e w' ⟨rfl, rfl⟩)
        go_wp2_with (fail)
        go_ret
        exact ⟨ret_of (by first | rfl | (rw [if_pos hv.out]; rfl)), (by (try simp only [ext_ext]); repeat (first | exact Kept.refl _ | apply Kept.alloc | apply Kept.drew | apply kept_add | apply Kept.ext))⟩
      · have hv : Hid (¬ l + sl + wl ≤ 1048576) := hid (by omega)
        go_enter Try.func16, Try.ntmps16
        go_wp2_with (first | (go_at_call 41; refine Calls.mono (hD.out _) ?_; rintro e w' ⟨rfl, y, rfl⟩))
        (go_at_call 42; refine Calls.mono (hS.out _) ?_; rintro e w' ⟨rfl, rfl⟩)
        go_wp2_with (fail)
        (go_at_call 42; refine Calls.mono (hW.out _) ?_; rintro e w' ⟨rfl, rfl⟩)
        go_wp2_with (fail)
        go_ret
        exact ⟨ret_of (by first | rfl | (rw [if_neg hv.out]; rfl)), (by (try simp only [ext_ext]); repeat (first | exact Kept.refl _ | apply Kept.alloc | apply Kept.drew | apply kept_add | apply Kept.ext))⟩
    · have hv : Hid (¬ l + sl + wl ≤ 1048576) := hid (by omega)
      go_enter Try.func16, Try.ntmps16
      go_wp2_with (first | (go_at_call 41; refine Calls.mono (hD.out _) ?_; rintro e w' ⟨rfl, y, rfl⟩))
      (go_at_call 42; refine Calls.mono (hS.out _) ?_; rintro e w' ⟨rfl, rfl⟩)
      go_wp2_with (fail)
      go_ret
      exact ⟨ret_of (by first | rfl | (rw [if_neg hv.out]; rfl)), (by (try simp only [ext_ext]); repeat (first | exact Kept.refl _ | apply Kept.alloc | apply Kept.drew | apply kept_add | apply Kept.ext))⟩
  · have hv : Hid (¬ l + sl + wl ≤ 1048576) := hid (by omega)
    go_enter Try.func16, Try.ntmps16
    go_wp2_with (first | (go_at_call 41; refine Calls.mono (hD.out _) ?_; rintro e w' ⟨rfl, y, rfl⟩))
    go_ret
    exact ⟨ret_of (by first | rfl | (rw [if_neg hv.out]; rfl)), (by (try simp only [ext_ext]); repeat (first | exact Kept.refl _ | apply Kept.alloc | apply Kept.drew | apply kept_add | apply Kept.ext))⟩
theorem toDeal_any (s n : Int) (lo : Option Addr) (lc : Nat) (laid : List Card) (w : World) (hx : CardsAt w lo laid) (hl : laid.length ≤ 1048576) :
    Calls Try.prog 46 #[dv s n (.slice lo laid.length lc)] w fun e w' => ∃ lo' lc', e = .returned (dv s n (.slice lo' laid.length lc')) ∧ OwnC w.heap.size w' (.slice lo' laid.length lc') laid ∧ Kept w w' := by
  go_enter Try.func46, Try.ntmps46
  go_wp2_with (first | (go_at_call 9; refine Calls.mono (toIntA4S_any _ _ _ _ (by first | assumption | exact CardsAt.kept (by assumption) (by (try simp only [ext_ext]); repeat (first | exact Kept.refl _ | apply Kept.alloc | apply Kept.drew | apply kept_add | apply Kept.ext))) hl) ?_; rintro e w' ⟨v, rfl, ho, z, rfl⟩; obtain ⟨ao', cap', hv, hx', hcap'⟩ := ho.reads; subst hv))
  refine bodyPost_ret (v := dv s n (.slice ao' laid.length cap')) (by simp [results, Try.results46, go_sem]) rfl ?_
  exact ⟨_, _, rfl, OwnC.mono (own_here ho (by simp) (Nat.le_refl _)) (by simp <;> omega), (by (try simp only [ext_ext]); repeat (first | exact Kept.refl _ | apply Kept.alloc | apply Kept.drew | apply kept_add | apply Kept.ext))⟩
/-- A call hands back a game that lies in memory of its own. -/
def RetG (W : World) (s n : Int) (laid : List Card) (scores wrong : List Int) (e : Ending) (w' : World) : Prop :=
  ∃ lo lc so sc wo wc, e = .returned (gv s n (.slice lo laid.length lc) (.slice so scores.length sc) (.slice wo wrong.length wc)) ∧
    OwnC W.heap.size w' (.slice lo laid.length lc) laid ∧ OwnI W.heap.size w' (.slice so scores.length sc) scores ∧ OwnI W.heap.size w' (.slice wo wrong.length wc) wrong ∧
    (∀ g, (Value.slice lo laid.length lc).ownBlock = some g → (Value.slice so scores.length sc).ownBlock ≠ some g) ∧ (∀ g, (Value.slice lo laid.length lc).ownBlock = some g → (Value.slice wo wrong.length wc).ownBlock ≠ some g) ∧
    (∀ g, (Value.slice so scores.length sc).ownBlock = some g → (Value.slice wo wrong.length wc).ownBlock ≠ some g) ∧ Kept W w'
theorem toGame_any (s n : Int) (lo so wo : Option Addr) (lc sc wc : Nat) (laid : List Card) (scores wrong : List Int) (w : World) (hx : CardsAt w lo laid) (hy : IntsAt w so scores) (hz : IntsAt w wo wrong)
    (hl : laid.length ≤ 1048576) (hl2 : scores.length ≤ 1048576) (hl3 : wrong.length ≤ 1048576) :
    Calls Try.prog 18 #[gv s n (.slice lo laid.length lc) (.slice so scores.length sc) (.slice wo wrong.length wc)] w (RetG w s n laid scores wrong) := by
  go_enter Try.func18, Try.ntmps18
  go_wp2_with (first | (go_at_call 46; refine Calls.mono (toDeal_any s n _ _ _ _ (by first | assumption | exact CardsAt.kept (by assumption) (by (try simp only [ext_ext]); repeat (first | exact Kept.refl _ | apply Kept.alloc | apply Kept.drew | apply kept_add | apply Kept.ext))) hl) ?_; rintro e w' ⟨lo', lc', rfl, ho, z, rfl⟩))
  (go_at_call 47; refine Calls.mono (toIntS_any _ _ _ _ (hy.kept (by (try simp only [ext_ext]); repeat (first | exact Kept.refl _ | apply Kept.alloc | apply Kept.drew | apply kept_add | apply Kept.ext))) hl2) ?_; rintro e w' ⟨v, rfl, ho2, z2, rfl⟩; obtain ⟨so', sc', hv, _, _⟩ := ho2.reads; subst hv)
  go_wp2_with (fail)
  (go_at_call 47; refine Calls.mono (toIntS_any _ _ _ _ (hz.kept (by (try simp only [ext_ext]); repeat (first | exact Kept.refl _ | apply Kept.alloc | apply Kept.drew | apply kept_add | apply Kept.ext))) hl3) ?_; rintro e w' ⟨v, rfl, ho3, z3, rfl⟩; obtain ⟨wo', wc', hv, _, _⟩ := ho3.reads; subst hv)
  go_wp2_with (fail)
  refine bodyPost_ret (v := gv s n (.slice lo' laid.length lc') (.slice so' scores.length sc') (.slice wo' wrong.length wc')) (by simp [results, Try.results18, go_sem]) rfl ?_
  rw [ext_ext] at ho2 ho3
  have l1 := ho.lt
  have l2 := ho2.lt
  have l3 := ho3.lt
  simp only [ext_size, World.alloc, Array.size_push, More.add, List.length_append] at l1 l2 l3
  have m1 := own_move (y := z2) ho rfl (Nat.le_refl _)
  have m1' := own_move (y := z3) (V' := (((w.alloc (Obj.cells #[.int .i64 s, .int .i64 n, .slice lo laid.length lc, .slice so scores.length sc, .slice wo wrong.length wc] 35)).alloc (Obj.cells #[.int .i64 s, .int .i64 n, .slice lo' laid.length lc', .slice so' scores.length sc', .slice wo' wrong.length wc'] 41)).alloc (Obj.cells #[.int .i64 s, .int .i64 n, .slice lo' laid.length lc', .slice so' scores.length sc', .slice wo' wrong.length wc'] 41))) m1 (by simp) (by simp)
  have m2 := own_move (y := z3) (V' := (((w.alloc (Obj.cells #[.int .i64 s, .int .i64 n, .slice lo laid.length lc, .slice so scores.length sc, .slice wo wrong.length wc] 35)).alloc (Obj.cells #[.int .i64 s, .int .i64 n, .slice lo' laid.length lc', .slice so' scores.length sc', .slice wo' wrong.length wc'] 41)).alloc (Obj.cells #[.int .i64 s, .int .i64 n, .slice lo' laid.length lc', .slice so' scores.length sc', .slice wo' wrong.length wc'] 41))) ho2 (by simp) (by simp)
  have m3 := own_here (V' := (((w.alloc (Obj.cells #[.int .i64 s, .int .i64 n, .slice lo laid.length lc, .slice so scores.length sc, .slice wo wrong.length wc] 35)).alloc (Obj.cells #[.int .i64 s, .int .i64 n, .slice lo' laid.length lc', .slice so' scores.length sc', .slice wo' wrong.length wc'] 41)).alloc (Obj.cells #[.int .i64 s, .int .i64 n, .slice lo' laid.length lc', .slice so' scores.length sc', .slice wo' wrong.length wc'] 41))) ho3 (by simp) (by simp)
  refine ⟨_, _, _, _, _, _, rfl, OwnC.mono m1' (by simp <;> omega), OwnI.mono m2 (by simp <;> omega), OwnI.mono m3 (by simp <;> omega), ?_, ?_, ?_, (by (try simp only [ext_ext]); repeat (first | exact Kept.refl _ | apply Kept.alloc | apply Kept.drew | apply kept_add | apply Kept.ext))⟩
  · intro g h h'; have := l1 g h; have := l2 g h'; omega
  · intro g h h'; have := l1 g h; have := l3 g h'; omega
  · intro g h h'; have := l2 g h; have := l3 g h'; omega
theorem eqDeal_any (s n : Int) (lo lo' : Option Addr) (lc lc' B B' : Nat) (laid : List Card) (w : World) (h : OwnC B w (.slice lo laid.length lc) laid) (h' : OwnC B' w (.slice lo' laid.length lc') laid) (hl : laid.length ≤ 1048576) :
    Calls Try.prog 54 #[dv s n (.slice lo laid.length lc), dv s n (.slice lo' laid.length lc')] w fun e w' => e = .returned (.bool true) ∧ Kept w w' := by
  have hE := hid (fun w' (hk : Kept w w') => eqC_any _ _ B B' laid w' (h.kept hk) (h'.kept hk) hl)
  go_enter Try.func54, Try.ntmps54
  go_wp2_with (first | (go_at_call 11; refine Calls.mono (hE.out _ ((by (try simp only [ext_ext]); repeat (first | exact Kept.refl _ | apply Kept.alloc | apply Kept.drew | apply kept_add | apply Kept.ext)))) ?_; rintro e w' ⟨rfl, y, rfl⟩))
  go_ret
  exact ⟨rfl, (by (try simp only [ext_ext]); repeat (first | exact Kept.refl _ | apply Kept.alloc | apply Kept.drew | apply kept_add | apply Kept.ext))⟩
theorem eqGame_any (s n : Int) (lo lo' so so' wo wo' : Option Addr) (lc lc' sc sc' wc wc' B B' : Nat) (laid : List Card) (scores wrong : List Int) (w : World) (h : OwnC B w (.slice lo laid.length lc) laid) (h' : OwnC B' w (.slice lo' laid.length lc') laid)
    (hs : OwnI B w (.slice so scores.length sc) scores) (hs' : OwnI B' w (.slice so' scores.length sc') scores) (hw : OwnI B w (.slice wo wrong.length wc) wrong) (hw' : OwnI B' w (.slice wo' wrong.length wc') wrong)
    (hl : laid.length ≤ 1048576) (hl2 : scores.length ≤ 1048576) (hl3 : wrong.length ≤ 1048576) :
    Calls Try.prog 21 #[gv s n (.slice lo laid.length lc) (.slice so scores.length sc) (.slice wo wrong.length wc), gv s n (.slice lo' laid.length lc') (.slice so' scores.length sc') (.slice wo' wrong.length wc')] w fun e w' => e = .returned (.bool true) ∧ Kept w w' := by
  have hD := hid (fun w' (hk : Kept w w') => eqDeal_any s n lo lo' lc lc' B B' laid w' (h.kept hk) (h'.kept hk) hl)
  have hS := hid (fun w' (hk : Kept w w') => eqI_any _ _ B B' scores w' (hs.kept hk) (hs'.kept hk) hl2)
  have hW := hid (fun w' (hk : Kept w w') => eqI_any _ _ B B' wrong w' (hw.kept hk) (hw'.kept hk) hl3)
  go_enter Try.func21, Try.ntmps21
  go_wp2_with (first | (go_at_call 54; refine Calls.mono (hD.out _ ((by (try simp only [ext_ext]); repeat (first | exact Kept.refl _ | apply Kept.alloc | apply Kept.drew | apply kept_add | apply Kept.ext)))) ?_; rintro e w' ⟨rfl, y, rfl⟩))
  (go_at_call 20; refine Calls.mono (hS.out _ ((by (try simp only [ext_ext]); repeat (first | exact Kept.refl _ | apply Kept.alloc | apply Kept.drew | apply kept_add | apply Kept.ext)))) ?_; rintro e w' ⟨rfl, y2, rfl⟩)
  go_wp2_with (fail)
  (go_at_call 20; refine Calls.mono (hW.out _ ((by (try simp only [ext_ext]); repeat (first | exact Kept.refl _ | apply Kept.alloc | apply Kept.drew | apply kept_add | apply Kept.ext)))) ?_; rintro e w' ⟨rfl, y3, rfl⟩)
  go_wp2_with (fail)
  go_ret
  exact ⟨rfl, (by (try simp only [ext_ext]); repeat (first | exact Kept.refl _ | apply Kept.alloc | apply Kept.drew | apply kept_add | apply Kept.ext))⟩
end Go.Proofs.Ytenmnipgnjaheaa
