/- Walk: the law of LeftCards. -/
import Derived.Test.YtifkjbihmmdnbaaT33
import Derived.Test.YtifkjbihmmdnbaaT25
import Derived.Test.YtifkjbihmmdnbaaT28
import Derived.Test.YtifkjbihmmdnbaaR2
namespace Go.Proofs.Ytifkjbihmmdnbaa
open Go.RowKit
/-- The cards in no line of a list. -/
def leftK (xs : List Card) (ls : List Ln) : Nat → List Card
  | 0 => []
  | k + 1 => if ls.any (hasPl (k : Int)) = true then leftK xs ls k else leftK xs ls k ++ [cx xs k]
theorem leftK_yes {xs : List Card} {ls : List Ln} {k : Nat} (h : ls.any (hasPl (k : Int)) = true) : leftK xs ls (k + 1) = leftK xs ls k := by rw [leftK, if_pos h]
theorem leftK_no {xs : List Card} {ls : List Ln} {k : Nat} (h : ls.any (hasPl (k : Int)) = false) : leftK xs ls (k + 1) = leftK xs ls k ++ [cx xs k] := by rw [leftK, if_neg (by simp [h])]
theorem leftK_len (xs : List Card) (ls : List Ln) : ∀ k, (leftK xs ls k).length ≤ k
  | 0 => Nat.le_refl _
  | k + 1 => by
    have := leftK_len xs ls k
    unfold leftK
    split
    · omega
    · rw [List.length_append]; simp only [List.length_singleton]; omega
theorem filter_any {p : Ln → Bool} : ∀ {ls : List Ln}, ls.filter p = [] ↔ ls.any p = false
  | [] => by simp
  | x :: ls => by
    cases h : p x <;> simp [h]
theorem left1_any (B : Nat) (i : Int) (l : Ln) (w : World) (hB : B < w.heap.size) (hc : w.cell? ⟨B, 0, none⟩ = some (.int .i64 i)) :
    Calls Try.prog 50 #[l.v, .pointer (some ⟨B, 0, none⟩)] w fun e w' => e = .returned (.bool (hasPl i l)) ∧ Kept w w' := by
  have hct := hid (fun (W : World) (x : More) (g cap0 : Nat) (hi : IntsAt W (some ⟨g, 0, none⟩) [l.a, l.b, l.c]) => (show Calls Try.prog 51 #[.slice (some ⟨g, 0, none⟩) 3 cap0, .int .i64 i] (ext W x) fun e w' => e = .returned (.bool (hasPl i l)) ∧ Kept (ext W x) w' from by
        have := containsIntsN (some ⟨g, 0, none⟩) cap0 3 _ i (ext W x) (hi.kept ⟨x, rfl⟩) rfl (by omega)
        simpa [hasPl, Bool.or_assoc] using this))
  go_enter Try.func50, Try.ntmps50
  go_wp2_with (first | (refine wp_region_ext (by kernel_rfl) (by kernel_rfl) ?_; (repeat (go_big_quiet_step (((go_at_call 51; first | exact ext_call (hct.out _ _ _ _ (intsAt_block (heap_at (by simp)))) | exact ext_call2 (hct.out _ _ _ _ (intsAt_block (heap_at (by simp))))))))); refine wpQuiet_end fun z => ?_))
  go_ret
  exact ⟨rfl, (by (try simp only [ext_ext]); repeat (first | exact Kept.refl _ | apply Kept.alloc | apply Kept.drew | apply kept_add | apply Kept.ext))⟩
theorem indexLeft_any (B : Nat) (i : Int) (ao : Option Addr) (cap : Nat) (ls : List Ln) (w : World) (hB : B < w.heap.size) (hc : w.cell? ⟨B, 0, none⟩ = some (.int .i64 i)) (hx : LinesAt w ao ls) (hl : ls.length ≤ 1048576) :
    Calls Try.prog 69 #[.slice ao ls.length cap, .func (.func 50) #[] #[.pointer (some ⟨B, 0, none⟩)]] w fun e w' => e = .returned (.int .i64 (idxOf (hasPl i) ls)) ∧ Kept w w' := by
  have hcl := hid (fun w' (hk : Kept w w') l => left1_any B i l w' (Nat.lt_of_lt_of_le hB hk.below.size) ((hk.below.cell (p := ⟨_, _, none⟩) hB).trans hc))
  clear hc
  go_enter Try.func69, Try.ntmps69
  go_wp2
  go_loopw [8] (fun i' wr => ∃ k : Nat, k ≤ ls.length ∧ i' = .int .i64 k ∧ (∀ j, j < k → hasPl i (lx ls j) = false) ∧ Kept w wr) (fun i _ => ls.length - (intOf i).toNat)
  case atStart => exact ⟨0, Nat.zero_le _, rfl, fun j hj => absurd hj (Nat.not_lt_zero _), (by (try simp only [ext_ext]); repeat (first | exact Kept.refl _ | apply Kept.alloc | apply Kept.drew | apply kept_add | apply Kept.ext))⟩
  case round =>
    obtain ⟨k, hk, rfl, hn, z, rfl⟩ := hrel
    have hnH := hid hn
    clear hn
    by_cases hlt : k < ls.length
    · obtain ⟨g, off, rfl, hg, h1, h2, h3⟩ := hx k hlt
      go_wp2_with (first | (go_at_call 50; refine Calls.mono (hcl.out _ ((by (try simp only [ext_ext]); repeat (first | exact Kept.refl _ | apply Kept.alloc | apply Kept.drew | apply kept_add | apply Kept.ext))) (lx ls k)) ?_; rintro e w' ⟨rfl, y, rfl⟩))
      · rename_i h
        go_ret
        exact ⟨ret_of (by rw [idxOf_some (d := ⟨0, 0, 0⟩) hlt (show hasPl i (lx ls k) = true by simpa using h) hnH.out]; rfl), (by (try simp only [ext_ext]); repeat (first | exact Kept.refl _ | apply Kept.alloc | apply Kept.drew | apply kept_add | apply Kept.ext))⟩
      · rename_i h
        go_roundw
        case rel =>
          refine ⟨k + 1, hlt, by go_num, fun j hj => ?_, (by (try simp only [ext_ext]); repeat (first | exact Kept.refl _ | apply Kept.alloc | apply Kept.drew | apply kept_add | apply Kept.ext))⟩
          rcases Nat.lt_or_eq_of_le (Nat.le_of_lt_succ hj) with h' | rfl
          · exact hnH.out j h'
          · simpa using h
        case measure => simp [intOf]; omega
    · go_wp2
      go_ret
      exact ⟨ret_of (by rw [idxOf_none (d := ⟨0, 0, 0⟩) fun j hj => hnH.out j (by omega)]; rfl), (by (try simp only [ext_ext]); repeat (first | exact Kept.refl _ | apply Kept.alloc | apply Kept.drew | apply kept_add | apply Kept.ext))⟩
theorem containsLeft_any (B : Nat) (i : Int) (ao : Option Addr) (cap : Nat) (ls : List Ln) (w : World) (hB : B < w.heap.size) (hc : w.cell? ⟨B, 0, none⟩ = some (.int .i64 i)) (hx : LinesAt w ao ls) (hl : ls.length ≤ 1048576) :
    Calls Try.prog 49 #[.slice ao ls.length cap, .func (.func 50) #[] #[.pointer (some ⟨B, 0, none⟩)]] w fun e w' => e = .returned (.bool (ls.any (hasPl i))) ∧ Kept w w' := by
  have hi := hid (indexLeft_any B i ao cap ls w hB hc hx hl)
  go_enter Try.func49, Try.ntmps49
  go_wp2_with (first | (go_at_call 69; refine Calls.mono (hi.out) ?_; rintro e w' ⟨rfl, y, rfl⟩))
  go_ret
  exact ⟨ret_of (congrArg Value.bool (idxOf_any _ ls)), (by (try simp only [ext_ext]); repeat (first | exact Kept.refl _ | apply Kept.alloc | apply Kept.drew | apply kept_add | apply Kept.ext))⟩
def canLeft (xs : List Card) (ls : List Ln) : Bool := isHand xs && isPick (linesC xs) ls
theorem sLeftCards_no (ao bo : Option Addr) (cap cb : Nat) (xs : List Card) (ls : List Ln) (w : World) (hx : CardsAt w ao xs) (hn : xs.length ≤ 1048576) (hy : LinesAt w bo ls) (hl : ls.length ≤ 1048576) (hcap : ls.length ≤ cb) (h : canLeft xs ls = false) :
    Calls Try.prog 28 #[.slice ao xs.length cap, .slice bo ls.length cb] w (RetCT w false []) := by
  cases hh : isHand xs
  · go_enter Try.func28, Try.ntmps28
    go_wp2_with (first | (go_at_call 43; refine Calls.mono (l2Hand_any _ _ _ _ (by first | assumption | exact CardsAt.kept (by assumption) (by (try simp only [ext_ext]); repeat (first | exact Kept.refl _ | apply Kept.alloc | apply Kept.drew | apply kept_add | apply Kept.ext))) hn) ?_; rintro e w' ⟨rfl, y, rfl⟩))
    refine bodyPost_ret (v := .tuple #[.slice (some ⟨w.heap.size, 0, none⟩) 0 0, .bool false]) (by simp [results, Try.results28, go_sem]) rfl ?_
    exact ⟨_, rfl, ownC_nil (Nat.le_refl _) ((ext_heap _ _ _ (by simp)).trans (heap_at rfl)), (by (try simp only [ext_ext]); repeat (first | exact Kept.refl _ | apply Kept.alloc | apply Kept.drew | apply kept_add | apply Kept.ext))⟩
  · have hp0 := fun w' (hk : Kept w w') => l7Picking_any ao bo cap cb xs ls w' (hx.kept hk) hh (hy.kept hk) hl hcap
    have hq : isPick (linesC xs) ls = false := by simpa [canLeft, hh] using h
    rw [hq] at hp0
    have hp := hid hp0
    clear hp0 hq h
    go_enter Try.func28, Try.ntmps28
    go_wp2_with (first | (go_at_call 43; refine Calls.mono (l2Hand_any _ _ _ _ (by first | assumption | exact CardsAt.kept (by assumption) (by (try simp only [ext_ext]); repeat (first | exact Kept.refl _ | apply Kept.alloc | apply Kept.drew | apply kept_add | apply Kept.ext))) hn) ?_; rintro e w' ⟨rfl, y, rfl⟩) | (go_at_call 44; refine Calls.mono (hp.out _ ((by (try simp only [ext_ext]); repeat (first | exact Kept.refl _ | apply Kept.alloc | apply Kept.drew | apply kept_add | apply Kept.ext)))) ?_; rintro e w' ⟨rfl, y, rfl⟩))
    refine bodyPost_ret (v := .tuple #[.slice (some ⟨w.heap.size, 0, none⟩) 0 0, .bool false]) (by simp [results, Try.results28, go_sem]) rfl ?_
    exact ⟨_, rfl, ownC_nil (Nat.le_refl _) ((ext_heap _ _ _ (by simp)).trans (heap_at rfl)), (by (try simp only [ext_ext]); repeat (first | exact Kept.refl _ | apply Kept.alloc | apply Kept.drew | apply kept_add | apply Kept.ext))⟩
theorem iLeftCards_no (ao bo : Option Addr) (cap cb : Nat) (xs : List Card) (ls : List Ln) (w : World) (hx : CardsAt w ao xs) (hn : xs.length ≤ 1048576) (hy : LinesAt w bo ls) (hl : ls.length ≤ 1048576) (hcap : ls.length ≤ cb) (h : canLeft xs ls = false) :
    Calls Try.prog 29 #[.slice ao xs.length cap, .slice bo ls.length cb] w (RetCT w false []) := by
  cases hh : isHand xs
  · go_enter Try.func29, Try.ntmps29
    go_wp2_with (first | (go_at_call 46; refine Calls.mono (IsHand_any _ _ _ _ (by first | assumption | exact CardsAt.kept (by assumption) (by (try simp only [ext_ext]); repeat (first | exact Kept.refl _ | apply Kept.alloc | apply Kept.drew | apply kept_add | apply Kept.ext))) hn) ?_; rintro e w' ⟨rfl, y, rfl⟩))
    refine bodyPost_ret (v := .tuple #[.slice none 0 0, .bool false]) (by simp [results, Try.results29, go_sem]) rfl ?_
    exact ⟨_, rfl, ownC_none _ _, (by (try simp only [ext_ext]); repeat (first | exact Kept.refl _ | apply Kept.alloc | apply Kept.drew | apply kept_add | apply Kept.ext))⟩
  · have hp0 := fun w' (hk : Kept w w') => isPicking_any ao bo cap cb xs ls w' (hx.kept hk) hh (hy.kept hk) hl hcap
    have hq : isPick (linesC xs) ls = false := by simpa [canLeft, hh] using h
    rw [hq] at hp0
    have hp := hid hp0
    clear hp0 hq h
    go_enter Try.func29, Try.ntmps29
    go_wp2_with (first | (go_at_call 46; refine Calls.mono (IsHand_any _ _ _ _ (by first | assumption | exact CardsAt.kept (by assumption) (by (try simp only [ext_ext]); repeat (first | exact Kept.refl _ | apply Kept.alloc | apply Kept.drew | apply kept_add | apply Kept.ext))) hn) ?_; rintro e w' ⟨rfl, y, rfl⟩) | (go_at_call 47; refine Calls.mono (hp.out _ ((by (try simp only [ext_ext]); repeat (first | exact Kept.refl _ | apply Kept.alloc | apply Kept.drew | apply kept_add | apply Kept.ext)))) ?_; rintro e w' ⟨rfl, y, rfl⟩))
    refine bodyPost_ret (v := .tuple #[.slice none 0 0, .bool false]) (by simp [results, Try.results29, go_sem]) rfl ?_
    exact ⟨_, rfl, ownC_none _ _, (by (try simp only [ext_ext]); repeat (first | exact Kept.refl _ | apply Kept.alloc | apply Kept.drew | apply kept_add | apply Kept.ext))⟩
theorem sLeftCards_yes (ao bo : Option Addr) (cap cb : Nat) (xs : List Card) (ls : List Ln) (w : World) (hx : CardsAt w ao xs) (hy : LinesAt w bo ls) (hl : ls.length ≤ 1048576) (hcap : ls.length ≤ cb) (h : canLeft xs ls = true) :
    Calls Try.prog 28 #[.slice ao xs.length cap, .slice bo ls.length cb] w (RetCT w true (leftK xs ls xs.length)) := by
  obtain ⟨hh, hq⟩ : isHand xs = true ∧ isPick (linesC xs) ls = true := by simpa [canLeft] using h
  have hl27 := (isHand_of hh).1
  have hp0 := fun w' (hk : Kept w w') => l7Picking_any ao bo cap cb xs ls w' (hx.kept hk) hh (hy.kept hk) hl hcap
  rw [hq] at hp0
  have hp := hid hp0
  clear hp0 hq h
  go_enter Try.func28, Try.ntmps28
  go_wp2_with (first | (go_at_call 43; refine Calls.mono (l2Hand_any _ _ _ _ (by first | assumption | exact CardsAt.kept (by assumption) (by (try simp only [ext_ext]); repeat (first | exact Kept.refl _ | apply Kept.alloc | apply Kept.drew | apply kept_add | apply Kept.ext))) (by omega)) ?_; rintro e w' ⟨rfl, y, rfl⟩) | (go_at_call 44; refine Calls.mono (hp.out _ ((by (try simp only [ext_ext]); repeat (first | exact Kept.refl _ | apply Kept.alloc | apply Kept.drew | apply kept_add | apply Kept.ext)))) ?_; rintro e w' ⟨rfl, y, rfl⟩))
  go_loopw [7, 6] (fun i v wr => ∃ n : Nat, n ≤ xs.length ∧ i = .int .i64 n ∧ OwnC w.heap.size wr v (leftK xs ls n) ∧ Kept w wr) (fun i _ _ => xs.length - (intOf i).toNat)
  case atStart => exact ⟨0, Nat.zero_le _, rfl, show OwnC _ _ _ [] from ownC_nil (Nat.le_refl _) ((ext_heap _ _ _ (by simp)).trans (heap_at rfl)), (by (try simp only [ext_ext]); repeat (first | exact Kept.refl _ | apply Kept.alloc | apply Kept.drew | apply kept_add | apply Kept.ext))⟩
  case round wr =>
    obtain ⟨n, hn, rfl, hown, hkw⟩ := hrel
    obtain ⟨ao4, cap4, hv4, hx4, _⟩ := hown.reads
    clear hx4
    subst hv4
    have hownH := hid hown
    have hkwH := hid hkw
    have hfl := hid (Nat.le_trans (leftK_len xs ls n) (show n ≤ 1048576 by omega))
    have hws := hkw.below.size
    by_cases hlt : n < xs.length
    · obtain ⟨gl, ol, rfl, hgl, q1, q2, q3, q4⟩ := (hx.kept hkw) n hlt
      have hat := fun w' (hk : Kept wr w') => l7At_any bo cb ls (n : Int) w' ((hy.kept hkw).kept hk) hl
      have hnx : ∀ m, ls.filter (hasPl (n : Int)) = m → leftK xs ls (n + 1) = if m = [] then leftK xs ls n ++ [cx xs n] else leftK xs ls n := by
        intro m hm
        subst hm
        by_cases hf : ls.filter (hasPl (n : Int)) = []
        · rw [if_pos hf, leftK_no (filter_any.1 hf)]
        · rw [if_neg hf, leftK_yes (by cases ha : ls.any (hasPl (n : Int)) with | true => rfl | false => exact absurd (filter_any.2 ha) hf)]
      generalize hm : ls.filter (hasPl (n : Int)) = m at hat hnx
      have hnx1 := hnx _ rfl
      have hml : m.length ≤ 1048576 := by rw [← hm]; exact Nat.le_trans (List.length_filter_le _ _) hl
      clear hown hm hnx hkw
      cases m with
      | nil =>
        rw [if_pos rfl] at hnx1
        have hnH := hid hnx1
        have hatH := hid hat
        clear hat hnx1
        go_wp2_with (first | (go_at_call 48; refine Calls.mono (hatH.out _ ((by (try simp only [ext_ext]); repeat (first | exact Kept.refl _ | apply Kept.alloc | apply Kept.drew | apply kept_add | apply Kept.ext)))) ?_; rintro e w' ⟨v, rfl, ho, z, rfl⟩; obtain ⟨ao', cap', rfl, hx', hcap'⟩ := ho.reads; clear ho) | (at_builtin; refine wpList_append_card_at rfl _ _ rfl w w.heap.size _ _ rfl (hownH.out.kept (by (try simp only [ext_ext]); repeat (first | exact Kept.refl _ | apply Kept.alloc | apply Kept.drew | apply kept_add | apply Kept.ext))) (hkwH.out.trans (by (try simp only [ext_ext]); repeat (first | exact Kept.refl _ | apply Kept.alloc | apply Kept.drew | apply kept_add | apply Kept.ext))) (Nat.le_refl _) (by simp; omega) _ _ (cx xs n) rfl ?_ hfl.out ?_; rotate_left; intro v' w' hown' hkw' hgr' hat'))
        case refine_1 => exact cardCells_new _ (by simp)
        go_roundw
        case rel => exact ⟨n + 1, hlt, by go_num, by rw [hnH.out]; exact hown', hkw'⟩
        case measure => simp [intOf]; omega
      | cons y m =>
        rw [if_neg (by simp)] at hnx1
        have hnH := hid hnx1
        have hatH := hid hat
        have hlen : decide (((y :: m).length : Int) = 0) = false := by simp; omega
        clear hat hnx1
        go_wp2_with (first | (go_at_call 48; refine Calls.mono (hatH.out _ ((by (try simp only [ext_ext]); repeat (first | exact Kept.refl _ | apply Kept.alloc | apply Kept.drew | apply kept_add | apply Kept.ext)))) ?_; rintro e w' ⟨v, rfl, ho, z, rfl⟩; obtain ⟨ao', cap', rfl, hx', hcap'⟩ := ho.reads; clear ho))
        go_roundw
        case rel => exact ⟨n + 1, hlt, by go_num, by rw [hnH.out]; exact hownH.out.kept (by (try simp only [ext_ext]); repeat (first | exact Kept.refl _ | apply Kept.alloc | apply Kept.drew | apply kept_add | apply Kept.ext)), hkwH.out.trans (by (try simp only [ext_ext]); repeat (first | exact Kept.refl _ | apply Kept.alloc | apply Kept.drew | apply kept_add | apply Kept.ext))⟩
        case measure => simp [intOf]; omega
    · obtain rfl : n = xs.length := by omega
      go_wp2
      refine bodyPost_ret (v := .tuple #[.slice ao4 (leftK xs ls xs.length).length cap4, .bool true]) (by simp [results, Try.results28, go_sem]) rfl ?_
      exact ⟨_, rfl, hownH.out.kept (by (try simp only [ext_ext]); repeat (first | exact Kept.refl _ | apply Kept.alloc | apply Kept.drew | apply kept_add | apply Kept.ext)), hkwH.out.trans (by (try simp only [ext_ext]); repeat (first | exact Kept.refl _ | apply Kept.alloc | apply Kept.drew | apply kept_add | apply Kept.ext))⟩
theorem iLeftCards_yes (ao bo : Option Addr) (cap cb : Nat) (xs : List Card) (ls : List Ln) (w : World) (hx : CardsAt w ao xs) (hy : LinesAt w bo ls) (hl : ls.length ≤ 1048576) (hcap : ls.length ≤ cb) (h : canLeft xs ls = true) :
    Calls Try.prog 29 #[.slice ao xs.length cap, .slice bo ls.length cb] w (RetCT w true (leftK xs ls xs.length)) := by
  obtain ⟨hh, hq⟩ : isHand xs = true ∧ isPick (linesC xs) ls = true := by simpa [canLeft] using h
  have hl27 := (isHand_of hh).1
  have hp0 := fun w' (hk : Kept w w') => isPicking_any ao bo cap cb xs ls w' (hx.kept hk) hh (hy.kept hk) hl hcap
  rw [hq] at hp0
  have hp := hid hp0
  clear hp0 hq h
  go_enter Try.func29, Try.ntmps29
  go_wp2_with (first | (go_at_call 46; refine Calls.mono (IsHand_any _ _ _ _ (by first | assumption | exact CardsAt.kept (by assumption) (by (try simp only [ext_ext]); repeat (first | exact Kept.refl _ | apply Kept.alloc | apply Kept.drew | apply kept_add | apply Kept.ext))) (by omega)) ?_; rintro e w' ⟨rfl, y, rfl⟩) | (go_at_call 47; refine Calls.mono (hp.out _ ((by (try simp only [ext_ext]); repeat (first | exact Kept.refl _ | apply Kept.alloc | apply Kept.drew | apply kept_add | apply Kept.ext)))) ?_; rintro e w' ⟨rfl, y, rfl⟩))
  go_loopw [21, 6] (fun i v wr => ∃ n : Nat, n ≤ xs.length ∧ i = .int .i64 n ∧ OwnC w.heap.size wr v (leftK xs ls n) ∧ Kept w wr) (fun i _ _ => xs.length - (intOf i).toNat)
  case atStart => exact ⟨0, Nat.zero_le _, rfl, show OwnC _ _ _ [] from ownC_nil (Nat.le_add_right _ _) (heap_at (by simp)), (by (try simp only [ext_ext]); repeat (first | exact Kept.refl _ | apply Kept.alloc | apply Kept.drew | apply kept_add | apply Kept.ext))⟩
  case round wr =>
    obtain ⟨n, hn, rfl, hown, hkw⟩ := hrel
    obtain ⟨ao4, cap4, hv4, hx4, _⟩ := hown.reads
    clear hx4
    subst hv4
    have hownH := hid hown
    have hkwH := hid hkw
    have hfl := hid (Nat.le_trans (leftK_len xs ls n) (show n ≤ 1048576 by omega))
    have hws := hkw.below.size
    by_cases hlt : n < xs.length
    · obtain ⟨gl, ol, rfl, hgl, q1, q2, q3, q4⟩ := (hx.kept hkw) n hlt
      have hat := fun (B : Nat) w' (hB : B < w'.heap.size) (hc : w'.cell? ⟨B, 0, none⟩ = some (.int .i64 (n : Int))) (hk : Kept wr w') => containsLeft_any B (n : Int) bo cb ls w' hB hc ((hy.kept hkw).kept hk) hl
      clear hown hkw
      cases hp1 : ls.any (hasPl (n : Int))
      all_goals
        have hpH := hid hp1
        rw [hp1] at hat
        have hatH := hid hat
        clear hat hp1
        go_wp2_with (first | (go_at_call 49; refine Calls.mono (hatH.out _ _ (by simp <;> omega) (by simp [go_sem]) ((by (try simp only [ext_ext]); repeat (first | exact Kept.refl _ | apply Kept.alloc | apply Kept.drew | apply kept_add | apply Kept.ext)))) ?_; rintro e w' ⟨rfl, y, rfl⟩) | (at_builtin; refine wpList_append_card_at rfl _ _ rfl w w.heap.size _ _ rfl (hownH.out.kept (by (try simp only [ext_ext]); repeat (first | exact Kept.refl _ | apply Kept.alloc | apply Kept.drew | apply kept_add | apply Kept.ext))) (hkwH.out.trans (by (try simp only [ext_ext]); repeat (first | exact Kept.refl _ | apply Kept.alloc | apply Kept.drew | apply kept_add | apply Kept.ext))) (Nat.le_refl _) (by simp; omega) _ _ (cx xs n) rfl ?_ hfl.out ?_; rotate_left; intro v' w' hown' hkw' hgr' hat'))
      case refine_1 => exact cardCells_new _ (by simp)
      all_goals
        go_roundw
        case rel =>
          first
          | exact ⟨n + 1, hlt, by go_num, by rw [leftK_no hpH.out]; exact hown', hkw'⟩
          | exact ⟨n + 1, hlt, by go_num, by rw [leftK_yes hpH.out]; exact hownH.out.kept (by (try simp only [ext_ext]); repeat (first | exact Kept.refl _ | apply Kept.alloc | apply Kept.drew | apply kept_add | apply Kept.ext)), hkwH.out.trans (by (try simp only [ext_ext]); repeat (first | exact Kept.refl _ | apply Kept.alloc | apply Kept.drew | apply kept_add | apply Kept.ext))⟩
        case measure => simp [intOf]; omega
    · obtain rfl : n = xs.length := by omega
      go_wp2
      refine bodyPost_ret (v := .tuple #[.slice ao4 (leftK xs ls xs.length).length cap4, .bool true]) (by simp [results, Try.results29, go_sem]) rfl ?_
      exact ⟨_, rfl, hownH.out.kept (by (try simp only [ext_ext]); repeat (first | exact Kept.refl _ | apply Kept.alloc | apply Kept.drew | apply kept_add | apply Kept.ext)), hkwH.out.trans (by (try simp only [ext_ext]); repeat (first | exact Kept.refl _ | apply Kept.alloc | apply Kept.drew | apply kept_add | apply Kept.ext))⟩
theorem markIntA3S_big (v : Value) (n : Nat) (cells : List Value) (B : Nat) (k : Int) (w : World) (h : w.ownsRow B 50 3 v n cells) (hn : n ≤ 1048576) (hk : 0 ≤ k) (hk' : k ≤ 100000000) :
    Calls Try.prog 22 #[v, .int .i64 k] w fun e w' => e = .returned (.int .i64 (k + n * 3)) ∧ w'.ownsRow B 50 3 v n (marks k (n * 3)) ∧ w.grownBy w' v.ownBlock := by
  rcases h.2 with ⟨rfl, h0⟩ | ⟨g, cap, cur, rfl, hb, hg, hcap, hmax, hs, ht⟩
  · subst h0
    go_enter Try.func22, Try.ntmps22
    go_wp2
    refine wp_loop_rounds 1 ?_
    rw [rounds_succ]
    go_wp2
    go_ret
    exact ⟨ret_of (by simp), ⟨by simp [marks], .inl ⟨rfl, rfl⟩⟩, grown_refl _ _⟩
  · have hgs := (Array.getElem?_eq_some_iff.1 hg).1
    have hown := hid (show ∀ wr : World, wr.heap[g]? = some (.cells (mkd k cur (n * 3)) 50) → wr.ownsRow B 50 3 (.slice (some ⟨g, 0, none⟩) n cap) n (marks k (n * 3)) from fun wr hw => ⟨by simp [marks], .inr ⟨g, cap, _, rfl, hb, hw, hcap, hmax, by rw [mkd_size _ _ (by rw [hs]; exact Nat.mul_le_mul_right _ hcap), hs], mkd_take _ _ _⟩⟩)
    have hsH := hid (show n * 3 ≤ cur.size by rw [hs]; exact Nat.mul_le_mul_right _ hcap)
    clear hs ht hmax hcap
    go_enter Try.func22, Try.ntmps22
    go_wp2
    go_loopw [5, 1] (fun i s wr => ∃ m : Nat, m ≤ n ∧ i = .int .i64 m ∧ s = .int .i64 (k + (m * 3 : Nat)) ∧ wr.heap[g]? = some (.cells (mkd k cur (m * 3)) 50) ∧ w.grownBy wr (some g)) (fun i _ _ => n - (intOf i).toNat)
    case atStart => exact ⟨0, Nat.zero_le _, rfl, by simp, by rw [Nat.zero_mul, mkd_zero]; exact hg, grown_refl _ _⟩
    case round wr =>
      obtain ⟨m, hm, rfl, rfl, hw, hgr⟩ := hrel
      by_cases hlt : m < n
      · have hwH := hid hw
        have hgrH := hid hgr
        clear hw hgr
        go_wp2
        go_loopw [6, 1] (fun j s wr => ∃ q : Nat, q ≤ 3 ∧ j = .int .i64 q ∧ s = .int .i64 (k + (m * 3 + q : Nat)) ∧ wr.heap[g]? = some (.cells (mkd k cur (m * 3 + q)) 50) ∧ w.grownBy wr (some g)) (fun j _ _ => 3 - (intOf j).toNat)
        case atStart => exact ⟨0, Nat.zero_le _, rfl, by simp, hwH.out, hgrH.out⟩
        case round wr =>
          obtain ⟨q, hq, rfl, rfl, hw, hgr⟩ := hrel
          have hwH := hid hw
          have hgrH := hid hgr
          by_cases hlt2 : q < 3
          · have hlen := hid (show m * 3 + q < cur.size by have := hsH.out; omega)
            obtain ⟨v0, hv0⟩ := mkd_some k (cur := cur) (t := m * 3 + q) hlen.out
            have hc := (cell_of_row _ g (m * 3 + q) _ _ (0, 0) hw).trans hv0
            have hf := frozen_of_row _ g (m * 3 + q) _ _ hw
            have hset := hid (mkd_set k (cur := cur) (t := m * 3 + q) hlen.out)
            clear hw hgr hv0
            go_wp2
            go_roundw
            case rel =>
              refine ⟨q + 1, by omega, by go_num, by go_num, ?_, ?_⟩
              · rw [heap_setCell_same _ _ _ _ _ _ hwH.out]
                first | exact congrArg (fun c => some (Obj.cells c 50 (0, 0))) hset.out
              · exact grown_setCell hgrH.out (p := ⟨g, _, none⟩) rfl _
            case measure => simp [intOf]; omega
          · obtain rfl : q = 3 := by omega
            clear hw hgr
            go_wp2
            go_roundw
            case rel => exact ⟨m + 1, hlt, by go_num, by go_num, by rw [Nat.add_mul, Nat.one_mul]; exact hwH.out, hgrH.out⟩
            case measure => simp [intOf]; omega
      · obtain rfl : m = n := by omega
        go_wp2
        go_ret
        exact ⟨ret_of (by simp), hown.out _ hw, hgr⟩
theorem left_len (xs : List Card) (ls : List Ln) (h : xs.length ≤ 1048576) : (leftK xs ls xs.length).length ≤ 1048576 := Nat.le_trans (leftK_len xs ls xs.length) h
set_option maxHeartbeats 1000000 in
theorem walk_FnExactLeftCards (ao : Option Addr) (xs : List Card) (cap : Nat) {w : World} (hx : CardsAt w ao xs) (hl : xs.length ≤ maxLen) (bo : Option Addr) (ls : List Ln) (cb : Nat) (hy : LinesAt w bo ls) (hl2 : ls.length ≤ maxLen) (_ : World) :
    Calls Try.prog 8 #[.slice ao xs.length cap, .slice bo ls.length cb] w fun e w' => e = .returned (.bool true) ∧ Kept w w' := by
  have hl' : xs.length ≤ 9223372036854775807 := by unfold maxLen at hl; omega
  have hl2' : ls.length ≤ 9223372036854775807 := by unfold maxLen at hl2; omega
  by_cases hn : xs.length ≤ 1048576
  · have hleft : (0 : Int) ≤ 1048576 - (xs.length : Int) := by omega
    have hleft2 : (1048576 : Int) - (xs.length : Int) ≤ 1048576 := by omega
    by_cases hn2 : (ls.length : Int) ≤ 1048576 - (xs.length : Int)
    · have hm : ls.length ≤ 1048576 := by omega
      have hlo : ¬ ((1048576 : Int) - (xs.length : Int) < 0) := by omega
      have hlo2 : ¬ ((1048576 : Int) - (xs.length : Int) - (ls.length : Int) < 0) := by omega
      obtain ⟨ok, cs, hS, hI, hll⟩ : ∃ ok cs, (∀ ao bo cap cb w, CardsAt w ao xs → LinesAt w bo ls → ls.length ≤ cb → Calls Try.prog 28 #[.slice ao xs.length cap, .slice bo ls.length cb] w (RetCT w ok cs)) ∧ (∀ ao bo cap cb w, CardsAt w ao xs → LinesAt w bo ls → ls.length ≤ cb → Calls Try.prog 29 #[.slice ao xs.length cap, .slice bo ls.length cb] w (RetCT w ok cs)) ∧ cs.length ≤ 1048576 := by
        cases hg : canLeft xs ls with
        | false => exact ⟨false, [], fun _ _ _ _ _ hx hy hc => sLeftCards_no _ _ _ _ _ _ _ hx hn hy hm hc hg, fun _ _ _ _ _ hx hy hc => iLeftCards_no _ _ _ _ _ _ _ hx hn hy hm hc hg, by simp⟩
        | true => exact ⟨true, leftK xs ls xs.length, fun _ _ _ _ _ hx hy hc => sLeftCards_yes _ _ _ _ _ _ _ hx hy hm hc hg, fun _ _ _ _ _ hx hy hc => iLeftCards_yes _ _ _ _ _ _ _ hx hy hm hc hg, left_len _ _ hn⟩
      have p0 : (0 : Int) ≤ 1 + (xs.length : Int) * 4 := by omega
      have p0' : (1 : Int) + (xs.length : Int) * 4 ≤ 100000000 := by omega
      have p1 : ¬ ((1 : Int) + (xs.length : Int) * 4 + (ls.length : Int) * 3 < 0) := by omega
      have p2 : ¬ ((1 : Int) + (cs.length : Int) * 4 < 0) := by omega
      go_enter Try.func8, Try.ntmps8
      go_wp2_with (first | (go_at_call 9; refine Calls.mono (szIntA4S_any _ _ _ hl' _) ?_; rintro e w' ⟨rfl, rfl⟩) | (go_at_call 24; refine Calls.mono (szIntA3S_any _ _ _ _ hl2' hleft hleft2 _) ?_; rintro e w' ⟨rfl, rfl⟩))
      (go_at_call 11; refine Calls.mono (toIntA4S_any _ _ _ _ hx hn) ?_; rintro e w1 ⟨v1, rfl, ho1, k1⟩)
      obtain ⟨a1, c1, rfl, hx1, hc1⟩ := ho1.reads
      go_wp2_with (fail)
      (go_at_call 26; refine Calls.mono (toIntA3S_any _ _ _ _ (hy.kept k1) hm) ?_; rintro e w2 ⟨v2, rfl, ho2, k2⟩)
      obtain ⟨a2, c2, rfl, hx2, hc2⟩ := ho2.reads
      go_wp2_with (fail)
      (go_at_call 28; refine Calls.mono (hS _ _ _ _ _ (hx1.kept k2) hx2 hc2) ?_; rintro e w3 ⟨v3, rfl, ho3, k3⟩)
      have K3 := k1.trans (k2.trans k3)
      go_wp2_with (fail)
      (go_at_call 11; refine Calls.mono (toIntA4S_any _ _ _ _ (hx.kept K3) hn) ?_; rintro e w4 ⟨v4, rfl, ho4, k4⟩)
      obtain ⟨a4, c4, rfl, hx4, hc4⟩ := ho4.reads
      go_wp2_with (fail)
      (go_at_call 26; refine Calls.mono (toIntA3S_any _ _ _ _ (hy.kept (K3.trans k4)) hm) ?_; rintro e w5 ⟨v5, rfl, ho5, k5⟩)
      obtain ⟨a5, c5, rfl, hx5, hc5⟩ := ho5.reads
      go_wp2_with (fail)
      (go_at_call 29; refine Calls.mono (hI _ _ _ _ _ (hx4.kept k5) hx5 hc5) ?_; rintro e w6 ⟨v6, rfl, ho6, k6⟩)
      have K6 := K3.trans (k4.trans (k5.trans k6))
      -- the four rows apart
      have n64 : ∀ g, v6.ownBlock = some g → (Value.slice a4 xs.length c4).ownBlock ≠ some g := fun g h h' => by have := (ho6.lt g h).1; have := (ho4.lt g h').2; have := k5.below.size; omega
      have n65 : ∀ g, v6.ownBlock = some g → (Value.slice a5 ls.length c5).ownBlock ≠ some g := fun g h h' => by have := (ho6.lt g h).1; have := (ho5.lt g h').2; omega
      have n34 : ∀ g, v3.ownBlock = some g → (Value.slice a4 xs.length c4).ownBlock ≠ some g := fun g h h' => by have := (ho3.lt g h).2; have := (ho4.lt g h').1; omega
      have n35 : ∀ g, v3.ownBlock = some g → (Value.slice a5 ls.length c5).ownBlock ≠ some g := fun g h h' => by have := (ho3.lt g h).2; have := (ho5.lt g h').1; have := k4.below.size; omega
      have n36 : ∀ g, v3.ownBlock = some g → v6.ownBlock ≠ some g := fun g h h' => by have := (ho3.lt g h).2; have := (ho6.lt g h').1; have := k4.below.size; have := k5.below.size; omega
      have n54 : ∀ g, (Value.slice a5 ls.length c5).ownBlock = some g → (Value.slice a4 xs.length c4).ownBlock ≠ some g := fun g h h' => by have := (ho5.lt g h).1; have := (ho4.lt g h').2; omega
      go_wp2_with (fail)
      (go_at_call 13; refine Calls.mono (eqC_any _ _ _ _ _ _ ho6 (((ho3.kept k4).kept k5).kept k6) hll) ?_; rintro e w7 ⟨rfl, k7⟩)
      have K7 := K6.trans k7
      go_wp2_with (fail)
      (go_at_call 11; refine Calls.mono (toIntA4S_any _ _ _ _ (hx.kept K7) hn) ?_; rintro e w8 ⟨v8, rfl, ho8, k8⟩)
      obtain ⟨a8, c8, rfl, hx8, hc8⟩ := ho8.reads
      go_wp2_with (fail)
      (go_at_call 13; refine Calls.mono (eqIntA4S_any _ _ _ _ _ _ _ (hx4.kept (k5.trans (k6.trans (k7.trans k8)))) hx8 hn hn) ?_; rintro e w9 ⟨rfl, k9⟩)
      have K9 := K7.trans (k8.trans k9)
      go_wp2_with (fail)
      (go_at_call 26; refine Calls.mono (toIntA3S_any _ _ _ _ (hy.kept K9) hm) ?_; rintro e w10 ⟨v10, rfl, ho10, k10⟩)
      have k610 := k7.trans (k8.trans (k9.trans k10))
      go_wp2_with (fail)
      (go_at_call 20; refine Calls.mono (eqL_any _ _ _ _ _ _ (ho5.kept (k6.trans k610)) ho10 hm) ?_; rintro e w11 ⟨rfl, k11⟩)
      have K11 := K9.trans (k10.trans k11)
      have k611 := k610.trans k11
      have s3 : w.heap.size ≤ w3.heap.size := K3.below.size
      have s4 : w.heap.size ≤ w4.heap.size := (K3.trans k4).below.size
      have s5 : w.heap.size ≤ w5.heap.size := (K3.trans (k4.trans k5)).below.size
      go_wp2_with (fail)
      (go_at_call 21; refine Calls.mono (markIntA4S_any _ _ _ _ 1 _ (ho4.kept (k5.trans (k6.trans k611))) hn (by decide) (by decide)) ?_; rintro e w12 ⟨rfl, _, g12⟩)
      have ho612 := (ho6.kept k611).grown g12 n64
      have ho312 := (ho3.kept (k4.trans (k5.trans (k6.trans k611)))).grown g12 n34
      have ho512 := (ho5.kept (k6.trans k611)).grown g12 n54
      have K12 : Kept w w12 := K11.grown g12 fun k hk => Nat.le_trans s3 (ho4.lt k hk).1
      go_wp2_with (fail)
      (go_at_call 22; refine Calls.mono (markIntA3S_big _ _ _ _ _ _ ho512 hm p0 p0') ?_; rintro e w13 ⟨rfl, _, g13⟩)
      have ho613 := ho612.grown g13 n65
      have ho313 := ho312.grown g13 n35
      have K13 : Kept w w13 := K12.grown g13 fun k hk => Nat.le_trans s4 (ho5.lt k hk).1
      go_wp2_with (fail)
      (go_at_call 13; refine Calls.mono (eqC_any _ _ _ _ _ _ ho613 ho313 hll) ?_; rintro e w14 ⟨rfl, k14⟩)
      go_wp2_with (fail)
      (go_at_call 21; refine Calls.mono (markIntA4S_any _ _ _ _ 1 _ (ho613.kept k14) hll (by decide) (by decide)) ?_; rintro e w15 ⟨rfl, ho15, g15⟩)
      have K15 : Kept w w15 := (K13.trans k14).grown g15 fun k hk => Nat.le_trans s5 (ho6.lt k hk).1
      have ho315 := (ho313.kept k14).grown g15 n36
      go_wp2_with (fail)
      (go_at_call 30; refine Calls.mono (heldIntA4S_any _ _ _ 1 _ ho15 hll (by decide) (by decide)) ?_; rintro e w16 ⟨rfl, k16⟩)
      go_wp2_with (fail)
      (go_at_call 11; refine Calls.mono (toIntA4S_any _ _ _ _ (hx.kept (K15.trans k16)) hn) ?_; rintro e w17 ⟨v17, rfl, ho17, k17⟩)
      obtain ⟨a17, c17, rfl, hx17, hc17⟩ := ho17.reads
      go_wp2_with (fail)
      (go_at_call 26; refine Calls.mono (toIntA3S_any _ _ _ _ (hy.kept (K15.trans (k16.trans k17))) hm) ?_; rintro e w18 ⟨v18, rfl, ho18, k18⟩)
      obtain ⟨a18, c18, rfl, hx18, hc18⟩ := ho18.reads
      go_wp2_with (fail)
      (go_at_call 29; refine Calls.mono (hI _ _ _ _ _ (hx17.kept k18) hx18 hc18) ?_; rintro e w19 ⟨v19, rfl, ho19, k19⟩)
      have k1619 := k16.trans (k17.trans (k18.trans k19))
      go_wp2_with (fail)
      (go_at_call 13; refine Calls.mono (eqC_any _ _ _ _ _ _ ho19 (ho315.kept k1619) hll) ?_; rintro e w20 ⟨rfl, k20⟩)
      go_wp2_with (fail)
      (go_at_call 30; refine Calls.mono (heldIntA4S_any _ _ _ 1 _ (row_kept ho15 (k1619.trans k20)) hll (by decide) (by decide)) ?_; rintro e w21 ⟨rfl, k21⟩)
      go_wp2_with (fail)
      go_ret
      exact ⟨rfl, K15.trans (k1619.trans (k20.trans k21))⟩
    · have hlo : ¬ ((1048576 : Int) - (xs.length : Int) < 0) := by omega
      go_enter Try.func8, Try.ntmps8
      go_wp2_with (first | (go_at_call 9; refine Calls.mono (szIntA4S_any _ _ _ hl' _) ?_; rintro e w' ⟨rfl, rfl⟩) | (go_at_call 24; refine Calls.mono (szIntA3S_any _ _ _ _ hl2' hleft hleft2 _) ?_; rintro e w' ⟨rfl, rfl⟩))
      go_ret
      exact ⟨rfl, (by (try simp only [ext_ext]); repeat (first | exact Kept.refl _ | apply Kept.alloc | apply Kept.drew | apply kept_add | apply Kept.ext))⟩
  · go_enter Try.func8, Try.ntmps8
    go_wp2_with (first | (go_at_call 9; refine Calls.mono (szIntA4S_any _ _ _ hl' _) ?_; rintro e w' ⟨rfl, rfl⟩))
    go_ret
    exact ⟨rfl, (by (try simp only [ext_ext]); repeat (first | exact Kept.refl _ | apply Kept.alloc | apply Kept.drew | apply kept_add | apply Kept.ext))⟩
end Go.Proofs.Ytifkjbihmmdnbaa
