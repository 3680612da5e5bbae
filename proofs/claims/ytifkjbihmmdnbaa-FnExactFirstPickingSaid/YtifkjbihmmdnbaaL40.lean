/- Walks: the laws of MostDisjoint and FirstPicking. -/
import Derived.Test.YtifkjbihmmdnbaaL35
import Derived.Test.YtifkjbihmmdnbaaT45
import Derived.Test.YtifkjbihmmdnbaaT46
import Derived.Test.YtifkjbihmmdnbaaT18
namespace Go.Proofs.Ytifkjbihmmdnbaa
open Go.RowKit
theorem sbF_top {xs : List Card} (hc : areC xs) (hd : distC xs) (h15 : xs.length ≤ 15) : (sbF (linesC xs) [] []).length ≤ 35 := sbF_len _ _ _ 35 (by simp) (by have := lines35 hc hd h15; simpa using this)
theorem sMostDisjoint_no (ao : Option Addr) (cap : Nat) (xs : List Card) (w : World) (hx : CardsAt w ao xs) (hl : xs.length ≤ 1048576) (h : partB xs = false) :
    Calls Try.prog 16 #[.slice ao xs.length cap] w fun e w' => e = .returned (.tuple #[.int .i64 0, .bool false]) ∧ Kept w w' := by
  go_enter Try.func16, Try.ntmps16
  go_wp2_with (first | (go_at_call 31; refine Calls.mono (l7Pool_any _ _ _ _ (by first | assumption | exact CardsAt.kept (by assumption) (by (try simp only [ext_ext]); repeat (first | exact Kept.refl _ | apply Kept.alloc | apply Kept.drew | apply kept_add | apply Kept.ext))) hl) ?_; rintro e w' ⟨rfl, y, rfl⟩))
  refine bodyPost_ret (v := .tuple #[.int .i64 0, .bool false]) (by simp [results, Try.results16, go_sem]) rfl ⟨rfl, ?_⟩
  exact (by (try simp only [ext_ext]); repeat (first | exact Kept.refl _ | apply Kept.alloc | apply Kept.drew | apply kept_add | apply Kept.ext))
theorem iMostDisjoint_no (ao : Option Addr) (cap : Nat) (xs : List Card) (w : World) (hx : CardsAt w ao xs) (hl : xs.length ≤ 1048576) (h : partB xs = false) :
    Calls Try.prog 17 #[.slice ao xs.length cap] w fun e w' => e = .returned (.tuple #[.int .i64 0, .bool false]) ∧ Kept w w' := by
  go_enter Try.func17, Try.ntmps17
  go_wp2_with (first | (go_at_call 36; refine Calls.mono (isParted_any _ _ _ _ (by first | assumption | exact CardsAt.kept (by assumption) (by (try simp only [ext_ext]); repeat (first | exact Kept.refl _ | apply Kept.alloc | apply Kept.drew | apply kept_add | apply Kept.ext))) hl) ?_; rintro e w' ⟨rfl, y, rfl⟩))
  refine bodyPost_ret (v := .tuple #[.int .i64 0, .bool false]) (by simp [results, Try.results17, go_sem]) rfl ⟨rfl, ?_⟩
  exact (by (try simp only [ext_ext]); repeat (first | exact Kept.refl _ | apply Kept.alloc | apply Kept.drew | apply kept_add | apply Kept.ext))
theorem sMostDisjoint_yes (ao : Option Addr) (cap : Nat) (xs : List Card) (w : World) (hx : CardsAt w ao xs) (hp : partB xs = true) :
    Calls Try.prog 16 #[.slice ao xs.length cap] w fun e w' => e = .returned (.tuple #[.int .i64 ((sbF (linesC xs) [] []).length : Nat), .bool true]) ∧ Kept w w' := by
  obtain ⟨hh, h15⟩ := partB_of hp
  have hc := areC_hand hh
  have hd := distC_hand hh
  have hL := hid (fun w' (hk : Kept w w') => l2Lines_any ao cap xs w' (hx.kept hk) (by omega) hc)
  have hPl := hid (fun w' (hk : Kept w w') => l7Pool_any ao cap xs w' (hx.kept hk) (by omega))
  rw [hp] at hPl
  have h35 := lines35 hc hd h15
  have hlen := sbF_top hc hd h15
  have hC := hid (l7Best_any (linesC xs) h35 (fun l hl => sort_lines hl) 36)
  clear hx hc hd
  go_enter Try.func16, Try.ntmps16
  go_wp2_with (first | (go_at_call 31; refine Calls.mono (hPl.out _ (by (try simp only [ext_ext]); repeat (first | exact Kept.refl _ | apply Kept.alloc | apply Kept.drew | apply kept_add | apply Kept.ext)) ) ?_; rintro e w' ⟨rfl, y, rfl⟩))
  (go_at_call 34; refine Calls.mono (hL.out _ (by (try simp only [ext_ext]); repeat (first | exact Kept.refl _ | apply Kept.alloc | apply Kept.drew | apply kept_add | apply Kept.ext))) ?_; rintro e w1 ⟨v, rfl, ho, k1⟩)
  have K1 : Kept w w1 := Kept.trans (by (try simp only [ext_ext]); repeat (first | exact Kept.refl _ | apply Kept.alloc | apply Kept.drew | apply kept_add | apply Kept.ext)) k1
  obtain ⟨ao1, cap1, rfl, hx1, _⟩ := ho.reads
  go_wp2_with (fail)
  (go_at_call 40; refine Calls.mono (hC.out _ _ [] _ _ _ _ 0 w1.heap.size _ 0 (by omega) rfl rfl (hx1.kept (by (try simp only [ext_ext]); repeat (first | exact Kept.refl _ | apply Kept.alloc | apply Kept.drew | apply kept_add | apply Kept.ext))) (ownL_nil (Nat.le_refl _) (heap_at rfl)) (by simp) (by simp) (by simp; omega) (by simp)) ?_; rintro e w2 ⟨v2, rfl, ho2, k2⟩)
  rw [List.drop_zero] at ho2
  obtain ⟨ao2, cap2, rfl, _, _⟩ := ho2.reads
  go_wp2_with (fail)
  refine bodyPost_ret (v := .tuple #[.int .i64 ((sbF (linesC xs) [] []).length : Nat), .bool true]) (by simp [results, Try.results16, go_sem]) rfl ⟨rfl, ?_⟩
  exact K1.trans (Kept.trans (by (try simp only [ext_ext]); repeat (first | exact Kept.refl _ | apply Kept.alloc | apply Kept.drew | apply kept_add | apply Kept.ext)) k2)
theorem iMostDisjoint_yes (ao : Option Addr) (cap : Nat) (xs : List Card) (w : World) (hx : CardsAt w ao xs) (hp : partB xs = true) :
    Calls Try.prog 17 #[.slice ao xs.length cap] w fun e w' => e = .returned (.tuple #[.int .i64 ((sbF (linesC xs) [] []).length : Nat), .bool true]) ∧ Kept w w' := by
  obtain ⟨hh, h15⟩ := partB_of hp
  have hc := areC_hand hh
  have hd := distC_hand hh
  have hlen := sbF_top hc hd h15
  have hPl0 := fun w' (hk : Kept w w') => isParted_any ao cap xs w' (hx.kept hk) (by omega)
  rw [hp] at hPl0
  have hPl := hid hPl0
  have hF := hid (fun w' (hk : Kept w w') => firstPicking_any ao cap xs w' (hx.kept hk) hh h15)
  clear hPl0 hc hd hx
  go_enter Try.func17, Try.ntmps17
  go_wp2_with (first | (go_at_call 36; refine Calls.mono (hPl.out _ (by (try simp only [ext_ext]); repeat (first | exact Kept.refl _ | apply Kept.alloc | apply Kept.drew | apply kept_add | apply Kept.ext)) ) ?_; rintro e w' ⟨rfl, y, rfl⟩))
  (go_at_call 41; refine Calls.mono (hF.out _ (by (try simp only [ext_ext]); repeat (first | exact Kept.refl _ | apply Kept.alloc | apply Kept.drew | apply kept_add | apply Kept.ext))) ?_; rintro e w1 ⟨v, rfl, ho, k1⟩)
  have K1 : Kept w w1 := Kept.trans (by (try simp only [ext_ext]); repeat (first | exact Kept.refl _ | apply Kept.alloc | apply Kept.drew | apply kept_add | apply Kept.ext)) k1
  obtain ⟨ao2, cap2, rfl, _, _⟩ := ho.reads
  go_wp2_with (fail)
  refine bodyPost_ret (v := .tuple #[.int .i64 ((sbF (linesC xs) [] []).length : Nat), .bool true]) (by simp [results, Try.results17, go_sem]) rfl ⟨rfl, ?_⟩
  exact K1.trans (by (try simp only [ext_ext]); repeat (first | exact Kept.refl _ | apply Kept.alloc | apply Kept.drew | apply kept_add | apply Kept.ext))
theorem twoMostDisjoint (xs : List Card) (hn : xs.length ≤ 1048576) : ∃ q ok, (∀ (ao : Option Addr) (cap : Nat) (w : World), CardsAt w ao xs → xs.length ≤ cap → Calls Try.prog 16 #[.slice ao xs.length cap] w fun e w' => e = .returned (.tuple #[.int .i64 q, .bool ok]) ∧ Kept w w') ∧ (∀ (ao : Option Addr) (cap : Nat) (w : World), CardsAt w ao xs → xs.length ≤ cap → Calls Try.prog 17 #[.slice ao xs.length cap] w fun e w' => e = .returned (.tuple #[.int .i64 q, .bool ok]) ∧ Kept w w') := by
  cases hg : partB xs with
  | false => exact ⟨0, false, fun _ _ _ hx _ => sMostDisjoint_no _ _ _ _ hx hn hg, fun _ _ _ hx _ => iMostDisjoint_no _ _ _ _ hx hn hg⟩
  | true => exact ⟨_, true, fun _ _ _ hx _ => sMostDisjoint_yes _ _ _ _ hx hg, fun _ _ _ hx _ => iMostDisjoint_yes _ _ _ _ hx hg⟩
set_option maxHeartbeats 1000000 in
theorem walk_FnExactMostDisjoint (ao : Option Addr) (xs : List Card) (cap : Nat) {w : World} (hx : CardsAt w ao xs) (hl : xs.length ≤ maxLen) (_ : World) :
    Calls Try.prog 5 #[.slice ao xs.length cap] w fun e w' => e = .returned (.bool true) ∧ Kept w w' := by
  have hl' : xs.length ≤ 9223372036854775807 := by unfold maxLen at hl; omega
  by_cases hn : xs.length ≤ 1048576
  · obtain ⟨q, ok, hS, hI⟩ : ∃ q ok, (∀ (ao : Option Addr) (cap : Nat) (w : World), CardsAt w ao xs → xs.length ≤ cap → Calls Try.prog 16 #[.slice ao xs.length cap] w fun e w' => e = .returned (.tuple #[.int .i64 q, .bool ok]) ∧ Kept w w') ∧ (∀ (ao : Option Addr) (cap : Nat) (w : World), CardsAt w ao xs → xs.length ≤ cap → Calls Try.prog 17 #[.slice ao xs.length cap] w fun e w' => e = .returned (.tuple #[.int .i64 q, .bool ok]) ∧ Kept w w') := twoMostDisjoint xs hn
    have hSH := hid hS
    have hIH := hid hI
    clear hS hI
    go_enter Try.func5, Try.ntmps5
    go_wp2_with (first | (go_at_call 9; refine Calls.mono (szIntA4S_any _ _ _ hl' _) ?_; rintro e w' ⟨rfl, rfl⟩) | (go_at_call 11; refine Calls.mono (toIntA4S_any _ _ _ _ (by first | assumption | exact CardsAt.kept (by assumption) (by (try simp only [ext_ext]); repeat (first | exact Kept.refl _ | apply Kept.alloc | apply Kept.drew | apply kept_add | apply Kept.ext))) hn) ?_; rintro e w' ⟨v, rfl, ho, z, rfl⟩; obtain ⟨ao', cap', rfl, hx', hcap'⟩ := ho.reads; clear ho) | (go_at_call 16; refine Calls.mono (hSH.out _ _ _ (by first | assumption | exact CardsAt.kept (by assumption) (by (try simp only [ext_ext]); repeat (first | exact Kept.refl _ | apply Kept.alloc | apply Kept.drew | apply kept_add | apply Kept.ext))) (by assumption)) ?_; rintro e w' ⟨rfl, y, rfl⟩) | (go_at_call 17; refine Calls.mono (hIH.out _ _ _ (by first | assumption | exact CardsAt.kept (by assumption) (by (try simp only [ext_ext]); repeat (first | exact Kept.refl _ | apply Kept.alloc | apply Kept.drew | apply kept_add | apply Kept.ext))) (by assumption)) ?_; rintro e w' ⟨rfl, y, rfl⟩) | (go_at_call 13; refine Calls.mono (eqIntA4S_any _ _ _ _ _ _ _ (by first | assumption | exact CardsAt.kept (by assumption) (by (try simp only [ext_ext]); repeat (first | exact Kept.refl _ | apply Kept.alloc | apply Kept.drew | apply kept_add | apply Kept.ext))) (by first | assumption | exact CardsAt.kept (by assumption) (by (try simp only [ext_ext]); repeat (first | exact Kept.refl _ | apply Kept.alloc | apply Kept.drew | apply kept_add | apply Kept.ext))) hn hn) ?_; rintro e w' ⟨rfl, y, rfl⟩))
    all_goals
      go_ret
      exact ⟨rfl, (by (try simp only [ext_ext]); repeat (first | exact Kept.refl _ | apply Kept.alloc | apply Kept.drew | apply kept_add | apply Kept.ext))⟩
  · go_enter Try.func5, Try.ntmps5
    go_wp2_with (first | (go_at_call 9; refine Calls.mono (szIntA4S_any _ _ _ hl' _) ?_; rintro e w' ⟨rfl, rfl⟩))
    go_ret
    exact ⟨rfl, (by (try simp only [ext_ext]); repeat (first | exact Kept.refl _ | apply Kept.alloc | apply Kept.drew | apply kept_add | apply Kept.ext))⟩
theorem sFirstPicking_yes (ao : Option Addr) (cap : Nat) (xs : List Card) (w : World) (hx : CardsAt w ao xs) (hp : partB xs = true) :
    Calls Try.prog 18 #[.slice ao xs.length cap] w (RetLT w true (sbF (linesC xs) [] [])) := by
  obtain ⟨hh, h15⟩ := partB_of hp
  have hc := areC_hand hh
  have hd := distC_hand hh
  have hL := hid (fun w' (hk : Kept w w') => l2Lines_any ao cap xs w' (hx.kept hk) (by omega) hc)
  have hPl := hid (fun w' (hk : Kept w w') => l7Pool_any ao cap xs w' (hx.kept hk) (by omega))
  rw [hp] at hPl
  have h35 := lines35 hc hd h15
  have hlen := sbF_top hc hd h15
  have hC := hid (l7Best_any (linesC xs) h35 (fun l hl => sort_lines hl) 36)
  clear hx hc hd
  go_enter Try.func18, Try.ntmps18
  go_wp2_with (first | (go_at_call 31; refine Calls.mono (hPl.out _ (by (try simp only [ext_ext]); repeat (first | exact Kept.refl _ | apply Kept.alloc | apply Kept.drew | apply kept_add | apply Kept.ext)) ) ?_; rintro e w' ⟨rfl, y, rfl⟩))
  (go_at_call 34; refine Calls.mono (hL.out _ (by (try simp only [ext_ext]); repeat (first | exact Kept.refl _ | apply Kept.alloc | apply Kept.drew | apply kept_add | apply Kept.ext))) ?_; rintro e w1 ⟨v, rfl, ho, k1⟩)
  have K1 : Kept w w1 := Kept.trans (by (try simp only [ext_ext]); repeat (first | exact Kept.refl _ | apply Kept.alloc | apply Kept.drew | apply kept_add | apply Kept.ext)) k1
  obtain ⟨ao1, cap1, rfl, hx1, _⟩ := ho.reads
  go_wp2_with (fail)
  (go_at_call 40; refine Calls.mono (hC.out _ _ [] _ _ _ _ 0 w1.heap.size _ 0 (by omega) rfl rfl (hx1.kept (by (try simp only [ext_ext]); repeat (first | exact Kept.refl _ | apply Kept.alloc | apply Kept.drew | apply kept_add | apply Kept.ext))) (ownL_nil (Nat.le_refl _) (heap_at rfl)) (by simp) (by simp) (by simp; omega) (by simp)) ?_; rintro e w2 ⟨v2, rfl, ho2, k2⟩)
  rw [List.drop_zero] at ho2
  obtain ⟨ao2, cap2, rfl, _, _⟩ := ho2.reads
  go_wp2_with (fail)
  refine bodyPost_ret (v := .tuple #[.slice ao2 (sbF (linesC xs) [] []).length cap2, .bool true]) (by simp [results, Try.results18, go_sem]) rfl ?_
  exact ⟨_, rfl, (ho2.mono K1.below.size).kept (by (try simp only [ext_ext]); repeat (first | exact Kept.refl _ | apply Kept.alloc | apply Kept.drew | apply kept_add | apply Kept.ext)), (K1.trans (Kept.trans (by (try simp only [ext_ext]); repeat (first | exact Kept.refl _ | apply Kept.alloc | apply Kept.drew | apply kept_add | apply Kept.ext)) k2)).trans (by (try simp only [ext_ext]); repeat (first | exact Kept.refl _ | apply Kept.alloc | apply Kept.drew | apply kept_add | apply Kept.ext))⟩
theorem iFirstPicking_yes (ao : Option Addr) (cap : Nat) (xs : List Card) (w : World) (hx : CardsAt w ao xs) (hp : partB xs = true) :
    Calls Try.prog 19 #[.slice ao xs.length cap] w (RetLT w true (sbF (linesC xs) [] [])) := by
  obtain ⟨hh, h15⟩ := partB_of hp
  have hPl0 := fun w' (hk : Kept w w') => isParted_any ao cap xs w' (hx.kept hk) (by omega)
  rw [hp] at hPl0
  have hPl := hid hPl0
  have hF := hid (fun w' (hk : Kept w w') => firstPicking_any ao cap xs w' (hx.kept hk) hh h15)
  clear hPl0 hx
  go_enter Try.func19, Try.ntmps19
  go_wp2_with (first | (go_at_call 36; refine Calls.mono (hPl.out _ (by (try simp only [ext_ext]); repeat (first | exact Kept.refl _ | apply Kept.alloc | apply Kept.drew | apply kept_add | apply Kept.ext)) ) ?_; rintro e w' ⟨rfl, y, rfl⟩))
  (go_at_call 41; refine Calls.mono (hF.out _ (by (try simp only [ext_ext]); repeat (first | exact Kept.refl _ | apply Kept.alloc | apply Kept.drew | apply kept_add | apply Kept.ext))) ?_; rintro e w1 ⟨v, rfl, ho, k1⟩)
  have K1 : Kept w w1 := Kept.trans (by (try simp only [ext_ext]); repeat (first | exact Kept.refl _ | apply Kept.alloc | apply Kept.drew | apply kept_add | apply Kept.ext)) k1
  go_wp2_with (fail)
  refine bodyPost_ret (v := .tuple #[v, .bool true]) (by simp [results, Try.results19, go_sem]) rfl ?_
  exact ⟨_, rfl, (ho.mono (Kept.below (show Kept w _ from (by (try simp only [ext_ext]); repeat (first | exact Kept.refl _ | apply Kept.alloc | apply Kept.drew | apply kept_add | apply Kept.ext)))).size).kept (by (try simp only [ext_ext]); repeat (first | exact Kept.refl _ | apply Kept.alloc | apply Kept.drew | apply kept_add | apply Kept.ext)), K1.trans (by (try simp only [ext_ext]); repeat (first | exact Kept.refl _ | apply Kept.alloc | apply Kept.drew | apply kept_add | apply Kept.ext))⟩
theorem sFirstPicking_no (ao : Option Addr) (cap : Nat) (xs : List Card) (w : World) (hx : CardsAt w ao xs) (hl : xs.length ≤ 1048576) (h : partB xs = false) :
    Calls Try.prog 18 #[.slice ao xs.length cap] w (RetLT w false []) := by
  go_enter Try.func18, Try.ntmps18
  go_wp2_with (first | (go_at_call 31; refine Calls.mono (l7Pool_any _ _ _ _ (by first | assumption | exact CardsAt.kept (by assumption) (by (try simp only [ext_ext]); repeat (first | exact Kept.refl _ | apply Kept.alloc | apply Kept.drew | apply kept_add | apply Kept.ext))) hl) ?_; rintro e w' ⟨rfl, y, rfl⟩))
  refine bodyPost_ret (v := .tuple #[.slice (some ⟨w.heap.size + y.os.length, 0, none⟩) 0 0, .bool false]) (by simp [results, Try.results18, go_sem]) rfl ?_
  exact ⟨_, rfl, ownL_nil (Nat.le_add_right _ _) (heap_at (by simp)), (by (try simp only [ext_ext]); repeat (first | exact Kept.refl _ | apply Kept.alloc | apply Kept.drew | apply kept_add | apply Kept.ext))⟩
theorem iFirstPicking_no (ao : Option Addr) (cap : Nat) (xs : List Card) (w : World) (hx : CardsAt w ao xs) (hl : xs.length ≤ 1048576) (h : partB xs = false) :
    Calls Try.prog 19 #[.slice ao xs.length cap] w (RetLT w false []) := by
  go_enter Try.func19, Try.ntmps19
  go_wp2_with (first | (go_at_call 36; refine Calls.mono (isParted_any _ _ _ _ (by first | assumption | exact CardsAt.kept (by assumption) (by (try simp only [ext_ext]); repeat (first | exact Kept.refl _ | apply Kept.alloc | apply Kept.drew | apply kept_add | apply Kept.ext))) hl) ?_; rintro e w' ⟨rfl, y, rfl⟩))
  refine bodyPost_ret (v := .tuple #[.slice none 0 0, .bool false]) (by simp [results, Try.results19, go_sem]) rfl ?_
  exact ⟨_, rfl, ownL_none _ _, (by (try simp only [ext_ext]); repeat (first | exact Kept.refl _ | apply Kept.alloc | apply Kept.drew | apply kept_add | apply Kept.ext))⟩
set_option maxHeartbeats 1000000 in
theorem walk_FnExactFirstPicking (ao : Option Addr) (xs : List Card) (cap : Nat) {w : World} (hx : CardsAt w ao xs) (hl : xs.length ≤ maxLen) (_ : World) :
    Calls Try.prog 6 #[.slice ao xs.length cap] w fun e w' => e = .returned (.bool true) ∧ Kept w w' := by
  have hl' : xs.length ≤ 9223372036854775807 := by unfold maxLen at hl; omega
  by_cases hn : xs.length ≤ 1048576
  · obtain ⟨ok, ls, hS, hI, hll⟩ : ∃ ok ls, (∀ ao cap w, CardsAt w ao xs → Calls Try.prog 18 #[.slice ao xs.length cap] w (RetLT w ok ls)) ∧ (∀ ao cap w, CardsAt w ao xs → xs.length ≤ cap → Calls Try.prog 19 #[.slice ao xs.length cap] w (RetLT w ok ls)) ∧ ls.length ≤ 1048576 := by
      cases hg : partB xs with
      | false => exact ⟨false, [], fun _ _ _ hx => sFirstPicking_no _ _ _ _ hx hn hg, fun _ _ _ hx hc => iFirstPicking_no _ _ _ _ hx hn hg, by simp⟩
      | true => exact ⟨true, (sbF (linesC xs) [] []), fun _ _ _ hx => sFirstPicking_yes _ _ _ _ hx hg, fun _ _ _ hx hc => iFirstPicking_yes _ _ _ _ hx hg, Nat.le_trans (sbF_top (areC_hand (partB_of hg).1) (distC_hand (partB_of hg).1) (partB_of hg).2) (by omega)⟩
    have p1 : ¬ ((1 : Int) + (xs.length : Int) * 4 < 0) := by omega
    have p2 : ¬ ((1 : Int) + (ls.length : Int) * 3 < 0) := by omega
    go_enter Try.func6, Try.ntmps6
    go_wp2_with (first | (go_at_call 9; refine Calls.mono (szIntA4S_any _ _ _ hl' _) ?_; rintro e w' ⟨rfl, rfl⟩))
    (go_at_call 11; refine Calls.mono (toIntA4S_any _ _ _ _ hx hn) ?_; rintro e w1 ⟨v1, rfl, ho1, k1⟩)
    obtain ⟨a1, c1, rfl, hx1, hc1⟩ := ho1.reads
    go_wp2_with (fail)
    (go_at_call 18; refine Calls.mono (hS _ _ _ hx1) ?_; rintro e w2 ⟨v2, rfl, ho2, k2⟩)
    have hx2 := hx.kept (k1.trans k2)
    go_wp2_with (fail)
    (go_at_call 11; refine Calls.mono (toIntA4S_any _ _ _ _ hx2 hn) ?_; rintro e w3 ⟨v3, rfl, ho3, k3⟩)
    obtain ⟨a3, c3, rfl, hx3, hc3⟩ := ho3.reads
    go_wp2_with (fail)
    (go_at_call 19; refine Calls.mono (hI _ _ _ hx3 hc3) ?_; rintro e w4 ⟨v4, rfl, ho4, k4⟩)
    have n43 : ∀ g, v4.ownBlock = some g → (Value.slice a3 xs.length c3).ownBlock ≠ some g := fun g h h' => by have := (ho4.lt g h).1; have := (ho3.lt g h').2; omega
    have n23 : ∀ g, v2.ownBlock = some g → (Value.slice a3 xs.length c3).ownBlock ≠ some g := fun g h h' => by have := (ho2.lt g h).2; have := (ho3.lt g h').1; omega
    have n24 : ∀ g, v2.ownBlock = some g → v4.ownBlock ≠ some g := fun g h h' => by have := (ho2.lt g h).2; have := (ho4.lt g h').1; have := k3.below.size; omega
    go_wp2_with (fail)
    (go_at_call 20; refine Calls.mono (eqL_any _ _ _ _ _ _ ho4 ((ho2.kept k3).kept k4) hll) ?_; rintro e w5 ⟨rfl, k5⟩)
    have hx5 := hx2.kept (k3.trans (k4.trans k5))
    go_wp2_with (fail)
    (go_at_call 11; refine Calls.mono (toIntA4S_any _ _ _ _ hx5 hn) ?_; rintro e w6 ⟨v6, rfl, ho6, k6⟩)
    obtain ⟨a6, c6, rfl, hx6, hc6⟩ := ho6.reads
    have hx36 := hx3.kept (k4.trans (k5.trans k6))
    go_wp2_with (fail)
    (go_at_call 13; refine Calls.mono (eqIntA4S_any _ _ _ _ _ _ _ hx36 hx6 hn hn) ?_; rintro e w7 ⟨rfl, k7⟩)
    have K7 : Kept w w7 := k1.trans (k2.trans (k3.trans (k4.trans (k5.trans (k6.trans k7)))))
    have s2 : w.heap.size ≤ w2.heap.size := (k1.trans k2).below.size
    have s3 : w.heap.size ≤ w3.heap.size := (k1.trans (k2.trans k3)).below.size
    go_wp2_with (fail)
    (go_at_call 21; refine Calls.mono (markIntA4S_any _ _ _ _ 1 _ (ho3.kept (k4.trans (k5.trans (k6.trans k7)))) hn (by decide) (by decide)) ?_; rintro e w8 ⟨rfl, _, g8⟩)
    have ho48 := (ho4.kept (k5.trans (k6.trans k7))).grown g8 n43
    have ho28 := (ho2.kept (k3.trans (k4.trans (k5.trans (k6.trans k7))))).grown g8 n23
    have K8 : Kept w w8 := K7.grown g8 fun k hk => Nat.le_trans s2 (ho3.lt k hk).1
    go_wp2_with (fail)
    (go_at_call 20; refine Calls.mono (eqL_any _ _ _ _ _ _ ho48 ho28 hll) ?_; rintro e w9 ⟨rfl, k9⟩)
    go_wp2_with (fail)
    (go_at_call 22; refine Calls.mono (markIntA3S_any _ _ _ _ 1 _ (ho48.kept k9) hll (by decide) (by decide)) ?_; rintro e w10 ⟨rfl, ho10, g10⟩)
    have K10 : Kept w w10 := (K8.trans k9).grown g10 fun k hk => Nat.le_trans s3 (ho4.lt k hk).1
    go_wp2_with (fail)
    (go_at_call 23; refine Calls.mono (heldIntA3S_any _ _ _ 1 _ ho10 hll (by decide) (by decide)) ?_; rintro e w11 ⟨rfl, k11⟩)
    have hx11 := hx.kept (K10.trans k11)
    go_wp2_with (fail)
    (go_at_call 11; refine Calls.mono (toIntA4S_any _ _ _ _ hx11 hn) ?_; rintro e w12 ⟨v12, rfl, ho12, k12⟩)
    obtain ⟨a12, c12, rfl, hx12, hc12⟩ := ho12.reads
    go_wp2_with (fail)
    (go_at_call 19; refine Calls.mono (hI _ _ _ hx12 hc12) ?_; rintro e w13 ⟨v13, rfl, ho13, k13⟩)
    have ho213 := (((ho28.kept k9).grown g10 n24).kept (k11.trans (k12.trans k13)))
    go_wp2_with (fail)
    (go_at_call 20; refine Calls.mono (eqL_any _ _ _ _ _ _ ho13 ho213 hll) ?_; rintro e w14 ⟨rfl, k14⟩)
    go_wp2_with (fail)
    (go_at_call 23; refine Calls.mono (heldIntA3S_any _ _ _ 1 _ (row_kept ho10 (k11.trans (k12.trans (k13.trans k14)))) hll (by decide) (by decide)) ?_; rintro e w15 ⟨rfl, k15⟩)
    go_wp2_with (fail)
    go_ret
    exact ⟨rfl, K10.trans (k11.trans (k12.trans (k13.trans (k14.trans k15))))⟩
  · go_enter Try.func6, Try.ntmps6
    go_wp2_with (first | (go_at_call 9; refine Calls.mono (szIntA4S_any _ _ _ hl' _) ?_; rintro e w' ⟨rfl, rfl⟩))
    go_ret
    exact ⟨rfl, (by (try simp only [ext_ext]); repeat (first | exact Kept.refl _ | apply Kept.alloc | apply Kept.drew | apply kept_add | apply Kept.ext))⟩
end Go.Proofs.Ytifkjbihmmdnbaa
