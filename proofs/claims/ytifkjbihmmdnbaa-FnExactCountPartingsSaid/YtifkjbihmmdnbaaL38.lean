/- Walk: the law of CountPartings. -/
import Derived.Test.YtifkjbihmmdnbaaL35
namespace Go.Proofs.Ytifkjbihmmdnbaa
open Go.RowKit
theorem sCountPartings_no (ao : Option Addr) (cap : Nat) (xs : List Card) (w : World) (hx : CardsAt w ao xs) (hl : xs.length ≤ 1048576) (h : partB xs = false) :
    Calls Try.prog 14 #[.slice ao xs.length cap] w fun e w' => e = .returned (.tuple #[.int .i64 0, .bool false]) ∧ Kept w w' := by
  go_enter Try.func14, Try.ntmps14
  go_wp2_with (first | (go_at_call 31; refine Calls.mono (l7Pool_any _ _ _ _ (by first | assumption | exact CardsAt.kept (by assumption) (by (try simp only [ext_ext]); repeat (first | exact Kept.refl _ | apply Kept.alloc | apply Kept.drew | apply kept_add | apply Kept.ext))) hl) ?_; rintro e w' ⟨rfl, y, rfl⟩))
  refine bodyPost_ret (v := .tuple #[.int .i64 0, .bool false]) (by simp [results, Try.results14, go_sem]) rfl ⟨rfl, ?_⟩
  exact (by (try simp only [ext_ext]); repeat (first | exact Kept.refl _ | apply Kept.alloc | apply Kept.drew | apply kept_add | apply Kept.ext))
theorem sCountPartings_odd (ao : Option Addr) (cap : Nat) (xs : List Card) (w : World) (hx : CardsAt w ao xs) (h : partB xs = true) (h3 : ¬ xs.length % 3 = 0) :
    Calls Try.prog 14 #[.slice ao xs.length cap] w fun e w' => e = .returned (.tuple #[.int .i64 0, .bool true]) ∧ Kept w w' := by
  have h15 := (show xs.length ≤ 15 by simp [partB] at h; exact h.2)
  have e : ((xs.length : Int)).tmod 3 = ((xs.length % 3 : Nat) : Int) := by rw [Int.tmod_eq_emod_of_nonneg (by omega)]; omega
  have hne : (((xs.length % 3 : Nat) : Int) != 0) = true := by simp; omega
  have hne2 : ¬ ((xs.length % 3 : Nat) : Int) = 0 := by omega
  have hb0 : (0 : Int) ≤ ((xs.length % 3 : Nat) : Int) := by omega
  have hb1 : ((xs.length % 3 : Nat) : Int) ≤ 2 := by omega
  generalize ((xs.length % 3 : Nat) : Int) = q at e hne hne2 hb0 hb1
  go_enter Try.func14, Try.ntmps14
  go_wp2_with (first | (go_at_call 31; refine Calls.mono (l7Pool_any _ _ _ _ (by first | assumption | exact CardsAt.kept (by assumption) (by (try simp only [ext_ext]); repeat (first | exact Kept.refl _ | apply Kept.alloc | apply Kept.drew | apply kept_add | apply Kept.ext))) (by omega)) ?_; rintro e w' ⟨rfl, y, rfl⟩))
  refine bodyPost_ret (v := .tuple #[.int .i64 0, .bool true]) (by simp [results, Try.results14, go_sem]) rfl ⟨rfl, ?_⟩
  exact (by (try simp only [ext_ext]); repeat (first | exact Kept.refl _ | apply Kept.alloc | apply Kept.drew | apply kept_add | apply Kept.ext))
theorem iCountPartings_no (ao : Option Addr) (cap : Nat) (xs : List Card) (w : World) (hx : CardsAt w ao xs) (hl : xs.length ≤ 1048576) (h : partB xs = false) :
    Calls Try.prog 15 #[.slice ao xs.length cap] w fun e w' => e = .returned (.tuple #[.int .i64 0, .bool false]) ∧ Kept w w' := by
  go_enter Try.func15, Try.ntmps15
  go_wp2_with (first | (go_at_call 36; refine Calls.mono (isParted_any _ _ _ _ (by first | assumption | exact CardsAt.kept (by assumption) (by (try simp only [ext_ext]); repeat (first | exact Kept.refl _ | apply Kept.alloc | apply Kept.drew | apply kept_add | apply Kept.ext))) hl) ?_; rintro e w' ⟨rfl, y, rfl⟩))
  refine bodyPost_ret (v := .tuple #[.int .i64 0, .bool false]) (by simp [results, Try.results15, go_sem]) rfl ⟨rfl, ?_⟩
  exact (by (try simp only [ext_ext]); repeat (first | exact Kept.refl _ | apply Kept.alloc | apply Kept.drew | apply kept_add | apply Kept.ext))
theorem iCountPartings_odd (ao : Option Addr) (cap : Nat) (xs : List Card) (w : World) (hx : CardsAt w ao xs) (h : partB xs = true) (h3 : ¬ xs.length % 3 = 0) :
    Calls Try.prog 15 #[.slice ao xs.length cap] w fun e w' => e = .returned (.tuple #[.int .i64 0, .bool true]) ∧ Kept w w' := by
  have h15 := (show xs.length ≤ 15 by simp [partB] at h; exact h.2)
  have e : ((xs.length : Int)).tmod 3 = ((xs.length % 3 : Nat) : Int) := by rw [Int.tmod_eq_emod_of_nonneg (by omega)]; omega
  have hne : (((xs.length % 3 : Nat) : Int) != 0) = true := by simp; omega
  have hne2 : ¬ ((xs.length % 3 : Nat) : Int) = 0 := by omega
  have hb0 : (0 : Int) ≤ ((xs.length % 3 : Nat) : Int) := by omega
  have hb1 : ((xs.length % 3 : Nat) : Int) ≤ 2 := by omega
  generalize ((xs.length % 3 : Nat) : Int) = q at e hne hne2 hb0 hb1
  go_enter Try.func15, Try.ntmps15
  go_wp2_with (first | (go_at_call 36; refine Calls.mono (isParted_any _ _ _ _ (by first | assumption | exact CardsAt.kept (by assumption) (by (try simp only [ext_ext]); repeat (first | exact Kept.refl _ | apply Kept.alloc | apply Kept.drew | apply kept_add | apply Kept.ext))) (by omega)) ?_; rintro e w' ⟨rfl, y, rfl⟩))
  refine bodyPost_ret (v := .tuple #[.int .i64 0, .bool true]) (by simp [results, Try.results15, go_sem]) rfl ⟨rfl, ?_⟩
  exact (by (try simp only [ext_ext]); repeat (first | exact Kept.refl _ | apply Kept.alloc | apply Kept.drew | apply kept_add | apply Kept.ext))
theorem sCountPartings_yes (ao : Option Addr) (cap : Nat) (xs : List Card) (w : World) (hx : CardsAt w ao xs) (hp : partB xs = true) (h3 : xs.length % 3 = 0) :
    Calls Try.prog 14 #[.slice ao xs.length cap] w fun e w' => e = .returned (.tuple #[.int .i64 (cntL (linesC xs) [] (xs.length / 3) : Nat), .bool true]) ∧ Kept w w' := by
  obtain ⟨hh, h15⟩ := partB_of hp
  have hc := areC_hand hh
  have hd := distC_hand hh
  have hL := hid (fun w' (hk : Kept w w') => l2Lines_any ao cap xs w' (hx.kept hk) (by omega) hc)
  have hPl := hid (fun w' (hk : Kept w w') => l7Pool_any ao cap xs w' (hx.kept hk) (by omega))
  rw [hp] at hPl
  have hC := hid (l7Count_any (linesC xs) (lines35 hc hd h15) (fun l hl => sort_lines hl) (xs.length / 3))
  have e : ((xs.length : Int)).tmod 3 = 0 := by rw [Int.tmod_eq_emod_of_nonneg (by omega)]; omega
  have e2 : ((xs.length : Int)).tdiv 3 = ((xs.length / 3 : Nat) : Int) := by rw [Int.tdiv_eq_ediv_of_nonneg (by omega)]; omega
  have hq : xs.length / 3 ≤ 5 := by omega
  generalize xs.length / 3 = q at e2 hq hC ⊢
  clear hx hc hd
  go_enter Try.func14, Try.ntmps14
  go_wp2_with (first | (go_at_call 31; refine Calls.mono (hPl.out _ (by (try simp only [ext_ext]); repeat (first | exact Kept.refl _ | apply Kept.alloc | apply Kept.drew | apply kept_add | apply Kept.ext)) ) ?_; rintro e w' ⟨rfl, y, rfl⟩))
  (go_at_call 34; refine Calls.mono (hL.out _ (by (try simp only [ext_ext]); repeat (first | exact Kept.refl _ | apply Kept.alloc | apply Kept.drew | apply kept_add | apply Kept.ext))) ?_; rintro e w1 ⟨v, rfl, ho, k1⟩)
  have K1 : Kept w w1 := Kept.trans (by (try simp only [ext_ext]); repeat (first | exact Kept.refl _ | apply Kept.alloc | apply Kept.drew | apply kept_add | apply Kept.ext)) k1
  obtain ⟨ao1, cap1, rfl, hx1, _⟩ := ho.reads
  go_wp2_with (fail)
  (go_at_call 33; refine Calls.mono (hC.out _ _ [] _ _ _ _ 0 w1.heap.size _ 0 (q : Int) rfl rfl rfl (hx1.kept (by (try simp only [ext_ext]); repeat (first | exact Kept.refl _ | apply Kept.alloc | apply Kept.drew | apply kept_add | apply Kept.ext))) (ownL_nil (Nat.le_refl _) (heap_at rfl)) (by simp) (by simp) (by simp; omega) (by simp)) ?_; rintro e w2 ⟨rfl, k2⟩)
  go_wp2_with (fail)
  refine bodyPost_ret (v := .tuple #[.int .i64 (cntL (linesC xs) [] q : Nat), .bool true]) (by simp [results, Try.results14, go_sem]) rfl ⟨rfl, ?_⟩
  exact K1.trans (Kept.trans (by (try simp only [ext_ext]); repeat (first | exact Kept.refl _ | apply Kept.alloc | apply Kept.drew | apply kept_add | apply Kept.ext)) k2)
theorem iCountPartings_yes (ao : Option Addr) (cap : Nat) (xs : List Card) (w : World) (hx : CardsAt w ao xs) (hp : partB xs = true) (h3 : xs.length % 3 = 0) :
    Calls Try.prog 15 #[.slice ao xs.length cap] w fun e w' => e = .returned (.tuple #[.int .i64 (cntL (linesC xs) [] (xs.length / 3) : Nat), .bool true]) ∧ Kept w w' := by
  obtain ⟨hh, h15⟩ := partB_of hp
  have hPl0 := fun w' (hk : Kept w w') => isParted_any ao cap xs w' (hx.kept hk) (by omega)
  rw [hp] at hPl0
  have hPl := hid hPl0
  have hC0 := fun w' (hk : Kept w w') => countPickings_any ao cap xs ((xs.length / 3 : Nat) : Int) w' (hx.kept hk) hh h15
  rw [cnt_top] at hC0
  have hC := hid hC0
  have e : ((xs.length : Int)).tmod 3 = 0 := by rw [Int.tmod_eq_emod_of_nonneg (by omega)]; omega
  have e2 : ((xs.length : Int)).tdiv 3 = ((xs.length / 3 : Nat) : Int) := by rw [Int.tdiv_eq_ediv_of_nonneg (by omega)]; omega
  have hq : xs.length / 3 ≤ 5 := by omega
  clear hx hPl0 hC0
  generalize xs.length / 3 = q at e2 hq hC ⊢
  go_enter Try.func15, Try.ntmps15
  go_wp2_with (first | (go_at_call 36; refine Calls.mono (hPl.out _ (by (try simp only [ext_ext]); repeat (first | exact Kept.refl _ | apply Kept.alloc | apply Kept.drew | apply kept_add | apply Kept.ext)) ) ?_; rintro e w' ⟨rfl, y, rfl⟩) | (go_at_call 38; refine Calls.mono (hC.out _ (by (try simp only [ext_ext]); repeat (first | exact Kept.refl _ | apply Kept.alloc | apply Kept.drew | apply kept_add | apply Kept.ext)) ) ?_; rintro e w' ⟨rfl, y, rfl⟩))
  refine bodyPost_ret (v := .tuple #[.int .i64 (cntL (linesC xs) [] q : Nat), .bool true]) (by simp [results, Try.results15, go_sem]) rfl ⟨rfl, ?_⟩
  exact (by (try simp only [ext_ext]); repeat (first | exact Kept.refl _ | apply Kept.alloc | apply Kept.drew | apply kept_add | apply Kept.ext))
theorem twoCountPartings (xs : List Card) (hn : xs.length ≤ 1048576) : ∃ q ok, (∀ (ao : Option Addr) (cap : Nat) (w : World), CardsAt w ao xs → xs.length ≤ cap → Calls Try.prog 14 #[.slice ao xs.length cap] w fun e w' => e = .returned (.tuple #[.int .i64 q, .bool ok]) ∧ Kept w w') ∧ (∀ (ao : Option Addr) (cap : Nat) (w : World), CardsAt w ao xs → xs.length ≤ cap → Calls Try.prog 15 #[.slice ao xs.length cap] w fun e w' => e = .returned (.tuple #[.int .i64 q, .bool ok]) ∧ Kept w w') := by
  cases hg : partB xs with
  | false => exact ⟨0, false, fun _ _ _ hx _ => sCountPartings_no _ _ _ _ hx hn hg, fun _ _ _ hx _ => iCountPartings_no _ _ _ _ hx hn hg⟩
  | true =>
    by_cases h3 : xs.length % 3 = 0
    · exact ⟨_, true, fun _ _ _ hx _ => sCountPartings_yes _ _ _ _ hx hg h3, fun _ _ _ hx _ => iCountPartings_yes _ _ _ _ hx hg h3⟩
    · exact ⟨0, true, fun _ _ _ hx _ => sCountPartings_odd _ _ _ _ hx hg h3, fun _ _ _ hx _ => iCountPartings_odd _ _ _ _ hx hg h3⟩
set_option maxHeartbeats 1000000 in
theorem walk_FnExactCountPartings (ao : Option Addr) (xs : List Card) (cap : Nat) {w : World} (hx : CardsAt w ao xs) (hl : xs.length ≤ maxLen) (_ : World) :
    Calls Try.prog 4 #[.slice ao xs.length cap] w fun e w' => e = .returned (.bool true) ∧ Kept w w' := by
  have hl' : xs.length ≤ 9223372036854775807 := by unfold maxLen at hl; omega
  by_cases hn : xs.length ≤ 1048576
  · obtain ⟨q, ok, hS, hI⟩ : ∃ q ok, (∀ (ao : Option Addr) (cap : Nat) (w : World), CardsAt w ao xs → xs.length ≤ cap → Calls Try.prog 14 #[.slice ao xs.length cap] w fun e w' => e = .returned (.tuple #[.int .i64 q, .bool ok]) ∧ Kept w w') ∧ (∀ (ao : Option Addr) (cap : Nat) (w : World), CardsAt w ao xs → xs.length ≤ cap → Calls Try.prog 15 #[.slice ao xs.length cap] w fun e w' => e = .returned (.tuple #[.int .i64 q, .bool ok]) ∧ Kept w w') := twoCountPartings xs hn
    have hSH := hid hS
    have hIH := hid hI
    clear hS hI
    go_enter Try.func4, Try.ntmps4
    go_wp2_with (first | (go_at_call 9; refine Calls.mono (szIntA4S_any _ _ _ hl' _) ?_; rintro e w' ⟨rfl, rfl⟩) | (go_at_call 11; refine Calls.mono (toIntA4S_any _ _ _ _ (by first | assumption | exact CardsAt.kept (by assumption) (by (try simp only [ext_ext]); repeat (first | exact Kept.refl _ | apply Kept.alloc | apply Kept.drew | apply kept_add | apply Kept.ext))) hn) ?_; rintro e w' ⟨v, rfl, ho, z, rfl⟩; obtain ⟨ao', cap', rfl, hx', hcap'⟩ := ho.reads; clear ho) | (go_at_call 14; refine Calls.mono (hSH.out _ _ _ (by first | assumption | exact CardsAt.kept (by assumption) (by (try simp only [ext_ext]); repeat (first | exact Kept.refl _ | apply Kept.alloc | apply Kept.drew | apply kept_add | apply Kept.ext))) (by assumption)) ?_; rintro e w' ⟨rfl, y, rfl⟩) | (go_at_call 15; refine Calls.mono (hIH.out _ _ _ (by first | assumption | exact CardsAt.kept (by assumption) (by (try simp only [ext_ext]); repeat (first | exact Kept.refl _ | apply Kept.alloc | apply Kept.drew | apply kept_add | apply Kept.ext))) (by assumption)) ?_; rintro e w' ⟨rfl, y, rfl⟩) | (go_at_call 13; refine Calls.mono (eqIntA4S_any _ _ _ _ _ _ _ (by first | assumption | exact CardsAt.kept (by assumption) (by (try simp only [ext_ext]); repeat (first | exact Kept.refl _ | apply Kept.alloc | apply Kept.drew | apply kept_add | apply Kept.ext))) (by first | assumption | exact CardsAt.kept (by assumption) (by (try simp only [ext_ext]); repeat (first | exact Kept.refl _ | apply Kept.alloc | apply Kept.drew | apply kept_add | apply Kept.ext))) hn hn) ?_; rintro e w' ⟨rfl, y, rfl⟩))
    all_goals
      go_ret
      exact ⟨rfl, (by (try simp only [ext_ext]); repeat (first | exact Kept.refl _ | apply Kept.alloc | apply Kept.drew | apply kept_add | apply Kept.ext))⟩
  · go_enter Try.func4, Try.ntmps4
    go_wp2_with (first | (go_at_call 9; refine Calls.mono (szIntA4S_any _ _ _ hl' _) ?_; rintro e w' ⟨rfl, rfl⟩))
    go_ret
    exact ⟨rfl, (by (try simp only [ext_ext]); repeat (first | exact Kept.refl _ | apply Kept.alloc | apply Kept.drew | apply kept_add | apply Kept.ext))⟩
end Go.Proofs.Ytifkjbihmmdnbaa
