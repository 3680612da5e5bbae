/- Walks: the laws of CountPickings and CountPartings. -/
import Derived.Test.YtifkjbihmmdnbaaT43
import Derived.Test.YtifkjbihmmdnbaaT44
namespace Go.Proofs.Ytifkjbihmmdnbaa
open Go.RowKit
theorem cntP_app (h g : List (List Ln)) (n : Int) : cntP (h ++ g) n = cntP h n + cntP g n := by simp [cntP]
theorem cntP_one (p : List Ln) (n : Int) : cntP [p] n = if (p.length : Int) = n then 1 else 0 := by
  unfold cntP; by_cases h : (p.length : Int) = n <;> simp [h]
theorem visT_long : ∀ (ls b : List Ln), ∀ p, p ∈ visT ls b → b.length < p.length
  | [], b, p, h => by simp [visT] at h
  | a :: ls, b, p, h => by
    cases hh : hitL b a
    · rw [visT_free hh, visL] at h
      simp only [List.cons_append, List.mem_cons, List.mem_append] at h
      rcases h with rfl | h | h
      · simp
      · have := visT_long ls (b ++ [a]) p h; simp at this; omega
      · exact visT_long ls b p h
    · rw [visT_hit hh] at h
      exact visT_long ls b p h
theorem cntP_none {h : List (List Ln)} {n : Int} (hn : ∀ p, p ∈ h → (p.length : Int) ≠ n) : cntP h n = 0 := by
  unfold cntP
  rw [List.length_eq_zero_iff, List.filter_eq_nil_iff]
  intro p hp
  simpa using hn p hp
theorem cnt_all : ∀ (ls b : List Ln) (n : Nat), cntP (visL ls b) ((b.length + n : Nat) : Int) = cntL ls b n ∧ cntP (visT ls b) ((b.length + (n + 1) : Nat) : Int) = cntL ls b (n + 1)
  | ls, b, n => by
    have second : ∀ m, cntP (visT ls b) ((b.length + (m + 1) : Nat) : Int) = cntL ls b (m + 1) := fun m => by
      cases ls with
      | nil => rfl
      | cons a ls =>
        cases hh : hitL b a
        · rw [visT_free hh, cntP_app, cntL_free m hh, (cnt_all ls b m).2]
          have := (cnt_all ls (b ++ [a]) m).1
          rw [show (b ++ [a]).length + m = b.length + (m + 1) by simp; omega] at this
          rw [this]
        · rw [visT_hit hh, cntL_hit m hh, (cnt_all ls b m).2]
    refine ⟨?_, second n⟩
    rw [show visL ls b = [b] ++ visT ls b from rfl, cntP_app, cntP_one]
    cases n with
    | zero =>
      rw [cntL_zero, cntP_none fun p hp => by have := visT_long ls b p hp; omega]
      simp
    | succ n => rw [second n, if_neg (by omega), Nat.zero_add]
termination_by ls => ls.length
theorem cnt_top (ls : List Ln) (n : Nat) : cntP (visL ls []) (n : Int) = cntL ls [] n := by
  have := (cnt_all ls [] n).1
  simpa using this
def partB (xs : List Card) : Bool := isHand xs && decide (xs.length ≤ 15)
theorem l7Pool_any (ao : Option Addr) (cap : Nat) (xs : List Card) (w : World) (hx : CardsAt w ao xs) (hl : xs.length ≤ 1048576) :
    Calls Try.prog 31 #[.slice ao xs.length cap] w fun e w' => e = .returned (.bool (partB xs)) ∧ Kept w w' := by
  have hv : Hid (partB xs = (isHand xs && decide (xs.length ≤ 15))) := hid rfl
  cases h : isHand xs
  · go_enter Try.func31, Try.ntmps31
    go_wp2_with (first | (go_at_call 43; refine Calls.mono (l2Hand_any _ _ _ _ (by first | assumption | exact CardsAt.kept (by assumption) (by (try simp only [ext_ext]); repeat (first | exact Kept.refl _ | apply Kept.alloc | apply Kept.drew | apply kept_add | apply Kept.ext))) hl) ?_; rintro e w' ⟨rfl, y, rfl⟩))
    go_ret
    exact ⟨ret_of (by rw [hv.out, h]; rfl), (by (try simp only [ext_ext]); repeat (first | exact Kept.refl _ | apply Kept.alloc | apply Kept.drew | apply kept_add | apply Kept.ext))⟩
  · by_cases h2 : xs.length ≤ 15
    all_goals
      go_enter Try.func31, Try.ntmps31
      go_wp2_with (first | (go_at_call 43; refine Calls.mono (l2Hand_any _ _ _ _ (by first | assumption | exact CardsAt.kept (by assumption) (by (try simp only [ext_ext]); repeat (first | exact Kept.refl _ | apply Kept.alloc | apply Kept.drew | apply kept_add | apply Kept.ext))) hl) ?_; rintro e w' ⟨rfl, y, rfl⟩))
      go_ret
      exact ⟨ret_of (by rw [hv.out, h]; simp; omega), (by (try simp only [ext_ext]); repeat (first | exact Kept.refl _ | apply Kept.alloc | apply Kept.drew | apply kept_add | apply Kept.ext))⟩
theorem isParted_any (ao : Option Addr) (cap : Nat) (xs : List Card) (w : World) (hx : CardsAt w ao xs) (hl : xs.length ≤ 1048576) :
    Calls Try.prog 36 #[.slice ao xs.length cap] w fun e w' => e = .returned (.bool (partB xs)) ∧ Kept w w' := by
  have hv : Hid (partB xs = (isHand xs && decide (xs.length ≤ 15))) := hid rfl
  cases h : isHand xs
  · go_enter Try.func36, Try.ntmps36
    go_wp2_with (first | (go_at_call 46; refine Calls.mono (IsHand_any _ _ _ _ (by first | assumption | exact CardsAt.kept (by assumption) (by (try simp only [ext_ext]); repeat (first | exact Kept.refl _ | apply Kept.alloc | apply Kept.drew | apply kept_add | apply Kept.ext))) hl) ?_; rintro e w' ⟨rfl, y, rfl⟩))
    go_ret
    exact ⟨ret_of (by rw [hv.out, h]; rfl), (by (try simp only [ext_ext]); repeat (first | exact Kept.refl _ | apply Kept.alloc | apply Kept.drew | apply kept_add | apply Kept.ext))⟩
  · by_cases h2 : xs.length ≤ 15
    all_goals
      go_enter Try.func36, Try.ntmps36
      go_wp2_with (first | (go_at_call 46; refine Calls.mono (IsHand_any _ _ _ _ (by first | assumption | exact CardsAt.kept (by assumption) (by (try simp only [ext_ext]); repeat (first | exact Kept.refl _ | apply Kept.alloc | apply Kept.drew | apply kept_add | apply Kept.ext))) hl) ?_; rintro e w' ⟨rfl, y, rfl⟩))
      go_ret
      exact ⟨ret_of (by rw [hv.out, h]; simp; omega), (by (try simp only [ext_ext]); repeat (first | exact Kept.refl _ | apply Kept.alloc | apply Kept.drew | apply kept_add | apply Kept.ext))⟩
theorem sCountPickings_no (ao : Option Addr) (cap : Nat) (xs : List Card) (n : Int) (w : World) (hx : CardsAt w ao xs) (hl : xs.length ≤ 1048576) (hg : (partB xs && inB n 0 5) = false) :
    Calls Try.prog 10 #[.slice ao xs.length cap, .int .i64 n] w fun e w' => e = .returned (.tuple #[.int .i64 0, .bool false]) ∧ Kept w w' := by
  cases h : partB xs
  · go_enter Try.func10, Try.ntmps10
    go_wp2_with (first | (go_at_call 31; refine Calls.mono (l7Pool_any _ _ _ _ (by first | assumption | exact CardsAt.kept (by assumption) (by (try simp only [ext_ext]); repeat (first | exact Kept.refl _ | apply Kept.alloc | apply Kept.drew | apply kept_add | apply Kept.ext))) hl) ?_; rintro e w' ⟨rfl, y, rfl⟩))
    refine bodyPost_ret (v := .tuple #[.int .i64 0, .bool false]) (by simp [results, Try.results10, go_sem]) rfl ⟨rfl, ?_⟩
    exact (by (try simp only [ext_ext]); repeat (first | exact Kept.refl _ | apply Kept.alloc | apply Kept.drew | apply kept_add | apply Kept.ext))
  cases h2 : inB n 0 5
  · go_enter Try.func10, Try.ntmps10
    go_wp2_with (first | (go_at_call 31; refine Calls.mono (l7Pool_any _ _ _ _ (by first | assumption | exact CardsAt.kept (by assumption) (by (try simp only [ext_ext]); repeat (first | exact Kept.refl _ | apply Kept.alloc | apply Kept.drew | apply kept_add | apply Kept.ext))) hl) ?_; rintro e w' ⟨rfl, y, rfl⟩) | (go_at_call 32; refine Calls.mono (l1In_any _ _ _ _) ?_; rintro e w' ⟨rfl, rfl⟩))
    refine bodyPost_ret (v := .tuple #[.int .i64 0, .bool false]) (by simp [results, Try.results10, go_sem]) rfl ⟨rfl, ?_⟩
    exact (by (try simp only [ext_ext]); repeat (first | exact Kept.refl _ | apply Kept.alloc | apply Kept.drew | apply kept_add | apply Kept.ext))
  · simp [h, h2] at hg
theorem iCountPickings_no (ao : Option Addr) (cap : Nat) (xs : List Card) (n : Int) (w : World) (hx : CardsAt w ao xs) (hl : xs.length ≤ 1048576) (hg : (partB xs && inB n 0 5) = false) :
    Calls Try.prog 12 #[.slice ao xs.length cap, .int .i64 n] w fun e w' => e = .returned (.tuple #[.int .i64 0, .bool false]) ∧ Kept w w' := by
  cases h : partB xs
  · go_enter Try.func12, Try.ntmps12
    go_wp2_with (first | (go_at_call 36; refine Calls.mono (isParted_any _ _ _ _ (by first | assumption | exact CardsAt.kept (by assumption) (by (try simp only [ext_ext]); repeat (first | exact Kept.refl _ | apply Kept.alloc | apply Kept.drew | apply kept_add | apply Kept.ext))) hl) ?_; rintro e w' ⟨rfl, y, rfl⟩))
    refine bodyPost_ret (v := .tuple #[.int .i64 0, .bool false]) (by simp [results, Try.results12, go_sem]) rfl ⟨rfl, ?_⟩
    exact (by (try simp only [ext_ext]); repeat (first | exact Kept.refl _ | apply Kept.alloc | apply Kept.drew | apply kept_add | apply Kept.ext))
  cases h2 : inB n 0 5
  · go_enter Try.func12, Try.ntmps12
    go_wp2_with (first | (go_at_call 36; refine Calls.mono (isParted_any _ _ _ _ (by first | assumption | exact CardsAt.kept (by assumption) (by (try simp only [ext_ext]); repeat (first | exact Kept.refl _ | apply Kept.alloc | apply Kept.drew | apply kept_add | apply Kept.ext))) hl) ?_; rintro e w' ⟨rfl, y, rfl⟩) | (go_at_call 37; refine Calls.mono (within_any _ _ _ _) ?_; rintro e w' ⟨rfl, rfl⟩))
    refine bodyPost_ret (v := .tuple #[.int .i64 0, .bool false]) (by simp [results, Try.results12, go_sem]) rfl ⟨rfl, ?_⟩
    exact (by (try simp only [ext_ext]); repeat (first | exact Kept.refl _ | apply Kept.alloc | apply Kept.drew | apply kept_add | apply Kept.ext))
  · simp [h, h2] at hg
theorem partB_of {xs : List Card} (h : partB xs = true) : isHand xs = true ∧ xs.length ≤ 15 := by simpa [partB] using h
theorem sCountPickings_yes (ao : Option Addr) (cap : Nat) (xs : List Card) (n : Int) (w : World) (hx : CardsAt w ao xs) (hg : (partB xs && inB n 0 5) = true) :
    Calls Try.prog 10 #[.slice ao xs.length cap, .int .i64 n] w fun e w' => e = .returned (.tuple #[.int .i64 (cntL (linesC xs) [] n.toNat : Nat), .bool true]) ∧ Kept w w' := by
  obtain ⟨hp, hn⟩ : partB xs = true ∧ inB n 0 5 = true := by simpa using hg
  obtain ⟨hh, h15⟩ := partB_of hp
  have hnb := inB_of hn
  have hc := areC_hand hh
  have hd := distC_hand hh
  have hL := hid (fun w' (hk : Kept w w') => l2Lines_any ao cap xs w' (hx.kept hk) (by omega) hc)
  have hPl := hid (fun w' (hk : Kept w w') => l7Pool_any ao cap xs w' (hx.kept hk) (by omega))
  rw [hp] at hPl
  have hC := hid (l7Count_any (linesC xs) (lines35 hc hd h15) (fun l hl => sort_lines hl) n.toNat)
  clear hg hx hc hd
  go_enter Try.func10, Try.ntmps10
  go_wp2_with (first | (go_at_call 31; refine Calls.mono (hPl.out _ (by (try simp only [ext_ext]); repeat (first | exact Kept.refl _ | apply Kept.alloc | apply Kept.drew | apply kept_add | apply Kept.ext)) ) ?_; rintro e w' ⟨rfl, y, rfl⟩) | (go_at_call 32; refine Calls.mono (l1In_any _ _ _ _) ?_; rintro e w' ⟨rfl, rfl⟩))
  (go_at_call 34; refine Calls.mono (hL.out _ (by (try simp only [ext_ext]); repeat (first | exact Kept.refl _ | apply Kept.alloc | apply Kept.drew | apply kept_add | apply Kept.ext))) ?_; rintro e w1 ⟨v, rfl, ho, k1⟩)
  have K1 : Kept w w1 := Kept.trans (by (try simp only [ext_ext]); repeat (first | exact Kept.refl _ | apply Kept.alloc | apply Kept.drew | apply kept_add | apply Kept.ext)) k1
  obtain ⟨ao1, cap1, rfl, hx1, _⟩ := ho.reads
  go_wp2_with (fail)
  (go_at_call 33; refine Calls.mono (hC.out _ _ [] _ _ _ _ 0 w1.heap.size _ 0 n rfl (by omega) rfl (hx1.kept (by (try simp only [ext_ext]); repeat (first | exact Kept.refl _ | apply Kept.alloc | apply Kept.drew | apply kept_add | apply Kept.ext))) (ownL_nil (Nat.le_refl _) (heap_at rfl)) (by simp) (by simp) (by simp; omega) (by simp)) ?_; rintro e w2 ⟨rfl, k2⟩)
  go_wp2_with (fail)
  refine bodyPost_ret (v := .tuple #[.int .i64 (cntL (linesC xs) [] n.toNat : Nat), .bool true]) (by simp [results, Try.results10, go_sem]) rfl ⟨rfl, ?_⟩
  exact K1.trans (Kept.trans (by (try simp only [ext_ext]); repeat (first | exact Kept.refl _ | apply Kept.alloc | apply Kept.drew | apply kept_add | apply Kept.ext)) k2)
theorem iCountPickings_yes (ao : Option Addr) (cap : Nat) (xs : List Card) (n : Int) (w : World) (hx : CardsAt w ao xs) (hg : (partB xs && inB n 0 5) = true) :
    Calls Try.prog 12 #[.slice ao xs.length cap, .int .i64 n] w fun e w' => e = .returned (.tuple #[.int .i64 (cntL (linesC xs) [] n.toNat : Nat), .bool true]) ∧ Kept w w' := by
  obtain ⟨hp, hn⟩ : partB xs = true ∧ inB n 0 5 = true := by simpa using hg
  obtain ⟨hh, h15⟩ := partB_of hp
  have hnb := inB_of hn
  have hPl0 := fun w' (hk : Kept w w') => isParted_any ao cap xs w' (hx.kept hk) (by omega)
  rw [hp] at hPl0
  have hPl := hid hPl0
  have hC0 := fun w' (hk : Kept w w') => countPickings_any ao cap xs n w' (hx.kept hk) hh h15
  rw [show cntP (visL (linesC xs) []) n = cntL (linesC xs) [] n.toNat by rw [← cnt_top]; congr 1; omega] at hC0
  have hC := hid hC0
  clear hg hx hPl0 hC0
  go_enter Try.func12, Try.ntmps12
  go_wp2_with (first | (go_at_call 36; refine Calls.mono (hPl.out _ (by (try simp only [ext_ext]); repeat (first | exact Kept.refl _ | apply Kept.alloc | apply Kept.drew | apply kept_add | apply Kept.ext)) ) ?_; rintro e w' ⟨rfl, y, rfl⟩) | (go_at_call 37; refine Calls.mono (within_any _ _ _ _) ?_; rintro e w' ⟨rfl, rfl⟩) | (go_at_call 38; refine Calls.mono (hC.out _ (by (try simp only [ext_ext]); repeat (first | exact Kept.refl _ | apply Kept.alloc | apply Kept.drew | apply kept_add | apply Kept.ext)) ) ?_; rintro e w' ⟨rfl, y, rfl⟩))
  refine bodyPost_ret (v := .tuple #[.int .i64 (cntL (linesC xs) [] n.toNat : Nat), .bool true]) (by simp [results, Try.results12, go_sem]) rfl ⟨rfl, ?_⟩
  exact (by (try simp only [ext_ext]); repeat (first | exact Kept.refl _ | apply Kept.alloc | apply Kept.drew | apply kept_add | apply Kept.ext))
theorem twoCountPickings (xs : List Card) (n : Int) (hn : xs.length ≤ 1048576) : ∃ q ok, (∀ (ao : Option Addr) (cap : Nat) (w : World), CardsAt w ao xs → xs.length ≤ cap → Calls Try.prog 10 #[.slice ao xs.length cap, .int .i64 n] w fun e w' => e = .returned (.tuple #[.int .i64 q, .bool ok]) ∧ Kept w w') ∧ (∀ (ao : Option Addr) (cap : Nat) (w : World), CardsAt w ao xs → xs.length ≤ cap → Calls Try.prog 12 #[.slice ao xs.length cap, .int .i64 n] w fun e w' => e = .returned (.tuple #[.int .i64 q, .bool ok]) ∧ Kept w w') := by
  cases hg : partB xs && inB n 0 5 with
  | false => exact ⟨0, false, fun _ _ _ hx _ => sCountPickings_no _ _ _ _ _ hx hn hg, fun _ _ _ hx _ => iCountPickings_no _ _ _ _ _ hx hn hg⟩
  | true => exact ⟨_, true, fun _ _ _ hx _ => sCountPickings_yes _ _ _ _ _ hx hg, fun _ _ _ hx _ => iCountPickings_yes _ _ _ _ _ hx hg⟩
set_option maxHeartbeats 1000000 in
theorem walk_FnExactCountPickings (ao : Option Addr) (xs : List Card) (cap : Nat) {w : World} (hx : CardsAt w ao xs) (hl : xs.length ≤ maxLen) (n : Int) (_ : World) :
    Calls Try.prog 3 #[.slice ao xs.length cap, .int .i64 n] w fun e w' => e = .returned (.bool true) ∧ Kept w w' := by
  have hl' : xs.length ≤ 9223372036854775807 := by unfold maxLen at hl; omega
  by_cases hn : xs.length ≤ 1048576
  · obtain ⟨q, ok, hS, hI⟩ : ∃ q ok, (∀ (ao : Option Addr) (cap : Nat) (w : World), CardsAt w ao xs → xs.length ≤ cap → Calls Try.prog 10 #[.slice ao xs.length cap, .int .i64 n] w fun e w' => e = .returned (.tuple #[.int .i64 q, .bool ok]) ∧ Kept w w') ∧ (∀ (ao : Option Addr) (cap : Nat) (w : World), CardsAt w ao xs → xs.length ≤ cap → Calls Try.prog 12 #[.slice ao xs.length cap, .int .i64 n] w fun e w' => e = .returned (.tuple #[.int .i64 q, .bool ok]) ∧ Kept w w') := twoCountPickings xs n hn
    have hSH := hid hS
    have hIH := hid hI
    clear hS hI
    go_enter Try.func3, Try.ntmps3
    go_wp2_with (first | (go_at_call 9; refine Calls.mono (szIntA4S_any _ _ _ hl' _) ?_; rintro e w' ⟨rfl, rfl⟩) | (go_at_call 11; refine Calls.mono (toIntA4S_any _ _ _ _ (by first | assumption | exact CardsAt.kept (by assumption) (by (try simp only [ext_ext]); repeat (first | exact Kept.refl _ | apply Kept.alloc | apply Kept.drew | apply kept_add | apply Kept.ext))) hn) ?_; rintro e w' ⟨v, rfl, ho, z, rfl⟩; obtain ⟨ao', cap', rfl, hx', hcap'⟩ := ho.reads; clear ho) | (go_at_call 10; refine Calls.mono (hSH.out _ _ _ (by first | assumption | exact CardsAt.kept (by assumption) (by (try simp only [ext_ext]); repeat (first | exact Kept.refl _ | apply Kept.alloc | apply Kept.drew | apply kept_add | apply Kept.ext))) (by assumption)) ?_; rintro e w' ⟨rfl, y, rfl⟩) | (go_at_call 12; refine Calls.mono (hIH.out _ _ _ (by first | assumption | exact CardsAt.kept (by assumption) (by (try simp only [ext_ext]); repeat (first | exact Kept.refl _ | apply Kept.alloc | apply Kept.drew | apply kept_add | apply Kept.ext))) (by assumption)) ?_; rintro e w' ⟨rfl, y, rfl⟩) | (go_at_call 13; refine Calls.mono (eqIntA4S_any _ _ _ _ _ _ _ (by first | assumption | exact CardsAt.kept (by assumption) (by (try simp only [ext_ext]); repeat (first | exact Kept.refl _ | apply Kept.alloc | apply Kept.drew | apply kept_add | apply Kept.ext))) (by first | assumption | exact CardsAt.kept (by assumption) (by (try simp only [ext_ext]); repeat (first | exact Kept.refl _ | apply Kept.alloc | apply Kept.drew | apply kept_add | apply Kept.ext))) hn hn) ?_; rintro e w' ⟨rfl, y, rfl⟩))
    all_goals
      go_ret
      exact ⟨rfl, (by (try simp only [ext_ext]); repeat (first | exact Kept.refl _ | apply Kept.alloc | apply Kept.drew | apply kept_add | apply Kept.ext))⟩
  · go_enter Try.func3, Try.ntmps3
    go_wp2_with (first | (go_at_call 9; refine Calls.mono (szIntA4S_any _ _ _ hl' _) ?_; rintro e w' ⟨rfl, rfl⟩))
    go_ret
    exact ⟨rfl, (by (try simp only [ext_ext]); repeat (first | exact Kept.refl _ | apply Kept.alloc | apply Kept.drew | apply kept_add | apply Kept.ext))⟩
end Go.Proofs.Ytifkjbihmmdnbaa
