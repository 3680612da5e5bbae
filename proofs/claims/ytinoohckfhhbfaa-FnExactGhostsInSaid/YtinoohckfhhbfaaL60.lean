/- Walk: the law of IsGhost. -/
import Derived.Test.YtinoohckfhhbfaaT62
namespace Go.Proofs.Ytinoohckfhhbfaa
open Go.RowKit
theorem l10_all : ∀ (m : Nat), m ≤ 3 → ∀ (h ts : List Card) (n tl : Nat) (ho : Option Addr) (hcap : Nat) (tao : Option Addr) (tcap : Nat) (w : World), h.length = n → n = 2 * m → ts.length = tl → tl + m = 3 → areC h → areC ts → n ≤ hcap → CardsAt w ho h → CardsAt w tao ts → (tao = none → tl = 0 ∧ tcap = 0) →
      Calls Try.prog 41 #[.slice ho n hcap, .slice tao tl tcap] w fun e w' => e = .returned (.bool (thF m h ts)) ∧ Kept w w' := by
  intro m
  induction m with
  | zero =>
    intro _ h ts n tl ho hcap tao tcap w hn hn2 htl ht3 hch hct hcp hxh hxt ht0
    have h0 : h = [] := List.eq_nil_of_length_eq_zero (by omega)
    subst h0
    obtain rfl : n = 0 := by omega
    obtain rfl : tl = 3 := by omega
    exact l10_zero ts hcap ho tao tcap 3 w htl rfl hct hxt
  | succ m ih =>
    intro hm h ts n tl ho hcap tao tcap w hn hn2 htl ht3 hch hct hcp hxh hxt ht0
    exact l10_step m (by omega) (ih (by omega)) h ts n tl ho hcap tao tcap w hn (by omega) htl ht3 hch hct hcp hxh hxt ht0
theorem l10_six (ao : Option Addr) (cap g : Nat) (xs : List Card) (n : Nat) (w : World) (hn : xs.length = n) (h6 : n = 6) (hcap : n ≤ cap) (hc : areC xs) (hx : CardsAt w ao xs) :
    Calls Try.prog 41 #[.slice ao n cap, .slice (some ⟨g, 0, none⟩) 0 0] w fun e w' => e = .returned (.bool (goT xs 5)) ∧ Kept w w' := by
  rw [← thF_ghost (hn.trans h6)]
  exact l10_all 3 (by omega) xs [] n 0 ao cap _ 0 w hn (by omega) rfl (by omega) hc (fun i hi => by simp at hi) hcap hx (fun i hi => by simp at hi) (fun e => by cases e)
def six6 (xs : List Card) : Bool := isHand xs && decide (xs.length = 6)
theorem areSix6_any (ao : Option Addr) (cap : Nat) (xs : List Card) (w : World) (hx : CardsAt w ao xs) (hl : xs.length ≤ 1048576) :
    Calls Try.prog 42 #[.slice ao xs.length cap] w fun e w' => e = .returned (.bool (six6 xs)) ∧ Kept w w' := by
  cases hh : isHand xs with
  | false =>
    go_enter Try.func42, Try.ntmps42
    go_wp2_with (first | (go_at_call 56; refine Calls.mono (IsHand_any _ _ _ _ hx hl) ?_; rintro e w' ⟨rfl, y, rfl⟩))
    go_ret
    exact ⟨ret_of (by simp [six6, hh, nbeq6]), (by (try simp only [ext_ext]); repeat (first | exact Kept.refl _ | apply Kept.alloc | apply Kept.drew | apply kept_add | apply Kept.ext))⟩
  | true =>
    go_enter Try.func42, Try.ntmps42
    go_wp2_with (first | (go_at_call 56; refine Calls.mono (IsHand_any _ _ _ _ hx hl) ?_; rintro e w' ⟨rfl, y, rfl⟩))
    go_ret
    exact ⟨ret_of (by simp [six6, hh, nbeq6]), (by (try simp only [ext_ext]); repeat (first | exact Kept.refl _ | apply Kept.alloc | apply Kept.drew | apply kept_add | apply Kept.ext))⟩
theorem twoIsGhost (xs : List Card) (hn : xs.length ≤ 1048576) : ∃ q ok, (∀ (ao : Option Addr) (cap : Nat) (w : World), CardsAt w ao xs → xs.length ≤ cap → Calls Try.prog 14 #[.slice ao xs.length cap] w fun e w' => e = .returned (.tuple #[.bool q, .bool ok]) ∧ Kept w w') ∧ (∀ (ao : Option Addr) (cap : Nat) (w : World), CardsAt w ao xs → xs.length ≤ cap → Calls Try.prog 16 #[.slice ao xs.length cap] w fun e w' => e = .returned (.tuple #[.bool q, .bool ok]) ∧ Kept w w') := by
  cases hg : six6 xs with
  | false =>
    refine ⟨false, false, fun ao cap w hx _ => ?_, fun ao cap w hx _ => ?_⟩
    · cases hh : isHand xs with
      | false =>
        go_enter Try.func14, Try.ntmps14
        go_wp2_with (first | (go_at_call 40; refine Calls.mono (l2Hand_any _ _ _ _ hx hn) ?_; rintro e w' ⟨rfl, y, rfl⟩))
        refine bodyPost_ret (v := .tuple #[.bool false, .bool false]) (by simp [results, Try.results14, go_sem]) rfl ⟨rfl, ?_⟩
        exact (by (try simp only [ext_ext]); repeat (first | exact Kept.refl _ | apply Kept.alloc | apply Kept.drew | apply kept_add | apply Kept.ext))
      | true =>
        have h6 : ¬ xs.length = 6 := by simpa [six6, hh] using hg
        have hb : ((xs.length : Int) != 6) = true := by simp; omega
        have hb2 : ¬ (xs.length : Int) = 6 := by omega
        clear h6 hg
        go_enter Try.func14, Try.ntmps14
        go_wp2_with (first | (go_at_call 40; refine Calls.mono (l2Hand_any _ _ _ _ hx hn) ?_; rintro e w' ⟨rfl, y, rfl⟩))
        refine bodyPost_ret (v := .tuple #[.bool false, .bool false]) (by simp [results, Try.results14, go_sem]) rfl ⟨rfl, ?_⟩
        exact (by (try simp only [ext_ext]); repeat (first | exact Kept.refl _ | apply Kept.alloc | apply Kept.drew | apply kept_add | apply Kept.ext))
    · go_enter Try.func16, Try.ntmps16
      go_wp2_with (first | (go_at_call 42; refine Calls.mono (areSix6_any _ _ _ _ hx hn) ?_; rintro e w' ⟨rfl, y, rfl⟩))
      refine bodyPost_ret (v := .tuple #[.bool false, .bool false]) (by simp [results, Try.results16, go_sem]) rfl ⟨rfl, ?_⟩
      exact (by (try simp only [ext_ext]); repeat (first | exact Kept.refl _ | apply Kept.alloc | apply Kept.drew | apply kept_add | apply Kept.ext))
  | true =>
    obtain ⟨hh, h6⟩ : isHand xs = true ∧ xs.length = 6 := by simpa [six6] using hg
    have hc := areC_hand hh
    have hd := distC_hand hh
    refine ⟨goT xs 5, true, fun ao cap w hx hcap => ?_, fun ao cap w hx hcap => ?_⟩
    · have hb : ((xs.length : Int) != 6) = false := by simp; omega
      have hT := hid (fun (w' : World) (hk : Kept w w') (g : Nat) => l10_six ao cap g xs xs.length w' rfl h6 hcap hc (hx.kept hk))
      have hL := hid (l2Hand_any ao cap xs w hx hn)
      rw [hh] at hL
      generalize goT xs 5 = q at hT ⊢
      generalize xs.length = n at hT hb hL ⊢
      clear h6 hg hc hd hx
      go_enter Try.func14, Try.ntmps14
      go_wp2_with (first | (go_at_call 40; refine Calls.mono (hL.out) ?_; rintro e w' ⟨rfl, y, rfl⟩) | (go_at_call 41; refine Calls.mono (hT.out _ (by (try simp only [ext_ext]); repeat (first | exact Kept.refl _ | apply Kept.alloc | apply Kept.drew | apply kept_add | apply Kept.ext)) _) ?_; rintro e w' ⟨rfl, y, rfl⟩))
      refine bodyPost_ret (v := .tuple #[.bool q, .bool true]) (by simp [results, Try.results14, go_sem]) rfl ⟨rfl, ?_⟩
      exact (by (try simp only [ext_ext]); repeat (first | exact Kept.refl _ | apply Kept.alloc | apply Kept.drew | apply kept_add | apply Kept.ext))
    · have hT := hid (show ∀ w', Kept w w' → Calls Try.prog 43 #[.slice ao xs.length cap] w' fun e w'' => e = .returned (.bool (goT xs 5)) ∧ Kept w' w'' from fun (w' : World) (hk : Kept w w') => by rw [h6]; exact isGhost_any ao cap 6 xs w' (hx.kept hk) rfl h6 hc hd)
      have hL := hid (areSix6_any ao cap xs w hx hn)
      rw [hg] at hL
      generalize goT xs 5 = q at hT ⊢
      generalize xs.length = n at hT hL ⊢
      clear h6 hg hc hd hx
      go_enter Try.func16, Try.ntmps16
      go_wp2_with (first | (go_at_call 42; refine Calls.mono (hL.out) ?_; rintro e w' ⟨rfl, y, rfl⟩) | (go_at_call 43; refine Calls.mono (hT.out _ (by (try simp only [ext_ext]); repeat (first | exact Kept.refl _ | apply Kept.alloc | apply Kept.drew | apply kept_add | apply Kept.ext)) ) ?_; rintro e w' ⟨rfl, y, rfl⟩))
      refine bodyPost_ret (v := .tuple #[.bool q, .bool true]) (by simp [results, Try.results16, go_sem]) rfl ⟨rfl, ?_⟩
      exact (by (try simp only [ext_ext]); repeat (first | exact Kept.refl _ | apply Kept.alloc | apply Kept.drew | apply kept_add | apply Kept.ext))
set_option maxHeartbeats 1000000 in
theorem walk_FnExactIsGhost (ao : Option Addr) (xs : List Card) (cap : Nat) {w : World} (hx : CardsAt w ao xs) (hl : xs.length ≤ maxLen) (_ : World) :
    Calls Try.prog 4 #[.slice ao xs.length cap] w fun e w' => e = .returned (.bool true) ∧ Kept w w' := by
  have hl' : xs.length ≤ 9223372036854775807 := by unfold maxLen at hl; omega
  by_cases hn : xs.length ≤ 1048576
  · obtain ⟨q, ok, hS, hI⟩ : ∃ q ok, (∀ (ao : Option Addr) (cap : Nat) (w : World), CardsAt w ao xs → xs.length ≤ cap → Calls Try.prog 14 #[.slice ao xs.length cap] w fun e w' => e = .returned (.tuple #[.bool q, .bool ok]) ∧ Kept w w') ∧ (∀ (ao : Option Addr) (cap : Nat) (w : World), CardsAt w ao xs → xs.length ≤ cap → Calls Try.prog 16 #[.slice ao xs.length cap] w fun e w' => e = .returned (.tuple #[.bool q, .bool ok]) ∧ Kept w w') := twoIsGhost xs hn
    have hSH := hid hS
    have hIH := hid hI
    clear hS hI
    go_enter Try.func4, Try.ntmps4
    go_wp2_with (first | (go_at_call 13; refine Calls.mono (szIntA4S_any _ _ _ hl' _) ?_; rintro e w' ⟨rfl, rfl⟩) | (go_at_call 15; refine Calls.mono (toIntA4S_any _ _ _ _ (by first | assumption | exact CardsAt.kept (by assumption) (by (try simp only [ext_ext]); repeat (first | exact Kept.refl _ | apply Kept.alloc | apply Kept.drew | apply kept_add | apply Kept.ext))) hn) ?_; rintro e w' ⟨v, rfl, ho, z, rfl⟩; obtain ⟨ao', cap', rfl, hx', hcap'⟩ := ho.reads; clear ho) | (go_at_call 14; refine Calls.mono (hSH.out _ _ _ (by first | assumption | exact CardsAt.kept (by assumption) (by (try simp only [ext_ext]); repeat (first | exact Kept.refl _ | apply Kept.alloc | apply Kept.drew | apply kept_add | apply Kept.ext))) (by assumption)) ?_; rintro e w' ⟨rfl, y, rfl⟩) | (go_at_call 16; refine Calls.mono (hIH.out _ _ _ (by first | assumption | exact CardsAt.kept (by assumption) (by (try simp only [ext_ext]); repeat (first | exact Kept.refl _ | apply Kept.alloc | apply Kept.drew | apply kept_add | apply Kept.ext))) (by assumption)) ?_; rintro e w' ⟨rfl, y, rfl⟩) | (go_at_call 17; refine Calls.mono (eqIntA4S_any _ _ _ _ _ _ _ (by first | assumption | exact CardsAt.kept (by assumption) (by (try simp only [ext_ext]); repeat (first | exact Kept.refl _ | apply Kept.alloc | apply Kept.drew | apply kept_add | apply Kept.ext))) (by first | assumption | exact CardsAt.kept (by assumption) (by (try simp only [ext_ext]); repeat (first | exact Kept.refl _ | apply Kept.alloc | apply Kept.drew | apply kept_add | apply Kept.ext))) hn hn) ?_; rintro e w' ⟨rfl, y, rfl⟩))
    all_goals
      go_ret
      exact ⟨rfl, (by (try simp only [ext_ext]); repeat (first | exact Kept.refl _ | apply Kept.alloc | apply Kept.drew | apply kept_add | apply Kept.ext))⟩
  · go_enter Try.func4, Try.ntmps4
    go_wp2_with (first | (go_at_call 13; refine Calls.mono (szIntA4S_any _ _ _ hl' _) ?_; rintro e w' ⟨rfl, rfl⟩))
    go_ret
    exact ⟨rfl, (by (try simp only [ext_ext]); repeat (first | exact Kept.refl _ | apply Kept.alloc | apply Kept.drew | apply kept_add | apply Kept.ext))⟩
end Go.Proofs.Ytinoohckfhhbfaa
