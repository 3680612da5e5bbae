/- Walk: the law of ChanceCap. -/
import Derived.Test.YtinoohckfhhbfaaT58
import Derived.Test.YtinoohckfhhbfaaC2
namespace Go.Proofs.Ytinoohckfhhbfaa
open Go.RowKit
abbrev chanceCap (xs : List Card) (n : Nat) : Value := v2 (cutN (cntC xs xs.length n [] : Nat) (chooseL xs.length n)) (cutD (cntC xs xs.length n [] : Nat) (chooseL xs.length n))
def capOk (xs : List Card) (n : Int) : Bool := capB xs && inB n 0 xs.length
theorem chooseL_pos {n : Nat} : ∀ {i : Nat}, n ≤ 81 → i ≤ n → i ≤ 16 → 1 ≤ chooseL n i := fun {i} h1 h2 h3 => choose_pos (n := n) (i := i) (by omega) (by omega) (by omega)
theorem sChanceCap_no (ao : Option Addr) (cap : Nat) (xs : List Card) (n : Int) (w : World) (hx : CardsAt w ao xs) (hl : xs.length ≤ 1048576) (h : capOk xs n = false) :
    Calls Try.prog 29 #[.slice ao xs.length cap, .int .i64 n] w fun e w' => e = .returned (.tuple #[v2 0 0, .bool false]) ∧ Kept w w' := by
  cases hp : capB xs with
  | false =>
    go_enter Try.func29, Try.ntmps29
    go_wp2_with (first | (go_at_call 62; refine Calls.mono (l3Pool_any _ _ _ _ (by first | assumption | exact CardsAt.kept (by assumption) (by (try simp only [ext_ext]); repeat (first | exact Kept.refl _ | apply Kept.alloc | apply Kept.drew | apply kept_add | apply Kept.ext))) hl) ?_; rintro e w' ⟨rfl, y, rfl⟩))
    refine bodyPost_ret (v := .tuple #[v2 0 0, .bool false]) (by simp [results, Try.results29, go_sem]) rfl ⟨rfl, ?_⟩
    exact (by (try simp only [ext_ext]); repeat (first | exact Kept.refl _ | apply Kept.alloc | apply Kept.drew | apply kept_add | apply Kept.ext))
  | true =>
    have hi : inB n 0 xs.length = false := by simpa [capOk, hp] using h
    go_enter Try.func29, Try.ntmps29
    go_wp2_with (first | (go_at_call 62; refine Calls.mono (l3Pool_any _ _ _ _ (by first | assumption | exact CardsAt.kept (by assumption) (by (try simp only [ext_ext]); repeat (first | exact Kept.refl _ | apply Kept.alloc | apply Kept.drew | apply kept_add | apply Kept.ext))) hl) ?_; rintro e w' ⟨rfl, y, rfl⟩) | (go_at_call 45; refine Calls.mono (l1In_any _ _ _ _) ?_; rintro e w' ⟨rfl, rfl⟩))
    refine bodyPost_ret (v := .tuple #[v2 0 0, .bool false]) (by simp [results, Try.results29, go_sem]) rfl ⟨rfl, ?_⟩
    exact (by (try simp only [ext_ext]); repeat (first | exact Kept.refl _ | apply Kept.alloc | apply Kept.drew | apply kept_add | apply Kept.ext))
theorem iChanceCap_no (ao : Option Addr) (cap : Nat) (xs : List Card) (n : Int) (w : World) (hx : CardsAt w ao xs) (hl : xs.length ≤ 1048576) (h : capOk xs n = false) :
    Calls Try.prog 30 #[.slice ao xs.length cap, .int .i64 n] w fun e w' => e = .returned (.tuple #[v2 0 0, .bool false]) ∧ Kept w w' := by
  cases hg : capB xs && inB n 0 15 with
  | false =>
    go_enter Try.func30, Try.ntmps30
    go_wp2_with (first | (go_at_call 66; refine Calls.mono (countCaps_no _ _ _ _ _ (by first | assumption | exact CardsAt.kept (by assumption) (by (try simp only [ext_ext]); repeat (first | exact Kept.refl _ | apply Kept.alloc | apply Kept.drew | apply kept_add | apply Kept.ext))) hl hg) ?_; rintro e w' ⟨rfl, y, rfl⟩))
    refine bodyPost_ret (v := .tuple #[v2 0 0, .bool false]) (by simp [results, Try.results30, go_sem]) rfl ⟨rfl, ?_⟩
    exact (by (try simp only [ext_ext]); repeat (first | exact Kept.refl _ | apply Kept.alloc | apply Kept.drew | apply kept_add | apply Kept.ext))
  | true =>
    obtain ⟨hp, hn⟩ : capB xs = true ∧ inB n 0 15 = true := by simpa using hg
    have hi : inB n 0 xs.length = false := by simpa [capOk, hp] using h
    have hb := inB_of hn
    have hlt : (xs.length : Int) < n := by have := inB_not hi; omega
    go_enter Try.func30, Try.ntmps30
    go_wp2_with (first | (go_at_call 66; refine Calls.mono (countCaps_yes _ _ _ _ _ (by first | assumption | exact CardsAt.kept (by assumption) (by (try simp only [ext_ext]); repeat (first | exact Kept.refl _ | apply Kept.alloc | apply Kept.drew | apply kept_add | apply Kept.ext))) hg) ?_; rintro e w' ⟨rfl, y, rfl⟩))
    refine bodyPost_ret (v := .tuple #[v2 0 0, .bool false]) (by simp [results, Try.results30, go_sem]) rfl ⟨rfl, ?_⟩
    exact (by (try simp only [ext_ext]); repeat (first | exact Kept.refl _ | apply Kept.alloc | apply Kept.drew | apply kept_add | apply Kept.ext))
theorem sChanceCap_yes (ao : Option Addr) (cap : Nat) (xs : List Card) (n : Nat) (w : World) (hx : CardsAt w ao xs) (h : capOk xs n = true) :
    Calls Try.prog 29 #[.slice ao xs.length cap, .int .i64 n] w fun e w' => e = .returned (.tuple #[chanceCap xs n, .bool true]) ∧ Kept w w' := by
  obtain ⟨hp, hi⟩ : capB xs = true ∧ inB n 0 xs.length = true := by simpa [capOk] using h
  obtain ⟨hh, h15⟩ := capB_of hp
  have hb := inB_of hi
  have hnl : n ≤ xs.length := by omega
  have hc := areC_hand hh
  have hPl0 := fun w' (hk : Kept w w') => l3Pool_any ao cap xs w' (hx.kept hk) (by omega)
  rw [hp] at hPl0
  have hPl := hid hPl0
  obtain ⟨c, hcE⟩ : ∃ c : Nat, c = cntC xs xs.length n [] := ⟨_, rfl⟩
  have hle : c ≤ 32768 := by
    have h1 := cntC_le xs xs.length n []
    have h2 : (2 : Nat) ^ xs.length ≤ 2 ^ 15 := Nat.pow_le_pow_right (by omega) h15
    have h3 : (2 : Nat) ^ 15 = 32768 := by decide
    omega
  have hC := hid (fun w' (hk : Kept w w') (g : Nat) => l3Count_all xs xs.length rfl hc h15 xs.length 0 n n ao cap [] 0 (some ⟨g, 0, none⟩) 0 w' (by omega) (by omega) rfl (by omega) (fun i hi => by simp at hi) rfl (by omega) (hx.kept hk) (fun i hi => by simp at hi) (fun e => by cases e))
  simp only [Nat.sub_zero] at hC
  unfold chanceCap
  rw [← hcE] at hC ⊢
  obtain ⟨_, _, _, h4⟩ := choose_ok (n := xs.length) (i := n) (by omega) (by omega)
  have hpos := chooseL_pos (n := xs.length) (i := n) (by omega) hnl (by omega)
  have hF := hid (fun w' => l9Cut_any (c : Int) (chooseL xs.length n) (by omega) (by omega) hpos h4 w')
  have hK := hid (fun w' => l9Choose_any xs.length n (by omega) (by omega) w')
  clear hPl0 hcE h hx hpos h4
  go_enter Try.func29, Try.ntmps29
  go_wp2_with (first | (go_at_call 62; refine Calls.mono (hPl.out _ (by (try simp only [ext_ext]); repeat (first | exact Kept.refl _ | apply Kept.alloc | apply Kept.drew | apply kept_add | apply Kept.ext)) ) ?_; rintro e w' ⟨rfl, y, rfl⟩) | (go_at_call 45; refine Calls.mono (l1In_any _ _ _ _) ?_; rintro e w' ⟨rfl, rfl⟩) | (go_at_call 64; refine Calls.mono (hC.out _ (by (try simp only [ext_ext]); repeat (first | exact Kept.refl _ | apply Kept.alloc | apply Kept.drew | apply kept_add | apply Kept.ext)) _) ?_; rintro e w' ⟨rfl, y, rfl⟩) | (go_at_call 65; refine Calls.mono (hK.out _) ?_; rintro e w' ⟨rfl, rfl⟩) | (go_at_call 63; refine Calls.mono (hF.out _) ?_; rintro e w' ⟨rfl, y, rfl⟩))
  refine bodyPost_ret (v := .tuple #[v2 (cutN (c : Int) (chooseL xs.length n)) (cutD (c : Int) (chooseL xs.length n)), .bool true]) (by simp [results, Try.results29, go_sem]) rfl ⟨rfl, ?_⟩
  exact (by (try simp only [ext_ext]); repeat (first | exact Kept.refl _ | apply Kept.alloc | apply Kept.drew | apply kept_add | apply Kept.ext))
theorem iChanceCap_yes (ao : Option Addr) (cap : Nat) (xs : List Card) (n : Nat) (w : World) (hx : CardsAt w ao xs) (h : capOk xs n = true) :
    Calls Try.prog 30 #[.slice ao xs.length cap, .int .i64 n] w fun e w' => e = .returned (.tuple #[chanceCap xs n, .bool true]) ∧ Kept w w' := by
  obtain ⟨hp, hi⟩ : capB xs = true ∧ inB n 0 xs.length = true := by simpa [capOk] using h
  obtain ⟨hh, h15⟩ := capB_of hp
  have hb := inB_of hi
  have hnl : n ≤ xs.length := by omega
  have hg : (capB xs && inB (n : Int) 0 15) = true := by simp only [hp, Bool.true_and]; exact inB_t (by omega) (by omega)
  have hC0 := fun w' (hk : Kept w w') => countCaps_yes ao cap xs n w' (hx.kept hk) hg
  have e0 := cntQ_capL xs xs.length n []
  simp only [List.length_nil, Nat.zero_add] at e0
  rw [e0] at hC0
  obtain ⟨c, hcE⟩ : ∃ c : Nat, c = cntC xs xs.length n [] := ⟨_, rfl⟩
  have hle : c ≤ 32768 := by
    have h1 := cntC_le xs xs.length n []
    have h2 : (2 : Nat) ^ xs.length ≤ 2 ^ 15 := Nat.pow_le_pow_right (by omega) h15
    have h3 : (2 : Nat) ^ 15 = 32768 := by decide
    omega
  unfold chanceCap
  rw [← hcE] at hC0 ⊢
  have hC := hid hC0
  obtain ⟨_, _, _, h4⟩ := choose_ok (n := xs.length) (i := n) (by omega) (by omega)
  have hpos := chooseL_pos (n := xs.length) (i := n) (by omega) hnl (by omega)
  have hF := hid (fun w' => fraction_any (c : Int) (chooseL xs.length n) (by omega) (by omega) hpos h4 w')
  have hK := hid (fun w' => choose_any xs.length n (by omega) (by omega) w')
  have hgt : ¬ (xs.length : Int) < (n : Int) := by omega
  clear hC0 hcE h hx hpos h4 e0
  go_enter Try.func30, Try.ntmps30
  go_wp2_with (first | (go_at_call 66; refine Calls.mono (hC.out _ (by (try simp only [ext_ext]); repeat (first | exact Kept.refl _ | apply Kept.alloc | apply Kept.drew | apply kept_add | apply Kept.ext)) ) ?_; rintro e w' ⟨rfl, y, rfl⟩) | (go_at_call 68; refine Calls.mono (hK.out _) ?_; rintro e w' ⟨rfl, rfl⟩) | (go_at_call 67; refine Calls.mono (hF.out _) ?_; rintro e w' ⟨rfl, y, rfl⟩))
  refine bodyPost_ret (v := .tuple #[v2 (cutN (c : Int) (chooseL xs.length n)) (cutD (c : Int) (chooseL xs.length n)), .bool true]) (by simp [results, Try.results30, go_sem]) rfl ⟨rfl, ?_⟩
  exact (by (try simp only [ext_ext]); repeat (first | exact Kept.refl _ | apply Kept.alloc | apply Kept.drew | apply kept_add | apply Kept.ext))
theorem walk_FnExactChanceCap (ao : Option Addr) (xs : List Card) (cap : Nat) {w : World} (hx : CardsAt w ao xs) (hl : xs.length ≤ maxLen) (n : Int) (_ : World) :
    Calls Try.prog 7 #[.slice ao xs.length cap, .int .i64 n] w fun e w' => e = .returned (.bool true) ∧ Kept w w' := by
  have hl' : xs.length ≤ 9223372036854775807 := by unfold maxLen at hl; omega
  by_cases hn : xs.length ≤ 1048576
  · cases hg : capOk xs n with
    | false =>
      go_enter Try.func7, Try.ntmps7
      go_wp2_with (first | (go_at_call 13; refine Calls.mono (szIntA4S_any _ _ _ hl' _) ?_; rintro e w' ⟨rfl, rfl⟩) | (go_at_call 15; refine Calls.mono (toIntA4S_any _ _ _ _ (by first | assumption | exact CardsAt.kept (by assumption) (by (try simp only [ext_ext]); repeat (first | exact Kept.refl _ | apply Kept.alloc | apply Kept.drew | apply kept_add | apply Kept.ext))) hn) ?_; rintro e w' ⟨v, rfl, ho, z, rfl⟩; obtain ⟨ao', cap', rfl, hx', hcap'⟩ := ho.reads; clear ho) | (go_at_call 29; refine Calls.mono (sChanceCap_no _ _ _ _ _ (by first | assumption | exact CardsAt.kept (by assumption) (by (try simp only [ext_ext]); repeat (first | exact Kept.refl _ | apply Kept.alloc | apply Kept.drew | apply kept_add | apply Kept.ext))) hn hg) ?_; rintro e w' ⟨rfl, y, rfl⟩) | (go_at_call 30; refine Calls.mono (iChanceCap_no _ _ _ _ _ (by first | assumption | exact CardsAt.kept (by assumption) (by (try simp only [ext_ext]); repeat (first | exact Kept.refl _ | apply Kept.alloc | apply Kept.drew | apply kept_add | apply Kept.ext))) hn hg) ?_; rintro e w' ⟨rfl, y, rfl⟩) | (go_at_call 31; refine Calls.mono (eqIntA2_any _ _ _ _ _) ?_; rintro e w' ⟨rfl, y, rfl⟩) | (go_at_call 17; refine Calls.mono (eqIntA4S_any _ _ _ _ _ _ _ (by first | assumption | exact CardsAt.kept (by assumption) (by (try simp only [ext_ext]); repeat (first | exact Kept.refl _ | apply Kept.alloc | apply Kept.drew | apply kept_add | apply Kept.ext))) (by first | assumption | exact CardsAt.kept (by assumption) (by (try simp only [ext_ext]); repeat (first | exact Kept.refl _ | apply Kept.alloc | apply Kept.drew | apply kept_add | apply Kept.ext))) hn hn) ?_; rintro e w' ⟨rfl, y, rfl⟩))
      all_goals
        go_ret
        exact ⟨rfl, (by (try simp only [ext_ext]); repeat (first | exact Kept.refl _ | apply Kept.alloc | apply Kept.drew | apply kept_add | apply Kept.ext))⟩
    | true =>
      obtain ⟨_, h1⟩ : capB xs = true ∧ inB n 0 xs.length = true := by simpa [capOk] using hg
      obtain ⟨M, rfl⟩ := Int.eq_ofNat_of_zero_le (inB_of h1).1
      go_enter Try.func7, Try.ntmps7
      go_wp2_with (first | (go_at_call 13; refine Calls.mono (szIntA4S_any _ _ _ hl' _) ?_; rintro e w' ⟨rfl, rfl⟩) | (go_at_call 15; refine Calls.mono (toIntA4S_any _ _ _ _ (by first | assumption | exact CardsAt.kept (by assumption) (by (try simp only [ext_ext]); repeat (first | exact Kept.refl _ | apply Kept.alloc | apply Kept.drew | apply kept_add | apply Kept.ext))) hn) ?_; rintro e w' ⟨v, rfl, ho, z, rfl⟩; obtain ⟨ao', cap', rfl, hx', hcap'⟩ := ho.reads; clear ho) | (go_at_call 29; refine Calls.mono (sChanceCap_yes _ _ _ _ _ (by first | assumption | exact CardsAt.kept (by assumption) (by (try simp only [ext_ext]); repeat (first | exact Kept.refl _ | apply Kept.alloc | apply Kept.drew | apply kept_add | apply Kept.ext))) hg) ?_; rintro e w' ⟨rfl, y, rfl⟩) | (go_at_call 30; refine Calls.mono (iChanceCap_yes _ _ _ _ _ (by first | assumption | exact CardsAt.kept (by assumption) (by (try simp only [ext_ext]); repeat (first | exact Kept.refl _ | apply Kept.alloc | apply Kept.drew | apply kept_add | apply Kept.ext))) hg) ?_; rintro e w' ⟨rfl, y, rfl⟩) | (go_at_call 31; refine Calls.mono (eqIntA2_any _ _ _ _ _) ?_; rintro e w' ⟨rfl, y, rfl⟩) | (go_at_call 17; refine Calls.mono (eqIntA4S_any _ _ _ _ _ _ _ (by first | assumption | exact CardsAt.kept (by assumption) (by (try simp only [ext_ext]); repeat (first | exact Kept.refl _ | apply Kept.alloc | apply Kept.drew | apply kept_add | apply Kept.ext))) (by first | assumption | exact CardsAt.kept (by assumption) (by (try simp only [ext_ext]); repeat (first | exact Kept.refl _ | apply Kept.alloc | apply Kept.drew | apply kept_add | apply Kept.ext))) hn hn) ?_; rintro e w' ⟨rfl, y, rfl⟩))
      all_goals
        go_ret
        exact ⟨rfl, (by (try simp only [ext_ext]); repeat (first | exact Kept.refl _ | apply Kept.alloc | apply Kept.drew | apply kept_add | apply Kept.ext))⟩
  · go_enter Try.func7, Try.ntmps7
    go_wp2_with (first | (go_at_call 13; refine Calls.mono (szIntA4S_any _ _ _ hl' _) ?_; rintro e w' ⟨rfl, rfl⟩))
    go_ret
    exact ⟨rfl, (by (try simp only [ext_ext]); repeat (first | exact Kept.refl _ | apply Kept.alloc | apply Kept.drew | apply kept_add | apply Kept.ext))⟩
end Go.Proofs.Ytinoohckfhhbfaa
