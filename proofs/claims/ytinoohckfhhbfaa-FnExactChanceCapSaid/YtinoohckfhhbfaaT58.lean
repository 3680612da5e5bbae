/- Contracts: the reference's count of caps. -/
import Derived.Test.YtinoohckfhhbfaaT57
namespace Go.Proofs.Ytinoohckfhhbfaa
open Go.RowKit
set_option maxHeartbeats 1000000 in
theorem l3Count_step (xs : List Card) (n : Nat) (hn : xs.length = n) (hc : areC xs) (h15 : n ≤ 15) (D : Nat)
    (ih : ∀ (k m : Nat) (M : Int) (ao : Option Addr) (cap : Nat) (b : List Int) (mb : Nat) (bo : Option Addr) (bcap : Nat) (w : World), n - k < D → k ≤ n → b.length = mb → mb ≤ k → plB k b → M = (m : Nat) → m ≤ 15 → CardsAt w ao xs → IntsAt w bo b → (bo = none → mb = 0 ∧ bcap = 0) →
      Calls Try.prog 64 #[.slice ao n cap, .slice bo mb bcap, .int .i64 k, .int .i64 M] w fun e w' => e = .returned (.int .i64 (cntC xs (n - k) m b : Nat)) ∧ Kept w w')
    (k m : Nat) (M : Int) (ao : Option Addr) (cap : Nat) (b : List Int) (mb : Nat) (bo : Option Addr) (bcap : Nat) (w : World) (hD : n - k = D) (hk : k ≤ n) (hbm : b.length = mb) (hbk : mb ≤ k) (hp : plB k b) (hM : M = (m : Nat)) (hm : m ≤ 15) (hx : CardsAt w ao xs) (hb : IntsAt w bo b) (h0 : bo = none → mb = 0 ∧ bcap = 0) :
    Calls Try.prog 64 #[.slice ao n cap, .slice bo mb bcap, .int .i64 k, .int .i64 M] w fun e w' => e = .returned (.int .i64 (cntC xs (n - k) m b : Nat)) ∧ Kept w w' := by
  cases m with
  | zero =>
    have hM0 : M = 0 := by omega
    clear hM hm ih hx hb hp h0 hc hn
    subst hM0
    go_enter Try.func64, Try.ntmps64
    go_wp2
    go_ret
    exact ⟨ret_of (by rw [cntC_zero]; rfl), (by (try simp only [ext_ext]); repeat (first | exact Kept.refl _ | apply Kept.alloc | apply Kept.drew | apply kept_add | apply Kept.ext))⟩
  | succ m =>
    have hM1 : 1 ≤ M := by omega
    have hM2 : M ≤ 15 := by omega
    have hM3H := hid (show M - 1 = (m : Nat) by omega)
    have hne : (M == 0) = false := by simp; omega
    have hne2 : ¬ M = 0 := by omega
    have ihH := hid ih
    have hpH := hid hp
    have hplH := hid (show plB xs.length b from plB_mono hp (by omega))
    have hxH := hid hx
    have hbH := hid hb
    have h0H := hid h0
    have hcyH := hid (areC_pk hc hplH.out)
    have hnH := hid hn
    have hmH := hid hbm
    have hblkH := hid (show ∀ i, blk xs b i = decide (0 < thr (pk xs b) (cx xs i)) from fun i => rfl)
    have hthH := hid (show ∀ i, 0 ≤ thr (pk xs b) (cx xs i) from fun i => (thrOut_bd _ _ _ (by rw [pk_len]; omega)).1)
    have hyl := hid (show (pk xs b).length = mb by rw [pk_len, hbm])
    have hle := hid (cntC_le xs)
    have hpow : Hid (∀ d, d ≤ 15 → 2 ^ d ≤ 32768) := hid fun d hd => Nat.le_trans (Nat.pow_le_pow_right (by omega) hd) (by decide)
    clear ih hp hb hx h0 hc hn hbm hM
    go_enter Try.func64, Try.ntmps64
    go_wp2
    go_loopw [10, 9] (fun j s wr => ∃ i q : Nat, k ≤ i ∧ i ≤ n ∧ j = .int .i64 i ∧ s = .int .i64 q ∧ q + cntC xs (n - i) (m + 1) b = cntC xs (n - k) (m + 1) b ∧ Kept w wr) (fun j _ _ => n - (intOf j).toNat)
    case atStart => exact ⟨k, 0, Nat.le_refl _, hk, rfl, rfl, Nat.zero_add _, (by (try simp only [ext_ext]); repeat (first | exact Kept.refl _ | apply Kept.alloc | apply Kept.drew | apply kept_add | apply Kept.ext))⟩
    case round wr =>
      obtain ⟨i, q, hki, hin, rfl, rfl, hq, hkw⟩ := hrel
      have hqH := hid hq
      have hkwH := hid hkw
      have hq1 : q ≤ 32768 := by have := hle.out (n - k) (m + 1) b; have := hpow.out (n - k) (by omega); omega
      clear hq hkw
      by_cases hlt : i < n
      · have hxr := hxH.out.kept hkwH.out
        have hxrH := hid hxr
        obtain ⟨gx, offx, rfl, hgx, e1, e2, e3, e4⟩ := hxr i (by rw [hnH.out]; exact hlt)
        have hP := hid (fun w' (hk : Kept wr w') => l3Picked_any (some ⟨gx, offx, none⟩) cap xs bo bcap mb b w' hmH.out (hxrH.out.kept hk) (by rw [hnH.out]; omega) (hbH.out.kept (hkwH.out.trans hk)) (by omega) hplH.out)
        rw [hnH.out] at hP
        have hwr1 : IntKind.i64.wrap ((i : Int) + 1) = (i : Int) + 1 := Go.IntWalk.i64_in _ ⟨by omega, by omega⟩
        clear hxr
        have hth0 := hthH.out i
        obtain ⟨t, ht⟩ : ∃ t, t = thr (pk xs b) (cx xs i) := ⟨_, rfl⟩
        have hT := hid (fun (ao' : Option Addr) (cap' : Nat) w' (hx' : CardsAt w' ao' (pk xs b)) => l2Through_any ao' cap' (pk xs b) (cx xs i) w' hx' (by rw [hyl.out]; omega) hcyH.out)
        rw [← ht] at hT hth0
        have htH := hid ht
        clear ht
        cases hbl : blk xs b i with
        | true =>
          have ht1 := hblkH.out i
          rw [hbl, ← htH.out] at ht1
          have ht2 : 0 < t := of_decide_eq_true ht1.symm
          have ht3 : (t == 0) = false := by simp; omega
          have hnx := hid (show cntC xs (n - i) (m + 1) b = cntC xs (n - (i + 1)) (m + 1) b by rw [← hnH.out]; exact cntC_hit (by rw [hnH.out]; exact hlt) hbl)
          clear hbl ht1
          go_wp2
          go_region_with (first | (go_at_call 91; refine Calls.mono (hP.out _ (by (try simp only [ext_ext]); repeat (first | exact Kept.refl _ | apply Kept.alloc | apply Kept.drew | apply kept_add | apply Kept.ext)) ) ?_; rintro e w' ⟨v, rfl, ho, z, rfl⟩; obtain ⟨ao', cap', rfl, hx', hcap'⟩ := ho.reads; clear ho) | (go_at_call 90; refine Calls.mono (hT.out _ _ _ (by first | assumption | exact CardsAt.kept (by assumption) (by (try simp only [ext_ext]); repeat (first | exact Kept.refl _ | apply Kept.alloc | apply Kept.drew | apply kept_add | apply Kept.ext))) ) ?_; rintro e w' ⟨rfl, y, rfl⟩))
          all_goals
            go_wp2
            go_roundw
            case rel => exact ⟨i + 1, q, by omega, hlt, by go_num, rfl, by rw [← hnx.out]; exact hqH.out, hkwH.out.trans (by (try simp only [ext_ext]); repeat (first | exact Kept.refl _ | apply Kept.alloc | apply Kept.drew | apply kept_add | apply Kept.ext))⟩
            case measure => simp [intOf]; omega
        | false =>
          have ht1 := hblkH.out i
          rw [hbl, ← htH.out] at ht1
          have ht2 : ¬ 0 < t := of_decide_eq_false ht1.symm
          have ht3 : t = 0 := by omega
          have hnx := hid (show cntC xs (n - i) (m + 1) b = cntC xs (n - (i + 1)) m (b ++ [(i : Int)]) + cntC xs (n - (i + 1)) (m + 1) b by rw [← hnH.out]; exact cntC_free (by rw [hnH.out]; exact hlt) hbl)
          clear hbl ht1 hth0 ht2 htH
          subst ht3
          have hA := hid (show n - (i + 1) < D by omega)
          have hB := hid (show b.length + 1 ≤ i + 1 by rw [hmH.out]; omega)
          have hL := hid (show (b ++ [(i : Int)]).length = b.length + 1 by simp)
          have hC := hid (plB_app hpH.out hki)
          have hm2 := hid (show m ≤ 15 by omega)
          have hcb := hle.out (n - (i + 1)) m (b ++ [(i : Int)])
          have hcb2 := hpow.out (n - (i + 1)) (by omega)
          have hwr2 : IntKind.i64.wrap ((q : Int) + (cntC xs (n - (i + 1)) m (b ++ [(i : Int)]) : Nat)) = (q : Int) + (cntC xs (n - (i + 1)) m (b ++ [(i : Int)]) : Nat) := Go.IntWalk.i64_in _ ⟨by omega, by omega⟩
          have hwr3 : IntKind.i64.wrap (M - 1) = M - 1 := Go.IntWalk.i64_in _ ⟨by omega, by omega⟩
          clear hcb hcb2
          go_wp2
          go_region_with (first | (go_at_call 91; refine Calls.mono (hP.out _ (by (try simp only [ext_ext]); repeat (first | exact Kept.refl _ | apply Kept.alloc | apply Kept.drew | apply kept_add | apply Kept.ext)) ) ?_; rintro e w' ⟨v, rfl, ho, z, rfl⟩; obtain ⟨ao', cap', rfl, hx', hcap'⟩ := ho.reads; clear ho) | (go_at_call 90; refine Calls.mono (hT.out _ _ _ (by first | assumption | exact CardsAt.kept (by assumption) (by (try simp only [ext_ext]); repeat (first | exact Kept.refl _ | apply Kept.alloc | apply Kept.drew | apply kept_add | apply Kept.ext))) ) ?_; rintro e w' ⟨rfl, y, rfl⟩))
          all_goals
            clear hP hT
            go_wp2_with (first | (go_at_call 92; refine Calls.mono (l1Own_any b mb bo bcap _ hmH.out (hbH.out.kept (hkwH.out.trans (by (try simp only [ext_ext]); repeat (first | exact Kept.refl _ | apply Kept.alloc | apply Kept.drew | apply kept_add | apply Kept.ext)))) h0H.out (by omega)) ?_; rintro e w2 ⟨v2, rfl, ho2, k2⟩) | (at_builtin; refine wpList_append_int rfl _ _ rfl w _ v2 b rfl (ho2.kept (by (try simp only [ext_ext]); repeat (first | exact Kept.refl _ | apply Kept.alloc | apply Kept.drew | apply kept_add | apply Kept.ext))) (hkwH.out.trans (Kept.trans (by (try simp only [ext_ext]); repeat (first | exact Kept.refl _ | apply Kept.alloc | apply Kept.drew | apply kept_add | apply Kept.ext)) (Kept.trans k2 (by (try simp only [ext_ext]); repeat (first | exact Kept.refl _ | apply Kept.alloc | apply Kept.drew | apply kept_add | apply Kept.ext))))) (Kept.below (hkwH.out.trans (by (try simp only [ext_ext]); repeat (first | exact Kept.refl _ | apply Kept.alloc | apply Kept.drew | apply kept_add | apply Kept.ext)))).size (by have := k2.below.size; simp at this ⊢; omega) _ _ (i : Int) rfl (cell_of_row _ _ 0 _ _ (0, 0) (heap_at (by simp))) (by rw [hmH.out]; omega) ?_; intro v3 w3 ho3 k3 _ _; obtain ⟨ao3, cap3, rfl, hx3, _⟩ := ho3.reads) | (go_at_call 64; refine Calls.mono (ihH.out (i + 1) m (M - 1) _ cap (b ++ [(i : Int)]) (b.length + 1) ao3 cap3 w3 hA.out hlt hL.out hB.out hC.out hM3H.out hm2.out (hxH.out.kept k3) hx3 (fun e => by obtain ⟨_, _, he, _⟩ := hx3 0 (by simp); rw [e] at he; cases he)) ?_; rintro e w4 ⟨rfl, k4⟩))
            go_roundw
            case rel => exact ⟨i + 1, q + cntC xs (n - (i + 1)) m (b ++ [(i : Int)]), by omega, hlt, by go_num, congrArg (Value.int .i64) (Int.natCast_add _ _).symm, by have := hqH.out; rw [hnx.out] at this; omega, k3.trans (k4.trans (by (try simp only [ext_ext]); repeat (first | exact Kept.refl _ | apply Kept.alloc | apply Kept.drew | apply kept_add | apply Kept.ext)))⟩
            case measure => simp [intOf]; omega
      · obtain rfl : i = n := by omega
        have he : Hid (q = cntC xs (i - k) (m + 1) b) := hid (by have := hqH.out; simp [cntC] at this; exact this)
        go_wp2
        go_ret
        exact ⟨ret_of (by rw [← he.out]; rfl), hkwH.out⟩
theorem l3Count_all (xs : List Card) (n : Nat) (hn : xs.length = n) (hc : areC xs) (h15 : n ≤ 15) : ∀ (D k m : Nat) (M : Int) (ao : Option Addr) (cap : Nat) (b : List Int) (mb : Nat) (bo : Option Addr) (bcap : Nat) (w : World), n - k ≤ D → k ≤ n → b.length = mb → mb ≤ k → plB k b → M = (m : Nat) → m ≤ 15 → CardsAt w ao xs → IntsAt w bo b → (bo = none → mb = 0 ∧ bcap = 0) →
      Calls Try.prog 64 #[.slice ao n cap, .slice bo mb bcap, .int .i64 k, .int .i64 M] w fun e w' => e = .returned (.int .i64 (cntC xs (n - k) m b : Nat)) ∧ Kept w w' := by
  intro D
  induction D with
  | zero => exact fun k m M ao cap b mb bo bcap w hD hk hbm hbk hp hM hm hx hb h0 => l3Count_step xs n hn hc h15 0 (fun _ _ _ _ _ _ _ _ _ _ h => absurd h (Nat.not_lt_zero _)) k m M ao cap b mb bo bcap w (by omega) hk hbm hbk hp hM hm hx hb h0
  | succ D ih => exact fun k m M ao cap b mb bo bcap w hD hk hbm hbk hp hM hm hx hb h0 => l3Count_step xs n hn hc h15 (n - k) (fun k' m' M' ao' cap' b' mb' bo' bcap' w' hlt => ih k' m' M' ao' cap' b' mb' bo' bcap' w' (by omega)) k m M ao cap b mb bo bcap w rfl hk hbm hbk hp hM hm hx hb h0
end Go.Proofs.Ytinoohckfhhbfaa
