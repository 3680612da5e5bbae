/- Contracts: the reference's list of all choices, by recursion. -/
import Derived.Test.YtinoohckfhhbfaaT65
namespace Go.Proofs.Ytinoohckfhhbfaa
open Go.RowKit
set_option maxHeartbeats 1000000 in
theorem l10Choose_step (n : Nat) (hn : n ≤ 10) (m : Nat)
    (ih : ∀ (M : Int) (fr : Nat) (b : List Int) (mb : Nat) (bo : Option Addr) (bcap : Nat) (w : World), M = (m : Nat) → fr ≤ n → b.length = mb → mb + m ≤ 1000 → 1 ≤ mb + m → IntsAt w bo b → (bo = none → mb = 0 ∧ bcap = 0) →
      Calls Try.prog 69 #[.int .i64 n, .int .i64 fr, .int .i64 M, .slice bo mb bcap] w (RetR w (chF n (n - fr) m b)))
    (M : Int) (fr : Nat) (b : List Int) (mb : Nat) (bo : Option Addr) (bcap : Nat) (w : World) (hM : M = (m + 1 : Nat)) (hfr : fr ≤ n) (hbm : b.length = mb) (hmb : mb + (m + 1) ≤ 1000) (hb : IntsAt w bo b) (h0 : bo = none → mb = 0 ∧ bcap = 0) :
    Calls Try.prog 69 #[.int .i64 n, .int .i64 fr, .int .i64 M, .slice bo mb bcap] w (RetR w (chF n (n - fr) (m + 1) b)) := by
  have hM1 : 1 ≤ M := by omega
  have hM2 : M ≤ 1000 := by omega
  have hM3H := hid (show M - 1 = (m : Nat) by omega)
  have hne : (M == 0) = false := by simp; omega
  have hne2 : ¬ M = 0 := by omega
  have hwr3 : IntKind.i64.wrap (M - 1) = M - 1 := Go.IntWalk.i64_in _ ⟨by omega, by omega⟩
  have ihH := hid ih
  have hbH := hid hb
  have h0H := hid h0
  have hmH := hid hbm
  have hpow := chF_pow n (n - fr) (m + 1) b
  have h1024 : 2 ^ (n - fr) ≤ 2 ^ 10 := Nat.pow_le_pow_right (by omega) (by omega)
  obtain ⟨TOT, hTOT⟩ : ∃ T, T = chF n (n - fr) (m + 1) b := ⟨_, rfl⟩
  rw [← hTOT] at hpow ⊢
  have hTl := hid (show TOT.length ≤ 1024 from Nat.le_trans hpow (Nat.le_trans h1024 (by decide)))
  have hTH := hid hTOT
  clear ih hb h0 hbm hM hpow h1024 hTOT
  go_enter Try.func69, Try.ntmps69
  go_wp2
  go_loopw [10, 9] (fun a v wr => ∃ i : Nat, fr ≤ i ∧ i ≤ n ∧ a = .int .i64 i ∧ ∃ ll, OwnR w.heap.size wr v ll ∧ v ≠ .slice none 0 0 ∧ ll ++ chF n (n - i) (m + 1) b = TOT ∧ Kept w wr) (fun a _ _ => n - (intOf a).toNat)
  case atStart => exact ⟨fr, Nat.le_refl _, hfr, rfl, [], ownR_nil (Nat.le_refl _) (heap_at rfl), (fun e => by cases e), by rw [hTH.out]; rfl, (by (try simp only [ext_ext]); repeat (first | exact Kept.refl _ | apply Kept.alloc | apply Kept.drew | apply kept_add | apply Kept.ext))⟩
  case round =>
    obtain ⟨i, hfi, hin, rfl, ll, ho, hv, hrem, hkw⟩ := hrel
    have hoH := hid ho
    have hvH := hid hv
    have hremH := hid hrem
    have hkwH := hid hkw
    clear ho hv hrem hkw
    by_cases hlt : i < n
    · have hnx := hid (chF_at hlt m b)
      have hlen := hid (show ll.length + (chF n (n - (i + 1)) m (b ++ [(i : Int)])).length ≤ 1048576 by
        have h1 := hTl.out
        rw [← hremH.out, hnx.out, List.length_append, List.length_append] at h1
        omega)
      have hwr1 : IntKind.i64.wrap ((i : Int) + 1) = (i : Int) + 1 := Go.IntWalk.i64_in _ ⟨by omega, by omega⟩
      have hL := hid (show (b ++ [(i : Int)]).length = b.length + 1 by simp)
      go_wp2_with (first | (go_at_call 92; refine Calls.mono (l1Own_any b mb bo bcap _ hmH.out (hbH.out.kept (hkwH.out.trans (by (try simp only [ext_ext]); repeat (first | exact Kept.refl _ | apply Kept.alloc | apply Kept.drew | apply kept_add | apply Kept.ext)))) h0H.out (by omega)) ?_; rintro e w2 ⟨v2, rfl, ho2, k2⟩) | (at_builtin; refine wpList_append_int rfl _ _ rfl wr _ v2 b rfl (ho2.kept (by (try simp only [ext_ext]); repeat (first | exact Kept.refl _ | apply Kept.alloc | apply Kept.drew | apply kept_add | apply Kept.ext))) (Kept.trans (by (try simp only [ext_ext]); repeat (first | exact Kept.refl _ | apply Kept.alloc | apply Kept.drew | apply kept_add | apply Kept.ext)) (Kept.trans k2 (by (try simp only [ext_ext]); repeat (first | exact Kept.refl _ | apply Kept.alloc | apply Kept.drew | apply kept_add | apply Kept.ext)))) (Kept.below ((by (try simp only [ext_ext]); repeat (first | exact Kept.refl _ | apply Kept.alloc | apply Kept.drew | apply kept_add | apply Kept.ext)) : Kept wr _)).size (by have := k2.below.size; simp at this ⊢; omega) _ _ (i : Int) rfl (cell_of_row _ _ 0 _ _ (0, 0) (heap_at (by simp))) (by rw [hmH.out]; omega) ?_; intro v3 w3 ho3 k3 _ _; obtain ⟨ao3, cap3, rfl, hx3, _⟩ := ho3.reads) | (go_at_call 69; refine Calls.mono (ihH.out (M - 1) (i + 1) (b ++ [(i : Int)]) (b.length + 1) ao3 cap3 w3 hM3H.out hlt hL.out (by rw [hmH.out]; omega) (by omega) hx3 (fun e => by obtain ⟨_, _, he, _⟩ := hx3 0 (by simp); rw [e] at he; cases he)) ?_; rintro e w4 ⟨v4, rfl, ho4, hn4, k4⟩) | (at_builtin; refine wpList_append_rows rfl _ _ rfl w w.heap.size _ ll rfl (hoH.out.kept (k3.trans k4)) (hkwH.out.trans (k3.trans k4)) (Nat.le_refl _) (Kept.below (hkwH.out.trans (k3.trans k4))).size _ v4 _ rfl ho4 hn4 hvH.out hlen.out ?_; intro v5 w5 ho5 hn5 k5))
      go_roundw
      case rel => exact ⟨i + 1, by omega, hlt, by go_num, _, ho5, hn5, by rw [← hremH.out, hnx.out, List.append_assoc], k5⟩
      case measure => simp [intOf]; omega
    · obtain rfl : i = n := by omega
      have he := hid (show ll = TOT by rw [← hremH.out]; simp [chF_none])
      go_wp2
      refine bodyPost_ret (v := u9) (by simp [results, Try.results69, go_sem]) rfl ?_
      exact ⟨_, rfl, he.out ▸ hoH.out.kept (by (try simp only [ext_ext]); repeat (first | exact Kept.refl _ | apply Kept.alloc | apply Kept.drew | apply kept_add | apply Kept.ext)), hvH.out, hkwH.out.trans (by (try simp only [ext_ext]); repeat (first | exact Kept.refl _ | apply Kept.alloc | apply Kept.drew | apply kept_add | apply Kept.ext))⟩
theorem l10Choose_all (n : Nat) (hn : n ≤ 10) : ∀ (m : Nat) (M : Int) (fr : Nat) (b : List Int) (mb : Nat) (bo : Option Addr) (bcap : Nat) (w : World), M = (m : Nat) → fr ≤ n → b.length = mb → mb + m ≤ 1000 → 1 ≤ mb + m → IntsAt w bo b → (bo = none → mb = 0 ∧ bcap = 0) →
      Calls Try.prog 69 #[.int .i64 n, .int .i64 fr, .int .i64 M, .slice bo mb bcap] w (RetR w (chF n (n - fr) m b)) := by
  intro m
  induction m with
  | zero =>
    intro M fr b mb bo bcap w hM hfr hbm hmb hmb1 hb h0
    have hM0 : M = 0 := by omega
    subst hM0
    have hmH := hid hbm
    have hbH := hid hb
    have h0H := hid h0
    have hz := hid (chF_zero n (n - fr) b)
    clear hM hb h0 hbm
    go_enter Try.func69, Try.ntmps69
    go_wp2_with (fail)
    (go_at_call 92; refine Calls.mono (l1Own_any b mb bo bcap _ hmH.out (hbH.out.kept (by (try simp only [ext_ext]); repeat (first | exact Kept.refl _ | apply Kept.alloc | apply Kept.drew | apply kept_add | apply Kept.ext))) h0H.out (by omega)) ?_; rintro e w2 ⟨v2, rfl, ho2, k2⟩)
    have hei := ho2.ei (fun e => by
      have h1 := hmH.out
      rcases ho2.2 with ⟨_, h0⟩ | ⟨g, cap, cur, e2, _⟩
      · omega
      · rw [e2] at e; cases e)
    have hs := k2.below.size
    obtain ⟨g2, cap2, rfl, _, _⟩ := hei.ints
    go_wp2_with (fail)
    refine bodyPost_ret (v := .slice (some ⟨w2.heap.size, 0, none⟩) 1 1) (by simp [results, Try.results69, go_sem]) rfl ?_
    refine ⟨_, rfl, ?_, (fun e => by cases e), Kept.trans (by (try simp only [ext_ext]); repeat (first | exact Kept.refl _ | apply Kept.alloc | apply Kept.drew | apply kept_add | apply Kept.ext)) (Kept.trans k2 (by (try simp only [ext_ext]); repeat (first | exact Kept.refl _ | apply Kept.alloc | apply Kept.drew | apply kept_add | apply Kept.ext)))⟩
    rw [hz.out]
    exact ownR_one (by first | exact hs | (simp at hs; omega)) (heap_at rfl) (hei.kept (by (try simp only [ext_ext]); repeat (first | exact Kept.refl _ | apply Kept.alloc | apply Kept.drew | apply kept_add | apply Kept.ext)))
  | succ m ih =>
    intro M fr b mb bo bcap w hM hfr hbm hmb _ hb h0
    exact l10Choose_step n hn m ih M fr b mb bo bcap w hM hfr hbm hmb hb h0
end Go.Proofs.Ytinoohckfhhbfaa
