/- Walk: the law of SpanOf. -/
import Derived.Test.YtmdnnejaipdkhaaT78
import Derived.Test.YtmdnnejaipdkhaaT28
import Derived.Test.YtmdnnejaipdkhaaC2
namespace Go.Proofs.Ytmdnnejaipdkhaa
open Go.RowKit
theorem areC_hand' {xs : List Card} (hh : isHand xs = true) : ∀ c ∈ xs, isCard c = true := fun c hc => by
  obtain ⟨j, hj, rfl⟩ := List.getElem_of_mem hc
  rw [← cx_get _ _ hj]; exact areC_hand hh j hj
theorem sSpanOf_no (ao : Option Addr) (cap : Nat) (xs : List Card) (w : World) (hx : CardsAt w ao xs) (hl : xs.length ≤ 1048576) (h : isHand xs = false) :
    Calls Try.prog 25 #[.slice ao xs.length cap] w (RetCT w false []) := by
  go_enter Try.func25, Try.ntmps25
  go_wp2_with (first | (go_at_call 27; refine Calls.mono (l2Hand_any _ _ _ _ (by first | assumption | exact CardsAt.kept (by assumption) (by (try simp only [ext_ext]); repeat (first | exact Kept.refl _ | apply Kept.alloc | apply Kept.drew | apply kept_add | apply Kept.ext))) hl) ?_; rintro e w' ⟨rfl, y, rfl⟩))
  refine bodyPost_ret (v := .tuple #[.slice (some ⟨w.heap.size + y.os.length, 0, none⟩) 0 0, .bool false]) (by simp [results, Try.results25, go_sem]) rfl ?_
  exact ⟨_, rfl, ownC_nil (by omega) (heap_at (by simp)), (by (try simp only [ext_ext]); repeat (first | exact Kept.refl _ | apply Kept.alloc | apply Kept.drew | apply kept_add | apply Kept.ext))⟩
theorem iSpanOf_no (ao : Option Addr) (cap : Nat) (xs : List Card) (w : World) (hx : CardsAt w ao xs) (hl : xs.length ≤ 1048576) (h : isHand xs = false) :
    Calls Try.prog 26 #[.slice ao xs.length cap] w (RetCT w false []) := by
  go_enter Try.func26, Try.ntmps26
  go_wp2_with (first | (go_at_call 29; refine Calls.mono (IsHand_any _ _ _ _ (by first | assumption | exact CardsAt.kept (by assumption) (by (try simp only [ext_ext]); repeat (first | exact Kept.refl _ | apply Kept.alloc | apply Kept.drew | apply kept_add | apply Kept.ext))) hl) ?_; rintro e w' ⟨rfl, y, rfl⟩))
  refine bodyPost_ret (v := .tuple #[.slice none 0 0, .bool false]) (by simp [results, Try.results26, go_sem]) rfl ?_
  exact ⟨_, rfl, ownC_none _ _, (by (try simp only [ext_ext]); repeat (first | exact Kept.refl _ | apply Kept.alloc | apply Kept.drew | apply kept_add | apply Kept.ext))⟩
theorem sSpanOf_yes (ao : Option Addr) (cap : Nat) (xs : List Card) (w : World) (hx : CardsAt w ao xs) (hh : isHand xs = true) :
    Calls Try.prog 25 #[.slice ao xs.length cap] w (RetCT w true (spanC xs)) := by
  have hl27 := (isHand_of hh).1
  have hS := hid (fun (w' : World) (hk : Kept w w') => l6Span_any ao cap xs.length xs w' (hx.kept hk) rfl (areC_hand' hh) (by omega))
  go_enter Try.func25, Try.ntmps25
  go_wp2_with (first | (go_at_call 27; refine Calls.mono (l2Hand_any _ _ _ _ (by first | assumption | exact CardsAt.kept (by assumption) (by (try simp only [ext_ext]); repeat (first | exact Kept.refl _ | apply Kept.alloc | apply Kept.drew | apply kept_add | apply Kept.ext))) (by omega)) ?_; rintro e w' ⟨rfl, y, rfl⟩))
  (go_at_call 38; refine Calls.mono (hS.out _ (by (try simp only [ext_ext]); repeat (first | exact Kept.refl _ | apply Kept.alloc | apply Kept.drew | apply kept_add | apply Kept.ext))) ?_; rintro e w1 ⟨g, c, rfl, ho, k1⟩)
  have K1 := hid (show Kept w w1 from Kept.trans (by (try simp only [ext_ext]); repeat (first | exact Kept.refl _ | apply Kept.alloc | apply Kept.drew | apply kept_add | apply Kept.ext)) k1)
  have hoH := hid (OwnC.mono (B' := w.heap.size) ho (show Kept w _ from (by (try simp only [ext_ext]); repeat (first | exact Kept.refl _ | apply Kept.alloc | apply Kept.drew | apply kept_add | apply Kept.ext))).below.size)
  clear ho k1
  go_wp2_with (fail)
  refine bodyPost_ret (v := .tuple #[.slice (some ⟨g, 0, none⟩) (spanC xs).length c, .bool true]) (by simp [results, Try.results25, go_sem]) rfl ?_
  exact ⟨_, rfl, hoH.out, K1.out⟩
theorem iSpanOf_yes (ao : Option Addr) (cap : Nat) (xs : List Card) (w : World) (hx : CardsAt w ao xs) (hh : isHand xs = true) :
    Calls Try.prog 26 #[.slice ao xs.length cap] w (RetCT w true (spanC xs)) := by
  have hl27 := (isHand_of hh).1
  have hS := hid (fun (w' : World) (hk : Kept w w') => span_any ao cap xs.length xs w' (hx.kept hk) rfl (areC_hand' hh) (by omega))
  go_enter Try.func26, Try.ntmps26
  go_wp2_with (first | (go_at_call 29; refine Calls.mono (IsHand_any _ _ _ _ (by first | assumption | exact CardsAt.kept (by assumption) (by (try simp only [ext_ext]); repeat (first | exact Kept.refl _ | apply Kept.alloc | apply Kept.drew | apply kept_add | apply Kept.ext))) (by omega)) ?_; rintro e w' ⟨rfl, y, rfl⟩))
  (go_at_call 40; refine Calls.mono (hS.out _ (by (try simp only [ext_ext]); repeat (first | exact Kept.refl _ | apply Kept.alloc | apply Kept.drew | apply kept_add | apply Kept.ext))) ?_; rintro e w1 ⟨v, rfl, ho, k1⟩)
  have K1 := hid (show Kept w w1 from Kept.trans (by (try simp only [ext_ext]); repeat (first | exact Kept.refl _ | apply Kept.alloc | apply Kept.drew | apply kept_add | apply Kept.ext)) k1)
  have hoH := hid (OwnC.mono (B' := w.heap.size) ho (show Kept w _ from (by (try simp only [ext_ext]); repeat (first | exact Kept.refl _ | apply Kept.alloc | apply Kept.drew | apply kept_add | apply Kept.ext))).below.size)
  clear ho k1
  go_wp2_with (fail)
  refine bodyPost_ret (v := .tuple #[v, .bool true]) (by simp [results, Try.results26, go_sem]) rfl ?_
  exact ⟨_, rfl, hoH.out, K1.out⟩
set_option maxHeartbeats 1000000 in
theorem walk_FnExactSpanOf (ao : Option Addr) (xs : List Card) (cap : Nat) {w : World} (hx : CardsAt w ao xs) (hl : xs.length ≤ maxLen) (_ : World) :
    Calls Try.prog 8 #[.slice ao xs.length cap] w fun e w' => e = .returned (.bool true) ∧ Kept w w' := by
  have hl' : xs.length ≤ 9223372036854775807 := by unfold maxLen at hl; omega
  by_cases hn : xs.length ≤ 1048576
  · obtain ⟨ok, ls, hS, hI, hll⟩ : ∃ ok ls, (∀ ao cap w, CardsAt w ao xs → Calls Try.prog 25 #[.slice ao xs.length cap] w (RetCT w ok ls)) ∧ (∀ ao cap w, CardsAt w ao xs → xs.length ≤ cap → Calls Try.prog 26 #[.slice ao xs.length cap] w (RetCT w ok ls)) ∧ ls.length ≤ 1048576 := by
      cases hg : isHand xs with
      | false => exact ⟨false, [], fun _ _ _ hx => sSpanOf_no _ _ _ _ hx hn hg, fun _ _ _ hx hc => iSpanOf_no _ _ _ _ hx hn hg, by simp⟩
      | true => exact ⟨true, spanC xs, fun _ _ _ hx => sSpanOf_yes _ _ _ _ hx hg, fun _ _ _ hx hc => iSpanOf_yes _ _ _ _ hx hg, by have := spanC_len xs; omega⟩
    have p1 : ¬ ((1 : Int) + (xs.length : Int) * 4 < 0) := by omega
    have p2 : ¬ ((1 : Int) + (ls.length : Int) * 4 < 0) := by omega
    go_enter Try.func8, Try.ntmps8
    go_wp2_with (first | (go_at_call 9; refine Calls.mono (szIntA4S_any _ _ _ hl' _) ?_; rintro e w' ⟨rfl, rfl⟩))
    (go_at_call 11; refine Calls.mono (toIntA4S_any _ _ _ _ hx hn) ?_; rintro e w1 ⟨v1, rfl, ho1, k1⟩)
    obtain ⟨a1, c1, rfl, hx1, hc1⟩ := ho1.reads
    go_wp2_with (fail)
    (go_at_call 25; refine Calls.mono (hS _ _ _ hx1) ?_; rintro e w2 ⟨v2, rfl, ho2, k2⟩)
    have hx2 := hx.kept (k1.trans k2)
    go_wp2_with (fail)
    (go_at_call 11; refine Calls.mono (toIntA4S_any _ _ _ _ hx2 hn) ?_; rintro e w3 ⟨v3, rfl, ho3, k3⟩)
    obtain ⟨a3, c3, rfl, hx3, hc3⟩ := ho3.reads
    go_wp2_with (fail)
    (go_at_call 26; refine Calls.mono (hI _ _ _ hx3 hc3) ?_; rintro e w4 ⟨v4, rfl, ho4, k4⟩)
    have n43 : ∀ g, v4.ownBlock = some g → (Value.slice a3 xs.length c3).ownBlock ≠ some g := fun g h h' => by have := (ho4.lt g h).1; have := (ho3.lt g h').2; omega
    have n23 : ∀ g, v2.ownBlock = some g → (Value.slice a3 xs.length c3).ownBlock ≠ some g := fun g h h' => by have := (ho2.lt g h).2; have := (ho3.lt g h').1; omega
    have n24 : ∀ g, v2.ownBlock = some g → v4.ownBlock ≠ some g := fun g h h' => by have := (ho2.lt g h).2; have := (ho4.lt g h').1; have := k3.below.size; omega
    go_wp2_with (fail)
    (go_at_call 13; refine Calls.mono (eqC_any _ _ _ _ _ _ ho4 ((ho2.kept k3).kept k4) hll) ?_; rintro e w5 ⟨rfl, k5⟩)
    have hx5 := hx2.kept (k3.trans (k4.trans k5))
    go_wp2_with (fail)
    (go_at_call 11; refine Calls.mono (toIntA4S_any _ _ _ _ hx5 hn) ?_; rintro e w6 ⟨v6, rfl, ho6, k6⟩)
    obtain ⟨a6, c6, rfl, hx6, hc6⟩ := ho6.reads
    have hx36 := hx3.kept (k4.trans (k5.trans k6))
    go_wp2_with (fail)
    (go_at_call 13; refine Calls.mono (eqIntA4S_any _ _ _ _ _ _ _ hx36 hx6 hn hn) ?_; rintro e w7 ⟨rfl, k7⟩)
    have K7 : Kept w w7 := k1.trans (k2.trans (k3.trans (k4.trans (k5.trans (k6.trans k7)))))
    have s2 : w.heap.size ≤ w2.heap.size := (k1.trans k2).below.size
    have s3 : w.heap.size ≤ w3.heap.size := (k1.trans (k2.trans k3)).below.size
    go_wp2_with (fail)
    (go_at_call 14; refine Calls.mono (markIntA4S_any _ _ _ _ 1 _ (ho3.kept (k4.trans (k5.trans (k6.trans k7)))) hn (by decide) (by decide)) ?_; rintro e w8 ⟨rfl, _, g8⟩)
    have ho48 := (ho4.kept (k5.trans (k6.trans k7))).grown g8 n43
    have ho28 := (ho2.kept (k3.trans (k4.trans (k5.trans (k6.trans k7))))).grown g8 n23
    have K8 : Kept w w8 := K7.grown g8 fun k hk => Nat.le_trans s2 (ho3.lt k hk).1
    go_wp2_with (fail)
    (go_at_call 13; refine Calls.mono (eqC_any _ _ _ _ _ _ ho48 ho28 hll) ?_; rintro e w9 ⟨rfl, k9⟩)
    go_wp2_with (fail)
    (go_at_call 14; refine Calls.mono (markIntA4S_any _ _ _ _ 1 _ (ho48.kept k9) hll (by decide) (by decide)) ?_; rintro e w10 ⟨rfl, ho10, g10⟩)
    have K10 : Kept w w10 := (K8.trans k9).grown g10 fun k hk => Nat.le_trans s3 (ho4.lt k hk).1
    go_wp2_with (fail)
    (go_at_call 15; refine Calls.mono (heldIntA4S_any _ _ _ 1 _ ho10 hll (by decide) (by decide)) ?_; rintro e w11 ⟨rfl, k11⟩)
    have hx11 := hx.kept (K10.trans k11)
    go_wp2_with (fail)
    (go_at_call 11; refine Calls.mono (toIntA4S_any _ _ _ _ hx11 hn) ?_; rintro e w12 ⟨v12, rfl, ho12, k12⟩)
    obtain ⟨a12, c12, rfl, hx12, hc12⟩ := ho12.reads
    go_wp2_with (fail)
    (go_at_call 26; refine Calls.mono (hI _ _ _ hx12 hc12) ?_; rintro e w13 ⟨v13, rfl, ho13, k13⟩)
    have ho213 := (((ho28.kept k9).grown g10 n24).kept (k11.trans (k12.trans k13)))
    go_wp2_with (fail)
    (go_at_call 13; refine Calls.mono (eqC_any _ _ _ _ _ _ ho13 ho213 hll) ?_; rintro e w14 ⟨rfl, k14⟩)
    go_wp2_with (fail)
    (go_at_call 15; refine Calls.mono (heldIntA4S_any _ _ _ 1 _ (row_kept ho10 (k11.trans (k12.trans (k13.trans k14)))) hll (by decide) (by decide)) ?_; rintro e w15 ⟨rfl, k15⟩)
    go_wp2_with (fail)
    go_ret
    exact ⟨rfl, K10.trans (k11.trans (k12.trans (k13.trans (k14.trans k15))))⟩
  · go_enter Try.func8, Try.ntmps8
    go_wp2_with (first | (go_at_call 9; refine Calls.mono (szIntA4S_any _ _ _ hl' _) ?_; rintro e w' ⟨rfl, rfl⟩))
    go_ret
    exact ⟨rfl, (by (try simp only [ext_ext]); repeat (first | exact Kept.refl _ | apply Kept.alloc | apply Kept.drew | apply kept_add | apply Kept.ext))⟩
end Go.Proofs.Ytmdnnejaipdkhaa
