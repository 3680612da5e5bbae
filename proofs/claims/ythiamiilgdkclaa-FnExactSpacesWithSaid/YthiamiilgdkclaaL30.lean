/- Walk: the law of SpacesWith. -/
import Derived.Test.YthiamiilgdkclaaT29
import Derived.Test.YthiamiilgdkclaaC2
namespace Go.Proofs.Ythiamiilgdkclaa
open Go.RowKit
/-- All cards of a hand have one value by a weight. -/
def allSame (xs : List Card) (c : Card) : Bool := decide (max (cnt (vals xs c) xs.length 0) (max (cnt (vals xs c) xs.length 1) (cnt (vals xs c) xs.length 2)) = (xs.length : Int))
def spN (xs : List Card) (k : Nat) : List Card := (wtK k).filter (allSame xs)
theorem max3 (a b c : Int) : (if (if a < b then b else a) < c then c else if a < b then b else a) = max a (max b c) := by
  by_cases h1 : a < b
  · rw [if_pos h1]
    by_cases h2 : b < c
    · rw [if_pos h2]; omega
    · rw [if_neg h2]; omega
  · rw [if_neg h1]
    by_cases h2 : a < c
    · rw [if_pos h2]; omega
    · rw [if_neg h2]; omega
theorem spN_next (xs : List Card) (k : Nat) : spN xs (k + 1) = spN xs k ++ if isWeight (cardN k) = true ∧ allSame xs (cardN k) = true then [cardN k] else [] := by
  unfold spN
  rw [wtK_next, List.filter_append]
  cases h1 : isWeight (cardN k) <;> cases h2 : allSame xs (cardN k) <;> simp [h2]
theorem spN_no1 {xs : List Card} {k : Nat} (h : isWeight (cardN k) = false) : spN xs (k + 1) = spN xs k := by rw [spN_next, if_neg (by simp [h]), List.append_nil]
theorem spN_no2 {xs : List Card} {k : Nat} (h : allSame xs (cardN k) = false) : spN xs (k + 1) = spN xs k := by rw [spN_next, if_neg (by simp [h]), List.append_nil]
theorem spN_yes {xs : List Card} {k : Nat} (h : isWeight (cardN k) = true) (h' : allSame xs (cardN k) = true) : spN xs (k + 1) = spN xs k ++ [cardN k] := by rw [spN_next, if_pos ⟨h, h'⟩]
theorem spN_len (xs : List Card) (k : Nat) : (spN xs k).length ≤ k := Nat.le_trans (List.length_filter_le _ _) (wtK_len k)
theorem spN_le {xs : List Card} (_ : isHand xs = true) : (spN xs 81).length ≤ 1048576 := by have := spN_len xs 81; omega
theorem sSpacesWith_no (ao : Option Addr) (cap : Nat) (xs : List Card) (w : World) (hx : CardsAt w ao xs) (hl : xs.length ≤ 1048576) (h : isHand xs = false) :
    Calls Try.prog 22 #[.slice ao xs.length cap] w (RetCT w false []) := by
  go_enter Try.func22, Try.ntmps22
  go_wp2_with (first | (go_at_call 44; refine Calls.mono (l2Hand_any _ _ _ _ (by first | assumption | exact CardsAt.kept (by assumption) (by (try simp only [ext_ext]); repeat (first | exact Kept.refl _ | apply Kept.alloc | apply Kept.drew | apply kept_add | apply Kept.ext))) hl) ?_; rintro e w' ⟨rfl, y, rfl⟩))
  refine bodyPost_ret (v := .tuple #[.slice (some ⟨w.heap.size, 0, none⟩) 0 0, .bool false]) (by simp [results, Try.results22, go_sem]) rfl ?_
  exact ⟨_, rfl, ownC_nil (Nat.le_refl _) ((ext_heap _ _ _ (by simp)).trans (heap_at rfl)), (by (try simp only [ext_ext]); repeat (first | exact Kept.refl _ | apply Kept.alloc | apply Kept.drew | apply kept_add | apply Kept.ext))⟩
theorem iSpacesWith_no (ao : Option Addr) (cap : Nat) (xs : List Card) (w : World) (hx : CardsAt w ao xs) (hl : xs.length ≤ 1048576) (h : isHand xs = false) :
    Calls Try.prog 23 #[.slice ao xs.length cap] w (RetCT w false []) := by
  go_enter Try.func23, Try.ntmps23
  go_wp2_with (first | (go_at_call 49; refine Calls.mono (IsHand_any _ _ _ _ (by first | assumption | exact CardsAt.kept (by assumption) (by (try simp only [ext_ext]); repeat (first | exact Kept.refl _ | apply Kept.alloc | apply Kept.drew | apply kept_add | apply Kept.ext))) hl) ?_; rintro e w' ⟨rfl, y, rfl⟩))
  refine bodyPost_ret (v := .tuple #[.slice none 0 0, .bool false]) (by simp [results, Try.results23, go_sem]) rfl ?_
  exact ⟨_, rfl, ownC_none _ _, (by (try simp only [ext_ext]); repeat (first | exact Kept.refl _ | apply Kept.alloc | apply Kept.drew | apply kept_add | apply Kept.ext))⟩
theorem sSpacesWith_yes (ao : Option Addr) (cap : Nat) (xs : List Card) (w : World) (hx : CardsAt w ao xs) (hh : isHand xs = true) :
    Calls Try.prog 22 #[.slice ao xs.length cap] w (RetCT w true (spN xs 81)) := by
  have hl27 := (isHand_of hh).1
  have hc := areC_hand hh
  go_enter Try.func22, Try.ntmps22
  go_wp2_with (first | (go_at_call 44; refine Calls.mono (l2Hand_any _ _ _ _ (by first | assumption | exact CardsAt.kept (by assumption) (by (try simp only [ext_ext]); repeat (first | exact Kept.refl _ | apply Kept.alloc | apply Kept.drew | apply kept_add | apply Kept.ext))) (by omega)) ?_; rintro e w' ⟨rfl, y, rfl⟩))
  go_loopw [5, 4] (fun i v wr => ∃ k : Nat, k ≤ 81 ∧ i = .int .i64 k ∧ OwnC w.heap.size wr v (spN xs k) ∧ Kept w wr) (fun i _ _ => 81 - (intOf i).toNat)
  case atStart => exact ⟨0, by omega, rfl, show OwnC _ _ _ [] from ownC_nil (Nat.le_refl _) ((ext_heap _ _ _ (by simp)).trans (heap_at rfl)), (by (try simp only [ext_ext]); repeat (first | exact Kept.refl _ | apply Kept.alloc | apply Kept.drew | apply kept_add | apply Kept.ext))⟩
  case round =>
    obtain ⟨k, hk, rfl, hown, z, rfl⟩ := hrel
    have hlen := hid (spN_len xs k)
    have hnx := hid (spN_next xs k)
    have hownH := hid hown
    clear hown
    by_cases hlt : k < 81
    · have hck := isCard_cardN (n := (k : Int)) (by omega) (by omega)
      have b0 := cnt_bd (vals xs (cardN k)) xs.length 0
      have b1 := cnt_bd (vals xs (cardN k)) xs.length 1
      have b2 := cnt_bd (vals xs (cardN k)) xs.length 2
      have hsp := hid (fun w' hw => l6Split_any ao cap xs (cardN k) w' (hx.kept hw) (by omega) hc hck)
      have hal : Hid (allSame xs (cardN k) = decide (max (cnt (vals xs (cardN k)) xs.length 0) (max (cnt (vals xs (cardN k)) xs.length 1) (cnt (vals xs (cardN k)) xs.length 2)) = (xs.length : Int))) := hid rfl
      cases hw : isWeight (cardN k)
      all_goals
        have hwH := hid hw
        go_wp2_with (first | (go_at_call 56; refine Calls.mono (l2At_any _ (by omega) (by omega) _) ?_; rintro e w' ⟨rfl, y, rfl⟩) | (go_at_call 57; refine Calls.mono (l6Weight_any (cardN k) _) ?_; rintro e w' ⟨rfl, y, rfl⟩) | (go_at_call 58; refine Calls.mono (hsp.out _ ((by (try simp only [ext_ext]); repeat (first | exact Kept.refl _ | apply Kept.alloc | apply Kept.drew | apply kept_add | apply Kept.ext)))) ?_; rintro e w' ⟨rfl, y, rfl⟩) | (refine wp_region_ext (by kernel_rfl) (by kernel_rfl) ?_; (repeat (go_big_quiet_step (((go_at_call 59; first | exact ext_call_same (l1Most_any _ _ _) | exact ext_call_same2 (l1Most_any _ _ _)))))); refine wpQuiet_end fun z => ?_) | (at_builtin; refine wpList_append_card_at rfl _ _ rfl w w.heap.size _ _ rfl (hownH.out.kept (by (try simp only [ext_ext]); repeat (first | exact Kept.refl _ | apply Kept.alloc | apply Kept.drew | apply kept_add | apply Kept.ext))) (by (try simp only [ext_ext]); repeat (first | exact Kept.refl _ | apply Kept.alloc | apply Kept.drew | apply kept_add | apply Kept.ext)) (Nat.le_refl _) (by simp; omega) _ _ (cardN k) rfl ?_ (by have := hlen.out; omega) ?_; rotate_left; intro v' w' hown' hkw' hgr' hat'))
      case refine_1 => exact cardCells_new _ (by simp)
      all_goals
        rename_i hcmp
        go_roundw
        case rel =>
          first
          | exact ⟨k + 1, by omega, by go_num, by rw [spN_no1 hwH.out]; exact hownH.out.kept (by (try simp only [ext_ext]); repeat (first | exact Kept.refl _ | apply Kept.alloc | apply Kept.drew | apply kept_add | apply Kept.ext)), (by (try simp only [ext_ext]); repeat (first | exact Kept.refl _ | apply Kept.alloc | apply Kept.drew | apply kept_add | apply Kept.ext))⟩
          | exact ⟨k + 1, by omega, by go_num, by rw [spN_yes hwH.out (hal.out.trans hcmp)]; exact hown', hkw'⟩
          | exact ⟨k + 1, by omega, by go_num, by rw [spN_no2 (hal.out.trans hcmp)]; exact hownH.out.kept (by (try simp only [ext_ext]); repeat (first | exact Kept.refl _ | apply Kept.alloc | apply Kept.drew | apply kept_add | apply Kept.ext)), (by (try simp only [ext_ext]); repeat (first | exact Kept.refl _ | apply Kept.alloc | apply Kept.drew | apply kept_add | apply Kept.ext))⟩
        case measure => simp [intOf]; omega
    · obtain rfl : k = 81 := by omega
      go_wp2
      refine bodyPost_ret (v := .tuple #[u4, .bool true]) (by simp [results, Try.results22, go_sem]) rfl ?_
      exact ⟨_, rfl, hownH.out.kept (by (try simp only [ext_ext]); repeat (first | exact Kept.refl _ | apply Kept.alloc | apply Kept.drew | apply kept_add | apply Kept.ext)), (by (try simp only [ext_ext]); repeat (first | exact Kept.refl _ | apply Kept.alloc | apply Kept.drew | apply kept_add | apply Kept.ext))⟩
theorem iSpacesWith_yes (ao : Option Addr) (cap : Nat) (xs : List Card) (w : World) (hx : CardsAt w ao xs) (hh : isHand xs = true) :
    Calls Try.prog 23 #[.slice ao xs.length cap] w (RetCT w true (spN xs 81)) := by
  have hl27 := (isHand_of hh).1
  have hc := areC_hand hh
  have hwl := wtK_len 81
  have hwc := wtK_card (k := 81) (by omega)
  have hfa : Hid (fil (allSame xs) (wtK 81) (wtK 81).length = spN xs 81) := hid (fil_all _ _)
  go_enter Try.func23, Try.ntmps23
  go_wp2_with (first | (go_at_call 49; refine Calls.mono (IsHand_any _ _ _ _ (by first | assumption | exact CardsAt.kept (by assumption) (by (try simp only [ext_ext]); repeat (first | exact Kept.refl _ | apply Kept.alloc | apply Kept.drew | apply kept_add | apply Kept.ext))) (by omega)) ?_; rintro e w' ⟨rfl, y, rfl⟩) | (go_at_call 60; refine Calls.mono (weights_any _) ?_; rintro e w' ⟨v, rfl, ho, z, rfl⟩; obtain ⟨ao', cap', hv, hx', hcap'⟩ := ho.reads; subst hv))
  go_loopw [14, 4] (fun i v wr => ∃ n : Nat, n ≤ (wtK 81).length ∧ i = .int .i64 n ∧ OwnC w.heap.size wr v (fil (allSame xs) (wtK 81) n) ∧ Kept w wr ∧ SideK wr v (.slice ao' (wtK 81).length cap') (wtK 81)) (fun i _ _ => 81 - (intOf i).toNat)
  case atStart =>
    refine ⟨0, Nat.zero_le _, rfl, ?_, (by (try simp only [ext_ext]); repeat (first | exact Kept.refl _ | apply Kept.alloc | apply Kept.drew | apply kept_add | apply Kept.ext)), ⟨⟨_, ho.kept (by (try simp only [ext_ext]); repeat (first | exact Kept.refl _ | apply Kept.alloc | apply Kept.drew | apply kept_add | apply Kept.ext))⟩, fun g hg => ?_⟩⟩
    · rw [fil_zero]
      exact ownC_nil (Nat.le_add_right _ _) ((ext_heap _ _ _ (by simp)).trans (heap_at (by simp)))
    · have := (ho.lt g hg).1
      simp at this
      simp [Value.ownBlock]
      omega
  case round wr =>
    obtain ⟨n, hn, rfl, hown, hkw, hside⟩ := hrel
    have hownH := hid hown
    have hkwH := hid hkw
    have hsideH := hid hside
    have hfl := hid (Nat.le_trans (fil_len (allSame xs) (wtK 81) n) (show (wtK 81).length ≤ 1048576 by omega))
    clear hown
    by_cases hlt : n < (wtK 81).length
    · obtain ⟨⟨B2, hB2⟩, _⟩ := hside
      obtain ⟨ao2, cap2, hv2, hx2, _⟩ := hB2.reads
      cases hv2
      clear hB2
      obtain ⟨gl, ol, rfl, hgl, q1, q2, q3, q4⟩ := hx2 n hlt
      have hnx := hid (fil_nextC (allSame xs) (wtK 81) n hlt)
      have hws := hkw.below.size
      have hck := hwc n hlt
      have hsp := hid (fun w' hw => split_any ao cap xs (cx (wtK 81) n) w' ((hx.kept hkw).kept hw) (by omega) hc hck)
      have hal : Hid (allSame xs (cx (wtK 81) n) = decide (max (cnt (vals xs (cx (wtK 81) n)) xs.length 0) (max (cnt (vals xs (cx (wtK 81) n)) xs.length 1) (cnt (vals xs (cx (wtK 81) n)) xs.length 2)) = (xs.length : Int))) := hid rfl
      have b0 := cnt_bd (vals xs (cx (wtK 81) n)) xs.length 0
      have b1 := cnt_bd (vals xs (cx (wtK 81) n)) xs.length 1
      have b2 := cnt_bd (vals xs (cx (wtK 81) n)) xs.length 2
      clear hkw hx2
      go_wp2_with (first | (go_at_call 61; refine Calls.mono (hsp.out _ ((by (try simp only [ext_ext]); repeat (first | exact Kept.refl _ | apply Kept.alloc | apply Kept.drew | apply kept_add | apply Kept.ext)))) ?_; rintro e w' ⟨rfl, y, rfl⟩) | (at_builtin; refine wpList_append_card_at rfl _ _ rfl w w.heap.size _ _ rfl (hownH.out.kept (by (try simp only [ext_ext]); repeat (first | exact Kept.refl _ | apply Kept.alloc | apply Kept.drew | apply kept_add | apply Kept.ext))) (hkwH.out.trans (by (try simp only [ext_ext]); repeat (first | exact Kept.refl _ | apply Kept.alloc | apply Kept.drew | apply kept_add | apply Kept.ext))) (Nat.le_refl _) (by simp; omega) _ _ (cx (wtK 81) n) rfl ?_ hfl.out ?_; rotate_left; intro v' w' hown' hkw' hgr' hat'))
      case refine_1 => exact cardCells_new _ (by simp)
      all_goals
        rename_i hcmp
        have hcmp2 := hcmp
        rw [max3, ibeq] at hcmp2
        have hcH := hid hcmp2
        clear hcmp hcmp2
        go_roundw
        case rel =>
          first
          | exact ⟨n + 1, hlt, by go_num, by rw [hnx.out, if_pos (by rw [hal.out]; exact hcH.out)]; exact hown', hkw', (hsideH.out.kept (by (try simp only [ext_ext]); repeat (first | exact Kept.refl _ | apply Kept.alloc | apply Kept.drew | apply kept_add | apply Kept.ext))).grown hgr' hat'⟩
          | exact ⟨n + 1, hlt, by go_num, by rw [hnx.out, if_neg (by rw [hal.out, hcH.out]; decide), List.append_nil]; exact hownH.out.kept (by (try simp only [ext_ext]); repeat (first | exact Kept.refl _ | apply Kept.alloc | apply Kept.drew | apply kept_add | apply Kept.ext)), hkwH.out.trans (by (try simp only [ext_ext]); repeat (first | exact Kept.refl _ | apply Kept.alloc | apply Kept.drew | apply kept_add | apply Kept.ext)), hsideH.out.kept (by (try simp only [ext_ext]); repeat (first | exact Kept.refl _ | apply Kept.alloc | apply Kept.drew | apply kept_add | apply Kept.ext))⟩
        case measure => simp [intOf]; omega
    · obtain rfl : n = (wtK 81).length := by omega
      go_wp2
      refine bodyPost_ret (v := .tuple #[u4, .bool true]) (by simp [results, Try.results23, go_sem]) rfl ?_
      exact ⟨_, rfl, by rw [← hfa.out]; exact hownH.out.kept (by (try simp only [ext_ext]); repeat (first | exact Kept.refl _ | apply Kept.alloc | apply Kept.drew | apply kept_add | apply Kept.ext)), hkwH.out.trans (by (try simp only [ext_ext]); repeat (first | exact Kept.refl _ | apply Kept.alloc | apply Kept.drew | apply kept_add | apply Kept.ext))⟩
set_option maxHeartbeats 1000000 in
theorem walk_FnExactSpacesWith (ao : Option Addr) (xs : List Card) (cap : Nat) {w : World} (hx : CardsAt w ao xs) (hl : xs.length ≤ maxLen) (_ : World) :
    Calls Try.prog 6 #[.slice ao xs.length cap] w fun e w' => e = .returned (.bool true) ∧ Kept w w' := by
  have hl' : xs.length ≤ 9223372036854775807 := by unfold maxLen at hl; omega
  by_cases hn : xs.length ≤ 1048576
  · obtain ⟨ok, ls, hS, hI, hll⟩ : ∃ ok ls, (∀ ao cap w, CardsAt w ao xs → Calls Try.prog 22 #[.slice ao xs.length cap] w (RetCT w ok ls)) ∧ (∀ ao cap w, CardsAt w ao xs → xs.length ≤ cap → Calls Try.prog 23 #[.slice ao xs.length cap] w (RetCT w ok ls)) ∧ ls.length ≤ 1048576 := by
      cases hg : isHand xs with
      | false => exact ⟨false, [], fun _ _ _ hx => sSpacesWith_no _ _ _ _ hx hn hg, fun _ _ _ hx hc => iSpacesWith_no _ _ _ _ hx hn hg, by simp⟩
      | true => exact ⟨true, spN xs 81, fun _ _ _ hx => sSpacesWith_yes _ _ _ _ hx hg, fun _ _ _ hx hc => iSpacesWith_yes _ _ _ _ hx hg, (spN_le hg)⟩
    have p1 : ¬ ((1 : Int) + (xs.length : Int) * 4 < 0) := by omega
    have p2 : ¬ ((1 : Int) + (ls.length : Int) * 4 < 0) := by omega
    go_enter Try.func6, Try.ntmps6
    go_wp2_with (first | (go_at_call 14; refine Calls.mono (szIntA4S_any _ _ _ hl' _) ?_; rintro e w' ⟨rfl, rfl⟩))
    (go_at_call 16; refine Calls.mono (toIntA4S_any _ _ _ _ hx hn) ?_; rintro e w1 ⟨v1, rfl, ho1, k1⟩)
    obtain ⟨a1, c1, rfl, hx1, hc1⟩ := ho1.reads
    go_wp2_with (fail)
    (go_at_call 22; refine Calls.mono (hS _ _ _ hx1) ?_; rintro e w2 ⟨v2, rfl, ho2, k2⟩)
    have hx2 := hx.kept (k1.trans k2)
    go_wp2_with (fail)
    (go_at_call 16; refine Calls.mono (toIntA4S_any _ _ _ _ hx2 hn) ?_; rintro e w3 ⟨v3, rfl, ho3, k3⟩)
    obtain ⟨a3, c3, rfl, hx3, hc3⟩ := ho3.reads
    go_wp2_with (fail)
    (go_at_call 23; refine Calls.mono (hI _ _ _ hx3 hc3) ?_; rintro e w4 ⟨v4, rfl, ho4, k4⟩)
    have n43 : ∀ g, v4.ownBlock = some g → (Value.slice a3 xs.length c3).ownBlock ≠ some g := fun g h h' => by have := (ho4.lt g h).1; have := (ho3.lt g h').2; omega
    have n23 : ∀ g, v2.ownBlock = some g → (Value.slice a3 xs.length c3).ownBlock ≠ some g := fun g h h' => by have := (ho2.lt g h).2; have := (ho3.lt g h').1; omega
    have n24 : ∀ g, v2.ownBlock = some g → v4.ownBlock ≠ some g := fun g h h' => by have := (ho2.lt g h).2; have := (ho4.lt g h').1; have := k3.below.size; omega
    go_wp2_with (fail)
    (go_at_call 19; refine Calls.mono (eqC_any _ _ _ _ _ _ ho4 ((ho2.kept k3).kept k4) hll) ?_; rintro e w5 ⟨rfl, k5⟩)
    have hx5 := hx2.kept (k3.trans (k4.trans k5))
    go_wp2_with (fail)
    (go_at_call 16; refine Calls.mono (toIntA4S_any _ _ _ _ hx5 hn) ?_; rintro e w6 ⟨v6, rfl, ho6, k6⟩)
    obtain ⟨a6, c6, rfl, hx6, hc6⟩ := ho6.reads
    have hx36 := hx3.kept (k4.trans (k5.trans k6))
    go_wp2_with (fail)
    (go_at_call 19; refine Calls.mono (eqIntA4S_any _ _ _ _ _ _ _ hx36 hx6 hn hn) ?_; rintro e w7 ⟨rfl, k7⟩)
    have K7 : Kept w w7 := k1.trans (k2.trans (k3.trans (k4.trans (k5.trans (k6.trans k7)))))
    have s2 : w.heap.size ≤ w2.heap.size := (k1.trans k2).below.size
    have s3 : w.heap.size ≤ w3.heap.size := (k1.trans (k2.trans k3)).below.size
    go_wp2_with (fail)
    (go_at_call 24; refine Calls.mono (markIntA4S_any _ _ _ _ 1 _ (ho3.kept (k4.trans (k5.trans (k6.trans k7)))) hn (by decide) (by decide)) ?_; rintro e w8 ⟨rfl, _, g8⟩)
    have ho48 := (ho4.kept (k5.trans (k6.trans k7))).grown g8 n43
    have ho28 := (ho2.kept (k3.trans (k4.trans (k5.trans (k6.trans k7))))).grown g8 n23
    have K8 : Kept w w8 := K7.grown g8 fun k hk => Nat.le_trans s2 (ho3.lt k hk).1
    go_wp2_with (fail)
    (go_at_call 19; refine Calls.mono (eqC_any _ _ _ _ _ _ ho48 ho28 hll) ?_; rintro e w9 ⟨rfl, k9⟩)
    go_wp2_with (fail)
    (go_at_call 24; refine Calls.mono (markIntA4S_any _ _ _ _ 1 _ (ho48.kept k9) hll (by decide) (by decide)) ?_; rintro e w10 ⟨rfl, ho10, g10⟩)
    have K10 : Kept w w10 := (K8.trans k9).grown g10 fun k hk => Nat.le_trans s3 (ho4.lt k hk).1
    go_wp2_with (fail)
    (go_at_call 25; refine Calls.mono (heldIntA4S_any _ _ _ 1 _ ho10 hll (by decide) (by decide)) ?_; rintro e w11 ⟨rfl, k11⟩)
    have hx11 := hx.kept (K10.trans k11)
    go_wp2_with (fail)
    (go_at_call 16; refine Calls.mono (toIntA4S_any _ _ _ _ hx11 hn) ?_; rintro e w12 ⟨v12, rfl, ho12, k12⟩)
    obtain ⟨a12, c12, rfl, hx12, hc12⟩ := ho12.reads
    go_wp2_with (fail)
    (go_at_call 23; refine Calls.mono (hI _ _ _ hx12 hc12) ?_; rintro e w13 ⟨v13, rfl, ho13, k13⟩)
    have ho213 := (((ho28.kept k9).grown g10 n24).kept (k11.trans (k12.trans k13)))
    go_wp2_with (fail)
    (go_at_call 19; refine Calls.mono (eqC_any _ _ _ _ _ _ ho13 ho213 hll) ?_; rintro e w14 ⟨rfl, k14⟩)
    go_wp2_with (fail)
    (go_at_call 25; refine Calls.mono (heldIntA4S_any _ _ _ 1 _ (row_kept ho10 (k11.trans (k12.trans (k13.trans k14)))) hll (by decide) (by decide)) ?_; rintro e w15 ⟨rfl, k15⟩)
    go_wp2_with (fail)
    go_ret
    exact ⟨rfl, K10.trans (k11.trans (k12.trans (k13.trans (k14.trans k15))))⟩
  · go_enter Try.func6, Try.ntmps6
    go_wp2_with (first | (go_at_call 14; refine Calls.mono (szIntA4S_any _ _ _ hl' _) ?_; rintro e w' ⟨rfl, rfl⟩))
    go_ret
    exact ⟨rfl, (by (try simp only [ext_ext]); repeat (first | exact Kept.refl _ | apply Kept.alloc | apply Kept.drew | apply kept_add | apply Kept.ext))⟩
end Go.Proofs.Ythiamiilgdkclaa
