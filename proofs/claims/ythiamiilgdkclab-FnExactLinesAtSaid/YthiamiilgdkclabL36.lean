/- Walk: the law of LinesAt. -/
import Derived.Test.YthiamiilgdkclabT14
import Derived.Test.YthiamiilgdkclabT17
import Derived.Test.YthiamiilgdkclabT21
import Derived.Test.YthiamiilgdkclabT25
namespace Go.Proofs.Ythiamiilgdkclab
open Go.RowKit
def canAt (xs : List Card) (i : Int) : Bool := isHand xs && inB i 0 ((xs.length : Int) - 1)
theorem canAt_len {xs : List Card} {k : Int} (h : canAt xs k = true) : ((linesC xs).filter (hasPl k)).length ≤ 1048576 := by
  have hh : isHand xs = true := by simp [canAt] at h; exact h.1
  have h0 := (isHand_of hh).1
  have h1 := List.length_filter_le (hasPl k) (linesC xs)
  have h2 := linesC_len xs (by omega)
  omega
theorem sLinesAt_no (ao : Option Addr) (cap : Nat) (xs : List Card) (k : Int) (w : World) (hx : CardsAt w ao xs) (hl : xs.length ≤ 1048576) (h : canAt xs k = false) :
    Calls Try.prog 15 #[.slice ao xs.length cap, .int .i64 k] w (RetLT w false []) := by
  cases hh : isHand xs <;> cases h1 : inB k 0 ((xs.length : Int) - 1)
  all_goals first | (exfalso; simp [canAt, hh, h1] at h; done) | skip
  all_goals
    go_enter Try.func15, Try.ntmps15
    go_wp2_with (first | (go_at_call 29; refine Calls.mono (l2Hand_any _ _ _ _ (by first | assumption | exact CardsAt.kept (by assumption) (by (try simp only [ext_ext]); repeat (first | exact Kept.refl _ | apply Kept.alloc | apply Kept.drew | apply kept_add | apply Kept.ext))) hl) ?_; rintro e w' ⟨rfl, y, rfl⟩) | (go_at_call 37; refine Calls.mono (l1In_any _ _ _ _) ?_; rintro e w' ⟨rfl, rfl⟩))
    refine bodyPost_ret (v := .tuple #[.slice (some ⟨w.heap.size + y.os.length, 0, none⟩) 0 0, .bool false]) (by simp [results, Try.results15, go_sem]) rfl ?_
    exact ⟨_, rfl, ownL_nil (Nat.le_add_right _ _) (heap_at (by simp)), (by (try simp only [ext_ext]); repeat (first | exact Kept.refl _ | apply Kept.alloc | apply Kept.drew | apply kept_add | apply Kept.ext))⟩
theorem iLinesAt_no (ao : Option Addr) (cap : Nat) (xs : List Card) (k : Int) (w : World) (hx : CardsAt w ao xs) (hl : xs.length ≤ 1048576) (h : canAt xs k = false) :
    Calls Try.prog 16 #[.slice ao xs.length cap, .int .i64 k] w (RetLT w false []) := by
  cases hh : isHand xs <;> cases h1 : inB k 0 ((xs.length : Int) - 1)
  all_goals first | (exfalso; simp [canAt, hh, h1] at h; done) | skip
  all_goals
    go_enter Try.func16, Try.ntmps16
    go_wp2_with (first | (go_at_call 33; refine Calls.mono (IsHand_any _ _ _ _ (by first | assumption | exact CardsAt.kept (by assumption) (by (try simp only [ext_ext]); repeat (first | exact Kept.refl _ | apply Kept.alloc | apply Kept.drew | apply kept_add | apply Kept.ext))) hl) ?_; rintro e w' ⟨rfl, y, rfl⟩) | (go_at_call 40; refine Calls.mono (within_any _ _ _ _) ?_; rintro e w' ⟨rfl, rfl⟩))
    refine bodyPost_ret (v := .tuple #[.slice none 0 0, .bool false]) (by simp [results, Try.results16, go_sem]) rfl ?_
    exact ⟨_, rfl, ownL_none _ _, (by (try simp only [ext_ext]); repeat (first | exact Kept.refl _ | apply Kept.alloc | apply Kept.drew | apply kept_add | apply Kept.ext))⟩
theorem sLinesAt_yes (ao : Option Addr) (cap : Nat) (xs : List Card) (kk : Int) (w : World) (hx : CardsAt w ao xs) (h : canAt xs kk = true) :
    Calls Try.prog 15 #[.slice ao xs.length cap, .int .i64 kk] w (RetLT w true ((linesC xs).filter (hasPl kk))) := by
  obtain ⟨hh, hkk⟩ : isHand xs = true ∧ inB kk 0 ((xs.length : Int) - 1) = true := by simpa [canAt] using h
  have hl27 := (isHand_of hh).1
  have hc := areC_hand hh
  have hll := linesC_len xs (by omega)
  clear h
  go_enter Try.func15, Try.ntmps15
  go_wp2_with (first | (go_at_call 29; refine Calls.mono (l2Hand_any _ _ _ _ (by first | assumption | exact CardsAt.kept (by assumption) (by (try simp only [ext_ext]); repeat (first | exact Kept.refl _ | apply Kept.alloc | apply Kept.drew | apply kept_add | apply Kept.ext))) (by omega)) ?_; rintro e w' ⟨rfl, y, rfl⟩) | (go_at_call 37; refine Calls.mono (l1In_any _ _ _ _) ?_; rintro e w' ⟨rfl, rfl⟩) | (go_at_call 39; refine Calls.mono (l2Lines_any _ _ _ _ (by first | assumption | exact CardsAt.kept (by assumption) (by (try simp only [ext_ext]); repeat (first | exact Kept.refl _ | apply Kept.alloc | apply Kept.drew | apply kept_add | apply Kept.ext))) (by omega) hc) ?_; rintro e w' ⟨v, rfl, ho, z, rfl⟩; obtain ⟨ao', cap', rfl, hx', hcap'⟩ := ho.reads; clear ho) | (go_at_call 38; refine Calls.mono (l7At_any _ _ _ _ _ (LinesAt.kept (by assumption) (by (try simp only [ext_ext]); repeat (first | exact Kept.refl _ | apply Kept.alloc | apply Kept.drew | apply kept_add | apply Kept.ext))) (by omega)) ?_; rintro e w' ⟨vr, rfl, hor, zr, rfl⟩))
  refine bodyPost_ret (v := .tuple #[vr, .bool true]) (by simp [results, Try.results15, go_sem]) rfl ?_
  exact ⟨_, rfl, (hor.mono (by simp)).kept (by (try simp only [ext_ext]); repeat (first | exact Kept.refl _ | apply Kept.alloc | apply Kept.drew | apply kept_add | apply Kept.ext)), (by (try simp only [ext_ext]); repeat (first | exact Kept.refl _ | apply Kept.alloc | apply Kept.drew | apply kept_add | apply Kept.ext))⟩
theorem iLinesAt_yes (ao : Option Addr) (cap : Nat) (xs : List Card) (kk : Int) (w : World) (hx : CardsAt w ao xs) (h : canAt xs kk = true) :
    Calls Try.prog 16 #[.slice ao xs.length cap, .int .i64 kk] w (RetLT w true ((linesC xs).filter (hasPl kk))) := by
  obtain ⟨hh, hkk⟩ : isHand xs = true ∧ inB kk 0 ((xs.length : Int) - 1) = true := by simpa [canAt] using h
  have hl27 := (isHand_of hh).1
  have hc := areC_hand hh
  have hll := linesC_len xs (by omega)
  have hfa := hid (fil_all (hasPl kk) (linesC xs))
  clear h
  go_enter Try.func16, Try.ntmps16
  go_wp2_with (first | (go_at_call 33; refine Calls.mono (IsHand_any _ _ _ _ (by first | assumption | exact CardsAt.kept (by assumption) (by (try simp only [ext_ext]); repeat (first | exact Kept.refl _ | apply Kept.alloc | apply Kept.drew | apply kept_add | apply Kept.ext))) (by omega)) ?_; rintro e w' ⟨rfl, y, rfl⟩) | (go_at_call 40; refine Calls.mono (within_any _ _ _ _) ?_; rintro e w' ⟨rfl, rfl⟩) | (go_at_call 41; refine Calls.mono (linesIn_any _ _ _ _ (by first | assumption | exact CardsAt.kept (by assumption) (by (try simp only [ext_ext]); repeat (first | exact Kept.refl _ | apply Kept.alloc | apply Kept.drew | apply kept_add | apply Kept.ext))) (by omega) hc (distC_hand hh)) ?_; rintro e w' ⟨v, rfl, ho, z, rfl⟩; obtain ⟨ao', cap', hv, hx', hcap'⟩ := ho.reads; subst hv))
  go_loopw [24, 6] (fun i v wr => ∃ n : Nat, n ≤ (linesC xs).length ∧ i = .int .i64 n ∧ OwnL w.heap.size wr v (fil (hasPl kk) (linesC xs) n) ∧ Kept w wr ∧ SideL wr v (.slice ao' (linesC xs).length cap') (linesC xs)) (fun i _ _ => (linesC xs).length - (intOf i).toNat)
  case atStart =>
    refine ⟨0, Nat.zero_le _, rfl, ?_, (by (try simp only [ext_ext]); repeat (first | exact Kept.refl _ | apply Kept.alloc | apply Kept.drew | apply kept_add | apply Kept.ext)), ⟨⟨_, ho.kept (by (try simp only [ext_ext]); repeat (first | exact Kept.refl _ | apply Kept.alloc | apply Kept.drew | apply kept_add | apply Kept.ext))⟩, fun g hg => ?_⟩⟩
    · rw [fil_zero]
      exact ownL_nil (Nat.le_add_right _ _) ((ext_heap _ _ _ (by simp)).trans (heap_at (by simp)))
    · have := (ho.lt g hg).1
      simp at this
      simp [Value.ownBlock]
      omega
  case round wr =>
    obtain ⟨n, hn, rfl, hown, hkw, hside⟩ := hrel
    have hownH := hid hown
    have hkwH := hid hkw
    have hsideH := hid hside
    have hfl := hid (Nat.le_trans (fil_len (hasPl kk) (linesC xs) n) (show (linesC xs).length ≤ 1048576 by omega))
    clear hown
    by_cases hlt : n < (linesC xs).length
    · obtain ⟨⟨B2, hB2⟩, _⟩ := hside
      obtain ⟨ao2, cap2, hv2, hx2, _⟩ := hB2.reads
      cases hv2
      clear hB2
      obtain ⟨gl, ol, rfl, hgl, q1, q2, q3⟩ := hx2 n hlt
      have hnx := hid (fil_next (hasPl kk) (linesC xs) n hlt)
      have hws := hkw.below.size
      have hok : Hid (hasPl kk (lx (linesC xs) n) = (decide ((lx (linesC xs) n).a = kk) || decide ((lx (linesC xs) n).b = kk) || decide ((lx (linesC xs) n).c = kk))) := hid rfl
      clear hkw hx2
      have hct : ∀ (g : Nat) (w0 : World) (cap0 : Nat), IntsAt w0 (some ⟨g, 0, none⟩) [(lx (linesC xs) n).a, (lx (linesC xs) n).b, (lx (linesC xs) n).c] → Calls Try.prog 42 #[.slice (some ⟨g, 0, none⟩) 3 cap0, .int .i64 kk] w0 fun e w' => e = .returned (.bool (hasPl kk (lx (linesC xs) n))) ∧ Kept w0 w' := fun g w0 cap0 hi => by
        have := containsIntsN (some ⟨g, 0, none⟩) cap0 3 _ kk w0 hi rfl (by omega)
        simpa [hasPl, Bool.or_assoc] using this
      have hctH := hid hct
      clear hct
      cases hp : hasPl kk (lx (linesC xs) n)
      all_goals
        have hpH := hid hp
        have hctp := hctH.out
        rw [hp] at hctp
        have hctpH := hid hctp
        clear hctp hp
        go_wp2_with (first | (go_at_call 42; refine Calls.mono (hctpH.out _ _ _ (intsAt_block (heap_at (by simp)))) ?_; rintro e w' ⟨rfl, y, rfl⟩) | (at_builtin; refine wpList_append_ln_at rfl _ _ rfl w w.heap.size _ _ rfl (hownH.out.kept (by (try simp only [ext_ext]); repeat (first | exact Kept.refl _ | apply Kept.alloc | apply Kept.drew | apply kept_add | apply Kept.ext))) (hkwH.out.trans (by (try simp only [ext_ext]); repeat (first | exact Kept.refl _ | apply Kept.alloc | apply Kept.drew | apply kept_add | apply Kept.ext))) (Nat.le_refl _) (by simp; omega) _ _ (lx (linesC xs) n) rfl ?_ hfl.out ?_; rotate_left; intro v' w' hown' hkw' hgr' hat'))
      · go_roundw
        case rel => exact ⟨n + 1, hlt, by go_num, by rw [hnx.out, hpH.out]; simpa using hownH.out.kept (by (try simp only [ext_ext]); repeat (first | exact Kept.refl _ | apply Kept.alloc | apply Kept.drew | apply kept_add | apply Kept.ext)), hkwH.out.trans (by (try simp only [ext_ext]); repeat (first | exact Kept.refl _ | apply Kept.alloc | apply Kept.drew | apply kept_add | apply Kept.ext)), hsideH.out.kept (by (try simp only [ext_ext]); repeat (first | exact Kept.refl _ | apply Kept.alloc | apply Kept.drew | apply kept_add | apply Kept.ext))⟩
        case measure => simp [intOf]; omega
      · go_roundw
        case rel => exact ⟨n + 1, hlt, by go_num, by rw [hnx.out, hpH.out]; exact hown', hkw', (hsideH.out.kept (by (try simp only [ext_ext]); repeat (first | exact Kept.refl _ | apply Kept.alloc | apply Kept.drew | apply kept_add | apply Kept.ext))).grown hgr' hat'⟩
        case measure => simp [intOf]; omega
      · exact lnCells_new ⟨_, _, _⟩ (by simp)
    · obtain rfl : n = (linesC xs).length := by omega
      go_wp2
      refine bodyPost_ret (v := .tuple #[u6, .bool true]) (by simp [results, Try.results16, go_sem]) rfl ?_
      exact ⟨_, rfl, by rw [← hfa.out]; exact hownH.out.kept (by (try simp only [ext_ext]); repeat (first | exact Kept.refl _ | apply Kept.alloc | apply Kept.drew | apply kept_add | apply Kept.ext)), hkwH.out.trans (by (try simp only [ext_ext]); repeat (first | exact Kept.refl _ | apply Kept.alloc | apply Kept.drew | apply kept_add | apply Kept.ext))⟩
set_option maxHeartbeats 1000000 in
theorem walk_FnExactLinesAt (ao : Option Addr) (xs : List Card) (cap : Nat) {w : World} (hx : CardsAt w ao xs) (hl : xs.length ≤ maxLen) (k : Int) (_ : World) :
    Calls Try.prog 4 #[.slice ao xs.length cap, .int .i64 k] w fun e w' => e = .returned (.bool true) ∧ Kept w w' := by
  have hl' : xs.length ≤ 9223372036854775807 := by unfold maxLen at hl; omega
  by_cases hn : xs.length ≤ 1048576
  · obtain ⟨ok, ls, hS, hI, hll⟩ : ∃ ok ls, (∀ ao cap w, CardsAt w ao xs → Calls Try.prog 15 #[.slice ao xs.length cap, .int .i64 k] w (RetLT w ok ls)) ∧ (∀ ao cap w, CardsAt w ao xs → xs.length ≤ cap → Calls Try.prog 16 #[.slice ao xs.length cap, .int .i64 k] w (RetLT w ok ls)) ∧ ls.length ≤ 1048576 := by
      cases hg : canAt xs k with
      | false => exact ⟨false, [], fun _ _ _ hx => sLinesAt_no _ _ _ k _ hx hn hg, fun _ _ _ hx hc => iLinesAt_no _ _ _ k _ hx hn hg, by simp⟩
      | true => exact ⟨true, (linesC xs).filter (hasPl k), fun _ _ _ hx => sLinesAt_yes _ _ _ k _ hx hg, fun _ _ _ hx hc => iLinesAt_yes _ _ _ k _ hx hg, (canAt_len hg)⟩
    have p1 : ¬ ((1 : Int) + (xs.length : Int) * 4 < 0) := by omega
    have p2 : ¬ ((1 : Int) + (ls.length : Int) * 3 < 0) := by omega
    go_enter Try.func4, Try.ntmps4
    go_wp2_with (first | (go_at_call 9; refine Calls.mono (szIntA4S_any _ _ _ hl' _) ?_; rintro e w' ⟨rfl, rfl⟩))
    (go_at_call 11; refine Calls.mono (toIntA4S_any _ _ _ _ hx hn) ?_; rintro e w1 ⟨v1, rfl, ho1, k1⟩)
    obtain ⟨a1, c1, rfl, hx1, hc1⟩ := ho1.reads
    go_wp2_with (fail)
    (go_at_call 15; refine Calls.mono (hS _ _ _ hx1) ?_; rintro e w2 ⟨v2, rfl, ho2, k2⟩)
    have hx2 := hx.kept (k1.trans k2)
    go_wp2_with (fail)
    (go_at_call 11; refine Calls.mono (toIntA4S_any _ _ _ _ hx2 hn) ?_; rintro e w3 ⟨v3, rfl, ho3, k3⟩)
    obtain ⟨a3, c3, rfl, hx3, hc3⟩ := ho3.reads
    go_wp2_with (fail)
    (go_at_call 16; refine Calls.mono (hI _ _ _ hx3 hc3) ?_; rintro e w4 ⟨v4, rfl, ho4, k4⟩)
    have n43 : ∀ g, v4.ownBlock = some g → (Value.slice a3 xs.length c3).ownBlock ≠ some g := fun g h h' => by have := (ho4.lt g h).1; have := (ho3.lt g h').2; omega
    have n23 : ∀ g, v2.ownBlock = some g → (Value.slice a3 xs.length c3).ownBlock ≠ some g := fun g h h' => by have := (ho2.lt g h).2; have := (ho3.lt g h').1; omega
    have n24 : ∀ g, v2.ownBlock = some g → v4.ownBlock ≠ some g := fun g h h' => by have := (ho2.lt g h).2; have := (ho4.lt g h').1; have := k3.below.size; omega
    go_wp2_with (fail)
    (go_at_call 17; refine Calls.mono (eqL_any _ _ _ _ _ _ ho4 ((ho2.kept k3).kept k4) hll) ?_; rintro e w5 ⟨rfl, k5⟩)
    have hx5 := hx2.kept (k3.trans (k4.trans k5))
    go_wp2_with (fail)
    (go_at_call 11; refine Calls.mono (toIntA4S_any _ _ _ _ hx5 hn) ?_; rintro e w6 ⟨v6, rfl, ho6, k6⟩)
    obtain ⟨a6, c6, rfl, hx6, hc6⟩ := ho6.reads
    have hx36 := hx3.kept (k4.trans (k5.trans k6))
    go_wp2_with (fail)
    (go_at_call 14; refine Calls.mono (eqIntA4S_any _ _ _ _ _ _ _ hx36 hx6 hn hn) ?_; rintro e w7 ⟨rfl, k7⟩)
    have K7 : Kept w w7 := k1.trans (k2.trans (k3.trans (k4.trans (k5.trans (k6.trans k7)))))
    have s2 : w.heap.size ≤ w2.heap.size := (k1.trans k2).below.size
    have s3 : w.heap.size ≤ w3.heap.size := (k1.trans (k2.trans k3)).below.size
    go_wp2_with (fail)
    (go_at_call 18; refine Calls.mono (markIntA4S_any _ _ _ _ 1 _ (ho3.kept (k4.trans (k5.trans (k6.trans k7)))) hn (by decide) (by decide)) ?_; rintro e w8 ⟨rfl, _, g8⟩)
    have ho48 := (ho4.kept (k5.trans (k6.trans k7))).grown g8 n43
    have ho28 := (ho2.kept (k3.trans (k4.trans (k5.trans (k6.trans k7))))).grown g8 n23
    have K8 : Kept w w8 := K7.grown g8 fun k hk => Nat.le_trans s2 (ho3.lt k hk).1
    go_wp2_with (fail)
    (go_at_call 17; refine Calls.mono (eqL_any _ _ _ _ _ _ ho48 ho28 hll) ?_; rintro e w9 ⟨rfl, k9⟩)
    go_wp2_with (fail)
    (go_at_call 19; refine Calls.mono (markIntA3S_any _ _ _ _ 1 _ (ho48.kept k9) hll (by decide) (by decide)) ?_; rintro e w10 ⟨rfl, ho10, g10⟩)
    have K10 : Kept w w10 := (K8.trans k9).grown g10 fun k hk => Nat.le_trans s3 (ho4.lt k hk).1
    go_wp2_with (fail)
    (go_at_call 20; refine Calls.mono (heldIntA3S_any _ _ _ 1 _ ho10 hll (by decide) (by decide)) ?_; rintro e w11 ⟨rfl, k11⟩)
    have hx11 := hx.kept (K10.trans k11)
    go_wp2_with (fail)
    (go_at_call 11; refine Calls.mono (toIntA4S_any _ _ _ _ hx11 hn) ?_; rintro e w12 ⟨v12, rfl, ho12, k12⟩)
    obtain ⟨a12, c12, rfl, hx12, hc12⟩ := ho12.reads
    go_wp2_with (fail)
    (go_at_call 16; refine Calls.mono (hI _ _ _ hx12 hc12) ?_; rintro e w13 ⟨v13, rfl, ho13, k13⟩)
    have ho213 := (((ho28.kept k9).grown g10 n24).kept (k11.trans (k12.trans k13)))
    go_wp2_with (fail)
    (go_at_call 17; refine Calls.mono (eqL_any _ _ _ _ _ _ ho13 ho213 hll) ?_; rintro e w14 ⟨rfl, k14⟩)
    go_wp2_with (fail)
    (go_at_call 20; refine Calls.mono (heldIntA3S_any _ _ _ 1 _ (row_kept ho10 (k11.trans (k12.trans (k13.trans k14)))) hll (by decide) (by decide)) ?_; rintro e w15 ⟨rfl, k15⟩)
    go_wp2_with (fail)
    go_ret
    exact ⟨rfl, K10.trans (k11.trans (k12.trans (k13.trans (k14.trans k15))))⟩
  · go_enter Try.func4, Try.ntmps4
    go_wp2_with (first | (go_at_call 9; refine Calls.mono (szIntA4S_any _ _ _ hl' _) ?_; rintro e w' ⟨rfl, rfl⟩))
    go_ret
    exact ⟨rfl, (by (try simp only [ext_ext]); repeat (first | exact Kept.refl _ | apply Kept.alloc | apply Kept.drew | apply kept_add | apply Kept.ext))⟩
end Go.Proofs.Ythiamiilgdkclab
