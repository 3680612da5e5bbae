/- Contracts: whether a list is a picking of a hand, and the program's. -/
import Derived.Test.YtifkjbihmmdnbaaT13
import Derived.Test.YtifkjbihmmdnbaaT32
namespace Go.Proofs.Ytifkjbihmmdnbaa
open Go.RowKit
theorem pickAt_has {all ls : List Ln} {i : Nat} (h : hasLn all (lx ls i) = false) : pickAt all ls i = false := by
  rw [hasLn_mem] at h
  simp [pickAt, h]
theorem pickAt_hit {all ls : List Ln} {i : Nat} (h : hitL (ls.take i) (lx ls i) = true) : pickAt all ls i = false := by simp [pickAt, h]
theorem pickAt_lex {all ls : List Ln} {i : Nat} (h0 : 0 < i) (h : lexL (lx ls (i - 1)) (lx ls i) = false) : pickAt all ls i = false := by
  have : ¬ i = 0 := by omega
  simp [pickAt, h, this]
theorem pickAt_yes {all ls : List Ln} {i : Nat} (h : hasLn all (lx ls i) = true) (h1 : hitL (ls.take i) (lx ls i) = false) (h2 : i = 0 ∨ lexL (lx ls (i - 1)) (lx ls i) = true) : pickAt all ls i = true := by
  rw [hasLn_mem] at h
  rcases h2 with h2 | h2
  · simp [pickAt, h1, h2]
    subst h2
    exact ⟨by simpa using h, by simpa using h1⟩
  · simp [pickAt, h1, h2]; simpa using h
theorem hitL_take {ls : List Ln} {a : Ln} {k n : Nat} (hk : k < ls.length) (hn : n < k) (h : 0 < comI a (lx ls n)) : hitL (ls.take k) a = true := by
  refine List.any_eq_true.2 ⟨lx ls n, ?_, decide_eq_true h⟩
  rw [lx_get ls n (by omega)]
  exact List.mem_take_iff_getElem.2 ⟨n, by omega, rfl⟩
theorem hitL_take_no {ls : List Ln} {a : Ln} {k : Nat} (hk : k < ls.length) (h : ∀ j, j < k → decide (0 < comI a (lx ls j)) = false) : hitL (ls.take k) a = false := by
  unfold hitL
  rw [List.any_eq_false]
  intro b hb
  obtain ⟨j, hj, rfl⟩ := List.mem_take_iff_getElem.1 hb
  have := h j (by omega)
  rw [lx_get ls j (by omega)] at this
  simpa using this
theorem l7Picking_any (ao bo : Option Addr) (cap cb : Nat) (xs : List Card) (ls : List Ln) (w : World) (hx : CardsAt w ao xs) (hh : isHand xs = true) (hy : LinesAt w bo ls) (hl : ls.length ≤ 1048576) (hcap : ls.length ≤ cb) :
    Calls Try.prog 44 #[.slice ao xs.length cap, .slice bo ls.length cb] w fun e w' => e = .returned (.bool (isPick (linesC xs) ls)) ∧ Kept w w' := by
  have hl27 := (isHand_of hh).1
  have hc := areC_hand hh
  have hll := linesC_len xs (by omega)
  go_enter Try.func44, Try.ntmps44
  go_wp2_with (first | (go_at_call 34; refine Calls.mono (l2Lines_any _ _ _ _ (by first | assumption | exact CardsAt.kept (by assumption) (by (try simp only [ext_ext]); repeat (first | exact Kept.refl _ | apply Kept.alloc | apply Kept.drew | apply kept_add | apply Kept.ext))) (by omega) hc) ?_; rintro e w' ⟨v, rfl, ho, z, rfl⟩; obtain ⟨ao', cap', rfl, hx', hcap'⟩ := ho.reads; clear ho))
  go_loopw [6] (fun i wr => ∃ k : Nat, k ≤ ls.length ∧ i = .int .i64 k ∧ (∀ j, j < k → pickAt (linesC xs) ls j = true) ∧ Kept _ wr) (fun i _ => ls.length - (intOf i).toNat)
  case atStart => exact ⟨0, Nat.zero_le _, rfl, fun j hj => absurd hj (Nat.not_lt_zero _), Kept.refl _⟩
  case round =>
    obtain ⟨k, hk, rfl, hn, z2, rfl⟩ := hrel
    have hnH := hid hn
    clear hn
    by_cases hlt : k < ls.length
    · have hyl := take_len (Nat.le_of_lt hlt)
      have hyt := hid (hy.take (Nat.le_of_lt hlt))
      obtain ⟨g, off, rfl, hg, h1, h2, h3⟩ := hy k hlt
      have hkc : k ≤ cb := by omega
      have hH := hid (fun w' (hk : Kept (ext w z) w') => l7Has_any ao' cap' (linesC xs) (lx ls k) w' (hx'.kept hk) (by omega))
      have hF := fun w' (hk : Kept w w') => l7Free_any (some ⟨g, off, none⟩) cb (ls.take k) (lx ls k) w' (hyt.out.kept hk) (by omega)
      rw [hyl] at hF
      have hFH := hid hF
      clear hF
      cases hA : hasLn (linesC xs) (lx ls k)
      · have hno := hid (isPick_no hlt (pickAt_has hA))
        have hH1 := hH.out
        rw [hA] at hH1
        have hH2 := hid hH1
        clear hH1 hA hH hFH
        go_wp2_with (first | (refine wp_region_ext (by kernel_rfl) (by kernel_rfl) ?_; (repeat (go_big_quiet_step ((first | (go_at_call 62; first | exact ext_call (hH2.out _ ((by (try simp only [ext_ext]); repeat (first | exact Kept.refl _ | apply Kept.alloc | apply Kept.drew | apply kept_add | apply Kept.ext)))) | exact ext_call2 (hH2.out _ ((by (try simp only [ext_ext]); repeat (first | exact Kept.refl _ | apply Kept.alloc | apply Kept.drew | apply kept_add | apply Kept.ext))))))))); refine wpQuiet_end fun z => ?_))
        go_ret
        exact ⟨ret_of (by rw [hno.out]; rfl), (by (try simp only [ext_ext]); repeat (first | exact Kept.refl _ | apply Kept.alloc | apply Kept.drew | apply kept_add | apply Kept.ext))⟩
      · have hAH := hid hA
        have hH1 := hH.out
        rw [hA] at hH1
        have hH2 := hid hH1
        have hit := hid (hit_take (of_decide_eq_true ((hasLn_mem _ _).symm.trans hA)) (fun j hj => pickAt_mem (hnH.out j hj)) hlt)
        clear hH1 hA hH
        cases hB : hitS (ls.take k) (lx ls k)
        · have hB1 := hFH.out
          rw [hB] at hB1
          have hB2 := hid hB1
          have hBH := hid (hit.out.symm.trans hB)
          clear hB1 hB hFH
          rcases Nat.eq_zero_or_pos k with hk0 | hpos
          · have hyes := hid (pickAt_yes hAH.out hBH.out (.inl hk0))
            have hk0H := hid hk0
            have hk1 : ¬ 0 < k := by omega
            clear hk0
            go_wp2_with (first | (refine wp_region_ext (by kernel_rfl) (by kernel_rfl) ?_; (repeat (go_big_quiet_step ((first | (go_at_call 62; first | exact ext_call (hH2.out _ ((by (try simp only [ext_ext]); repeat (first | exact Kept.refl _ | apply Kept.alloc | apply Kept.drew | apply kept_add | apply Kept.ext)))) | exact ext_call2 (hH2.out _ ((by (try simp only [ext_ext]); repeat (first | exact Kept.refl _ | apply Kept.alloc | apply Kept.drew | apply kept_add | apply Kept.ext))))) | (go_at_call 52; first | exact ext_call (hB2.out _ ((by (try simp only [ext_ext]); repeat (first | exact Kept.refl _ | apply Kept.alloc | apply Kept.drew | apply kept_add | apply Kept.ext)))) | exact ext_call2 (hB2.out _ ((by (try simp only [ext_ext]); repeat (first | exact Kept.refl _ | apply Kept.alloc | apply Kept.drew | apply kept_add | apply Kept.ext))))))))); refine wpQuiet_end fun z => ?_))
            go_roundw
            case rel =>
              refine ⟨k + 1, hlt, by go_num, fun j hj => ?_, (by (try simp only [ext_ext]); repeat (first | exact Kept.refl _ | apply Kept.alloc | apply Kept.drew | apply kept_add | apply Kept.ext))⟩
              obtain rfl : j = k := by omega
              exact hyes.out
            case measure => simp [intOf]; omega
          · obtain ⟨i, rfl⟩ : ∃ i, k = i + 1 := ⟨k - 1, by omega⟩
            obtain ⟨g', off', hgg, _, p1, p2, p3⟩ := hy i (by omega)
            cases hgg
            have hL := hid (fun w' => l7Before_any (lx ls i) (lx ls (i + 1)) w')
            cases hC : lexL (lx ls i) (lx ls (i + 1))
            all_goals
              have hL1 := hL.out
              rw [hC] at hL1
              have hL2 := hid hL1
              have hCH := hid hC
              clear hL1 hL hC
            · have hno := hid (isPick_no (all := linesC xs) hlt (pickAt_lex hpos hCH.out))
              go_wp2_with (first | (refine wp_region_ext (by kernel_rfl) (by kernel_rfl) ?_; (repeat (go_big_quiet_step ((first | (go_at_call 62; first | exact ext_call (hH2.out _ ((by (try simp only [ext_ext]); repeat (first | exact Kept.refl _ | apply Kept.alloc | apply Kept.drew | apply kept_add | apply Kept.ext)))) | exact ext_call2 (hH2.out _ ((by (try simp only [ext_ext]); repeat (first | exact Kept.refl _ | apply Kept.alloc | apply Kept.drew | apply kept_add | apply Kept.ext))))) | (go_at_call 52; first | exact ext_call (hB2.out _ ((by (try simp only [ext_ext]); repeat (first | exact Kept.refl _ | apply Kept.alloc | apply Kept.drew | apply kept_add | apply Kept.ext)))) | exact ext_call2 (hB2.out _ ((by (try simp only [ext_ext]); repeat (first | exact Kept.refl _ | apply Kept.alloc | apply Kept.drew | apply kept_add | apply Kept.ext))))) | (go_at_call 63; first | exact ext_call (hL2.out _) | exact ext_call2 (hL2.out _)))))); refine wpQuiet_end fun z => ?_))
              go_ret
              exact ⟨ret_of (by rw [hno.out]; rfl), (by (try simp only [ext_ext]); repeat (first | exact Kept.refl _ | apply Kept.alloc | apply Kept.drew | apply kept_add | apply Kept.ext))⟩
            · have hyes := hid (pickAt_yes hAH.out hBH.out (.inr hCH.out))
              go_wp2_with (first | (refine wp_region_ext (by kernel_rfl) (by kernel_rfl) ?_; (repeat (go_big_quiet_step ((first | (go_at_call 62; first | exact ext_call (hH2.out _ ((by (try simp only [ext_ext]); repeat (first | exact Kept.refl _ | apply Kept.alloc | apply Kept.drew | apply kept_add | apply Kept.ext)))) | exact ext_call2 (hH2.out _ ((by (try simp only [ext_ext]); repeat (first | exact Kept.refl _ | apply Kept.alloc | apply Kept.drew | apply kept_add | apply Kept.ext))))) | (go_at_call 52; first | exact ext_call (hB2.out _ ((by (try simp only [ext_ext]); repeat (first | exact Kept.refl _ | apply Kept.alloc | apply Kept.drew | apply kept_add | apply Kept.ext)))) | exact ext_call2 (hB2.out _ ((by (try simp only [ext_ext]); repeat (first | exact Kept.refl _ | apply Kept.alloc | apply Kept.drew | apply kept_add | apply Kept.ext))))) | (go_at_call 63; first | exact ext_call (hL2.out _) | exact ext_call2 (hL2.out _)))))); refine wpQuiet_end fun z => ?_))
              go_roundw
              case rel =>
                refine ⟨i + 1 + 1, hlt, by go_num, fun j hj => ?_, (by (try simp only [ext_ext]); repeat (first | exact Kept.refl _ | apply Kept.alloc | apply Kept.drew | apply kept_add | apply Kept.ext))⟩
                rcases Nat.lt_or_eq_of_le (Nat.le_of_lt_succ hj) with h' | rfl
                · exact hnH.out j h'
                · exact hyes.out
              case measure => simp [intOf]; omega
        · have hB1 := hFH.out
          rw [hB] at hB1
          have hB2 := hid hB1
          have hno := hid (isPick_no (all := linesC xs) hlt (pickAt_hit (hit.out.symm.trans hB)))
          clear hB1 hB hFH
          go_wp2_with (first | (refine wp_region_ext (by kernel_rfl) (by kernel_rfl) ?_; (repeat (go_big_quiet_step ((first | (go_at_call 62; first | exact ext_call (hH2.out _ ((by (try simp only [ext_ext]); repeat (first | exact Kept.refl _ | apply Kept.alloc | apply Kept.drew | apply kept_add | apply Kept.ext)))) | exact ext_call2 (hH2.out _ ((by (try simp only [ext_ext]); repeat (first | exact Kept.refl _ | apply Kept.alloc | apply Kept.drew | apply kept_add | apply Kept.ext))))) | (go_at_call 52; first | exact ext_call (hB2.out _ ((by (try simp only [ext_ext]); repeat (first | exact Kept.refl _ | apply Kept.alloc | apply Kept.drew | apply kept_add | apply Kept.ext)))) | exact ext_call2 (hB2.out _ ((by (try simp only [ext_ext]); repeat (first | exact Kept.refl _ | apply Kept.alloc | apply Kept.drew | apply kept_add | apply Kept.ext))))))))); refine wpQuiet_end fun z => ?_))
          go_ret
          exact ⟨ret_of (by rw [hno.out]; rfl), (by (try simp only [ext_ext]); repeat (first | exact Kept.refl _ | apply Kept.alloc | apply Kept.drew | apply kept_add | apply Kept.ext))⟩
    · have hyes : Hid (isPick (linesC xs) ls = true) := hid (isPick_yes fun i hi => hnH.out i (by omega))
      go_wp2
      go_ret
      exact ⟨ret_of (by rw [hyes.out]; rfl), (by (try simp only [ext_ext]); repeat (first | exact Kept.refl _ | apply Kept.alloc | apply Kept.drew | apply kept_add | apply Kept.ext))⟩
theorem isPicking_any (ao bo : Option Addr) (cap cb : Nat) (xs : List Card) (ls : List Ln) (w : World) (hx : CardsAt w ao xs) (hh : isHand xs = true) (hy : LinesAt w bo ls) (hl : ls.length ≤ 1048576) (hcap : ls.length ≤ cb) :
    Calls Try.prog 47 #[.slice ao xs.length cap, .slice bo ls.length cb] w fun e w' => e = .returned (.bool (isPick (linesC xs) ls)) ∧ Kept w w' := by
  have hl27 := (isHand_of hh).1
  have hc := areC_hand hh
  have hll := linesC_len xs (by omega)
  go_enter Try.func47, Try.ntmps47
  go_wp2_with (first | (go_at_call 56; refine Calls.mono (linesIn_any _ _ _ _ (by first | assumption | exact CardsAt.kept (by assumption) (by (try simp only [ext_ext]); repeat (first | exact Kept.refl _ | apply Kept.alloc | apply Kept.drew | apply kept_add | apply Kept.ext))) (by omega) hc (distC_hand hh)) ?_; rintro e w' ⟨v, rfl, ho, z, rfl⟩; obtain ⟨ao', cap', rfl, hx', hcap'⟩ := ho.reads; clear ho))
  go_loopw [14] (fun i wr => ∃ k : Nat, k ≤ ls.length ∧ i = .int .i64 k ∧ (∀ j, j < k → pickAt (linesC xs) ls j = true) ∧ Kept _ wr) (fun i _ => ls.length - (intOf i).toNat)
  case atStart => exact ⟨0, Nat.zero_le _, rfl, fun j hj => absurd hj (Nat.not_lt_zero _), Kept.refl _⟩
  case round =>
    obtain ⟨k, hk, rfl, hn, z2, rfl⟩ := hrel
    have hnH := hid hn
    clear hn
    by_cases hlt : k < ls.length
    · have hyl := take_len (Nat.le_of_lt hlt)
      obtain ⟨g, off, rfl, hg, h1, h2, h3⟩ := hy k hlt
      have hkc : k ≤ cb := by omega
      have hH := hid (fun w' (hk : Kept (ext w z) w') => containsLn_any ao' cap' (linesC xs) (lx ls k) w' (hx'.kept hk) (by omega))
      cases hA : hasLn (linesC xs) (lx ls k)
      · have hno := hid (isPick_no hlt (pickAt_has hA))
        have hH1 := hH.out
        rw [hA] at hH1
        have hH2 := hid hH1
        clear hH1 hA hH
        go_wp2_with (first | (refine wp_region_ext (by kernel_rfl) (by kernel_rfl) ?_; (repeat (go_big_quiet_step ((first | (go_at_call 66; first | exact ext_call (hH2.out _ ((by (try simp only [ext_ext]); repeat (first | exact Kept.refl _ | apply Kept.alloc | apply Kept.drew | apply kept_add | apply Kept.ext)))) | exact ext_call2 (hH2.out _ ((by (try simp only [ext_ext]); repeat (first | exact Kept.refl _ | apply Kept.alloc | apply Kept.drew | apply kept_add | apply Kept.ext))))))))); refine wpQuiet_end fun z => ?_))
        go_ret
        exact ⟨ret_of (by rw [hno.out]; rfl), (by (try simp only [ext_ext]); repeat (first | exact Kept.refl _ | apply Kept.alloc | apply Kept.drew | apply kept_add | apply Kept.ext))⟩
      · have hAH := hid hA
        have hH1 := hH.out
        rw [hA] at hH1
        have hH2 := hid hH1
        clear hH1 hA hH
        rcases Nat.eq_zero_or_pos k with hk0 | hpos
        · have hord : Hid (k = 0 ∨ lexL (lx ls (k - 1)) (lx ls k) = true) := hid (.inl hk0)
          have hk1 : ¬ 0 < k := by omega
          clear hk0
          go_wp2_with (first | (refine wp_region_ext (by kernel_rfl) (by kernel_rfl) ?_; (repeat (go_big_quiet_step ((first | (go_at_call 66; first | exact ext_call (hH2.out _ ((by (try simp only [ext_ext]); repeat (first | exact Kept.refl _ | apply Kept.alloc | apply Kept.drew | apply kept_add | apply Kept.ext)))) | exact ext_call2 (hH2.out _ ((by (try simp only [ext_ext]); repeat (first | exact Kept.refl _ | apply Kept.alloc | apply Kept.drew | apply kept_add | apply Kept.ext))))))))); refine wpQuiet_end fun z => ?_))
          go_loopw [41] (fun i wr => ∃ n : Nat, n ≤ k ∧ i = .int .i64 n ∧ (∀ j, j < n → decide (0 < comI (lx ls k) (lx ls j)) = false) ∧ Kept _ wr) (fun i _ => k - (intOf i).toNat)
          case atStart => exact ⟨0, Nat.zero_le _, rfl, fun j hj => absurd hj (Nat.not_lt_zero _), Kept.refl _⟩
          case round =>
            obtain ⟨n, hnk, rfl, hm, z4, rfl⟩ := hrel
            have hmH := hid hm
            clear hm
            by_cases hlt2 : n < k
            · exfalso; omega
            · have hyes := hid (pickAt_yes (all := linesC xs) hAH.out (hitL_take_no hlt fun j hj => hmH.out j (by omega)) hord.out)
              go_wp2
              go_roundw
              case rel =>
                refine ⟨k + 1, hlt, by go_num, fun j hj => ?_, (by (try simp only [ext_ext]); repeat (first | exact Kept.refl _ | apply Kept.alloc | apply Kept.drew | apply kept_add | apply Kept.ext))⟩
                rcases Nat.lt_or_eq_of_le (Nat.le_of_lt_succ hj) with h' | rfl
                · exact hnH.out j h'
                · exact hyes.out
              case measure => simp [intOf]; omega
        · obtain ⟨i, hik⟩ : ∃ i, k - 1 = i := ⟨_, rfl⟩
          have hik1 : (k : Int) - 1 = i := by omega
          have hik2 : i < ls.length := by omega
          have hik3 : i ≤ 1048576 := by omega
          obtain ⟨g', off', hgg, _, p1, p2, p3⟩ := hy i hik2
          cases hgg
          have hL := hid (fun (W : World) (x : More) cap cap' g2 (hk : Kept w W) (hg2 : g2 < W.heap.size) (hc2 : LnCells W g2 0 (lx ls k)) => compare_any g (off + i * 3) cap g2 0 cap' (lx ls i) (lx ls k) (ext W x) (Nat.lt_of_lt_of_le hg (hk.trans ⟨x, rfl⟩).below.size) (by rw [ext_size]; omega) ⟨((hk.trans ⟨x, rfl⟩).below.cell (p := ⟨_, _, none⟩) hg).trans p1, ((hk.trans ⟨x, rfl⟩).below.cell (p := ⟨_, _, none⟩) hg).trans p2, ((hk.trans ⟨x, rfl⟩).below.cell (p := ⟨_, _, none⟩) hg).trans p3⟩ ⟨(ext_cell _ _ _ _ hg2).trans hc2.1, (ext_cell _ _ _ _ hg2).trans hc2.2.1, (ext_cell _ _ _ _ hg2).trans hc2.2.2⟩)
          have hcl := hid (cmpL_lex (lx ls i) (lx ls k))
          cases hC : lexL (lx ls i) (lx ls k)
          · have hno := hid (isPick_no (all := linesC xs) hlt (pickAt_lex hpos (by rw [hik]; exact hC)))
            have hc1 : decide (0 ≤ cmpL (lx ls i) (lx ls k)) = true := by rw [hcl.out, hC]; rfl
            clear hC
            go_wp2_with (first | (refine wp_region_ext (by kernel_rfl) (by kernel_rfl) ?_; (repeat (go_big_quiet_step ((first | (go_at_call 66; first | exact ext_call (hH2.out _ ((by (try simp only [ext_ext]); repeat (first | exact Kept.refl _ | apply Kept.alloc | apply Kept.drew | apply kept_add | apply Kept.ext)))) | exact ext_call2 (hH2.out _ ((by (try simp only [ext_ext]); repeat (first | exact Kept.refl _ | apply Kept.alloc | apply Kept.drew | apply kept_add | apply Kept.ext))))) | (go_at_call 67; first | exact ext_call (hL.out _ _ _ _ _ ((by (try simp only [ext_ext]); repeat (first | exact Kept.refl _ | apply Kept.alloc | apply Kept.drew | apply kept_add | apply Kept.ext))) (by simp) (lnCells_new (lx ls k) (by simp))) | exact ext_call2 (hL.out _ _ _ _ _ ((by (try simp only [ext_ext]); repeat (first | exact Kept.refl _ | apply Kept.alloc | apply Kept.drew | apply kept_add | apply Kept.ext))) (by simp) (lnCells_new (lx ls k) (by simp)))))))); refine wpQuiet_end fun z => ?_))
            go_ret
            exact ⟨ret_of (by rw [hno.out]; rfl), (by (try simp only [ext_ext]); repeat (first | exact Kept.refl _ | apply Kept.alloc | apply Kept.drew | apply kept_add | apply Kept.ext))⟩
          have hc1 : decide (0 ≤ cmpL (lx ls i) (lx ls k)) = false := by rw [hcl.out, hC]; rfl
          have hord : Hid (k = 0 ∨ lexL (lx ls (k - 1)) (lx ls k) = true) := hid (.inr (by rw [hik]; exact hC))
          clear hC
          go_wp2_with (first | (refine wp_region_ext (by kernel_rfl) (by kernel_rfl) ?_; (repeat (go_big_quiet_step ((first | (go_at_call 66; first | exact ext_call (hH2.out _ ((by (try simp only [ext_ext]); repeat (first | exact Kept.refl _ | apply Kept.alloc | apply Kept.drew | apply kept_add | apply Kept.ext)))) | exact ext_call2 (hH2.out _ ((by (try simp only [ext_ext]); repeat (first | exact Kept.refl _ | apply Kept.alloc | apply Kept.drew | apply kept_add | apply Kept.ext))))) | (go_at_call 67; first | exact ext_call (hL.out _ _ _ _ _ ((by (try simp only [ext_ext]); repeat (first | exact Kept.refl _ | apply Kept.alloc | apply Kept.drew | apply kept_add | apply Kept.ext))) (by simp) (lnCells_new (lx ls k) (by simp))) | exact ext_call2 (hL.out _ _ _ _ _ ((by (try simp only [ext_ext]); repeat (first | exact Kept.refl _ | apply Kept.alloc | apply Kept.drew | apply kept_add | apply Kept.ext))) (by simp) (lnCells_new (lx ls k) (by simp)))))))); refine wpQuiet_end fun z => ?_))
          go_loopw [41] (fun i wr => ∃ n : Nat, n ≤ k ∧ i = .int .i64 n ∧ (∀ j, j < n → decide (0 < comI (lx ls k) (lx ls j)) = false) ∧ Kept _ wr) (fun i _ => k - (intOf i).toNat)
          case atStart => exact ⟨0, Nat.zero_le _, rfl, fun j hj => absurd hj (Nat.not_lt_zero _), Kept.refl _⟩
          case round =>
            obtain ⟨n, hnk, rfl, hm, z4, rfl⟩ := hrel
            have hmH := hid hm
            clear hm
            by_cases hlt2 : n < k
            · obtain ⟨g5, off5, hgg, r0, r1, r2, r3⟩ := hy n (by omega)
              cases hgg
              go_wp2_with (first | (go_at_call 68; refine Calls.mono (common_any (lx ls k) (lx ls n) _) ?_; rintro e w' ⟨rfl, y, rfl⟩))
              · rename_i h
                have hno := hid (isPick_no (all := linesC xs) hlt (pickAt_hit (hitL_take hlt hlt2 (by simpa using h))))
                go_ret
                exact ⟨ret_of (by rw [hno.out]; rfl), (by (try simp only [ext_ext]); repeat (first | exact Kept.refl _ | apply Kept.alloc | apply Kept.drew | apply kept_add | apply Kept.ext))⟩
              · rename_i h
                go_roundw
                case rel =>
                  refine ⟨n + 1, hlt2, by go_num, fun j hj => ?_, (by (try simp only [ext_ext]); repeat (first | exact Kept.refl _ | apply Kept.alloc | apply Kept.drew | apply kept_add | apply Kept.ext))⟩
                  rcases Nat.lt_or_eq_of_le (Nat.le_of_lt_succ hj) with h' | rfl
                  · exact hmH.out j h'
                  · exact decide_eq_false (by simpa using h)
                case measure => simp [intOf]; omega
            · have hyes := hid (pickAt_yes (all := linesC xs) hAH.out (hitL_take_no hlt fun j hj => hmH.out j (by omega)) hord.out)
              go_wp2
              go_roundw
              case rel =>
                refine ⟨k + 1, hlt, by go_num, fun j hj => ?_, (by (try simp only [ext_ext]); repeat (first | exact Kept.refl _ | apply Kept.alloc | apply Kept.drew | apply kept_add | apply Kept.ext))⟩
                rcases Nat.lt_or_eq_of_le (Nat.le_of_lt_succ hj) with h' | rfl
                · exact hnH.out j h'
                · exact hyes.out
              case measure => simp [intOf]; omega
    · have hyes : Hid (isPick (linesC xs) ls = true) := hid (isPick_yes fun i hi => hnH.out i (by omega))
      go_wp2
      go_ret
      exact ⟨ret_of (by rw [hyes.out]; rfl), (by (try simp only [ext_ext]); repeat (first | exact Kept.refl _ | apply Kept.alloc | apply Kept.drew | apply kept_add | apply Kept.ext))⟩
end Go.Proofs.Ytifkjbihmmdnbaa
