/- Walk: the law of NearLines. -/
import Derived.Test.YtopfdfdgfhnbeaaT49
import Derived.Test.YtopfdfdgfhnbeaaT18
namespace Go.Proofs.Ytopfdfdgfhnbeaa
open Go.RowKit
theorem nearO_app (xs : List Card) (a b : List (List Int)) : nearO xs (a ++ b) = nearO xs a ++ nearO xs b := by simp [nearO]
theorem chF_last {n m : Nat} (hm : m < n) (l : List Int) : chF n (n - m) 1 l = [l ++ [(m : Int)]] ++ chF n (n - (m + 1)) 1 l := by rw [chF_at hm, chF_zero]
theorem ch_len : ∀ (n d m : Nat) (l : List Int), d ≤ 27 → (chF n d m l).length ≤ 28 ^ m
  | n, d, 0, l, _ => by rw [chF_zero]; simp
  | n, 0, m + 1, l, _ => by rw [chF_none]; simp
  | n, d + 1, m + 1, l, h => by
    have key : ∀ d, d ≤ 27 → (chF n d (m + 1) l).length ≤ d * 28 ^ m := by
      intro d
      induction d with
      | zero => intro _; rw [chF_none]; simp
      | succ d ih =>
        intro hd
        have h1 := ch_len n d m (l ++ [((n - (d + 1) : Nat) : Int)]) (by omega)
        have h2 := ih (by omega)
        rw [chF_next, List.length_append, Nat.add_mul, Nat.one_mul]
        omega
    have h1 := key (d + 1) h
    have h2 : (d + 1) * 28 ^ m ≤ 28 * 28 ^ m := Nat.mul_le_mul_right _ (by omega)
    rw [Nat.pow_succ, Nat.mul_comm (28 ^ m) 28]
    omega
termination_by _ d m _ => m
theorem near_len (xs : List Card) (h : xs.length ≤ 27) : (nearO xs (chF xs.length xs.length 3 [])).length ≤ 1000000 := by
  have h1 := ch_len xs.length xs.length 3 [] h
  have h2 := nearO_len xs (chF xs.length xs.length 3 [])
  have : (28 : Nat) ^ 3 = 21952 := by decide
  omega
theorem iNearLines_no (ao : Option Addr) (cap : Nat) (xs : List Card) (w : World) (hx : CardsAt w ao xs) (hl : xs.length ≤ 1048576) (h : isHand xs = false) :
    Calls Try.prog 24 #[.slice ao xs.length cap] w (RetLT w false []) := by
  go_enter Try.func24, Try.ntmps24
  go_wp2_with (first | (go_at_call 56; refine Calls.mono (IsHand_any _ _ _ _ (by first | assumption | exact CardsAt.kept (by assumption) (by (try simp only [ext_ext]); repeat (first | exact Kept.refl _ | apply Kept.alloc | apply Kept.drew | apply kept_add | apply Kept.ext))) hl) ?_; rintro e w' ⟨rfl, y, rfl⟩))
  refine bodyPost_ret (v := .tuple #[.slice none 0 0, .bool false]) (by simp [results, Try.results24, go_sem]) rfl ?_
  exact ⟨_, rfl, ownL_none _ _, (by (try simp only [ext_ext]); repeat (first | exact Kept.refl _ | apply Kept.alloc | apply Kept.drew | apply kept_add | apply Kept.ext))⟩
theorem sNearLines_no (ao : Option Addr) (cap : Nat) (xs : List Card) (w : World) (hx : CardsAt w ao xs) (hl : xs.length ≤ 1048576) (h : isHand xs = false) :
    Calls Try.prog 23 #[.slice ao xs.length cap] w (RetLT w false []) := by
  go_enter Try.func23, Try.ntmps23
  go_wp2_with (first | (go_at_call 40; refine Calls.mono (l2Hand_any _ _ _ _ (by first | assumption | exact CardsAt.kept (by assumption) (by (try simp only [ext_ext]); repeat (first | exact Kept.refl _ | apply Kept.alloc | apply Kept.drew | apply kept_add | apply Kept.ext))) hl) ?_; rintro e w' ⟨rfl, y, rfl⟩))
  refine bodyPost_ret (v := .tuple #[.slice (some ⟨w.heap.size, 0, none⟩) 0 0, .bool false]) (by simp [results, Try.results23, go_sem]) rfl ?_
  exact ⟨_, rfl, ownL_nil (Nat.le_refl _) ((ext_heap _ _ _ (by simp)).trans (heap_at rfl)), (by (try simp only [ext_ext]); repeat (first | exact Kept.refl _ | apply Kept.alloc | apply Kept.drew | apply kept_add | apply Kept.ext))⟩
theorem iNearLines_yes (ao : Option Addr) (cap : Nat) (xs : List Card) (w : World) (hx : CardsAt w ao xs) (hh : isHand xs = true) :
    Calls Try.prog 24 #[.slice ao xs.length cap] w (RetLT w true (nearO xs (chF xs.length xs.length 3 []))) := by
  have hl27 := (isHand_of hh).1
  have hc := areC_hand hh
  have hlen := ch_len xs.length xs.length 3 [] hl27
  have h28 : (28 : Nat) ^ 3 = 21952 := by decide
  rw [h28] at hlen
  have hH := hid (fun w' (hk : Kept w w') => IsHand_any ao cap xs w' (hx.kept hk) (by omega))
  rw [hh] at hH
  obtain ⟨W, hW⟩ : ∃ W, W = w.alloc (.cells #[.slice ao xs.length cap] 29) := ⟨_, rfl⟩
  have kW : Kept w W := by rw [hW]; exact (by (try simp only [ext_ext]); repeat (first | exact Kept.refl _ | apply Kept.alloc | apply Kept.drew | apply kept_add | apply Kept.ext))
  have hWs := hid (show W.heap.size = w.heap.size + 1 by rw [hW]; simp)
  have hWc := hid (show W.cell? ⟨w.heap.size, 0, none⟩ = some (.slice ao xs.length cap) by rw [hW]; simp [go_sem])
  have hxW := hid (hx.kept kW)
  have kWH := hid kW
  have hWH := hid hW
  clear hx h28 hW kW
  go_enter Try.func24, Try.ntmps24
  go_wp2_with (first | (go_at_call 56; refine Calls.mono (hH.out _ (by (try simp only [ext_ext]); repeat (first | exact Kept.refl _ | apply Kept.alloc | apply Kept.drew | apply kept_add | apply Kept.ext)) ) ?_; rintro e w' ⟨rfl, y, rfl⟩))
  rw [← hWH.out]
  have hsz := hWs.out
  have hI : NearI xs W (w.heap.size + 1 + y.os.length + 1) [] (some (w.heap.size + 1 + y.os.length)) (((ext W y).alloc (.cells #[] 72)).alloc (.cells #[.slice (some ⟨w.heap.size + 1 + y.os.length, 0, none⟩) 0 0] 46)) := by
    refine ⟨(by (try simp only [ext_ext]); repeat (first | exact Kept.refl _ | apply Kept.alloc | apply Kept.drew | apply kept_add | apply Kept.ext)), by omega, .slice (some ⟨w.heap.size + 1 + y.os.length, 0, none⟩) 0 0, heap_at (by simp [hsz]), ?_, rfl, fun e => by have := Option.some.inj e; omega⟩
    exact ownL_nil (by omega) (heap_past (by simp [hsz]) (heap_at (by simp [hsz])))
  have hIH := hid hI
  clear hI hsz
  go_wp2_with (fail)
  (go_at_call 57; refine Calls.mono (choices_NL (w.heap.size + 1 + y.os.length + 1) _ _ (chF xs.length xs.length 3 []) (NearI xs W (w.heap.size + 1 + y.os.length + 1)) (fun h r w w' H hk => H.kept hk) (fun h r w H => H.lt) (fun h p r w' u hp H hu => near1_any xs W _ w.heap.size ao cap (by have := hWs.out; omega) hWc.out hxW.out hl27 hc h p r w' u (pre_mem hp) (by have := pre_len hp; omega) H hu) xs.length (by omega) 3 [] [] [] (some (w.heap.size + 1 + y.os.length)) _ _ 3 rfl (by simp) (fun i hi => by simp at hi) (by simp [fromL]) hIH.out (.inl ⟨rfl, rfl⟩)) ?_; rintro e w2 ⟨rfl, r2, hI2, _⟩)
  obtain ⟨k2, _, v2, h3, h4, _⟩ := hI2
  have hcell := cell_of_row w2 (w.heap.size + 1 + y.os.length + 1) 0 _ _ (0, 0) h3
  simp only [List.getElem?_toArray, List.getElem?_cons_zero] at hcell
  have h4H := hid (show OwnL W.heap.size w2 v2 (nearO xs (chF xs.length xs.length 3 [])) by simpa [fromL] using h4)
  clear h4 h3
  go_wp2_with (fail)
  refine bodyPost_ret (v := .tuple #[v2, .bool true]) (by simp [results, Try.results24, go_sem]) rfl ?_
  exact ⟨_, rfl, h4H.out.mono (by have := hWs.out; omega), kWH.out.trans k2⟩
theorem nearO_pref {xs : List Card} {out : List Ln} {rem : List (List Int)} {TOT : List Ln} (h : out ++ nearO xs rem = TOT) (hT : TOT.length ≤ 1000000) : out.length ≤ 1000000 := by
  rw [← h] at hT; simp at hT; omega
set_option maxHeartbeats 2000000 in
theorem sNearLines_yes (ao : Option Addr) (cap : Nat) (xs : List Card) (w : World) (hx : CardsAt w ao xs) (hh : isHand xs = true) :
    Calls Try.prog 23 #[.slice ao xs.length cap] w (RetLT w true (nearO xs (chF xs.length xs.length 3 []))) := by
  have hl27 := (isHand_of hh).1
  have hc := areC_hand hh
  have hT := near_len xs hl27
  have hH := hid (fun w' (hk : Kept w w') => l2Hand_any ao cap xs w' (hx.kept hk) (by omega))
  rw [hh] at hH
  obtain ⟨TOT, hTOT⟩ : ∃ T, T = nearO xs (chF xs.length xs.length 3 []) := ⟨_, rfl⟩
  rw [← hTOT] at hT ⊢
  have hTOTH := hid hTOT
  have hxH := hid (fun w' (hk : Kept w w') => hx.kept hk)
  have hcH := hid hc
  have hTH := hid hT
  clear hx hTOT hc hT
  go_enter Try.func23, Try.ntmps23
  go_wp2_with (first | (go_at_call 40; refine Calls.mono (hH.out _ (by (try simp only [ext_ext]); repeat (first | exact Kept.refl _ | apply Kept.alloc | apply Kept.drew | apply kept_add | apply Kept.ext)) ) ?_; rintro e w' ⟨rfl, y, rfl⟩))
  go_loopw [5, 4] (fun a v wr => ∃ i : Nat, i ≤ xs.length ∧ a = .int .i64 i ∧ ∃ out, OwnL w.heap.size wr v out ∧ out ++ nearO xs (chF xs.length (xs.length - i) 3 []) = TOT ∧ Kept w wr) (fun a _ _ => xs.length - (intOf a).toNat)
  case atStart => exact ⟨0, Nat.zero_le _, rfl, [], ownL_nil (Nat.le_refl _) ((ext_heap _ _ _ (by simp)).trans (heap_at rfl)), by rw [hTOTH.out]; simp, (by (try simp only [ext_ext]); repeat (first | exact Kept.refl _ | apply Kept.alloc | apply Kept.drew | apply kept_add | apply Kept.ext))⟩
  case round wr =>
    obtain ⟨i, hi, rfl, out, ho, hrem, hkw⟩ := hrel
    have hoH := hid ho
    have hremH := hid hrem
    have hkwH := hid hkw
    clear ho hrem hkw
    by_cases hlt : i < xs.length
    · have hnx := hid (chF_at hlt 2 [])
      go_wp2
      go_loopw [6, 4] (fun a v wr => ∃ k : Nat, i + 1 ≤ k ∧ k ≤ xs.length ∧ a = .int .i64 k ∧ ∃ out, OwnL w.heap.size wr v out ∧ out ++ nearO xs (chF xs.length (xs.length - k) 2 [(i : Int)] ++ chF xs.length (xs.length - (i + 1)) 3 []) = TOT ∧ Kept w wr) (fun a _ _ => xs.length - (intOf a).toNat)
      case atStart => exact ⟨i + 1, Nat.le_refl _, hlt, by go_num, out, hoH.out.kept (by (try simp only [ext_ext]); repeat (first | exact Kept.refl _ | apply Kept.alloc | apply Kept.drew | apply kept_add | apply Kept.ext)), by rw [← hremH.out, hnx.out]; simp, hkwH.out.trans (by (try simp only [ext_ext]); repeat (first | exact Kept.refl _ | apply Kept.alloc | apply Kept.drew | apply kept_add | apply Kept.ext))⟩
      case round wr =>
        obtain ⟨k, hik, hk, rfl, out, ho, hrem, hkw⟩ := hrel
        have hoH := hid ho
        have hremH := hid hrem
        have hkwH := hid hkw
        clear ho hrem hkw
        by_cases hlt2 : k < xs.length
        · have hnx2 := hid (chF_at hlt2 1 [(i : Int)])
          go_wp2
          go_loopw [7, 4] (fun a v wr => ∃ m : Nat, k + 1 ≤ m ∧ m ≤ xs.length ∧ a = .int .i64 m ∧ ∃ out, OwnL w.heap.size wr v out ∧ out ++ nearO xs (chF xs.length (xs.length - m) 1 [(i : Int), (k : Int)] ++ (chF xs.length (xs.length - (k + 1)) 2 [(i : Int)] ++ chF xs.length (xs.length - (i + 1)) 3 [])) = TOT ∧ Kept w wr) (fun a _ _ => xs.length - (intOf a).toNat)
          case atStart => exact ⟨k + 1, Nat.le_refl _, hlt2, by go_num, out, hoH.out.kept (by (try simp only [ext_ext]); repeat (first | exact Kept.refl _ | apply Kept.alloc | apply Kept.drew | apply kept_add | apply Kept.ext)), by rw [← hremH.out, hnx2.out]; simp [List.append_assoc], hkwH.out.trans (by (try simp only [ext_ext]); repeat (first | exact Kept.refl _ | apply Kept.alloc | apply Kept.drew | apply kept_add | apply Kept.ext))⟩
          case round wr =>
            obtain ⟨m, hkm, hm, rfl, out, ho, hrem, hkw⟩ := hrel
            have hlo := nearO_pref hrem hTH.out
            obtain ⟨oo, ocap, hvo, _, _⟩ := ho.reads
            subst hvo
            have hoH := hid ho
            have hremH := hid hrem
            have hkwH := hid hkw
            by_cases hlt3 : m < xs.length
            · have hxw := hxH.out _ hkw
              obtain ⟨g, off, rfl, hg, p1, p2, p3, p4⟩ := hxw i (by omega)
              obtain ⟨_, _, he, _, q1, q2, q3, q4⟩ := hxw k (by omega)
              cases he
              obtain ⟨_, _, he, _, r1, r2, r3, r4⟩ := hxw m hlt3
              cases he
              have hG := hid (l10Good_any (cx xs i) (cx xs k) (cx xs m) (hcH.out i (by omega)) (hcH.out k (by omega)) (hcH.out m hlt3))
              have hdb := differC_bd (thirdC (cx xs i) (cx xs k)) (cx xs m)
              have hi1 : (i : Int) < (xs.length : Int) := by omega
              have hk1 : (k : Int) < (xs.length : Int) := by omega
              have hm1 : (m : Int) < (xs.length : Int) := by omega
              have hnx3 := hid (show chF xs.length (xs.length - m) 1 [(i : Int), (k : Int)] = [[(i : Int), (k : Int), (m : Int)]] ++ chF xs.length (xs.length - (m + 1)) 1 [(i : Int), (k : Int)] from chF_last hlt3 _)
              have hsw := hkw.below.size
              have hnp : Hid (nearP xs [(i : Int), (k : Int), (m : Int)] = decide (differC (thirdC (cx xs i) (cx xs k)) (cx xs m) = 1)) := hid (by simp [nearP, ix])
              have hlp : Hid (lnP [(i : Int), (k : Int), (m : Int)] = ⟨i, k, m⟩) := hid (by simp [lnP, ix])
              clear ho hrem hkw hxw
              generalize differC (thirdC (cx xs i) (cx xs k)) (cx xs m) = d at hG hdb hnp
              by_cases hd : d = 1
              · have hone := hid (show nearO xs [[(i : Int), (k : Int), (m : Int)]] = [⟨i, k, m⟩] by simp [nearO, hnp.out, hd, hlp.out])
                subst hd
                go_wp2_with (first | (refine wp_region_ext (by kernel_rfl) (by kernel_rfl) ?_; (repeat (go_big_quiet_step (first | (go_at_call 55; first | exact ext_call (hG.out _) | exact ext_call2 (hG.out _))))); refine wpQuiet_end fun z => ?_) | (at_builtin; refine wpList_append_ln_at rfl _ _ rfl w w.heap.size (.slice oo out.length ocap) out rfl (hoH.out.kept (by (try simp only [ext_ext]); repeat (first | exact Kept.refl _ | apply Kept.alloc | apply Kept.drew | apply kept_add | apply Kept.ext))) (hkwH.out.trans (by (try simp only [ext_ext]); repeat (first | exact Kept.refl _ | apply Kept.alloc | apply Kept.drew | apply kept_add | apply Kept.ext))) (Nat.le_refl _) (Kept.below (show Kept w _ from hkwH.out.trans (by (try simp only [ext_ext]); repeat (first | exact Kept.refl _ | apply Kept.alloc | apply Kept.drew | apply kept_add | apply Kept.ext)))).size _ _ ⟨i, k, m⟩ rfl (lnCells_new (⟨i, k, m⟩ : Ln) (by simp)) (by omega) ?_; intro v' w1 hown1 hk1 hg1 hat1))
                go_roundw
                case rel => exact ⟨m + 1, by omega, hlt3, by go_num, out ++ [⟨i, k, m⟩], hown1, by rw [← hremH.out, hnx3.out]; simp only [nearO_app, hone.out, List.append_assoc], hk1⟩
                case measure => simp [intOf]; omega
              · have hone := hid (show nearO xs [[(i : Int), (k : Int), (m : Int)]] = [] by simp [nearO, hnp.out, hd])
                have hne : (4 - d == 3) = false := by simp; omega
                have hne2 : ¬ 4 - d = 3 := by omega
                go_wp2_with (first | (refine wp_region_ext (by kernel_rfl) (by kernel_rfl) ?_; (repeat (go_big_quiet_step (first | (go_at_call 55; first | exact ext_call (hG.out _) | exact ext_call2 (hG.out _))))); refine wpQuiet_end fun z => ?_))
                go_roundw
                case rel => exact ⟨m + 1, by omega, hlt3, by go_num, out, hoH.out.kept (by (try simp only [ext_ext]); repeat (first | exact Kept.refl _ | apply Kept.alloc | apply Kept.drew | apply kept_add | apply Kept.ext)), by rw [← hremH.out, hnx3.out]; simp only [nearO_app, hone.out, List.nil_append, List.append_assoc], hkwH.out.trans (by (try simp only [ext_ext]); repeat (first | exact Kept.refl _ | apply Kept.alloc | apply Kept.drew | apply kept_add | apply Kept.ext))⟩
                case measure => simp [intOf]; omega
            · obtain rfl : m = xs.length := by omega
              clear ho hrem hkw
              go_wp2
              go_roundw
              case rel => exact ⟨k + 1, by omega, hlt2, by go_num, out, hoH.out.kept (by (try simp only [ext_ext]); repeat (first | exact Kept.refl _ | apply Kept.alloc | apply Kept.drew | apply kept_add | apply Kept.ext)), by rw [← hremH.out]; simp [chF_none], hkwH.out.trans (by (try simp only [ext_ext]); repeat (first | exact Kept.refl _ | apply Kept.alloc | apply Kept.drew | apply kept_add | apply Kept.ext))⟩
              case measure => simp [intOf]; omega
        · obtain rfl : k = xs.length := by omega
          go_wp2
          go_roundw
          case rel => exact ⟨i + 1, hlt, by go_num, out, hoH.out.kept (by (try simp only [ext_ext]); repeat (first | exact Kept.refl _ | apply Kept.alloc | apply Kept.drew | apply kept_add | apply Kept.ext)), by rw [← hremH.out]; simp [chF_none], hkwH.out.trans (by (try simp only [ext_ext]); repeat (first | exact Kept.refl _ | apply Kept.alloc | apply Kept.drew | apply kept_add | apply Kept.ext))⟩
          case measure => simp [intOf]; omega
    · obtain rfl : i = xs.length := by omega
      have hfin := hid (show out = TOT by rw [← hremH.out]; simp [chF_none, nearO])
      obtain ⟨oo, ocap, hvo, _, _⟩ := hoH.out.reads
      subst hvo
      go_wp2
      refine bodyPost_ret (v := .tuple #[.slice oo out.length ocap, .bool true]) (by simp [results, Try.results23, go_sem]) rfl ?_
      exact ⟨_, rfl, by rw [← hfin.out]; exact hoH.out.kept (by (try simp only [ext_ext]); repeat (first | exact Kept.refl _ | apply Kept.alloc | apply Kept.drew | apply kept_add | apply Kept.ext)), hkwH.out.trans (by (try simp only [ext_ext]); repeat (first | exact Kept.refl _ | apply Kept.alloc | apply Kept.drew | apply kept_add | apply Kept.ext))⟩
set_option maxHeartbeats 1000000 in
theorem walk_FnExactNearLines (ao : Option Addr) (xs : List Card) (cap : Nat) {w : World} (hx : CardsAt w ao xs) (hl : xs.length ≤ maxLen) (_ : World) :
    Calls Try.prog 6 #[.slice ao xs.length cap] w fun e w' => e = .returned (.bool true) ∧ Kept w w' := by
  have hl' : xs.length ≤ 9223372036854775807 := by unfold maxLen at hl; omega
  by_cases hn : xs.length ≤ 1048576
  · obtain ⟨ok, ls, hS, hI, hll⟩ : ∃ ok ls, (∀ ao cap w, CardsAt w ao xs → Calls Try.prog 23 #[.slice ao xs.length cap] w (RetLT w ok ls)) ∧ (∀ ao cap w, CardsAt w ao xs → xs.length ≤ cap → Calls Try.prog 24 #[.slice ao xs.length cap] w (RetLT w ok ls)) ∧ ls.length ≤ 1048576 := by
      cases hg : isHand xs with
      | false => exact ⟨false, [], fun _ _ _ hx => sNearLines_no _ _ _ _ hx hn hg, fun _ _ _ hx hc => iNearLines_no _ _ _ _ hx hn hg, by simp⟩
      | true => exact ⟨true, (nearO xs (chF xs.length xs.length 3 [])), fun _ _ _ hx => sNearLines_yes _ _ _ _ hx hg, fun _ _ _ hx hc => iNearLines_yes _ _ _ _ hx hg, Nat.le_trans (near_len xs (isHand_of hg).1) (by omega)⟩
    have p1 : ¬ ((1 : Int) + (xs.length : Int) * 4 < 0) := by omega
    have p2 : ¬ ((1 : Int) + (ls.length : Int) * 3 < 0) := by omega
    go_enter Try.func6, Try.ntmps6
    go_wp2_with (first | (go_at_call 13; refine Calls.mono (szIntA4S_any _ _ _ hl' _) ?_; rintro e w' ⟨rfl, rfl⟩))
    (go_at_call 15; refine Calls.mono (toIntA4S_any _ _ _ _ hx hn) ?_; rintro e w1 ⟨v1, rfl, ho1, k1⟩)
    obtain ⟨a1, c1, rfl, hx1, hc1⟩ := ho1.reads
    go_wp2_with (fail)
    (go_at_call 23; refine Calls.mono (hS _ _ _ hx1) ?_; rintro e w2 ⟨v2, rfl, ho2, k2⟩)
    have hx2 := hx.kept (k1.trans k2)
    go_wp2_with (fail)
    (go_at_call 15; refine Calls.mono (toIntA4S_any _ _ _ _ hx2 hn) ?_; rintro e w3 ⟨v3, rfl, ho3, k3⟩)
    obtain ⟨a3, c3, rfl, hx3, hc3⟩ := ho3.reads
    go_wp2_with (fail)
    (go_at_call 24; refine Calls.mono (hI _ _ _ hx3 hc3) ?_; rintro e w4 ⟨v4, rfl, ho4, k4⟩)
    have n43 : ∀ g, v4.ownBlock = some g → (Value.slice a3 xs.length c3).ownBlock ≠ some g := fun g h h' => by have := (ho4.lt g h).1; have := (ho3.lt g h').2; omega
    have n23 : ∀ g, v2.ownBlock = some g → (Value.slice a3 xs.length c3).ownBlock ≠ some g := fun g h h' => by have := (ho2.lt g h).2; have := (ho3.lt g h').1; omega
    have n24 : ∀ g, v2.ownBlock = some g → v4.ownBlock ≠ some g := fun g h h' => by have := (ho2.lt g h).2; have := (ho4.lt g h').1; have := k3.below.size; omega
    go_wp2_with (fail)
    (go_at_call 25; refine Calls.mono (eqL_any _ _ _ _ _ _ ho4 ((ho2.kept k3).kept k4) hll) ?_; rintro e w5 ⟨rfl, k5⟩)
    have hx5 := hx2.kept (k3.trans (k4.trans k5))
    go_wp2_with (fail)
    (go_at_call 15; refine Calls.mono (toIntA4S_any _ _ _ _ hx5 hn) ?_; rintro e w6 ⟨v6, rfl, ho6, k6⟩)
    obtain ⟨a6, c6, rfl, hx6, hc6⟩ := ho6.reads
    have hx36 := hx3.kept (k4.trans (k5.trans k6))
    go_wp2_with (fail)
    (go_at_call 17; refine Calls.mono (eqIntA4S_any _ _ _ _ _ _ _ hx36 hx6 hn hn) ?_; rintro e w7 ⟨rfl, k7⟩)
    have K7 : Kept w w7 := k1.trans (k2.trans (k3.trans (k4.trans (k5.trans (k6.trans k7)))))
    have s2 : w.heap.size ≤ w2.heap.size := (k1.trans k2).below.size
    have s3 : w.heap.size ≤ w3.heap.size := (k1.trans (k2.trans k3)).below.size
    go_wp2_with (fail)
    (go_at_call 26; refine Calls.mono (markIntA4S_any _ _ _ _ 1 _ (ho3.kept (k4.trans (k5.trans (k6.trans k7)))) hn (by decide) (by decide)) ?_; rintro e w8 ⟨rfl, _, g8⟩)
    have ho48 := (ho4.kept (k5.trans (k6.trans k7))).grown g8 n43
    have ho28 := (ho2.kept (k3.trans (k4.trans (k5.trans (k6.trans k7))))).grown g8 n23
    have K8 : Kept w w8 := K7.grown g8 fun k hk => Nat.le_trans s2 (ho3.lt k hk).1
    go_wp2_with (fail)
    (go_at_call 25; refine Calls.mono (eqL_any _ _ _ _ _ _ ho48 ho28 hll) ?_; rintro e w9 ⟨rfl, k9⟩)
    go_wp2_with (fail)
    (go_at_call 27; refine Calls.mono (markIntA3S_any _ _ _ _ 1 _ (ho48.kept k9) hll (by decide) (by decide)) ?_; rintro e w10 ⟨rfl, ho10, g10⟩)
    have K10 : Kept w w10 := (K8.trans k9).grown g10 fun k hk => Nat.le_trans s3 (ho4.lt k hk).1
    go_wp2_with (fail)
    (go_at_call 28; refine Calls.mono (heldIntA3S_any _ _ _ 1 _ ho10 hll (by decide) (by decide)) ?_; rintro e w11 ⟨rfl, k11⟩)
    have hx11 := hx.kept (K10.trans k11)
    go_wp2_with (fail)
    (go_at_call 15; refine Calls.mono (toIntA4S_any _ _ _ _ hx11 hn) ?_; rintro e w12 ⟨v12, rfl, ho12, k12⟩)
    obtain ⟨a12, c12, rfl, hx12, hc12⟩ := ho12.reads
    go_wp2_with (fail)
    (go_at_call 24; refine Calls.mono (hI _ _ _ hx12 hc12) ?_; rintro e w13 ⟨v13, rfl, ho13, k13⟩)
    have ho213 := (((ho28.kept k9).grown g10 n24).kept (k11.trans (k12.trans k13)))
    go_wp2_with (fail)
    (go_at_call 25; refine Calls.mono (eqL_any _ _ _ _ _ _ ho13 ho213 hll) ?_; rintro e w14 ⟨rfl, k14⟩)
    go_wp2_with (fail)
    (go_at_call 28; refine Calls.mono (heldIntA3S_any _ _ _ 1 _ (row_kept ho10 (k11.trans (k12.trans (k13.trans k14)))) hll (by decide) (by decide)) ?_; rintro e w15 ⟨rfl, k15⟩)
    go_wp2_with (fail)
    go_ret
    exact ⟨rfl, K10.trans (k11.trans (k12.trans (k13.trans (k14.trans k15))))⟩
  · go_enter Try.func6, Try.ntmps6
    go_wp2_with (first | (go_at_call 13; refine Calls.mono (szIntA4S_any _ _ _ hl' _) ?_; rintro e w' ⟨rfl, rfl⟩))
    go_ret
    exact ⟨rfl, (by (try simp only [ext_ext]); repeat (first | exact Kept.refl _ | apply Kept.alloc | apply Kept.drew | apply kept_add | apply Kept.ext))⟩
end Go.Proofs.Ytopfdfdgfhnbeaa
