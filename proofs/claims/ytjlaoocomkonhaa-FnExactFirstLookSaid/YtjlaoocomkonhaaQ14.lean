/- Contracts: the reference's cards in order (l2Put, l2Sorted). -/
import Derived.Test.YtjlaoocomkonhaaQ13
namespace Go.Proofs.Ytjlaoocomkonhaa
open Go.RowKit
/-- How many cards are ahead of one. -/
theorem asc_lt {xs : List Card} (h : Asc xs) {i j : Nat} (hij : i < j) (hj : j < xs.length) : numC (cx xs i) < numC (cx xs j) := by
  unfold Asc at h
  rw [List.pairwise_iff_getElem] at h
  rw [cx_get _ _ (by omega), cx_get _ _ hj]
  exact h i j (by omega) hj hij
theorem put_there {xs : List Card} (hc : ∀ c ∈ xs, isCard c = true) (ha : Asc xs) {c : Card} {k : Nat} (hk : k < xs.length) (he : cx xs k = c) : srt (c :: xs) = xs := by
  have hm : c ∈ xs := by rw [← he]; exact cx_mem hk
  rw [show srt (c :: xs) = srt xs from srt_congr fun d => by
    rw [List.mem_cons]
    exact ⟨fun h => h.elim (fun e => e ▸ hm) id, .inr⟩]
  exact srt_self hc ha
theorem put_new {xs : List Card} (hc : ∀ c ∈ xs, isCard c = true) (ha : Asc xs) {c : Card} (hcc : isCard c = true) {k : Nat} (hk : k ≤ xs.length) (hlo : ∀ j, j < k → numC (cx xs j) < numC c) (hhi : k < xs.length → ¬ numC (cx xs k) < numC c ∧ cx xs k ≠ c) : srt (c :: xs) = xs.take k ++ [c] ++ xs.drop k := by
  have hmem : ∀ d, d ∈ xs.take k ++ [c] ++ xs.drop k ↔ d ∈ c :: xs := fun d => by
    rw [List.mem_append, List.mem_append, List.mem_singleton, List.mem_cons]
    constructor
    · rintro ((h | h) | h)
      · exact .inr (List.mem_of_mem_take h)
      · exact .inl h
      · exact .inr (List.mem_of_mem_drop h)
    · rintro (h | h)
      · exact .inl (.inr h)
      · rw [← List.take_append_drop k xs, List.mem_append] at h
        rcases h with h | h
        · exact .inl (.inl h)
        · exact .inr h
  have hlo' : ∀ d ∈ xs.take k, numC d < numC c := fun d hd => by
    obtain ⟨j, hj, rfl⟩ := List.getElem_of_mem hd
    rw [List.length_take] at hj
    have := hlo j (by omega)
    rw [cx_get _ _ (by omega)] at this
    simpa using this
  have hhi' : ∀ d ∈ xs.drop k, numC c < numC d := fun d hd => by
    obtain ⟨j, hj, rfl⟩ := List.getElem_of_mem hd
    rw [List.length_drop] at hj
    obtain ⟨h1, h2⟩ := hhi (by omega)
    have h3 : numC c < numC (cx xs k) := by
      rcases Int.lt_or_le (numC c) (numC (cx xs k)) with h | h
      · exact h
      · exfalso
        apply h2
        rw [← cardN_numC hcc, ← cardN_numC (hc _ (cx_mem (by omega : k < xs.length))), show numC (cx xs k) = numC c by omega]
    rw [List.getElem_drop]
    rcases Nat.eq_zero_or_pos j with rfl | hj0
    · rw [cx_get _ _ (by omega)] at h3; exact h3
    · have := asc_lt ha (i := k) (j := k + j) (by omega) (by omega)
      rw [cx_get _ (k + j) (by omega)] at this
      omega
  have hasc : Asc (xs.take k ++ [c] ++ xs.drop k) := by
    unfold Asc at *
    rw [List.pairwise_append, List.pairwise_append]
    refine ⟨⟨ha.sublist (List.take_sublist _ _), List.pairwise_singleton _ _, fun a h b hb => ?_⟩, ha.sublist (List.drop_sublist _ _), fun a h b hb => ?_⟩
    · rw [List.mem_singleton] at hb; subst hb; exact hlo' a h
    · rw [List.mem_append, List.mem_singleton] at h
      rcases h with h | rfl
      · exact Int.lt_trans (hlo' a h) (hhi' b hb)
      · exact hhi' b hb
  have hall : ∀ d ∈ xs.take k ++ [c] ++ xs.drop k, isCard d = true := fun d hd => by
    rcases List.mem_cons.1 ((hmem d).1 hd) with rfl | h
    · exact hcc
    · exact hc d h
  rw [← srt_self hall hasc]
  exact srt_congr fun d => (hmem d).symm
theorem put_len {xs : List Card} (k : Nat) (hk : k ≤ xs.length) (c : Card) : (xs.take k ++ [c] ++ xs.drop k).length = xs.length + 1 := by
  simp; omega
/-- Cards in memory of their own, behind an address. -/
def RetP (W : World) (cs : List Card) (e : Ending) (w' : World) : Prop := ∃ g cap, e = .returned (.slice (some ⟨g, 0, none⟩) cs.length cap) ∧ OwnC W.heap.size w' (.slice (some ⟨g, 0, none⟩) cs.length cap) cs ∧ Kept W w'
theorem retP_of {W : World} {cs : List Card} {e : Ending} {w' : World} (h : RetC W cs e w') (hn : 0 < cs.length) : RetP W cs e w' := by
  obtain ⟨v, rfl, ho, hk⟩ := h
  rcases ho.2 with ⟨_, h0⟩ | ⟨g, cap, cur, rfl, _⟩
  · omega
  · exact ⟨g, cap, rfl, ho, hk⟩
set_option maxHeartbeats 1000000 in
set_option maxRecDepth 20000 in
theorem l2Put_any (g off cap n : Nat) (cs : List Card) (c : Card) (w : World) (hx : CardsAt w (some ⟨g, off, none⟩) cs) (hn : cs.length = n) (hcs : ∀ c ∈ cs, isCard c = true) (ha : Asc cs) (hc : isCard c = true) (hl : n ≤ 1000) (hcap : n ≤ cap) :
    Calls Try.prog 52 #[.slice (some ⟨g, off, none⟩) n cap, c.v] w (RetP w (srt (c :: cs))) := by
  have hxH := hid hx
  have hnH := hid hn
  have hcsH := hid hcs
  have haH := hid ha
  clear hx hn hcs ha
  go_enter Try.func52, Try.ntmps52
  go_wp2
  go_loopw [5] (fun i wr => ∃ k : Nat, k ≤ n ∧ i = .int .i64 (k : Int) ∧ (∀ j, j < k → numC (cx cs j) < numC c) ∧ Kept (w.alloc (.cells #[.int .i64 c.a, .int .i64 c.b, .int .i64 c.c, .int .i64 c.d] T4)) wr) (fun i _ => n - (intOf i).toNat)
  case atStart => exact ⟨0, by omega, by go_num, fun j hj => by omega, Kept.refl _⟩
  case round =>
    obtain ⟨k, hk, rfl, hlo, z, rfl⟩ := hrel
    have hKz : Kept w (ext (w.alloc (.cells #[.int .i64 c.a, .int .i64 c.b, .int .i64 c.c, .int .i64 c.d] T4)) z) := (by (try simp only [ext_ext]); repeat (first | exact Kept.refl _ | apply Kept.alloc | apply Kept.drew | apply kept_add | apply Kept.ext))
    have hloH := hid hlo
    by_cases hlt : k < n
    · obtain ⟨_, _, e1, hg, a1, a2, a3, a4⟩ := hxH.out k (by rw [hnH.out]; omega)
      cases e1
      have hck := hcsH.out _ (cx_mem (by rw [hnH.out]; exact hlt : k < cs.length))
      by_cases hlc : numC (cx cs k) < numC c
      · have hd : decide (numC (cx cs k) < numC c) = true := decide_eq_true hlc
        have hL := hid (fun w' => l2Less_any (cx cs k) c hck hc w')
        rw [hd] at hL
        clear hd hlo
        go_wp2_with (first | (refine wp_region_ext (by kernel_rfl) (by kernel_rfl) ?_; (repeat (go_big_quiet_step (((go_at_call 53; first | exact ext_call (hL.out _) | exact ext_call2 (hL.out _)))))); refine wpQuiet_end fun z => ?_))
        go_roundw
        case rel => exact ⟨k + 1, by omega, by go_num, fun j hj => if h : j < k then hloH.out j h else by rw [show j = k by omega]; exact hlc, (by (try simp only [ext_ext]); repeat (first | exact Kept.refl _ | apply Kept.alloc | apply Kept.drew | apply kept_add | apply Kept.ext))⟩
        case measure => simp [intOf]; omega
      · have hd : decide (numC (cx cs k) < numC c) = false := decide_eq_false hlc
        have hL := hid (fun w' => l2Less_any (cx cs k) c hck hc w')
        rw [hd] at hL
        clear hd hlo
        by_cases he : cx cs k = c
        · have hd2 : decide (cx cs k = c) = true := decide_eq_true he
          have hP := hid (put_there hcsH.out haH.out (by rw [hnH.out]; exact hlt) he)
          have hO := hid (fun w' (hk : Kept w w') => l2OwnA_any cs n (some ⟨g, off, none⟩) cap w' hnH.out (hxH.out.kept hk) (fun e => by cases e) (by omega))
          have hOP := hid (fun w1 e w' (h : RetC w1 cs e w') => retP_of h (by rw [hnH.out]; omega))
          clear he
          go_wp2_with (first | (refine wp_region_ext (by kernel_rfl) (by kernel_rfl) ?_; (repeat (go_big_quiet_step (((go_at_call 53; first | exact ext_call (hL.out _) | exact ext_call2 (hL.out _)))))); refine wpQuiet_end fun z => ?_) | (refine wp_region_ext (by kernel_rfl) (by kernel_rfl) ?_; (repeat (go_big_quiet_step (fail))); refine wpQuiet_end fun z => ?_))
          (go_at_call 29; refine Calls.mono (hO.out _ (by (try simp only [ext_ext]); repeat (first | exact Kept.refl _ | apply Kept.alloc | apply Kept.drew | apply kept_add | apply Kept.ext))) ?_; rintro e w1 ⟨v1, rfl, ho1, k1⟩)
          have K1 := hid (show Kept w w1 from Kept.trans (by (try simp only [ext_ext]); repeat (first | exact Kept.refl _ | apply Kept.alloc | apply Kept.drew | apply kept_add | apply Kept.ext)) k1)
          obtain ⟨g1, cap1, e1, ho2, _⟩ := hOP.out _ _ _ ⟨v1, rfl, ho1, k1⟩
          cases e1
          have ho2H := hid (ho2.mono (B' := w.heap.size) (by first | (simp; done) | (simp; omega)))
          clear ho1 ho2 k1
          rw [← hnH.out]
          go_wp2_with (fail)
          refine bodyPost_ret (v := .slice (some ⟨g1, 0, none⟩) cs.length cap1) (by simp [results, Try.results52, go_sem]) rfl ?_
          rw [hP.out]
          exact ⟨g1, cap1, rfl, ho2H.out, K1.out⟩
        · have hd2 : decide (cx cs k = c) = false := decide_eq_false he
          have hN := hid (put_new hcsH.out haH.out hc (k := k) (by rw [hnH.out]; omega) hloH.out (fun _ => ⟨hlc, he⟩))
          have hck1 : ¬ cap = k := by omega
          clear he hlc
          have hdr := hid (show CardsAt w (some ⟨g, off + k * 4, none⟩) (cs.drop k) from by
            have h := cards_drop hxH.out hnH.out hcap k
            rw [if_neg hck1] at h
            exact h)
          have hdl := hid (show (cs.drop k).length = n - k by rw [List.length_drop, hnH.out])
          have htl := hid (show (cs.take k).length = k by rw [List.length_take, hnH.out]; omega)
          have hal := hid (show (cs.take k ++ [c]).length = k + 1 by rw [List.length_append, htl.out]; rfl)
          have K0 := hid (show Kept w (w.alloc (.cells #[.int .i64 c.a, .int .i64 c.b, .int .i64 c.c, .int .i64 c.d] T4)) from (by (try simp only [ext_ext]); repeat (first | exact Kept.refl _ | apply Kept.alloc | apply Kept.drew | apply kept_add | apply Kept.ext)))
          have hO := hid (fun w' (hk : Kept (w.alloc (.cells #[.int .i64 c.a, .int .i64 c.b, .int .i64 c.c, .int .i64 c.d] T4)) w') => Calls.mono (l2OwnA_any (cs.take k) k (some ⟨g, off, none⟩) cap w' htl.out ((hxH.out.take (by rw [hnH.out]; omega)).kept (K0.out.trans hk)) (fun e => by cases e) (by omega)) (fun e w'' ⟨v, he, ho, k1⟩ => (⟨v, he, ho.mono hk.below.size, hk.trans k1, k1⟩ : ∃ v, e = Ending.returned v ∧ OwnC (w.alloc (.cells #[.int .i64 c.a, .int .i64 c.b, .int .i64 c.c, .int .i64 c.d] T4)).heap.size w'' v (cs.take k) ∧ Kept (w.alloc (.cells #[.int .i64 c.a, .int .i64 c.b, .int .i64 c.c, .int .i64 c.d] T4)) w'' ∧ Kept w' w'')))
          have hS := hid (fun w' (hk : Kept (w.alloc (.cells #[.int .i64 c.a, .int .i64 c.b, .int .i64 c.c, .int .i64 c.d] T4)) w') => show w'.cell? ⟨w.heap.size, 0, none⟩ = some (.int .i64 c.a) ∧ w'.cell? ⟨w.heap.size, 1, none⟩ = some (.int .i64 c.b) ∧ w'.cell? ⟨w.heap.size, 2, none⟩ = some (.int .i64 c.c) ∧ w'.cell? ⟨w.heap.size, 3, none⟩ = some (.int .i64 c.d) from cardCells_kept (cardCells_new c rfl) (by simp) hk)
          have hfin := hid (put_len (xs := cs) k (by rw [hnH.out]; omega) c)
          have hc1 : (k : Int) ≤ (cap : Int) := by omega
          have hc2 : (k : Int) ≤ (n : Int) := by omega
          have hc3 : (n : Int) ≤ (cap : Int) := by omega
          have hc4 : k ≤ n := by omega
          have hc5 : k ≤ cap := by omega
          try clear hlo
          go_upto_region 6 with (first | (refine wp_region_ext (by kernel_rfl) (by kernel_rfl) ?_; (repeat (go_big_quiet_step (((go_at_call 53; first | exact ext_call (hL.out _) | exact ext_call2 (hL.out _)))))); refine wpQuiet_end fun z => ?_) | (refine wp_region_ext (by kernel_rfl) (by kernel_rfl) ?_; (repeat (go_big_quiet_step (fail))); refine wpQuiet_end fun z => ?_))
          go_region_held3 (fun w' => w'.cell? ⟨w.heap.size, 0, none⟩ = some (.int .i64 c.a) ∧ w'.cell? ⟨w.heap.size, 1, none⟩ = some (.int .i64 c.b) ∧ w'.cell? ⟨w.heap.size, 2, none⟩ = some (.int .i64 c.c) ∧ w'.cell? ⟨w.heap.size, 3, none⟩ = some (.int .i64 c.d)) (exact hS.out _ (by (try simp only [ext_ext]); repeat (first | assumption | exact Kept.refl _ | apply Kept.alloc | apply Kept.drew | apply kept_add | apply Kept.ext))) (first | (refine step_append_card1 rfl _ _ rfl (w.alloc (.cells #[.int .i64 c.a, .int .i64 c.b, .int .i64 c.c, .int .i64 c.d] T4)) (w.alloc (.cells #[.int .i64 c.a, .int .i64 c.b, .int .i64 c.c, .int .i64 c.d] T4)).heap.size v4 (cs.take k ++ [c]) rfl (hown4.kept (by (try simp only [ext_ext]); repeat (first | exact Kept.refl _ | apply Kept.alloc | apply Kept.drew | apply kept_add | apply Kept.ext))) (k4.trans (by (try simp only [ext_ext]); repeat (first | exact Kept.refl _ | apply Kept.alloc | apply Kept.drew | apply kept_add | apply Kept.ext))) (Nat.le_refl _) (k4.below.size) ⟨g, off + k * 4, none⟩ _ _ (cs.drop k) rfl (by first | exact hdl.out | (rw [hdl.out]; omega)) (hdr.out.kept (K0.out.trans (k4.trans (by (try simp only [ext_ext]); repeat (first | exact Kept.refl _ | apply Kept.alloc | apply Kept.drew | apply kept_add | apply Kept.ext))))) (by rw [hal.out]; (try omega)) ?_; intro v5 w5 hown5 k5) | (refine step_append_cardO rfl _ _ rfl (w.alloc (.cells #[.int .i64 c.a, .int .i64 c.b, .int .i64 c.c, .int .i64 c.d] T4)) (w.alloc (.cells #[.int .i64 c.a, .int .i64 c.b, .int .i64 c.c, .int .i64 c.d] T4)).heap.size v3 (cs.take k) rfl (ho3.kept (by (try simp only [ext_ext]); repeat (first | exact Kept.refl _ | apply Kept.alloc | apply Kept.drew | apply kept_add | apply Kept.ext))) (k30.trans (by (try simp only [ext_ext]); repeat (first | exact Kept.refl _ | apply Kept.alloc | apply Kept.drew | apply kept_add | apply Kept.ext))) (Nat.le_refl _) (Nat.le_trans (k30.below.size) (Kept.below (show Kept w3 _ from (by (try simp only [ext_ext]); repeat (first | exact Kept.refl _ | apply Kept.alloc | apply Kept.drew | apply kept_add | apply Kept.ext)))).size) _ _ c rfl (by first | exact hcc | (simpa using hcc)) (by rw [htl.out]; omega) ?_; intro v4 w4 hown4 k4; have KB4 := k4) | (refine step_append_cardO rfl _ _ rfl (w.alloc (.cells #[.int .i64 c.a, .int .i64 c.b, .int .i64 c.c, .int .i64 c.d] T4)) (w.alloc (.cells #[.int .i64 c.a, .int .i64 c.b, .int .i64 c.c, .int .i64 c.d] T4)).heap.size v3 (cs.take k) rfl (ho3.kept (by (try simp only [ext_ext]); repeat (first | exact Kept.refl _ | apply Kept.alloc | apply Kept.drew | apply kept_add | apply Kept.ext))) (k30.trans (by (try simp only [ext_ext]); repeat (first | exact Kept.refl _ | apply Kept.alloc | apply Kept.drew | apply kept_add | apply Kept.ext))) (Nat.le_refl _) (Nat.le_trans (k30.below.size) (Kept.below (show Kept w3 _ from (by (try simp only [ext_ext]); repeat (first | exact Kept.refl _ | apply Kept.alloc | apply Kept.drew | apply kept_add | apply Kept.ext)))).size) _ _ c rfl (cardCells_new _ (by simp)) (by rw [htl.out]; omega) ?_; intro v4 w4 hown4 k4; have KB4 := k4) | (go_at_call 29; refine Calls.mono (hO.out _ (by (try simp only [ext_ext]); repeat (first | assumption | exact Kept.refl _ | apply Kept.alloc | apply Kept.drew | apply kept_add | apply Kept.ext))) ?_; rintro e w3 ⟨v3, rfl, ho3, k30, k3⟩; first | have hcc := cardCells_kept (cardCells_new c rfl) (by simp) k3 | skip))
          all_goals
            go_wp2_with (fail)
            refine bodyPost_ret (v := v5) (by simp [results, Try.results52, go_sem]) rfl ?_
            rw [hN.out]
            refine retP_of ⟨v5, rfl, hown5.mono K0.out.below.size, K0.out.trans (k5.trans (by (try simp only [ext_ext]); repeat (first | exact Kept.refl _ | apply Kept.alloc | apply Kept.drew | apply kept_add | apply Kept.ext)))⟩ (by rw [hfin.out]; omega)
    · have hkn := hid (show k = n by omega)
      have hN := hid (put_new hcsH.out haH.out hc (k := k) (by rw [hnH.out]; omega) hloH.out (fun h => by rw [hnH.out] at h; exact absurd h hlt))
      by_cases hck1 : cap = k
      · have hck2 := hck1.symm
        subst hck2
        have hdr := hid (show CardsAt w (some ⟨g, off, none⟩) (cs.drop k) from by
          have h := cards_drop hxH.out hnH.out hcap k
          rw [if_pos rfl] at h
          exact h)
        have hdl := hid (show (cs.drop k).length = n - k by rw [List.length_drop, hnH.out])
        have htl := hid (show (cs.take k).length = k by rw [List.length_take, hnH.out]; omega)
        have hal := hid (show (cs.take k ++ [c]).length = k + 1 by rw [List.length_append, htl.out]; rfl)
        have K0 := hid (show Kept w (w.alloc (.cells #[.int .i64 c.a, .int .i64 c.b, .int .i64 c.c, .int .i64 c.d] T4)) from (by (try simp only [ext_ext]); repeat (first | exact Kept.refl _ | apply Kept.alloc | apply Kept.drew | apply kept_add | apply Kept.ext)))
        have hO := hid (fun w' (hk : Kept (w.alloc (.cells #[.int .i64 c.a, .int .i64 c.b, .int .i64 c.c, .int .i64 c.d] T4)) w') => Calls.mono (l2OwnA_any (cs.take k) k (some ⟨g, off, none⟩) k w' htl.out ((hxH.out.take (by rw [hnH.out]; omega)).kept (K0.out.trans hk)) (fun e => by cases e) (by omega)) (fun e w'' ⟨v, he, ho, k1⟩ => (⟨v, he, ho.mono hk.below.size, hk.trans k1, k1⟩ : ∃ v, e = Ending.returned v ∧ OwnC (w.alloc (.cells #[.int .i64 c.a, .int .i64 c.b, .int .i64 c.c, .int .i64 c.d] T4)).heap.size w'' v (cs.take k) ∧ Kept (w.alloc (.cells #[.int .i64 c.a, .int .i64 c.b, .int .i64 c.c, .int .i64 c.d] T4)) w'' ∧ Kept w' w'')))
        have hS := hid (fun w' (hk : Kept (w.alloc (.cells #[.int .i64 c.a, .int .i64 c.b, .int .i64 c.c, .int .i64 c.d] T4)) w') => show w'.cell? ⟨w.heap.size, 0, none⟩ = some (.int .i64 c.a) ∧ w'.cell? ⟨w.heap.size, 1, none⟩ = some (.int .i64 c.b) ∧ w'.cell? ⟨w.heap.size, 2, none⟩ = some (.int .i64 c.c) ∧ w'.cell? ⟨w.heap.size, 3, none⟩ = some (.int .i64 c.d) from cardCells_kept (cardCells_new c rfl) (by simp) hk)
        have hfin := hid (put_len (xs := cs) k (by rw [hnH.out]; omega) c)
        have hc1 : (k : Int) ≤ (k : Int) := by omega
        have hc2 : (k : Int) ≤ (n : Int) := by omega
        have hc3 : (n : Int) ≤ (k : Int) := by omega
        have hc4 : k ≤ n := by omega
        have hc5 : k ≤ k := by omega
        try clear hlo
        go_upto_region 6 with (first | (refine wp_region_ext (by kernel_rfl) (by kernel_rfl) ?_; (repeat (go_big_quiet_step (fail))); refine wpQuiet_end fun z => ?_))
        go_region_held3 (fun w' => w'.cell? ⟨w.heap.size, 0, none⟩ = some (.int .i64 c.a) ∧ w'.cell? ⟨w.heap.size, 1, none⟩ = some (.int .i64 c.b) ∧ w'.cell? ⟨w.heap.size, 2, none⟩ = some (.int .i64 c.c) ∧ w'.cell? ⟨w.heap.size, 3, none⟩ = some (.int .i64 c.d)) (exact hS.out _ (by (try simp only [ext_ext]); repeat (first | assumption | exact Kept.refl _ | apply Kept.alloc | apply Kept.drew | apply kept_add | apply Kept.ext))) (first | (refine step_append_card1 rfl _ _ rfl (w.alloc (.cells #[.int .i64 c.a, .int .i64 c.b, .int .i64 c.c, .int .i64 c.d] T4)) (w.alloc (.cells #[.int .i64 c.a, .int .i64 c.b, .int .i64 c.c, .int .i64 c.d] T4)).heap.size v4 (cs.take k ++ [c]) rfl (hown4.kept (by (try simp only [ext_ext]); repeat (first | exact Kept.refl _ | apply Kept.alloc | apply Kept.drew | apply kept_add | apply Kept.ext))) (k4.trans (by (try simp only [ext_ext]); repeat (first | exact Kept.refl _ | apply Kept.alloc | apply Kept.drew | apply kept_add | apply Kept.ext))) (Nat.le_refl _) (k4.below.size) ⟨g, off, none⟩ _ _ (cs.drop k) rfl (by first | exact hdl.out | (rw [hdl.out]; omega)) (hdr.out.kept (K0.out.trans (k4.trans (by (try simp only [ext_ext]); repeat (first | exact Kept.refl _ | apply Kept.alloc | apply Kept.drew | apply kept_add | apply Kept.ext))))) (by rw [hal.out]; (try omega)) ?_; intro v5 w5 hown5 k5) | (refine step_append_cardO rfl _ _ rfl (w.alloc (.cells #[.int .i64 c.a, .int .i64 c.b, .int .i64 c.c, .int .i64 c.d] T4)) (w.alloc (.cells #[.int .i64 c.a, .int .i64 c.b, .int .i64 c.c, .int .i64 c.d] T4)).heap.size v3 (cs.take k) rfl (ho3.kept (by (try simp only [ext_ext]); repeat (first | exact Kept.refl _ | apply Kept.alloc | apply Kept.drew | apply kept_add | apply Kept.ext))) (k30.trans (by (try simp only [ext_ext]); repeat (first | exact Kept.refl _ | apply Kept.alloc | apply Kept.drew | apply kept_add | apply Kept.ext))) (Nat.le_refl _) (Nat.le_trans (k30.below.size) (Kept.below (show Kept w3 _ from (by (try simp only [ext_ext]); repeat (first | exact Kept.refl _ | apply Kept.alloc | apply Kept.drew | apply kept_add | apply Kept.ext)))).size) _ _ c rfl (by first | exact hcc | (simpa using hcc)) (by rw [htl.out]; omega) ?_; intro v4 w4 hown4 k4; have KB4 := k4) | (refine step_append_cardO rfl _ _ rfl (w.alloc (.cells #[.int .i64 c.a, .int .i64 c.b, .int .i64 c.c, .int .i64 c.d] T4)) (w.alloc (.cells #[.int .i64 c.a, .int .i64 c.b, .int .i64 c.c, .int .i64 c.d] T4)).heap.size v3 (cs.take k) rfl (ho3.kept (by (try simp only [ext_ext]); repeat (first | exact Kept.refl _ | apply Kept.alloc | apply Kept.drew | apply kept_add | apply Kept.ext))) (k30.trans (by (try simp only [ext_ext]); repeat (first | exact Kept.refl _ | apply Kept.alloc | apply Kept.drew | apply kept_add | apply Kept.ext))) (Nat.le_refl _) (Nat.le_trans (k30.below.size) (Kept.below (show Kept w3 _ from (by (try simp only [ext_ext]); repeat (first | exact Kept.refl _ | apply Kept.alloc | apply Kept.drew | apply kept_add | apply Kept.ext)))).size) _ _ c rfl (cardCells_new _ (by simp)) (by rw [htl.out]; omega) ?_; intro v4 w4 hown4 k4; have KB4 := k4) | (go_at_call 29; refine Calls.mono (hO.out _ (by (try simp only [ext_ext]); repeat (first | assumption | exact Kept.refl _ | apply Kept.alloc | apply Kept.drew | apply kept_add | apply Kept.ext))) ?_; rintro e w3 ⟨v3, rfl, ho3, k30, k3⟩; first | have hcc := cardCells_kept (cardCells_new c rfl) (by simp) k3 | skip))
        all_goals
          go_wp2_with (fail)
          refine bodyPost_ret (v := v5) (by simp [results, Try.results52, go_sem]) rfl ?_
          rw [hN.out]
          refine retP_of ⟨v5, rfl, hown5.mono K0.out.below.size, K0.out.trans (k5.trans (by (try simp only [ext_ext]); repeat (first | exact Kept.refl _ | apply Kept.alloc | apply Kept.drew | apply kept_add | apply Kept.ext)))⟩ (by rw [hfin.out]; omega)
      · skip
        have hdr := hid (show CardsAt w (some ⟨g, off + k * 4, none⟩) (cs.drop k) from by
          have h := cards_drop hxH.out hnH.out hcap k
          rw [if_neg hck1] at h
          exact h)
        have hdl := hid (show (cs.drop k).length = n - k by rw [List.length_drop, hnH.out])
        have htl := hid (show (cs.take k).length = k by rw [List.length_take, hnH.out]; omega)
        have hal := hid (show (cs.take k ++ [c]).length = k + 1 by rw [List.length_append, htl.out]; rfl)
        have K0 := hid (show Kept w (w.alloc (.cells #[.int .i64 c.a, .int .i64 c.b, .int .i64 c.c, .int .i64 c.d] T4)) from (by (try simp only [ext_ext]); repeat (first | exact Kept.refl _ | apply Kept.alloc | apply Kept.drew | apply kept_add | apply Kept.ext)))
        have hO := hid (fun w' (hk : Kept (w.alloc (.cells #[.int .i64 c.a, .int .i64 c.b, .int .i64 c.c, .int .i64 c.d] T4)) w') => Calls.mono (l2OwnA_any (cs.take k) k (some ⟨g, off, none⟩) cap w' htl.out ((hxH.out.take (by rw [hnH.out]; omega)).kept (K0.out.trans hk)) (fun e => by cases e) (by omega)) (fun e w'' ⟨v, he, ho, k1⟩ => (⟨v, he, ho.mono hk.below.size, hk.trans k1, k1⟩ : ∃ v, e = Ending.returned v ∧ OwnC (w.alloc (.cells #[.int .i64 c.a, .int .i64 c.b, .int .i64 c.c, .int .i64 c.d] T4)).heap.size w'' v (cs.take k) ∧ Kept (w.alloc (.cells #[.int .i64 c.a, .int .i64 c.b, .int .i64 c.c, .int .i64 c.d] T4)) w'' ∧ Kept w' w'')))
        have hS := hid (fun w' (hk : Kept (w.alloc (.cells #[.int .i64 c.a, .int .i64 c.b, .int .i64 c.c, .int .i64 c.d] T4)) w') => show w'.cell? ⟨w.heap.size, 0, none⟩ = some (.int .i64 c.a) ∧ w'.cell? ⟨w.heap.size, 1, none⟩ = some (.int .i64 c.b) ∧ w'.cell? ⟨w.heap.size, 2, none⟩ = some (.int .i64 c.c) ∧ w'.cell? ⟨w.heap.size, 3, none⟩ = some (.int .i64 c.d) from cardCells_kept (cardCells_new c rfl) (by simp) hk)
        have hfin := hid (put_len (xs := cs) k (by rw [hnH.out]; omega) c)
        have hc1 : (k : Int) ≤ (cap : Int) := by omega
        have hc2 : (k : Int) ≤ (n : Int) := by omega
        have hc3 : (n : Int) ≤ (cap : Int) := by omega
        have hc4 : k ≤ n := by omega
        have hc5 : k ≤ cap := by omega
        try clear hlo
        go_upto_region 6 with (first | (refine wp_region_ext (by kernel_rfl) (by kernel_rfl) ?_; (repeat (go_big_quiet_step (fail))); refine wpQuiet_end fun z => ?_))
        go_region_held3 (fun w' => w'.cell? ⟨w.heap.size, 0, none⟩ = some (.int .i64 c.a) ∧ w'.cell? ⟨w.heap.size, 1, none⟩ = some (.int .i64 c.b) ∧ w'.cell? ⟨w.heap.size, 2, none⟩ = some (.int .i64 c.c) ∧ w'.cell? ⟨w.heap.size, 3, none⟩ = some (.int .i64 c.d)) (exact hS.out _ (by (try simp only [ext_ext]); repeat (first | assumption | exact Kept.refl _ | apply Kept.alloc | apply Kept.drew | apply kept_add | apply Kept.ext))) (first | (refine step_append_card1 rfl _ _ rfl (w.alloc (.cells #[.int .i64 c.a, .int .i64 c.b, .int .i64 c.c, .int .i64 c.d] T4)) (w.alloc (.cells #[.int .i64 c.a, .int .i64 c.b, .int .i64 c.c, .int .i64 c.d] T4)).heap.size v4 (cs.take k ++ [c]) rfl (hown4.kept (by (try simp only [ext_ext]); repeat (first | exact Kept.refl _ | apply Kept.alloc | apply Kept.drew | apply kept_add | apply Kept.ext))) (k4.trans (by (try simp only [ext_ext]); repeat (first | exact Kept.refl _ | apply Kept.alloc | apply Kept.drew | apply kept_add | apply Kept.ext))) (Nat.le_refl _) (k4.below.size) ⟨g, off + k * 4, none⟩ _ _ (cs.drop k) rfl (by first | exact hdl.out | (rw [hdl.out]; omega)) (hdr.out.kept (K0.out.trans (k4.trans (by (try simp only [ext_ext]); repeat (first | exact Kept.refl _ | apply Kept.alloc | apply Kept.drew | apply kept_add | apply Kept.ext))))) (by rw [hal.out]; (try omega)) ?_; intro v5 w5 hown5 k5) | (refine step_append_cardO rfl _ _ rfl (w.alloc (.cells #[.int .i64 c.a, .int .i64 c.b, .int .i64 c.c, .int .i64 c.d] T4)) (w.alloc (.cells #[.int .i64 c.a, .int .i64 c.b, .int .i64 c.c, .int .i64 c.d] T4)).heap.size v3 (cs.take k) rfl (ho3.kept (by (try simp only [ext_ext]); repeat (first | exact Kept.refl _ | apply Kept.alloc | apply Kept.drew | apply kept_add | apply Kept.ext))) (k30.trans (by (try simp only [ext_ext]); repeat (first | exact Kept.refl _ | apply Kept.alloc | apply Kept.drew | apply kept_add | apply Kept.ext))) (Nat.le_refl _) (Nat.le_trans (k30.below.size) (Kept.below (show Kept w3 _ from (by (try simp only [ext_ext]); repeat (first | exact Kept.refl _ | apply Kept.alloc | apply Kept.drew | apply kept_add | apply Kept.ext)))).size) _ _ c rfl (by first | exact hcc | (simpa using hcc)) (by rw [htl.out]; omega) ?_; intro v4 w4 hown4 k4; have KB4 := k4) | (refine step_append_cardO rfl _ _ rfl (w.alloc (.cells #[.int .i64 c.a, .int .i64 c.b, .int .i64 c.c, .int .i64 c.d] T4)) (w.alloc (.cells #[.int .i64 c.a, .int .i64 c.b, .int .i64 c.c, .int .i64 c.d] T4)).heap.size v3 (cs.take k) rfl (ho3.kept (by (try simp only [ext_ext]); repeat (first | exact Kept.refl _ | apply Kept.alloc | apply Kept.drew | apply kept_add | apply Kept.ext))) (k30.trans (by (try simp only [ext_ext]); repeat (first | exact Kept.refl _ | apply Kept.alloc | apply Kept.drew | apply kept_add | apply Kept.ext))) (Nat.le_refl _) (Nat.le_trans (k30.below.size) (Kept.below (show Kept w3 _ from (by (try simp only [ext_ext]); repeat (first | exact Kept.refl _ | apply Kept.alloc | apply Kept.drew | apply kept_add | apply Kept.ext)))).size) _ _ c rfl (cardCells_new _ (by simp)) (by rw [htl.out]; omega) ?_; intro v4 w4 hown4 k4; have KB4 := k4) | (go_at_call 29; refine Calls.mono (hO.out _ (by (try simp only [ext_ext]); repeat (first | assumption | exact Kept.refl _ | apply Kept.alloc | apply Kept.drew | apply kept_add | apply Kept.ext))) ?_; rintro e w3 ⟨v3, rfl, ho3, k30, k3⟩; first | have hcc := cardCells_kept (cardCells_new c rfl) (by simp) k3 | skip))
        all_goals
          go_wp2_with (fail)
          refine bodyPost_ret (v := v5) (by simp [results, Try.results52, go_sem]) rfl ?_
          rw [hN.out]
          refine retP_of ⟨v5, rfl, hown5.mono K0.out.below.size, K0.out.trans (k5.trans (by (try simp only [ext_ext]); repeat (first | exact Kept.refl _ | apply Kept.alloc | apply Kept.drew | apply kept_add | apply Kept.ext)))⟩ (by rw [hfin.out]; omega)
end Go.Proofs.Ytjlaoocomkonhaa
