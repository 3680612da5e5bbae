/- Contracts: whether four cards are different ones; the middles of four cards. -/
import Derived.Test.YtenmnipgnjaheaaT84
import Derived.Test.YtenmnipgnjaheaaC7
namespace Go.Proofs.Ytenmnipgnjaheaa
open Go.RowKit
def okF (q : List Card) (i : Nat) : Bool := (List.range i).all (fun k => !decide (cx q k = cx q i)) && isCard (cx q i)
def fourB (q : List Card) : Bool := (List.range 4).all (okF q)
theorem okF_no1 {q : List Card} {i k : Nat} (hk : k < i) (h : cx q k = cx q i) : okF q i = false := by
  have : (List.range i).all (fun k => !decide (cx q k = cx q i)) = false := List.all_eq_false.2 ⟨k, List.mem_range.2 hk, by simp [h]⟩
  unfold okF; rw [this]; rfl
theorem okF_no2 {q : List Card} {i : Nat} (h : isCard (cx q i) = false) : okF q i = false := by unfold okF; rw [h, Bool.and_false]
theorem okF_yes {q : List Card} {i : Nat} (h1 : ∀ k, k < i → cx q k ≠ cx q i) (h2 : isCard (cx q i) = true) : okF q i = true := by
  unfold okF; rw [h2, Bool.and_true]
  exact List.all_eq_true.2 fun k hk => by simp [h1 k (List.mem_range.1 hk)]
theorem fourB_no {q : List Card} {i : Nat} (hi : i < 4) (h : okF q i = false) : fourB q = false := List.all_eq_false.2 ⟨i, List.mem_range.2 hi, by rw [h]; simp⟩
theorem fourB_yes {q : List Card} (h : ∀ i, i < 4 → okF q i = true) : fourB q = true := List.all_eq_true.2 fun i hi => h i (List.mem_range.1 hi)
theorem fourB_of {q : List Card} (hn : q.length = 4) (h : fourB q = true) : areC q ∧ distC q := by
  have h1 : ∀ i, i < 4 → okF q i = true := fun i hi => List.all_eq_true.1 h i (List.mem_range.2 hi)
  have h2 : ∀ i, i < 4 → (∀ k, k < i → cx q k ≠ cx q i) ∧ isCard (cx q i) = true := fun i hi => by
    have := h1 i hi
    unfold okF at this
    rw [Bool.and_eq_true] at this
    refine ⟨fun k hk => ?_, this.2⟩
    simpa using List.all_eq_true.1 this.1 k (List.mem_range.2 hk)
  refine ⟨fun i hi => (h2 i (by omega)).2, fun i j hi hj e => ?_⟩
  rcases Nat.lt_trichotomy i j with h | h | h
  · exact absurd e ((h2 j (by omega)).1 i h)
  · exact h
  · exact absurd e.symm ((h2 i (by omega)).1 j h)
theorem fourB_eq {q : List Card} (hn : q.length = 4) : fourB q = (q.all isCard && decide q.Nodup) := by
  rw [Bool.eq_iff_iff, Bool.and_eq_true, decide_eq_true_eq, ← distC_nodup, List.all_eq_true]
  constructor
  · intro h
    obtain ⟨h1, h2⟩ := fourB_of hn h
    exact ⟨areC_mem.1 h1, h2⟩
  · rintro ⟨h1, h2⟩
    exact fourB_yes fun i hi => okF_yes (fun k hk e => by have := h2 k i (by omega) (by omega) e; omega) (h1 _ (cx_mem (by omega)))
theorem srt_dist_len {cs : List Card} (hc : ∀ c ∈ cs, isCard c = true) (hd : distC cs) : (srt cs).length = cs.length :=
  ((List.perm_ext_iff_of_nodup (asc_nodup (srt_asc cs)) (distC_nodup.1 hd)).2 fun c => srt_mem hc c).length_eq
set_option maxHeartbeats 1000000 in
theorem l10Four_any (a b c d : Card) (w : World) :
    Calls Try.prog 56 #[qv a b c d] w fun e w' => e = .returned (.bool (fourB [a, b, c, d])) ∧ Kept w w' := by
  obtain ⟨W, hW⟩ : ∃ W, W = w.alloc (.cells #[.int .i64 a.a, .int .i64 a.b, .int .i64 a.c, .int .i64 a.d, .int .i64 b.a, .int .i64 b.b, .int .i64 b.c, .int .i64 b.d, .int .i64 c.a, .int .i64 c.b, .int .i64 c.c, .int .i64 c.d, .int .i64 d.a, .int .i64 d.b, .int .i64 d.c, .int .i64 d.d] 55) := ⟨_, rfl⟩
  obtain ⟨q, hq⟩ : ∃ q, q = [a, b, c, d] := ⟨_, rfl⟩
  have hxq := hid (show CardsAt W (some ⟨w.heap.size, 0, none⟩) q by rw [hW, hq]; exact cardsAt_block (cs := [a, b, c, d]) (heap_at rfl))
  have kW := hid (show Kept w W by rw [hW]; exact (by (try simp only [ext_ext]); repeat (first | exact Kept.refl _ | apply Kept.alloc | apply Kept.drew | apply kept_add | apply Kept.ext)))
  have hWH := hid hW
  have hql := hid (show q.length = 4 by rw [hq]; rfl)
  rw [← hq]
  clear hW hq
  go_enter Try.func56, Try.ntmps56
  go_wp2
  rw [← hWH.out]
  go_loopw [3] (fun s3 wr => ∃ i : Nat, i ≤ 4 ∧ s3 = .int .i64 i ∧ (∀ j, j < i → okF q j = true) ∧ Kept W wr) (fun s3 _ => 4 - (intOf s3).toNat)
  case atStart => exact ⟨0, by omega, rfl, fun j hj => by omega, (by (try simp only [ext_ext]); repeat (first | exact Kept.refl _ | apply Kept.alloc | apply Kept.drew | apply kept_add | apply Kept.ext))⟩
  case round =>
    obtain ⟨i, hi, rfl, hok, z, rfl⟩ := hrel
    have hokH := hid hok
    clear hok
    by_cases hlt : i < 4
    · obtain ⟨_, _, he, hgq, c0, c1, c2, c3⟩ := hxq.out i (by rw [hql.out]; omega)
      cases he
      simp only [Nat.zero_add] at c0 c1 c2 c3
      go_wp2
      go_loopw [4] (fun s4 wr => ∃ k : Nat, k ≤ i ∧ s4 = .int .i64 k ∧ (∀ j, j < k → cx q j ≠ cx q i) ∧ Kept W wr) (fun s4 _ => 4 - (intOf s4).toNat)
      case atStart => exact ⟨0, by omega, rfl, fun j hj => by omega, (by (try simp only [ext_ext]); repeat (first | exact Kept.refl _ | apply Kept.alloc | apply Kept.drew | apply kept_add | apply Kept.ext))⟩
      case round =>
        obtain ⟨k, hk, rfl, hne, z, rfl⟩ := hrel
        have hneH := hid hne
        clear hne
        by_cases hki : k < i
        · obtain ⟨_, _, he, _, b0, b1, b2, b3⟩ := hxq.out k (by rw [hql.out]; omega)
          cases he
          simp only [Nat.zero_add] at b0 b1 b2 b3
          by_cases hke : cx q k = cx q i
          · have hd : decide (cx q k = cx q i) = true := decide_eq_true hke
            have hno := hid (fourB_no hlt (okF_no1 hki hke))
            clear hke
            go_wp2_with (first | (refine wp_region_ext (by kernel_rfl) (by kernel_rfl) ?_; (repeat (go_big_quiet_step ((fail)))); refine wpQuiet_end fun z => ?_))
            go_ret
            exact ⟨ret_of (by rw [hno.out]; rfl), kW.out.trans (by (try simp only [ext_ext]); repeat (first | exact Kept.refl _ | apply Kept.alloc | apply Kept.drew | apply kept_add | apply Kept.ext))⟩
          · have hd : decide (cx q k = cx q i) = false := decide_eq_false hke
            have hkeH := hid hke
            clear hke
            go_wp2_with (first | (refine wp_region_ext (by kernel_rfl) (by kernel_rfl) ?_; (repeat (go_big_quiet_step ((fail)))); refine wpQuiet_end fun z => ?_))
            go_roundw
            case rel => exact ⟨k + 1, by omega, by go_num, fun j hj => if h : j < k then hneH.out j h else by rw [show j = k by omega]; exact hkeH.out, (by (try simp only [ext_ext]); repeat (first | exact Kept.refl _ | apply Kept.alloc | apply Kept.drew | apply kept_add | apply Kept.ext))⟩
            case measure => simp [intOf]; omega
        · obtain rfl : k = i := by omega
          cases hci : isCard (cx q k) with
          | true =>
            have hL := hid (fun w' => l2Card_any (cx q k) w')
            rw [hci] at hL
            have hyes := hid (okF_yes hneH.out hci)
            clear hci
            go_wp2_with (first | (go_at_call 58; refine Calls.mono (hL.out _) ?_; rintro e w' ⟨rfl, y, rfl⟩))
            go_roundw
            case rel => exact ⟨k + 1, by omega, by go_num, fun j hj => if h : j < k then hokH.out j h else by rw [show j = k by omega]; exact hyes.out, (by (try simp only [ext_ext]); repeat (first | exact Kept.refl _ | apply Kept.alloc | apply Kept.drew | apply kept_add | apply Kept.ext))⟩
            case measure => simp [intOf]; omega
          | false =>
            have hL := hid (fun w' => l2Card_any (cx q k) w')
            rw [hci] at hL
            have hno := hid (fourB_no hlt (okF_no2 hci))
            clear hci
            go_wp2_with (first | (go_at_call 58; refine Calls.mono (hL.out _) ?_; rintro e w' ⟨rfl, y, rfl⟩))
            go_ret
            exact ⟨ret_of (by rw [hno.out]; rfl), kW.out.trans (by (try simp only [ext_ext]); repeat (first | exact Kept.refl _ | apply Kept.alloc | apply Kept.drew | apply kept_add | apply Kept.ext))⟩
    · obtain rfl : i = 4 := by omega
      have hyes := hid (fourB_yes hokH.out)
      go_wp2
      go_ret
      exact ⟨ret_of (by rw [hyes.out]; rfl), kW.out.trans (by (try simp only [ext_ext]); repeat (first | exact Kept.refl _ | apply Kept.alloc | apply Kept.drew | apply kept_add | apply Kept.ext))⟩
theorem areDifferent_any (g cap : Nat) (cs : List Card) (w : World) (hx : CardsAt w (some ⟨g, 0, none⟩) cs) (hn : cs.length = 4) :
    Calls Try.prog 57 #[.slice (some ⟨g, 0, none⟩) 4 cap] w fun e w' => e = .returned (.bool (fourB cs)) ∧ Kept w w' := by
  have hA := hid (fun w' (hk : Kept w w') => areCards_any (some ⟨g, 0, none⟩) cap cs w' (hx.kept hk) (by omega))
  rw [hn] at hA
  rw [fourB_eq hn]
  have hnH := hid hn
  have hxH := hid hx
  clear hx hn
  cases hall : cs.all isCard with
  | false =>
    rw [hall] at hA
    clear hall
    go_enter Try.func57, Try.ntmps57
    go_wp2_with (first | (go_at_call 74; refine Calls.mono (hA.out _ ((by (try simp only [ext_ext]); repeat (first | exact Kept.refl _ | apply Kept.alloc | apply Kept.drew | apply kept_add | apply Kept.ext)))) ?_; rintro e w' ⟨rfl, y, rfl⟩))
    go_ret
    exact ⟨ret_of (by simp), (by (try simp only [ext_ext]); repeat (first | exact Kept.refl _ | apply Kept.alloc | apply Kept.drew | apply kept_add | apply Kept.ext))⟩
  | true =>
    have hc := List.all_eq_true.1 hall
    rw [hall] at hA
    have hS := hid (fun w' (hk : Kept w w') => sorted_any g 0 cap 4 cs w' (hxH.out.kept hk) hnH.out hc (by omega))
    have hsl := hid (srt_dist_len hc)
    clear hall hc
    go_enter Try.func57, Try.ntmps57
    go_wp2_with (first | (go_at_call 74; refine Calls.mono (hA.out _ ((by (try simp only [ext_ext]); repeat (first | exact Kept.refl _ | apply Kept.alloc | apply Kept.drew | apply kept_add | apply Kept.ext)))) ?_; rintro e w' ⟨rfl, y, rfl⟩))
    (go_at_call 63; refine Calls.mono (hS.out _ (by (try simp only [ext_ext]); repeat (first | exact Kept.refl _ | apply Kept.alloc | apply Kept.drew | apply kept_add | apply Kept.ext))) ?_; rintro e w9 ⟨zs, v9, rfl, ho9, k9, hz1, hz2⟩)
    have hlen : decide ((zs.length : Int) = 4) = decide cs.Nodup := by
      by_cases hd : distC cs
      · rw [decide_eq_true (distC_nodup.1 hd), decide_eq_true]
        rw [hz1 hd, hsl.out hd, hnH.out]; rfl
      · rw [decide_eq_false (fun h => hd (distC_nodup.2 h)), decide_eq_false]
        have := hz2 hd
        rw [hnH.out] at this
        omega
    have hlenH := hid hlen
    obtain ⟨ao9, cap9, rfl, _, _⟩ := ho9.reads
    have K9 := hid (show Kept w w9 from Kept.trans (by (try simp only [ext_ext]); repeat (first | exact Kept.refl _ | apply Kept.alloc | apply Kept.drew | apply kept_add | apply Kept.ext)) k9)
    clear hlen ho9 k9 hz1 hz2 hS
    generalize zs.length = m at hlenH ⊢
    go_wp2_with (fail)
    go_ret
    exact ⟨ret_of (by rw [Bool.true_and, ← hlenH.out]; first | rfl | simp), K9.out.trans (by (try simp only [ext_ext]); repeat (first | exact Kept.refl _ | apply Kept.alloc | apply Kept.drew | apply kept_add | apply Kept.ext))⟩
theorem sMiddlesOf_no (a b c d : Card) (w : World) (h : fourB [a, b, c, d] = false) : Calls Try.prog 25 #[a.v, b.v, c.v, d.v] w (RetCT w false []) := by
  have hF := hid (l10Four_any a b c d)
  rw [h] at hF
  go_enter Try.func25, Try.ntmps25
  go_wp2_with (first | (go_at_call 56; refine Calls.mono (hF.out _) ?_; rintro e w' ⟨rfl, y, rfl⟩))
  refine bodyPost_ret (v := .tuple #[.slice (some ⟨w.heap.size + 1 + 1 + 1 + 1 + y.os.length, 0, none⟩) 0 0, .bool false]) (by simp [results, Try.results25, go_sem]) rfl ?_
  exact ⟨_, rfl, ownC_nil (by omega) (heap_at (by simp)), (by (try simp only [ext_ext]); repeat (first | exact Kept.refl _ | apply Kept.alloc | apply Kept.drew | apply kept_add | apply Kept.ext))⟩
theorem sMiddlesOf_yes (a b c d : Card) (w : World) (h : fourB [a, b, c, d] = true) : Calls Try.prog 25 #[a.v, b.v, c.v, d.v] w (RetCT w true (srt (midL a b c d))) := by
  have hF := hid (l10Four_any a b c d)
  rw [h] at hF
  have hcs := (fourB_of rfl h).1
  have hM := hid (l10Middles_any a b c d (hcs 0 (by simp)) (hcs 1 (by simp)) (hcs 2 (by simp)) (hcs 3 (by simp)))
  obtain ⟨L, hL⟩ : ∃ L, L = srt (midL a b c d) := ⟨_, rfl⟩
  rw [← hL] at hM ⊢
  clear hL hcs h
  go_enter Try.func25, Try.ntmps25
  go_wp2_with (first | (go_at_call 56; refine Calls.mono (hF.out _) ?_; rintro e w' ⟨rfl, y, rfl⟩))
  (go_at_call 29; refine Calls.mono (hM.out _) ?_; rintro e w9 ⟨v, rfl, ho, k9⟩)
  have K1 := hid (show Kept w w9 from Kept.trans (by (try simp only [ext_ext]); repeat (first | exact Kept.refl _ | apply Kept.alloc | apply Kept.drew | apply kept_add | apply Kept.ext)) k9)
  have hoH := hid (OwnC.mono (B' := w.heap.size) ho (show Kept w _ from (by (try simp only [ext_ext]); repeat (first | exact Kept.refl _ | apply Kept.alloc | apply Kept.drew | apply kept_add | apply Kept.ext))).below.size)
  clear ho k9
  go_wp2_with (fail)
  refine bodyPost_ret (v := .tuple #[v, .bool true]) (by simp [results, Try.results25, go_sem]) rfl ?_
  exact ⟨_, rfl, hoH.out, K1.out⟩
theorem iMiddlesOf_no (a b c d : Card) (w : World) (h : fourB [a, b, c, d] = false) : Calls Try.prog 27 #[a.v, b.v, c.v, d.v] w (RetCT w false []) := by
  have hF := hid (fun (g : Nat) (w' : World) (hg : w'.heap[g]? = some (.cells #[.int .i64 a.a, .int .i64 a.b, .int .i64 a.c, .int .i64 a.d, .int .i64 b.a, .int .i64 b.b, .int .i64 b.c, .int .i64 b.d, .int .i64 c.a, .int .i64 c.b, .int .i64 c.c, .int .i64 c.d, .int .i64 d.a, .int .i64 d.b, .int .i64 d.c, .int .i64 d.d] 48)) => areDifferent_any g 4 [a, b, c, d] w' (cardsAt_block (cs := [a, b, c, d]) hg) rfl)
  rw [h] at hF
  go_enter Try.func27, Try.ntmps27
  go_wp2_with (first | (go_at_call 57; refine Calls.mono (hF.out _ _ (heap_at (by simp))) ?_; rintro e w' ⟨rfl, y, rfl⟩))
  refine bodyPost_ret (v := .tuple #[.slice none 0 0, .bool false]) (by simp [results, Try.results27, go_sem]) rfl ?_
  exact ⟨_, rfl, ownC_none _ _, (by (try simp only [ext_ext]); repeat (first | exact Kept.refl _ | apply Kept.alloc | apply Kept.drew | apply kept_add | apply Kept.ext))⟩
theorem iMiddlesOf_yes (a b c d : Card) (w : World) (h : fourB [a, b, c, d] = true) : Calls Try.prog 27 #[a.v, b.v, c.v, d.v] w (RetCT w true (srt (midL a b c d))) := by
  have hF := hid (fun (g : Nat) (w' : World) (hg : w'.heap[g]? = some (.cells #[.int .i64 a.a, .int .i64 a.b, .int .i64 a.c, .int .i64 a.d, .int .i64 b.a, .int .i64 b.b, .int .i64 b.c, .int .i64 b.d, .int .i64 c.a, .int .i64 c.b, .int .i64 c.c, .int .i64 c.d, .int .i64 d.a, .int .i64 d.b, .int .i64 d.c, .int .i64 d.d] 48)) => areDifferent_any g 4 [a, b, c, d] w' (cardsAt_block (cs := [a, b, c, d]) hg) rfl)
  rw [h] at hF
  obtain ⟨hcs, hds⟩ := fourB_of rfl h
  have hM := hid (middles_walk a b c d (hcs 0 (by simp)) (hcs 1 (by simp)) (hcs 2 (by simp)) (hcs 3 (by simp)) (midL_dist (hcs 0 (by simp)) (hcs 1 (by simp)) (hcs 2 (by simp)) (hcs 3 (by simp)) (fun e => by have := hds 1 2 (by simp) (by simp) e; omega) (fun e => by have := hds 1 3 (by simp) (by simp) e; omega) (fun e => by have := hds 2 3 (by simp) (by simp) e; omega)))
  obtain ⟨L, hL⟩ : ∃ L, L = srt (midL a b c d) := ⟨_, rfl⟩
  rw [← hL] at hM ⊢
  clear hL hcs hds h
  go_enter Try.func27, Try.ntmps27
  go_wp2_with (first | (go_at_call 57; refine Calls.mono (hF.out _ _ (heap_at (by simp))) ?_; rintro e w' ⟨rfl, y, rfl⟩))
  (go_at_call 33; refine Calls.mono (hM.out _) ?_; rintro e w9 ⟨v, rfl, ho, k9⟩)
  have K1 := hid (show Kept w w9 from Kept.trans (by (try simp only [ext_ext]); repeat (first | exact Kept.refl _ | apply Kept.alloc | apply Kept.drew | apply kept_add | apply Kept.ext)) k9)
  have hoH := hid (OwnC.mono (B' := w.heap.size) ho (show Kept w _ from (by (try simp only [ext_ext]); repeat (first | exact Kept.refl _ | apply Kept.alloc | apply Kept.drew | apply kept_add | apply Kept.ext))).below.size)
  clear ho k9
  go_wp2_with (fail)
  refine bodyPost_ret (v := .tuple #[v, .bool true]) (by simp [results, Try.results27, go_sem]) rfl ?_
  exact ⟨_, rfl, hoH.out, K1.out⟩
theorem twoMiddlesOf (a b c d : Card) : ∃ ok ls, (∀ w, Calls Try.prog 25 #[a.v, b.v, c.v, d.v] w (RetCT w ok ls)) ∧ (∀ w, Calls Try.prog 27 #[a.v, b.v, c.v, d.v] w (RetCT w ok ls)) ∧ ls.length ≤ 1048576 := by
  cases hp : fourB [a, b, c, d] with
  | false => exact ⟨false, [], fun w => sMiddlesOf_no a b c d w hp, fun w => iMiddlesOf_no a b c d w hp, by simp⟩
  | true => exact ⟨true, _, fun w => sMiddlesOf_yes a b c d w hp, fun w => iMiddlesOf_yes a b c d w hp, by have := srt_len (midL a b c d); omega⟩
end Go.Proofs.Ytenmnipgnjaheaa
