/- Walk: the law of PointsOf. -/
import Derived.Test.YtifkjbihmmdnbabT38
import Derived.Test.YtifkjbihmmdnbabT39
import Derived.Test.YtifkjbihmmdnbabR3
namespace Go.Proofs.Ytifkjbihmmdnbab
open Go.RowKit
theorem sPointsOf_any (s n : Int) (lo so wo : Option Addr) (lc sc wc : Nat) (laid : List Card) (scores wrong : List Int) (w : World) (hx : CardsAt w lo laid) (hy : IntsAt w so scores) (hz : IntsAt w wo wrong) (hl : laid.length ≤ 1048576) (hl2 : scores.length ≤ 1048576) (hl3 : wrong.length ≤ 1048576) (hlc : laid.length ≤ lc) :
    Calls Try.prog 18 #[gv s n (.slice lo laid.length lc) (.slice so scores.length sc) (.slice wo wrong.length wc)] w (RetIT w (gameB s n laid scores wrong) (if gameB s n laid scores wrong = true then ptsK scores wrong scores.length else [])) := by
  have hG0 := fun w' (hk : Kept w w') => l8Game_any s n lo so wo lc sc wc laid scores wrong w' (hx.kept hk) (hy.kept hk) (hz.kept hk) hl hl2 hl3 hlc
  cases hg : gameB s n laid scores wrong
  · rw [hg] at hG0
    have hG := hid hG0
    clear hG0
    go_enter Try.func18, Try.ntmps18
    go_wp2_with (first | (go_at_call 31; refine Calls.mono (hG.out _ ((by (try simp only [ext_ext]); repeat (first | exact Kept.refl _ | apply Kept.alloc | apply Kept.drew | apply kept_add | apply Kept.ext)))) ?_; rintro e w' ⟨rfl, y, rfl⟩))
    refine bodyPost_ret (v := .tuple #[.slice (some ⟨w.heap.size + 1 + y.os.length, 0, none⟩) 0 0, .bool false]) (by simp [results, Try.results18, go_sem]) rfl ?_
    exact ⟨_, rfl, ownI_nil (by omega) (heap_at (by simp)), (by (try simp only [ext_ext]); repeat (first | exact Kept.refl _ | apply Kept.alloc | apply Kept.drew | apply kept_add | apply Kept.ext))⟩
  · rw [hg] at hG0
    have hG := hid hG0
    have hok := gameB_of hg
    have hA := hid (fun w' (hk : Kept w w') => l8Points_any s n lo so wo lc sc wc laid scores wrong w' (hy.kept hk) (hz.kept hk) hok)
    clear hG0 hok
    go_enter Try.func18, Try.ntmps18
    go_wp2_with (first | (go_at_call 31; refine Calls.mono (hG.out _ ((by (try simp only [ext_ext]); repeat (first | exact Kept.refl _ | apply Kept.alloc | apply Kept.drew | apply kept_add | apply Kept.ext)))) ?_; rintro e w' ⟨rfl, y, rfl⟩) | (go_at_call 41; refine Calls.mono (hA.out _ (by (try simp only [ext_ext]); repeat (first | exact Kept.refl _ | apply Kept.alloc | apply Kept.drew | apply kept_add | apply Kept.ext))) ?_; rintro e w' ⟨v, rfl, ho, z, rfl⟩))
    refine bodyPost_ret (v := .tuple #[v, .bool true]) (by simp [results, Try.results18, go_sem]) rfl ?_
    simp only [ext_ext] at ho
    refine ⟨_, rfl, ho.mono ?_, (by (try simp only [ext_ext]); repeat (first | exact Kept.refl _ | apply Kept.alloc | apply Kept.drew | apply kept_add | apply Kept.ext))⟩
    simp
    omega
theorem iPointsOf_any (s n : Int) (lo so wo : Option Addr) (lc sc wc : Nat) (laid : List Card) (scores wrong : List Int) (w : World) (hx : CardsAt w lo laid) (hy : IntsAt w so scores) (hz : IntsAt w wo wrong) (hl : laid.length ≤ 1048576) (hl2 : scores.length ≤ 1048576) (hl3 : wrong.length ≤ 1048576) (hlc : laid.length ≤ lc) :
    Calls Try.prog 19 #[gv s n (.slice lo laid.length lc) (.slice so scores.length sc) (.slice wo wrong.length wc)] w (RetIT w (gameB s n laid scores wrong) (if gameB s n laid scores wrong = true then ptsK scores wrong scores.length else [])) := by
  have hG0 := fun w' (hk : Kept w w') => IsGame_any s n lo so wo lc sc wc laid scores wrong w' (hx.kept hk) (hy.kept hk) (hz.kept hk) hl hl2 hl3 hlc
  cases hg : gameB s n laid scores wrong
  · rw [hg] at hG0
    have hG := hid hG0
    clear hG0
    go_enter Try.func19, Try.ntmps19
    go_wp2_with (first | (go_at_call 12; refine Calls.mono (hG.out _ ((by (try simp only [ext_ext]); repeat (first | exact Kept.refl _ | apply Kept.alloc | apply Kept.drew | apply kept_add | apply Kept.ext)))) ?_; rintro e w' ⟨rfl, y, rfl⟩))
    refine bodyPost_ret (v := .tuple #[.slice none 0 0, .bool false]) (by simp [results, Try.results19, go_sem]) rfl ?_
    exact ⟨_, rfl, ownI_none _ _, (by (try simp only [ext_ext]); repeat (first | exact Kept.refl _ | apply Kept.alloc | apply Kept.drew | apply kept_add | apply Kept.ext))⟩
  · rw [hg] at hG0
    have hG := hid hG0
    have hok := gameB_of hg
    have hA := hid (fun w' (hk : Kept w w') => points_any s n lo so wo lc sc wc laid scores wrong w' (hy.kept hk) (hz.kept hk) hok)
    clear hG0 hok
    go_enter Try.func19, Try.ntmps19
    go_wp2_with (first | (go_at_call 12; refine Calls.mono (hG.out _ ((by (try simp only [ext_ext]); repeat (first | exact Kept.refl _ | apply Kept.alloc | apply Kept.drew | apply kept_add | apply Kept.ext)))) ?_; rintro e w' ⟨rfl, y, rfl⟩) | (go_at_call 44; refine Calls.mono (hA.out _ (by (try simp only [ext_ext]); repeat (first | exact Kept.refl _ | apply Kept.alloc | apply Kept.drew | apply kept_add | apply Kept.ext))) ?_; rintro e w' ⟨v, rfl, ho, z, rfl⟩))
    refine bodyPost_ret (v := .tuple #[v, .bool true]) (by simp [results, Try.results19, go_sem]) rfl ?_
    simp only [ext_ext] at ho
    refine ⟨_, rfl, ho.mono ?_, (by (try simp only [ext_ext]); repeat (first | exact Kept.refl _ | apply Kept.alloc | apply Kept.drew | apply kept_add | apply Kept.ext))⟩
    simp
    omega
theorem twoPointsOf (s n : Int) (laid : List Card) (scores wrong : List Int) (hl : laid.length ≤ 1048576) (hl2 : scores.length ≤ 1048576) (hl3 : wrong.length ≤ 1048576) :
    ∃ ok ls, (∀ (lo so wo : Option Addr) (lc sc wc : Nat) (w : World), CardsAt w lo laid → IntsAt w so scores → IntsAt w wo wrong → laid.length ≤ lc → Calls Try.prog 18 #[gv s n (.slice lo laid.length lc) (.slice so scores.length sc) (.slice wo wrong.length wc)] w (RetIT w ok ls)) ∧ (∀ (lo so wo : Option Addr) (lc sc wc : Nat) (w : World), CardsAt w lo laid → IntsAt w so scores → IntsAt w wo wrong → laid.length ≤ lc → Calls Try.prog 19 #[gv s n (.slice lo laid.length lc) (.slice so scores.length sc) (.slice wo wrong.length wc)] w (RetIT w ok ls)) ∧ ls.length ≤ 1048576 :=
  ⟨_, _, fun _ _ _ _ _ _ _ hx hy hz hc => sPointsOf_any _ _ _ _ _ _ _ _ _ _ _ _ hx hy hz hl hl2 hl3 hc, fun _ _ _ _ _ _ _ hx hy hz hc => iPointsOf_any _ _ _ _ _ _ _ _ _ _ _ _ hx hy hz hl hl2 hl3 hc, by
    split
    · rw [ptsK_len]; exact hl2
    · simp⟩
set_option maxHeartbeats 4000000 in
theorem walk_FnExactPointsOf (s n : Int) (lo so wo : Option Addr) (lc sc wc : Nat) (laid : List Card) (scores wrong : List Int) {w : World} (hx : CardsAt w lo laid) (hy : IntsAt w so scores) (hz : IntsAt w wo wrong) (hl : laid.length ≤ maxLen) (hl2 : scores.length ≤ maxLen) (hl3 : wrong.length ≤ maxLen) (_ : World) :
    Calls Try.prog 6 #[gv s n (.slice lo laid.length lc) (.slice so scores.length sc) (.slice wo wrong.length wc)] w fun e w' => e = .returned (.bool true) ∧ Kept w w' := by
  have bb1 : laid.length ≤ 9223372036854775807 := by unfold maxLen at hl; omega
  have bb2 : scores.length ≤ 9223372036854775807 := by unfold maxLen at hl2; omega
  have bb3 : wrong.length ≤ 9223372036854775807 := by unfold maxLen at hl3; omega
  have hsz := hid (szGame_any s n lo so wo laid.length lc scores.length sc wrong.length wc bb1 bb2 bb3)
  by_cases hn : laid.length + scores.length + wrong.length ≤ 1048576
  · have m1 : laid.length ≤ 1048576 := by omega
    have m2 : scores.length ≤ 1048576 := by omega
    have m3 : wrong.length ≤ 1048576 := by omega
    have hlo : ¬ ((1048576 : Int) - (laid.length : Int) - (scores.length : Int) - (wrong.length : Int) < 0) := by omega
    obtain ⟨ok, ls, hS, hI, hll⟩ : ∃ ok ls, (∀ (lo so wo : Option Addr) (lc sc wc : Nat) (w : World), CardsAt w lo laid → IntsAt w so scores → IntsAt w wo wrong → laid.length ≤ lc → Calls Try.prog 18 #[gv s n (.slice lo laid.length lc) (.slice so scores.length sc) (.slice wo wrong.length wc)] w (RetIT w ok ls)) ∧ (∀ (lo so wo : Option Addr) (lc sc wc : Nat) (w : World), CardsAt w lo laid → IntsAt w so scores → IntsAt w wo wrong → laid.length ≤ lc → Calls Try.prog 19 #[gv s n (.slice lo laid.length lc) (.slice so scores.length sc) (.slice wo wrong.length wc)] w (RetIT w ok ls)) ∧ ls.length ≤ 1048576 := twoPointsOf s n laid scores wrong m1 m2 m3
    have e2 : ¬ ((1 : Int) + (ls.length : Int) < 0) := by omega
    have K : Kept w (w.alloc (.cells #[.int .i64 s, .int .i64 n, .slice lo laid.length lc, .slice so scores.length sc, .slice wo wrong.length wc] 27)) := (by (try simp only [ext_ext]); repeat (first | exact Kept.refl _ | apply Kept.alloc | apply Kept.drew | apply kept_add | apply Kept.ext))
    have bA := hid (fun w' (hk : Kept (w.alloc (.cells #[.int .i64 s, .int .i64 n, .slice lo laid.length lc, .slice so scores.length sc, .slice wo wrong.length wc] 27)) w') => (Box5.new (t := 27) s n (.slice lo laid.length lc) (.slice so scores.length sc) (.slice wo wrong.length wc) (rfl : w.heap.size = w.heap.size)).kept hk)
    have hxH := hid (fun w' (hk : Kept (w.alloc (.cells #[.int .i64 s, .int .i64 n, .slice lo laid.length lc, .slice so scores.length sc, .slice wo wrong.length wc] 27)) w') => hx.kept (K.trans hk))
    have hyH := hid (fun w' (hk : Kept (w.alloc (.cells #[.int .i64 s, .int .i64 n, .slice lo laid.length lc, .slice so scores.length sc, .slice wo wrong.length wc] 27)) w') => hy.kept (K.trans hk))
    have hzH := hid (fun w' (hk : Kept (w.alloc (.cells #[.int .i64 s, .int .i64 n, .slice lo laid.length lc, .slice so scores.length sc, .slice wo wrong.length wc] 27)) w') => hz.kept (K.trans hk))
    have KH := hid (fun w' (hk : Kept (w.alloc (.cells #[.int .i64 s, .int .i64 n, .slice lo laid.length lc, .slice so scores.length sc, .slice wo wrong.length wc] 27)) w') => K.trans hk)
    clear K hx hy hz
    go_enter Try.func6, Try.ntmps6
    go_wp2_with (fail)
    (go_at_call 9; refine Calls.mono (hsz.out _) ?_; rintro e w0 ⟨rfl, K0⟩)
    obtain ⟨A00, A01, A02, A03, A04, A05⟩ := bA.out _ K0
    go_wp2_with (fail)
    clear A01 A02 A03 A04 A05
    (go_at_call 11; refine Calls.mono (toGame_any s n _ _ _ _ _ _ laid scores wrong _ (hxH.out _ K0) (hyH.out _ K0) (hzH.out _ K0) m1 m2 m3) ?_; rintro e w1 ⟨lo1, lc1, so1, sc1, wo1, wc1, rfl, p1, q1, r1, a1, b1, c1, k1⟩)
    obtain ⟨_, _, hv, x1, n1⟩ := p1.reads
    cases hv
    obtain ⟨_, _, hv, y1, _⟩ := q1.reads
    cases hv
    obtain ⟨_, _, hv, z1, _⟩ := r1.reads
    cases hv
    go_wp2_with (fail)
    (go_at_call 18; refine Calls.mono (hS _ _ _ _ _ _ _ x1 y1 z1 n1) ?_; rintro e w2 ⟨v2, rfl, ho2, k2⟩)
    have K1 := K0.trans k1
    have K2 := K1.trans k2
    obtain ⟨A20, A21, A22, A23, A24, A25⟩ := bA.out _ K2
    go_wp2_with (fail)
    clear A21 A22 A23 A24 A25
    (go_at_call 11; refine Calls.mono (toGame_any s n _ _ _ _ _ _ laid scores wrong _ (hxH.out _ K2) (hyH.out _ K2) (hzH.out _ K2) m1 m2 m3) ?_; rintro e w3 ⟨lo3, lc3, so3, sc3, wo3, wc3, rfl, p3, q3, r3, a3, b3, c3, k3⟩)
    obtain ⟨_, _, hv, x3, n3⟩ := p3.reads
    cases hv
    obtain ⟨_, _, hv, y3, _⟩ := q3.reads
    cases hv
    obtain ⟨_, _, hv, z3, _⟩ := r3.reads
    cases hv
    go_wp2_with (fail)
    (go_at_call 19; refine Calls.mono (hI _ _ _ _ _ _ _ (x3.kept (by (try simp only [ext_ext]); repeat (first | exact Kept.refl _ | apply Kept.alloc | apply Kept.drew | apply kept_add | apply Kept.ext))) (y3.kept (by (try simp only [ext_ext]); repeat (first | exact Kept.refl _ | apply Kept.alloc | apply Kept.drew | apply kept_add | apply Kept.ext))) (z3.kept (by (try simp only [ext_ext]); repeat (first | exact Kept.refl _ | apply Kept.alloc | apply Kept.drew | apply kept_add | apply Kept.ext))) n3) ?_; rintro e w4 ⟨v4, rfl, ho4, k4⟩)
    have bX := hid (fun w' (hk : Kept (w3.alloc (.cells #[.int .i64 s, .int .i64 n, .slice lo3 laid.length lc3, .slice so3 scores.length sc3, .slice wo3 wrong.length wc3] 32)) w') => (Box5.new (t := 32) s n (.slice lo3 laid.length lc3) (.slice so3 scores.length sc3) (.slice wo3 wrong.length wc3) (rfl : w3.heap.size = w3.heap.size)).kept hk)
    have k33 : Kept w3 (w3.alloc (.cells #[.int .i64 s, .int .i64 n, .slice lo3 laid.length lc3, .slice so3 scores.length sc3, .slice wo3 wrong.length wc3] 32)) := (by (try simp only [ext_ext]); repeat (first | exact Kept.refl _ | apply Kept.alloc | apply Kept.drew | apply kept_add | apply Kept.ext))
    have z33 : ((w3.alloc (.cells #[.int .i64 s, .int .i64 n, .slice lo3 laid.length lc3, .slice so3 scores.length sc3, .slice wo3 wrong.length wc3] 32))).heap.size = w3.heap.size + 1 := by simp
    have d1 : ∀ (u : Value) g, v4.ownBlock = some g → (OwnC w2.heap.size w3 u laid ∨ OwnI w2.heap.size w3 u scores ∨ OwnI w2.heap.size w3 u wrong) → u.ownBlock ≠ some g := fun u g h hu h' => by
      have h1 := (ho4.lt g h).1
      rcases hu with hu | hu | hu <;> (have h2 := (hu.lt g h').2; omega)
    have d2 : ∀ (u : Value) g, v2.ownBlock = some g → (OwnC w2.heap.size w3 u laid ∨ OwnI w2.heap.size w3 u scores ∨ OwnI w2.heap.size w3 u wrong) → u.ownBlock ≠ some g := fun u g h hu h' => by
      have h1 := (ho2.lt g h).2
      rcases hu with hu | hu | hu <;> (have h2 := (hu.lt g h').1; omega)
    have n24 : ∀ g, v2.ownBlock = some g → v4.ownBlock ≠ some g := fun g h h' => by have := (ho2.lt g h).2; have := (ho4.lt g h').1; have := k3.below.size; omega
    have K3 := K2.trans (k3.trans k33)
    have K4 := K3.trans k4
    have s2 := K2.below.size
    have s3 := K3.below.size
    have s1 := K1.below.size
    go_wp2_with (fail)
    (go_at_call 20; refine Calls.mono (eqI_any _ _ _ _ _ _ ho4 ((ho2.kept (k3.trans k33)).kept k4) hll) ?_; rintro e w5 ⟨rfl, k5⟩)
    have K5 := K4.trans k5
    have k35 := k33.trans (k4.trans k5)
    obtain ⟨A50, A51, A52, A53, A54, A55⟩ := bA.out _ K5
    obtain ⟨X50, X51, X52, X53, X54, X55⟩ := bX.out _ (k4.trans k5)
    go_wp2_with (fail)
    go_region_with (first | (go_at_call 11; refine Calls.mono (toGame_any s n _ _ _ _ _ _ laid scores wrong _ (hxH.out _ (K5.trans (by (try simp only [ext_ext]); repeat (first | exact Kept.refl _ | apply Kept.alloc | apply Kept.drew | apply kept_add | apply Kept.ext)))) (hyH.out _ (K5.trans (by (try simp only [ext_ext]); repeat (first | exact Kept.refl _ | apply Kept.alloc | apply Kept.drew | apply kept_add | apply Kept.ext)))) (hzH.out _ (K5.trans (by (try simp only [ext_ext]); repeat (first | exact Kept.refl _ | apply Kept.alloc | apply Kept.drew | apply kept_add | apply Kept.ext)))) m1 m2 m3) ?_; rintro e w' ⟨lo6, lc6, so6, sc6, wo6, wc6, rfl, p6, q6, r6, _, _, _, z6, rfl⟩; try simp only [ext_ext] at p6 q6 r6) | (go_at_call 13; refine Calls.mono (eqGame_any s n _ _ _ _ _ _ _ _ _ _ _ _ _ _ laid scores wrong _ (p3.kept (k35.trans (by (try simp only [ext_ext]); repeat (first | exact Kept.refl _ | apply Kept.alloc | apply Kept.drew | apply kept_add | apply Kept.ext)))) (p6.kept (by (try simp only [ext_ext]); repeat (first | exact Kept.refl _ | apply Kept.alloc | apply Kept.drew | apply kept_add | apply Kept.ext))) (q3.kept (k35.trans (by (try simp only [ext_ext]); repeat (first | exact Kept.refl _ | apply Kept.alloc | apply Kept.drew | apply kept_add | apply Kept.ext)))) (q6.kept (by (try simp only [ext_ext]); repeat (first | exact Kept.refl _ | apply Kept.alloc | apply Kept.drew | apply kept_add | apply Kept.ext))) (r3.kept (k35.trans (by (try simp only [ext_ext]); repeat (first | exact Kept.refl _ | apply Kept.alloc | apply Kept.drew | apply kept_add | apply Kept.ext)))) (r6.kept (by (try simp only [ext_ext]); repeat (first | exact Kept.refl _ | apply Kept.alloc | apply Kept.drew | apply kept_add | apply Kept.ext))) m1 m2 m3) ?_; rintro e w' ⟨rfl, y7, rfl⟩))
    all_goals
      go_wp2_with (fail)
      (go_at_call 21; refine Calls.mono (markGame_any s n _ _ _ _ _ _ _ laid scores wrong 1 _ (p3.kept (k35.trans (by (try simp only [ext_ext]); repeat (first | exact Kept.refl _ | apply Kept.alloc | apply Kept.drew | apply kept_add | apply Kept.ext)))) (q3.kept (k35.trans (by (try simp only [ext_ext]); repeat (first | exact Kept.refl _ | apply Kept.alloc | apply Kept.drew | apply kept_add | apply Kept.ext)))) (r3.kept (k35.trans (by (try simp only [ext_ext]); repeat (first | exact Kept.refl _ | apply Kept.alloc | apply Kept.drew | apply kept_add | apply Kept.ext)))) a3 b3 c3 m1 m2 m3 (by decide) (by decide)) ?_; rintro e w8 ⟨k', rfl, hk', u1, u2, u3, t0, t1, t2, t3⟩)
      have t0 : Kept w5 u1 := Kept.trans (by (try simp only [ext_ext]); repeat (first | exact Kept.refl _ | apply Kept.alloc | apply Kept.drew | apply kept_add | apply Kept.ext)) t0
      have e1 : ¬ (k' < 0) := by omega
      have tr : ∀ (v : Value) (B : Nat), (OwnI B w5 v ls) → (∀ (u : Value) g, v.ownBlock = some g → (OwnC w2.heap.size w3 u laid ∨ OwnI w2.heap.size w3 u scores ∨ OwnI w2.heap.size w3 u wrong) → u.ownBlock ≠ some g) → OwnI B w8 v ls := fun v B hv hd =>
        (((hv.kept t0).grown t1 fun g h => hd _ g h (.inl p3)).grown t2 fun g h => hd _ g h (.inr (.inl q3))).grown t3 fun g h => hd _ g h (.inr (.inr r3))
      have ho48 := tr _ _ (ho4.kept k5) d1
      have ho28 := tr _ _ (ho2.kept ((k3.trans k33).trans (k4.trans k5))) d2
      have K8 := (((K5.trans t0).grown t1 fun k hk => Nat.le_trans s2 (p3.lt k hk).1).grown t2 fun k hk => Nat.le_trans s2 (q3.lt k hk).1).grown t3 fun k hk => Nat.le_trans s2 (r3.lt k hk).1
      go_wp2_with (fail)
      (go_at_call 20; refine Calls.mono (eqI_any _ _ _ _ _ _ ho48 ho28 hll) ?_; rintro e w9 ⟨rfl, k9⟩)
      go_wp2_with (fail)
      (go_at_call 22; refine Calls.mono (markIntS_any _ _ _ _ 1 _ (ho48.kept k9) hll (by decide) (by decide)) ?_; rintro e w10 ⟨rfl, ho10, g10⟩)
      have K10 := (K8.trans k9).grown g10 fun k hk => Nat.le_trans s3 (ho4.lt k hk).1
      go_wp2_with (fail)
      (go_at_call 23; refine Calls.mono (heldIntS_any _ _ _ 1 _ ho10 hll (by decide) (by decide)) ?_; rintro e w11 ⟨rfl, k11⟩)
      have K11 := K10.trans k11
      obtain ⟨A110, A111, A112, A113, A114, A115⟩ := bA.out _ K11
      go_wp2_with (fail)
      clear A111 A112 A113 A114 A115
      (go_at_call 11; refine Calls.mono (toGame_any s n _ _ _ _ _ _ laid scores wrong _ (hxH.out _ K11) (hyH.out _ K11) (hzH.out _ K11) m1 m2 m3) ?_; rintro e w12 ⟨lo12, lc12, so12, sc12, wo12, wc12, rfl, p12, q12, r12, a12, b12, c12, k12⟩)
      obtain ⟨_, _, hv, x12, n12⟩ := p12.reads
      cases hv
      obtain ⟨_, _, hv, y12, _⟩ := q12.reads
      cases hv
      obtain ⟨_, _, hv, z12, _⟩ := r12.reads
      cases hv
      go_wp2_with (fail)
      (go_at_call 19; refine Calls.mono (hI _ _ _ _ _ _ _ x12 y12 z12 n12) ?_; rintro e w13 ⟨v13, rfl, ho13, k13⟩)
      have ho213 := (((ho28.kept k9).grown g10 n24).kept (k11.trans (k12.trans k13)))
      go_wp2_with (fail)
      (go_at_call 20; refine Calls.mono (eqI_any _ _ _ _ _ _ ho13 ho213 hll) ?_; rintro e w14 ⟨rfl, k14⟩)
      go_wp2_with (fail)
      (go_at_call 23; refine Calls.mono (heldIntS_any _ _ _ 1 _ (row_kept ho10 (k11.trans (k12.trans (k13.trans k14)))) hll (by decide) (by decide)) ?_; rintro e w15 ⟨rfl, k15⟩)
      go_wp2_with (fail)
      go_ret
      exact ⟨rfl, KH.out _ (K11.trans (k12.trans (k13.trans (k14.trans k15))))⟩
  · go_enter Try.func6, Try.ntmps6
    go_wp2_with (first | (go_at_call 9; refine Calls.mono (hsz.out _) ?_; rintro e w' ⟨rfl, y, rfl⟩))
    go_ret
    exact ⟨rfl, (by (try simp only [ext_ext]); repeat (first | exact Kept.refl _ | apply Kept.alloc | apply Kept.drew | apply kept_add | apply Kept.ext))⟩
end Go.Proofs.Ytifkjbihmmdnbab
