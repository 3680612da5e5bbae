/- Contracts: the middles of four cards. -/
import Derived.Test.YtenmnipgnjaheaaT76
import Derived.Test.YtenmnipgnjaheaaT60
import Derived.Test.YtenmnipgnjaheaaT26
import Derived.Test.YtenmnipgnjaheaaT23
import Derived.Deep.CutRange
import Derived.Deep.RegionHeld
namespace Go.Proofs.Ytenmnipgnjaheaa
open Go.RowKit
def mid1 (x y z t : Card) : List Card := if thirdC x y = thirdC z t then [thirdC x y] else []
theorem mid1_yes {x y z t : Card} (h : decide (thirdC x y = thirdC z t) = true) : mid1 x y z t = [thirdC x y] := by unfold mid1; rw [if_pos (of_decide_eq_true h)]
theorem mid1_no {x y z t : Card} (h : decide (thirdC x y = thirdC z t) = false) : mid1 x y z t = [] := by unfold mid1; rw [if_neg (of_decide_eq_false h)]
/-- The middles of four cards, in the order in which they are found. -/
def midL (a b c d : Card) : List Card := mid1 a b c d ++ mid1 a c b d ++ mid1 a d b c
theorem mid1_card {x y z t : Card} (hx : isCard x = true) (hy : isCard y = true) : ∀ m ∈ mid1 x y z t, isCard m = true := fun m hm => by
  unfold mid1 at hm
  split at hm
  · simp at hm; rw [hm]; exact isCard_third hx hy
  · simp at hm
theorem midL_card {a b c d : Card} (ha : isCard a = true) (hb : isCard b = true) (hc : isCard c = true) (hd : isCard d = true) : ∀ m ∈ midL a b c d, isCard m = true := fun m hm => by
  simp only [midL, List.mem_append] at hm
  rcases hm with (h | h) | h
  · exact mid1_card ha hb m h
  · exact mid1_card ha hc m h
  · exact mid1_card ha hd m h
theorem third_inj {a b c : Card} (ha : isCard a = true) (hb : isCard b = true) (hc : isCard c = true) (h : thirdC a b = thirdC a c) : b = c := by
  have h1 := (third_back ha hb (z := thirdC a b) rfl).1
  have h2 := (third_back ha hc (z := thirdC a c) rfl).1
  rw [← h1, ← h2, h]
theorem mid1_sub {x y z t m : Card} (h : m ∈ mid1 x y z t) : m = thirdC x y := by
  unfold mid1 at h
  split at h
  · simpa using h
  · simp at h
theorem mid1_nodup (x y z t : Card) : (mid1 x y z t).Nodup := by unfold mid1; split <;> simp
theorem midL_dist {a b c d : Card} (ha : isCard a = true) (hb : isCard b = true) (hc : isCard c = true) (hd : isCard d = true) (n1 : b ≠ c) (n2 : b ≠ d) (n3 : c ≠ d) : distC (midL a b c d) := by
  rw [distC_nodup]
  unfold midL
  rw [List.nodup_append, List.nodup_append]
  refine ⟨⟨mid1_nodup _ _ _ _, mid1_nodup _ _ _ _, fun x hx y hy e => ?_⟩, mid1_nodup _ _ _ _, fun x hx y hy e => ?_⟩
  · exact n1 (third_inj ha hb hc (by rw [← mid1_sub hx, ← mid1_sub hy, e]))
  · rw [List.mem_append] at hx
    rcases hx with hx | hx
    · exact n2 (third_inj ha hb hd (by rw [← mid1_sub hx, ← mid1_sub hy, e]))
    · exact n3 (third_inj ha hc hd (by rw [← mid1_sub hx, ← mid1_sub hy, e]))
theorem mid1_len (x y z t : Card) : (mid1 x y z t).length ≤ 1 := by unfold mid1; split <;> simp
theorem midL_len (a b c d : Card) : (midL a b c d).length ≤ 3 := by
  have h1 := mid1_len a b c d
  have h2 := mid1_len a c b d
  have h3 := mid1_len a d b c
  simp only [midL, List.length_append]; omega
theorem srt_put {xs : List Card} (hc : ∀ c ∈ xs, isCard c = true) (c : Card) : srt (c :: srt xs) = srt (xs ++ [c]) := srt_congr fun d => by
  rw [List.mem_cons, srt_mem hc, List.mem_append, List.mem_singleton]
  exact ⟨fun h => h.elim .inr .inl, fun h => h.elim .inr .inl⟩
theorem boxes4 (w W : World) (a b c d : Card) (hW : W = ((((w.alloc (.cells #[.int .i64 a.a, .int .i64 a.b, .int .i64 a.c, .int .i64 a.d] 48)).alloc (.cells #[.int .i64 b.a, .int .i64 b.b, .int .i64 b.c, .int .i64 b.d] 48)).alloc (.cells #[.int .i64 c.a, .int .i64 c.b, .int .i64 c.c, .int .i64 c.d] 48)).alloc (.cells #[.int .i64 d.a, .int .i64 d.b, .int .i64 d.c, .int .i64 d.d] 48))) : ∀ w', Kept W w' → w'.cell? ⟨w.heap.size, 0, none⟩ = some (.int .i64 a.a) ∧ w'.cell? ⟨w.heap.size, 1, none⟩ = some (.int .i64 a.b) ∧ w'.cell? ⟨w.heap.size, 2, none⟩ = some (.int .i64 a.c) ∧ w'.cell? ⟨w.heap.size, 3, none⟩ = some (.int .i64 a.d) ∧ w'.cell? ⟨w.heap.size + 1, 0, none⟩ = some (.int .i64 b.a) ∧ w'.cell? ⟨w.heap.size + 1, 1, none⟩ = some (.int .i64 b.b) ∧ w'.cell? ⟨w.heap.size + 1, 2, none⟩ = some (.int .i64 b.c) ∧ w'.cell? ⟨w.heap.size + 1, 3, none⟩ = some (.int .i64 b.d) ∧ w'.cell? ⟨w.heap.size + 1 + 1, 0, none⟩ = some (.int .i64 c.a) ∧ w'.cell? ⟨w.heap.size + 1 + 1, 1, none⟩ = some (.int .i64 c.b) ∧ w'.cell? ⟨w.heap.size + 1 + 1, 2, none⟩ = some (.int .i64 c.c) ∧ w'.cell? ⟨w.heap.size + 1 + 1, 3, none⟩ = some (.int .i64 c.d) ∧ w'.cell? ⟨w.heap.size + 1 + 1 + 1, 0, none⟩ = some (.int .i64 d.a) ∧ w'.cell? ⟨w.heap.size + 1 + 1 + 1, 1, none⟩ = some (.int .i64 d.b) ∧ w'.cell? ⟨w.heap.size + 1 + 1 + 1, 2, none⟩ = some (.int .i64 d.c) ∧ w'.cell? ⟨w.heap.size + 1 + 1 + 1, 3, none⟩ = some (.int .i64 d.d) ∧ w.heap.size < w'.heap.size ∧ w.heap.size + 1 < w'.heap.size ∧ w.heap.size + 1 + 1 < w'.heap.size ∧ w.heap.size + 1 + 1 + 1 < w'.heap.size := fun w' hk => by
  subst hW
  have hb := hk.below
  have hs : w.heap.size + 1 + 1 + 1 + 1 ≤ w'.heap.size := by have := hb.size; simpa using this
  obtain ⟨a0, b0, c0, d0⟩ := ckX (w := (w.alloc (.cells #[.int .i64 a.a, .int .i64 a.b, .int .i64 a.c, .int .i64 a.d] 48))) (g := w.heap.size) (o := 0) (cardCells_new a (by simp)) (by simp) (show Kept (w.alloc (.cells #[.int .i64 a.a, .int .i64 a.b, .int .i64 a.c, .int .i64 a.d] 48)) w' from ((((Kept.refl _).alloc _).alloc _).alloc _).trans hk)
  obtain ⟨a1, b1, c1, d1⟩ := ckX (w := ((w.alloc (.cells #[.int .i64 a.a, .int .i64 a.b, .int .i64 a.c, .int .i64 a.d] 48)).alloc (.cells #[.int .i64 b.a, .int .i64 b.b, .int .i64 b.c, .int .i64 b.d] 48))) (g := w.heap.size + 1) (o := 0) (cardCells_new b (by simp)) (by simp) (show Kept ((w.alloc (.cells #[.int .i64 a.a, .int .i64 a.b, .int .i64 a.c, .int .i64 a.d] 48)).alloc (.cells #[.int .i64 b.a, .int .i64 b.b, .int .i64 b.c, .int .i64 b.d] 48)) w' from (((Kept.refl _).alloc _).alloc _).trans hk)
  obtain ⟨a2, b2, c2, d2⟩ := ckX (w := (((w.alloc (.cells #[.int .i64 a.a, .int .i64 a.b, .int .i64 a.c, .int .i64 a.d] 48)).alloc (.cells #[.int .i64 b.a, .int .i64 b.b, .int .i64 b.c, .int .i64 b.d] 48)).alloc (.cells #[.int .i64 c.a, .int .i64 c.b, .int .i64 c.c, .int .i64 c.d] 48))) (g := w.heap.size + 1 + 1) (o := 0) (cardCells_new c (by simp)) (by simp) (show Kept (((w.alloc (.cells #[.int .i64 a.a, .int .i64 a.b, .int .i64 a.c, .int .i64 a.d] 48)).alloc (.cells #[.int .i64 b.a, .int .i64 b.b, .int .i64 b.c, .int .i64 b.d] 48)).alloc (.cells #[.int .i64 c.a, .int .i64 c.b, .int .i64 c.c, .int .i64 c.d] 48)) w' from ((Kept.refl _).alloc _).trans hk)
  obtain ⟨a3, b3, c3, d3⟩ := ckX (w := ((((w.alloc (.cells #[.int .i64 a.a, .int .i64 a.b, .int .i64 a.c, .int .i64 a.d] 48)).alloc (.cells #[.int .i64 b.a, .int .i64 b.b, .int .i64 b.c, .int .i64 b.d] 48)).alloc (.cells #[.int .i64 c.a, .int .i64 c.b, .int .i64 c.c, .int .i64 c.d] 48)).alloc (.cells #[.int .i64 d.a, .int .i64 d.b, .int .i64 d.c, .int .i64 d.d] 48))) (g := w.heap.size + 1 + 1 + 1) (o := 0) (cardCells_new d (by simp)) (by simp) (show Kept ((((w.alloc (.cells #[.int .i64 a.a, .int .i64 a.b, .int .i64 a.c, .int .i64 a.d] 48)).alloc (.cells #[.int .i64 b.a, .int .i64 b.b, .int .i64 b.c, .int .i64 b.d] 48)).alloc (.cells #[.int .i64 c.a, .int .i64 c.b, .int .i64 c.c, .int .i64 c.d] 48)).alloc (.cells #[.int .i64 d.a, .int .i64 d.b, .int .i64 d.c, .int .i64 d.d] 48)) w' from (Kept.refl _).trans hk)
  exact ⟨a0, b0, c0, d0, a1, b1, c1, d1, a2, b2, c2, d2, a3, b3, c3, d3, by omega, by omega, by omega, by omega⟩
/-- A row of cards in order, in memory of its own. -/
def MidR (W : World) (L : List Card) (s : Value) (wx : World) : Prop := ∃ g cap n, s = .slice (some ⟨g, 0, none⟩) n cap ∧ (srt L).length = n ∧ OwnC W.heap.size wx s (srt L) ∧ Kept W wx
theorem MidR.put {W : World} {L : List Card} {w0 w' : World} {c : Card} {e : Ending} (hL : ∀ c ∈ L, isCard c = true) (k : Kept W w0) (h : RetP w0 (srt (c :: srt L)) e w') : ∃ s, e = .returned s ∧ MidR W (L ++ [c]) s w' := by
  obtain ⟨g, cap, rfl, ho, kk⟩ := h
  rw [srt_put hL] at ho ⊢
  exact ⟨_, rfl, g, cap, _, rfl, rfl, OwnC.mono ho k.below.size, k.trans kk⟩
set_option maxHeartbeats 1000000 in
set_option maxRecDepth 20000 in
theorem l10Middles_any (a b c d : Card) (ha : isCard a = true) (hb : isCard b = true) (hc : isCard c = true) (hd : isCard d = true) (w : World) :
    Calls Try.prog 29 #[a.v, b.v, c.v, d.v] w (RetC w (srt (midL a b c d))) := by
  obtain ⟨W, hW⟩ : ∃ W, W = ((((w.alloc (.cells #[.int .i64 a.a, .int .i64 a.b, .int .i64 a.c, .int .i64 a.d] 48)).alloc (.cells #[.int .i64 b.a, .int .i64 b.b, .int .i64 b.c, .int .i64 b.d] 48)).alloc (.cells #[.int .i64 c.a, .int .i64 c.b, .int .i64 c.c, .int .i64 c.d] 48)).alloc (.cells #[.int .i64 d.a, .int .i64 d.b, .int .i64 d.c, .int .i64 d.d] 48)) := ⟨_, rfl⟩
  have hS := hid (boxes4 w W a b c d hW)
  have kW := hid (show Kept w W by rw [hW]; exact (by (try simp only [ext_ext]); repeat (first | exact Kept.refl _ | apply Kept.alloc | apply Kept.drew | apply kept_add | apply Kept.ext)))
  have hsz := hid (show W.heap.size = w.heap.size + 1 + 1 + 1 + 1 by rw [hW]; simp)
  have hWH := hid hW
  have hM := hid (show midL a b c d = ([] ++ mid1 a b c d ++ mid1 a c b d ++ mid1 a d b c) from rfl)
  have hT0 := fun x y hx hy w' => l2Third_any x y hx hy w'
  obtain ⟨th, hth0⟩ : ∃ th, th = thirdC := ⟨_, rfl⟩
  have hth := hid hth0
  rw [← hth0] at hT0
  have hT := hid hT0
  clear hW hT0 hth0
  go_enter Try.func29, Try.ntmps29
  go_upto_region 2 with (fail)
  rw [← hWH.out]
  have h0 : MidR W [] (.slice (some ⟨W.heap.size, 0, none⟩) 0 0) (W.alloc (.cells #[] 48)) := ⟨_, _, _, rfl, by rw [srt_nil]; rfl, by rw [srt_nil]; exact ownC_nil (Nat.le_refl _) (heap_at rfl), (by (try simp only [ext_ext]); repeat (first | exact Kept.refl _ | apply Kept.alloc | apply Kept.drew | apply kept_add | apply Kept.ext))⟩
  simp only [hsz.out] at h0
  have hcut0 := hid h0
  clear h0
  obtain ⟨wc, hwc⟩ : ∃ wc, wc = W.alloc (.cells #[] 48) := ⟨_, rfl⟩
  rw [← hwc] at hcut0 ⊢
  have hcut := hcut0.out
  clear hwc
  clear hcut0
  generalize hs9 : Value.slice (some ⟨w.heap.size + 1 + 1 + 1 + 1, 0, none⟩) 0 0 = s9 at hcut ⊢
  clear hs9
  obtain ⟨g9, cap9, n9, rfl, hn9, ho9, k9⟩ := hcut
  obtain ⟨q0, q1, q2, q3, q4, q5, q6, q7, q8, q9, q10, q11, q12, q13, q14, q15, q16, q17, q18, q19⟩ := hS.out _ k9
  have hLc : ∀ m ∈ [], isCard m = true := fun m hm => by
    simp only [List.mem_append, List.not_mem_nil, false_or, or_false] at hm
    done
  have hll : (srt []).length ≤ 81 := srt_len _
  have hcap9 : n9 ≤ cap9 := by
    obtain ⟨_, _, hv, _, hl⟩ := ho9.reads
    cases hv; rw [hn9] at hl; exact hl
  have hx9 : CardsAt wc (some ⟨g9, 0, none⟩) (srt []) := by
    obtain ⟨_, _, hv, hx, _⟩ := ho9.reads
    cases hv; exact hx
  have hP := hid (fun w' (hk : Kept wc w') => l2Put_any g9 0 cap9 n9 (srt []) (thirdC a b) w' (hx9.kept hk) hn9 (fun m hm => hLc m ((srt_mem hLc m).1 hm)) (srt_asc _) (isCard_third ha hb) (by omega) hcap9)
  have ho9H := hid ho9
  have k9H := hid k9
  have hn9H := hid hn9
  have hLcH := hid hLc
  have hmy := hid (fun h => mid1_yes (x := a) (y := b) (z := c) (t := d) h)
  have hmn := hid (fun h => mid1_no (x := a) (y := b) (z := c) (t := d) h)
  rw [← hth.out] at hmy hmn hP
  obtain ⟨e, he⟩ : ∃ e, e = decide (th a b = th c d) := ⟨_, rfl⟩
  have heH := hid he
  clear hx9 ho9 k9 hLc hn9 hll he
  go_upto_if 17 with (first | (refine wp_region_ext (by kernel_rfl) (by kernel_rfl) ?_; (repeat (go_big_quiet_step (((first | (go_at_call 36; first | exact ext_call (hT.out _ _ (by assumption) (by assumption) _) | exact ext_call2 (hT.out _ _ (by assumption) (by assumption) _))))))); refine wpQuiet_end fun z => ?_))
  try rw [← heH.out]
  go_cut [9] from 10 (fun s9 wx => MidR W ([] ++ mid1 a b c d) s9 wx)
  case first =>
    cases e with
    | true =>
      have h1 := hid (hmy.out heH.out.symm)
      go_wp2_with (first | (go_at_call 36; refine Calls.mono (hT.out _ _ (by assumption) (by assumption) _) ?_; rintro e w' ⟨rfl, y, rfl⟩))
      (go_at_call 60; refine Calls.mono (hP.out _ (by (try simp only [ext_ext]); repeat (first | assumption | exact Kept.refl _ | apply Kept.alloc | apply Kept.drew | apply kept_add | apply Kept.ext))) ?_; rintro e w9 hr)
      obtain ⟨s, rfl, hm⟩ := MidR.put hLcH.out (k9H.out.trans (by (try simp only [ext_ext]); repeat (first | assumption | exact Kept.refl _ | apply Kept.alloc | apply Kept.drew | apply kept_add | apply Kept.ext))) hr
      obtain ⟨g8, cap8, n8, rfl, hn8, ho8, k8⟩ := hm
      go_wp2_with (fail)
      go_meet
      case rel => exact ⟨g8, cap8, n8, rfl, by rw [h1.out]; exact hn8, by rw [h1.out]; exact ho8, k8⟩
    | false =>
      have h1 := hid (hmn.out heH.out.symm)
      go_wp2_with (fail)
      go_meet
      case rel => exact ⟨g9, cap9, n9, rfl, by rw [h1.out, List.append_nil]; exact hn9H.out, by rw [h1.out, List.append_nil]; exact ho9H.out.kept (by (try simp only [ext_ext]); repeat (first | assumption | exact Kept.refl _ | apply Kept.alloc | apply Kept.drew | apply kept_add | apply Kept.ext)), k9H.out.trans (by (try simp only [ext_ext]); repeat (first | assumption | exact Kept.refl _ | apply Kept.alloc | apply Kept.drew | apply kept_add | apply Kept.ext))⟩
  case rest =>
  clear hP ho9H k9H hn9H hLcH heH e hmy hmn
  clear q0 q1 q2 q3 q4 q5 q6 q7 q8 q9 q10 q11 q12 q13 q14 q15 q16 q17 q18 q19
  obtain ⟨g9, cap9, n9, rfl, hn9, ho9, k9⟩ := hcut
  obtain ⟨q0, q1, q2, q3, q4, q5, q6, q7, q8, q9, q10, q11, q12, q13, q14, q15, q16, q17, q18, q19⟩ := hS.out _ k9
  have hLc : ∀ m ∈ ([] ++ mid1 a b c d), isCard m = true := fun m hm => by
    simp only [List.mem_append, List.not_mem_nil, false_or, or_false] at hm
    exact mid1_card ha hb m hm
  have hll : (srt ([] ++ mid1 a b c d)).length ≤ 81 := srt_len _
  have hcap9 : n9 ≤ cap9 := by
    obtain ⟨_, _, hv, _, hl⟩ := ho9.reads
    cases hv; rw [hn9] at hl; exact hl
  have hx9 : CardsAt wc (some ⟨g9, 0, none⟩) (srt ([] ++ mid1 a b c d)) := by
    obtain ⟨_, _, hv, hx, _⟩ := ho9.reads
    cases hv; exact hx
  have hP := hid (fun w' (hk : Kept wc w') => l2Put_any g9 0 cap9 n9 (srt ([] ++ mid1 a b c d)) (thirdC a c) w' (hx9.kept hk) hn9 (fun m hm => hLc m ((srt_mem hLc m).1 hm)) (srt_asc _) (isCard_third ha hc) (by omega) hcap9)
  have ho9H := hid ho9
  have k9H := hid k9
  have hn9H := hid hn9
  have hLcH := hid hLc
  have hmy := hid (fun h => mid1_yes (x := a) (y := c) (z := b) (t := d) h)
  have hmn := hid (fun h => mid1_no (x := a) (y := c) (z := b) (t := d) h)
  rw [← hth.out] at hmy hmn hP
  obtain ⟨e, he⟩ : ∃ e, e = decide (th a c = th b d) := ⟨_, rfl⟩
  have heH := hid he
  clear hx9 ho9 k9 hLc hn9 hll he
  go_upto_if 29 with (first | (refine wp_region_ext (by kernel_rfl) (by kernel_rfl) ?_; (repeat (go_big_quiet_step (((first | (go_at_call 36; first | exact ext_call (hT.out _ _ (by assumption) (by assumption) _) | exact ext_call2 (hT.out _ _ (by assumption) (by assumption) _))))))); refine wpQuiet_end fun z => ?_))
  try rw [← heH.out]
  go_cut [9] from 10 (fun s9 wx => MidR W (([] ++ mid1 a b c d) ++ mid1 a c b d) s9 wx)
  case first =>
    cases e with
    | true =>
      have h1 := hid (hmy.out heH.out.symm)
      go_wp2_with (first | (go_at_call 36; refine Calls.mono (hT.out _ _ (by assumption) (by assumption) _) ?_; rintro e w' ⟨rfl, y, rfl⟩))
      (go_at_call 60; refine Calls.mono (hP.out _ (by (try simp only [ext_ext]); repeat (first | assumption | exact Kept.refl _ | apply Kept.alloc | apply Kept.drew | apply kept_add | apply Kept.ext))) ?_; rintro e w9 hr)
      obtain ⟨s, rfl, hm⟩ := MidR.put hLcH.out (k9H.out.trans (by (try simp only [ext_ext]); repeat (first | assumption | exact Kept.refl _ | apply Kept.alloc | apply Kept.drew | apply kept_add | apply Kept.ext))) hr
      obtain ⟨g8, cap8, n8, rfl, hn8, ho8, k8⟩ := hm
      go_wp2_with (fail)
      go_meet
      case rel => exact ⟨g8, cap8, n8, rfl, by rw [h1.out]; exact hn8, by rw [h1.out]; exact ho8, k8⟩
    | false =>
      have h1 := hid (hmn.out heH.out.symm)
      go_wp2_with (fail)
      go_meet
      case rel => exact ⟨g9, cap9, n9, rfl, by rw [h1.out, List.append_nil]; exact hn9H.out, by rw [h1.out, List.append_nil]; exact ho9H.out.kept (by (try simp only [ext_ext]); repeat (first | assumption | exact Kept.refl _ | apply Kept.alloc | apply Kept.drew | apply kept_add | apply Kept.ext)), k9H.out.trans (by (try simp only [ext_ext]); repeat (first | assumption | exact Kept.refl _ | apply Kept.alloc | apply Kept.drew | apply kept_add | apply Kept.ext))⟩
  case rest =>
  clear hP ho9H k9H hn9H hLcH heH e hmy hmn
  clear q0 q1 q2 q3 q4 q5 q6 q7 q8 q9 q10 q11 q12 q13 q14 q15 q16 q17 q18 q19
  obtain ⟨g9, cap9, n9, rfl, hn9, ho9, k9⟩ := hcut
  obtain ⟨q0, q1, q2, q3, q4, q5, q6, q7, q8, q9, q10, q11, q12, q13, q14, q15, q16, q17, q18, q19⟩ := hS.out _ k9
  have hLc : ∀ m ∈ (([] ++ mid1 a b c d) ++ mid1 a c b d), isCard m = true := fun m hm => by
    simp only [List.mem_append, List.not_mem_nil, false_or, or_false] at hm
    rcases hm with hm | hm
    · exact mid1_card ha hb m hm
    · exact mid1_card ha hc m hm
  have hll : (srt (([] ++ mid1 a b c d) ++ mid1 a c b d)).length ≤ 81 := srt_len _
  have hcap9 : n9 ≤ cap9 := by
    obtain ⟨_, _, hv, _, hl⟩ := ho9.reads
    cases hv; rw [hn9] at hl; exact hl
  have hx9 : CardsAt wc (some ⟨g9, 0, none⟩) (srt (([] ++ mid1 a b c d) ++ mid1 a c b d)) := by
    obtain ⟨_, _, hv, hx, _⟩ := ho9.reads
    cases hv; exact hx
  have hP := hid (fun w' (hk : Kept wc w') => l2Put_any g9 0 cap9 n9 (srt (([] ++ mid1 a b c d) ++ mid1 a c b d)) (thirdC a d) w' (hx9.kept hk) hn9 (fun m hm => hLc m ((srt_mem hLc m).1 hm)) (srt_asc _) (isCard_third ha hd) (by omega) hcap9)
  have ho9H := hid ho9
  have k9H := hid k9
  have hn9H := hid hn9
  have hLcH := hid hLc
  have hmy := hid (fun h => mid1_yes (x := a) (y := d) (z := b) (t := c) h)
  have hmn := hid (fun h => mid1_no (x := a) (y := d) (z := b) (t := c) h)
  rw [← hth.out] at hmy hmn hP
  obtain ⟨e, he⟩ : ∃ e, e = decide (th a d = th b c) := ⟨_, rfl⟩
  have heH := hid he
  clear hx9 ho9 k9 hLc hn9 hll he
  go_upto_if 41 with (first | (refine wp_region_ext (by kernel_rfl) (by kernel_rfl) ?_; (repeat (go_big_quiet_step (((first | (go_at_call 36; first | exact ext_call (hT.out _ _ (by assumption) (by assumption) _) | exact ext_call2 (hT.out _ _ (by assumption) (by assumption) _))))))); refine wpQuiet_end fun z => ?_))
  try rw [← heH.out]
  go_cut [9] from 10 (fun s9 wx => MidR W ((([] ++ mid1 a b c d) ++ mid1 a c b d) ++ mid1 a d b c) s9 wx)
  case first =>
    cases e with
    | true =>
      have h1 := hid (hmy.out heH.out.symm)
      go_wp2_with (first | (go_at_call 36; refine Calls.mono (hT.out _ _ (by assumption) (by assumption) _) ?_; rintro e w' ⟨rfl, y, rfl⟩))
      (go_at_call 60; refine Calls.mono (hP.out _ (by (try simp only [ext_ext]); repeat (first | assumption | exact Kept.refl _ | apply Kept.alloc | apply Kept.drew | apply kept_add | apply Kept.ext))) ?_; rintro e w9 hr)
      obtain ⟨s, rfl, hm⟩ := MidR.put hLcH.out (k9H.out.trans (by (try simp only [ext_ext]); repeat (first | assumption | exact Kept.refl _ | apply Kept.alloc | apply Kept.drew | apply kept_add | apply Kept.ext))) hr
      obtain ⟨g8, cap8, n8, rfl, hn8, ho8, k8⟩ := hm
      go_wp2_with (fail)
      go_meet
      case rel => exact ⟨g8, cap8, n8, rfl, by rw [h1.out]; exact hn8, by rw [h1.out]; exact ho8, k8⟩
    | false =>
      have h1 := hid (hmn.out heH.out.symm)
      go_wp2_with (fail)
      go_meet
      case rel => exact ⟨g9, cap9, n9, rfl, by rw [h1.out, List.append_nil]; exact hn9H.out, by rw [h1.out, List.append_nil]; exact ho9H.out.kept (by (try simp only [ext_ext]); repeat (first | assumption | exact Kept.refl _ | apply Kept.alloc | apply Kept.drew | apply kept_add | apply Kept.ext)), k9H.out.trans (by (try simp only [ext_ext]); repeat (first | assumption | exact Kept.refl _ | apply Kept.alloc | apply Kept.drew | apply kept_add | apply Kept.ext))⟩
  case rest =>
  clear hP ho9H k9H hn9H hLcH heH e hmy hmn
  clear q0 q1 q2 q3 q4 q5 q6 q7 q8 q9 q10 q11 q12 q13 q14 q15 q16 q17 q18 q19
  obtain ⟨g9, cap9, n9, rfl, hn9, ho9, k9⟩ := hcut
  have ho9H := hid ho9
  have k9H := hid k9
  clear ho9 k9
  go_wp2
  refine bodyPost_ret (v := .slice (some ⟨g9, 0, none⟩) n9 cap9) (by simp [results, Try.results29, go_sem]) rfl ?_
  rw [hM.out]
  exact ⟨_, rfl, OwnC.mono ho9H.out (by have := hsz.out; omega), kW.out.trans k9H.out⟩
end Go.Proofs.Ytenmnipgnjaheaa
