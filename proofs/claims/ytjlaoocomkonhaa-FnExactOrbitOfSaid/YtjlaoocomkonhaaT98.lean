/- Orbits of a card under a map. -/
import Derived.Test.YtjlaoocomkonhaaT97
import Derived.Test.YtjlaoocomkonhaaT24
namespace Go.Proofs.Ytjlaoocomkonhaa
open Go.RowKit
def itC (im : Card → Card) : Nat → Card → Card
  | 0, c => c
  | k + 1, c => im (itC im k c)
theorem itC_card {im : Card → Card} (h : ∀ c, isCard c = true → isCard (im c) = true) (k : Nat) {c : Card} (hc : isCard c = true) : isCard (itC im k c) = true := by
  induction k with
  | zero => exact hc
  | succ k ih => exact h _ ih
theorem itC_back {im : Card → Card} (h : ∀ c, isCard c = true → isCard (im c) = true) (hi : ∀ c d, isCard c = true → isCard d = true → im c = im d → c = d) {c : Card} (hc : isCard c = true) (i d : Nat) (e : itC im i c = itC im (i + d) c) : itC im d c = c := by
  induction i with
  | zero => rw [Nat.zero_add] at e; exact e.symm
  | succ i ih =>
    refine ih (hi _ _ (itC_card h i hc) (itC_card h (i + d) hc) ?_)
    have e2 : i + 1 + d = i + d + 1 := by omega
    rw [e2] at e
    exact e
theorem least_of (P : Nat → Prop) : ∀ n, (∃ p, 1 ≤ p ∧ p ≤ n ∧ P p) → ∃ p, 1 ≤ p ∧ p ≤ n ∧ P p ∧ ∀ k, 1 ≤ k → k < p → ¬ P k
  | 0, ⟨p, h1, h2, _⟩ => by omega
  | n + 1, ⟨p, h1, h2, h3⟩ => by
    by_cases h : ∃ q, 1 ≤ q ∧ q ≤ n ∧ P q
    · obtain ⟨q, a, b, c, d⟩ := least_of P n h
      exact ⟨q, a, by omega, c, d⟩
    · refine ⟨p, h1, h2, h3, fun k hk hkp hP => h ⟨k, hk, by omega, hP⟩⟩
theorem dup_of_not_nodup (g : Nat → Card) : ∀ n, ¬ ((List.range n).map g).Nodup → ∃ i j, i < j ∧ j < n ∧ g i = g j
  | 0, h => absurd List.nodup_nil h
  | n + 1, h => by
    by_cases hn : ((List.range n).map g).Nodup
    · rw [List.range_succ, List.map_append] at h
      have hm : g n ∈ (List.range n).map g := by
        refine Classical.byContradiction fun hm => h ?_
        refine List.nodup_append.2 ⟨hn, by simp, fun a ha b hb => ?_⟩
        simp at hb
        subst hb
        exact fun e => hm (e ▸ ha)
      obtain ⟨i, hi, e⟩ := List.mem_map.1 hm
      exact ⟨i, n, List.mem_range.1 hi, by omega, e⟩
    · obtain ⟨i, j, a, b, c⟩ := dup_of_not_nodup g n hn
      exact ⟨i, j, a, by omega, c⟩
theorem orbit_len {im : Card → Card} (h : ∀ c, isCard c = true → isCard (im c) = true) (hi : ∀ c d, isCard c = true → isCard d = true → im c = im d → c = d) {c : Card} (hc : isCard c = true) :
    ∃ p, 1 ≤ p ∧ p ≤ 81 ∧ itC im p c = c ∧ ∀ k, 1 ≤ k → k < p → itC im k c ≠ c := by
  refine least_of (fun p => itC im p c = c) 81 ?_
  have hd : ¬ ((List.range 82).map fun k => itC im k c).Nodup := fun hn => by
    have h1 := srt_len_nodup (xs := (List.range 82).map fun k => itC im k c) (fun x hx => by
      obtain ⟨k, _, rfl⟩ := List.mem_map.1 hx
      exact itC_card h k hc) hn
    have h2 := srt_len2 ((List.range 82).map fun k => itC im k c)
    rw [h1, List.length_map, List.length_range] at h2
    omega
  obtain ⟨i, j, a, b, e⟩ := dup_of_not_nodup _ _ hd
  obtain ⟨d, rfl⟩ : ∃ d, j = i + d := ⟨j - i, by omega⟩
  exact ⟨d, by omega, by omega, itC_back h hi hc i d e⟩
/-- The numbers of the first cards of an orbit. -/
def orL (im : Card → Card) (c : Card) (k : Nat) : List Int := (List.range k).map fun i => numC (itC im i c)
theorem orL_next (im : Card → Card) (c : Card) (k : Nat) : orL im c (k + 1) = orL im c k ++ [numC (itC im k c)] := by simp [orL, List.range_succ]
theorem orL_len (im : Card → Card) (c : Card) (k : Nat) : (orL im c k).length = k := by simp [orL]
theorem ownI_one {B g : Nat} {w : World} {z : Int} (hB : B ≤ g) (h : w.heap[g]? = some (.cells #[.int .i64 z] 3 (0, 0))) : OwnI B w (.slice (some ⟨g, 0, none⟩) 1 1) [z] :=
  ⟨rfl, .inr ⟨g, 1, #[.int .i64 z], rfl, hB, h, Nat.le_refl _, by unfold maxLen; omega, rfl, by simp⟩⟩
def lenOf : Value → Nat
  | .slice _ n _ => n
  | _ => 0
set_option maxHeartbeats 1000000 in
set_option maxRecDepth 20000 in
theorem l5Orbit_any (f : Nat → Int) (c : Card) (p : Nat) (hm : mapB f = true) (hc : isCard c = true) (h1 : 1 ≤ p) (h81 : p ≤ 81) (hp : itC (imgC f) p c = c) (hmin : ∀ k, 1 ≤ k → k < p → itC (imgC f) k c ≠ c) (w : World) :
    Calls Try.prog 48 #[mpv f, c.v] w (RetI w (orL (imgC f) c p)) := by
  have hT0 := fun x (hx : isCard x = true) w' => l5Card_any f x hm hx w'
  have hcc := fun k => itC_card (im := imgC f) (fun x hx => isCard_img hm hx) k hc
  obtain ⟨im, him⟩ : ∃ im, im = imgC f := ⟨_, rfl⟩
  rw [← him] at hT0 hp hmin hcc ⊢
  have hT := hid hT0
  have hccH := hid hcc
  have hpH := hid hp
  have hminH := hid hmin
  obtain ⟨W, hW⟩ : ∃ W, W = (w.alloc (.cells #[.int .i64 (f 0), .int .i64 (f 1), .int .i64 (f 2), .int .i64 (f 3), .int .i64 (f 4), .int .i64 (f 5), .int .i64 (f 6), .int .i64 (f 7), .int .i64 (f 8), .int .i64 (f 9), .int .i64 (f 10), .int .i64 (f 11), .int .i64 (f 12), .int .i64 (f 13), .int .i64 (f 14), .int .i64 (f 15)] 35)).alloc (.cells #[.int .i64 c.a, .int .i64 c.b, .int .i64 c.c, .int .i64 c.d] T4) := ⟨_, rfl⟩
  have hM := hid (fun w' (hk : Kept W w') => (show BoxM W w.heap.size f by rw [hW]; exact (BoxM.new f rfl).kept (by (try simp only [ext_ext]); repeat (first | exact Kept.refl _ | apply Kept.alloc | apply Kept.drew | apply kept_add | apply Kept.ext))).kept hk)
  have hC := hid (fun w' (hk : Kept W w') => ckX (w := W) (g := w.heap.size + 1) (o := 0) (by rw [hW]; exact cardCells_new c (by simp)) (by rw [hW]; simp) hk)
  have kw := hid (show Kept w W by rw [hW]; exact (by (try simp only [ext_ext]); repeat (first | exact Kept.refl _ | apply Kept.alloc | apply Kept.drew | apply kept_add | apply Kept.ext)))
  have hWs := hid (show W.heap.size = w.heap.size + 2 by rw [hW]; simp)
  have hWH := hid hW
  have hnum := hid (fun x (hx : isCard x = true) w' => l2Number_any x hx w')
  have hz1 := hid (orL_next im c 0)
  have hTc := hid (fun w' => hT.out c hc w')
  have hnc := hid (fun w' => hnum.out c hc w')
  have hcH := hid hc
  obtain ⟨y1, hy1⟩ : ∃ y1, y1 = im c := ⟨_, rfl⟩
  rw [← hy1] at hTc
  have hy1H := hid hy1
  clear hm hT0 him hW hp hmin hcc hc hy1
  go_enter Try.func48, Try.ntmps48
  go_upto_region 1 with (fail)
  rw [← hWH.out]
  have hsz := hWs.out
  have hM0 := hM.out W (Kept.refl W)
  have hgs := hM0.1
  obtain ⟨m0, m1, m2, m3, m4, m5, m6, m7, m8, m9, m10, m11, m12, m13, m14, m15⟩ := hM0.cells
  obtain ⟨c0, c1, c2, c3⟩ := hC.out W (Kept.refl W)
  clear hM0
  go_wp2_with (first | (go_at_call 63; refine Calls.mono (hnc.out _) ?_; rintro e w' ⟨rfl, y, rfl⟩) | (go_at_call 43; refine Calls.mono (hTc.out _) ?_; rintro e w' ⟨rfl, y, rfl⟩))
  rename_i ya _ _
  have hz0H := hid (show OwnI W.heap.size (ext ((ext W ya).alloc (.cells #[.int .i64 (numC c)] 3)) y) (.slice (some ⟨w.heap.size + 2 + ya.os.length, 0, none⟩) 1 1) (orL im c 1) from ownI_one (by omega) ((ext_heap _ _ _ (by simp; omega)).trans (heap_at (by simp; omega))))
  go_loopw [6, 5] (fun s6 s5 wr => ∃ k g6, ∃ y6 : Card, k + 1 ≤ p ∧ y6 = itC im (k + 1) c ∧ s6 = .pointer (some ⟨g6, 0, none⟩) ∧ wr.heap[g6]? = some (.cells #[.int .i64 y6.a, .int .i64 y6.b, .int .i64 y6.c, .int .i64 y6.d] T4 (0, 0)) ∧ W.heap.size ≤ g6 ∧ (∀ g, s5.ownBlock = some g → g ≠ g6) ∧ OwnI W.heap.size wr s5 (orL im c (k + 1)) ∧ Kept W wr) (fun _ s5 _ => p - lenOf s5)
  case atStart =>
    refine ⟨0, _, y1, h1, hy1H.out, rfl, heap_at (by simp; omega), by omega, fun g hg => ?_, hz0H.out.kept (by (try simp only [ext_ext]); repeat (first | exact Kept.refl _ | apply Kept.alloc | apply Kept.drew | apply kept_add | apply Kept.ext)), (by (try simp only [ext_ext]); repeat (first | exact Kept.refl _ | apply Kept.alloc | apply Kept.drew | apply kept_add | apply Kept.ext))⟩
    simp [Value.ownBlock] at hg
    omega
  case round =>
    obtain ⟨w0, hw0⟩ : ∃ w0, w0 = wr := ⟨_, rfl⟩
    subst hw0
    obtain ⟨k, g6, y6, hk, hy6, rfl, hB6, hg6, hne, hown, hkw⟩ := hrel
    have hownH := hid hown
    have hkwH := hid hkw
    have hneH := hid hne
    have hB6H := hid hB6
    have hM0 := hM.out w0 hkw
    have hgs0 := hM0.1
    obtain ⟨m0, m1, m2, m3, m4, m5, m6, m7, m8, m9, m10, m11, m12, m13, m14, m15⟩ := hM0.cells
    obtain ⟨c0, c1, c2, c3⟩ := hC.out w0 hkw
    have b0 : w0.cell? ⟨g6, 0, none⟩ = some (.int .i64 y6.a) := cell_of_row _ _ 0 _ _ (0, 0) hB6
    have b1 : w0.cell? ⟨g6, 1, none⟩ = some (.int .i64 y6.b) := cell_of_row _ _ 1 _ _ (0, 0) hB6
    have b2 : w0.cell? ⟨g6, 2, none⟩ = some (.int .i64 y6.c) := cell_of_row _ _ 2 _ _ (0, 0) hB6
    have b3 : w0.cell? ⟨g6, 3, none⟩ = some (.int .i64 y6.d) := cell_of_row _ _ 3 _ _ (0, 0) hB6
    have g6l : g6 < w0.heap.size := (Array.getElem?_eq_some_iff.1 hB6).1
    have hws : W.heap.size ≤ w0.heap.size := hkw.below.size
    have hll := hid (orL_len im c (k + 1))
    have hy6c := hccH.out (k + 1)
    rw [← hy6] at hy6c
    have hn6 := hid (fun w' => hnum.out y6 hy6c w')
    have hT6 := hid (fun w' => hT.out y6 hy6c w')
    have hn2 := hid (show orL im c (k + 1 + 1) = orL im c (k + 1) ++ [numC y6] by rw [orL_next, hy6])
    obtain ⟨ao, cap, rfl, _, _⟩ := hown.reads
    have hy6H := hid hy6
    clear hown hkw hM0 hne hB6 hy6
    cases hd : decide (y6 = c) with
    | true =>
      have hkp : k + 1 = p := by
        refine Nat.le_antisymm hk (Nat.not_lt.1 fun h => hminH.out (k + 1) (by omega) h ?_)
        rw [← hy6H.out]; exact of_decide_eq_true hd
      go_wp2
      refine bodyPost_ret (v := .slice ao (orL im c (k + 1)).length cap) (by simp [results, Try.results48, go_sem]) rfl ?_
      rw [← hkp]
      exact ⟨_, rfl, (hownH.out.kept (by (try simp only [ext_ext]); repeat (first | exact Kept.refl _ | apply Kept.alloc | apply Kept.drew | apply kept_add | apply Kept.ext))).mono kw.out.below.size, (kw.out.trans hkwH.out).trans (by (try simp only [ext_ext]); repeat (first | exact Kept.refl _ | apply Kept.alloc | apply Kept.drew | apply kept_add | apply Kept.ext))⟩
    | false =>
      have hkp : k + 1 < p := by
        refine Nat.lt_of_le_of_ne hk fun h => of_decide_eq_false hd ?_
        rw [hy6H.out, h]; exact hpH.out
      go_wp2_with (first | (go_at_call 63; refine Calls.mono (hn6.out _) ?_; rintro e w' ⟨rfl, y, rfl⟩) | (go_at_call 43; refine Calls.mono (hT6.out _) ?_; rintro e w' ⟨rfl, y, rfl⟩) | (at_builtin; refine wpList_append_int rfl _ _ rfl W W.heap.size _ _ rfl (hownH.out.kept (by (try simp only [ext_ext]); repeat (first | exact Kept.refl _ | apply Kept.alloc | apply Kept.drew | apply kept_add | apply Kept.ext))) (hkwH.out.trans (by (try simp only [ext_ext]); repeat (first | exact Kept.refl _ | apply Kept.alloc | apply Kept.drew | apply kept_add | apply Kept.ext))) (Nat.le_refl _) (by simp; omega) _ _ (numC y6) rfl (cell_of_row _ _ 0 _ _ (0, 0) (heap_at (by simp))) (by have := hll.out; omega) ?_; intro v' w' hown' hkw' hgr' hat'; have hB6' := hid ((hgr'.block g6 (by simp; omega) (fun e => hneH.out g6 e.symm rfl)).trans (((show Kept w0 _ from (by (try simp only [ext_ext]); repeat (first | exact Kept.refl _ | apply Kept.alloc | apply Kept.drew | apply kept_add | apply Kept.ext))).below.block g6 g6l).trans hB6H.out)); have hM1 := hM.out w' hkw'; have hgs1 := hM1.1; obtain ⟨n0, n1, n2, n3, n4, n5, n6, n7, n8, n9, n10, n11, n12, n13, n14, n15⟩ := hM1.cells; have d0 : w'.cell? ⟨g6, 0, none⟩ = some (.int .i64 y6.a) := cell_of_row _ _ 0 _ _ (0, 0) hB6'.out; have d1 : w'.cell? ⟨g6, 1, none⟩ = some (.int .i64 y6.b) := cell_of_row _ _ 1 _ _ (0, 0) hB6'.out; have d2 : w'.cell? ⟨g6, 2, none⟩ = some (.int .i64 y6.c) := cell_of_row _ _ 2 _ _ (0, 0) hB6'.out; have d3 : w'.cell? ⟨g6, 3, none⟩ = some (.int .i64 y6.d) := cell_of_row _ _ 3 _ _ (0, 0) hB6'.out; have g6l' : g6 < w'.heap.size :=(Array.getElem?_eq_some_iff.1 hB6'.out).1))
      go_roundw
      case rel =>
        refine ⟨k + 1, w'.heap.size, im y6, by omega, by rw [hy6H.out]; rfl, rfl, (ext_heap _ _ _ (by simp)).trans (heap_at rfl), hkw'.below.size, fun g hg => ?_, by rw [hn2.out]; exact hown'.kept (by (try simp only [ext_ext]); repeat (first | exact Kept.refl _ | apply Kept.alloc | apply Kept.drew | apply kept_add | apply Kept.ext)), hkw'.trans (by (try simp only [ext_ext]); repeat (first | exact Kept.refl _ | apply Kept.alloc | apply Kept.drew | apply kept_add | apply Kept.ext))⟩
        have := (hown'.lt g hg).2; omega
      case measure =>
        obtain ⟨_, _, e, _, _⟩ := hown'.reads
        rw [e]
        simp only [lenOf, List.length_append, orL_len, List.length_cons, List.length_nil]
        omega
set_option maxHeartbeats 1000000 in
set_option maxRecDepth 20000 in
theorem orbit_any (f : Nat → Int) (c : Card) (p : Nat) (hm : mapB f = true) (hc : isCard c = true) (h1 : 1 ≤ p) (h81 : p ≤ 81) (hp : itC (imgC f) p c = c) (hmin : ∀ k, 1 ≤ k → k < p → itC (imgC f) k c ≠ c) (w : World) :
    Calls Try.prog 50 #[mpv f, c.v] w (RetI w (orL (imgC f) c p)) := by
  have hT0 := fun x (hx : isCard x = true) w' => image_any f x hm hx w'
  have hcc := fun k => itC_card (im := imgC f) (fun x hx => isCard_img hm hx) k hc
  obtain ⟨im, him⟩ : ∃ im, im = imgC f := ⟨_, rfl⟩
  rw [← him] at hT0 hp hmin hcc ⊢
  have hT := hid hT0
  have hccH := hid hcc
  have hpH := hid hp
  have hminH := hid hmin
  obtain ⟨W, hW⟩ : ∃ W, W = (w.alloc (.cells #[.int .i64 (f 0), .int .i64 (f 1), .int .i64 (f 2), .int .i64 (f 3), .int .i64 (f 4), .int .i64 (f 5), .int .i64 (f 6), .int .i64 (f 7), .int .i64 (f 8), .int .i64 (f 9), .int .i64 (f 10), .int .i64 (f 11), .int .i64 (f 12), .int .i64 (f 13), .int .i64 (f 14), .int .i64 (f 15)] 35)).alloc (.cells #[.int .i64 c.a, .int .i64 c.b, .int .i64 c.c, .int .i64 c.d] T4) := ⟨_, rfl⟩
  have hM := hid (fun w' (hk : Kept W w') => (show BoxM W w.heap.size f by rw [hW]; exact (BoxM.new f rfl).kept (by (try simp only [ext_ext]); repeat (first | exact Kept.refl _ | apply Kept.alloc | apply Kept.drew | apply kept_add | apply Kept.ext))).kept hk)
  have hC := hid (fun w' (hk : Kept W w') => ckX (w := W) (g := w.heap.size + 1) (o := 0) (by rw [hW]; exact cardCells_new c (by simp)) (by rw [hW]; simp) hk)
  have kw := hid (show Kept w W by rw [hW]; exact (by (try simp only [ext_ext]); repeat (first | exact Kept.refl _ | apply Kept.alloc | apply Kept.drew | apply kept_add | apply Kept.ext)))
  have hWs := hid (show W.heap.size = w.heap.size + 2 by rw [hW]; simp)
  have hWH := hid hW
  have hnum := hid (fun x (hx : isCard x = true) w' => number_any x hx w')
  have hz1 := hid (orL_next im c 0)
  have hTc := hid (fun w' => hT.out c hc w')
  have hnc := hid (fun w' => hnum.out c hc w')
  have hcH := hid hc
  obtain ⟨y1, hy1⟩ : ∃ y1, y1 = im c := ⟨_, rfl⟩
  rw [← hy1] at hTc
  have hy1H := hid hy1
  clear hm hT0 him hW hp hmin hcc hc hy1
  go_enter Try.func50, Try.ntmps50
  go_upto_region 1 with (fail)
  rw [← hWH.out]
  have hsz := hWs.out
  have hM0 := hM.out W (Kept.refl W)
  have hgs := hM0.1
  obtain ⟨m0, m1, m2, m3, m4, m5, m6, m7, m8, m9, m10, m11, m12, m13, m14, m15⟩ := hM0.cells
  obtain ⟨c0, c1, c2, c3⟩ := hC.out W (Kept.refl W)
  clear hM0
  go_wp2_with (first | (go_at_call 58; refine Calls.mono (hnc.out _) ?_; rintro e w' ⟨rfl, y, rfl⟩) | (go_at_call 46; refine Calls.mono (hTc.out _) ?_; rintro e w' ⟨rfl, y, rfl⟩))
  rename_i ya _ _
  have hz0H := hid (show OwnI W.heap.size (ext ((ext W ya).alloc (.cells #[.int .i64 (numC c)] 3)) y) (.slice (some ⟨w.heap.size + 2 + ya.os.length, 0, none⟩) 1 1) (orL im c 1) from ownI_one (by omega) ((ext_heap _ _ _ (by simp; omega)).trans (heap_at (by simp; omega))))
  go_loopw [6, 5] (fun s6 s5 wr => ∃ k g6, ∃ y6 : Card, k + 1 ≤ p ∧ y6 = itC im (k + 1) c ∧ s6 = .pointer (some ⟨g6, 0, none⟩) ∧ wr.heap[g6]? = some (.cells #[.int .i64 y6.a, .int .i64 y6.b, .int .i64 y6.c, .int .i64 y6.d] T4 (0, 0)) ∧ W.heap.size ≤ g6 ∧ (∀ g, s5.ownBlock = some g → g ≠ g6) ∧ OwnI W.heap.size wr s5 (orL im c (k + 1)) ∧ Kept W wr) (fun _ s5 _ => p - lenOf s5)
  case atStart =>
    refine ⟨0, _, y1, h1, hy1H.out, rfl, heap_at (by simp; omega), by omega, fun g hg => ?_, hz0H.out.kept (by (try simp only [ext_ext]); repeat (first | exact Kept.refl _ | apply Kept.alloc | apply Kept.drew | apply kept_add | apply Kept.ext)), (by (try simp only [ext_ext]); repeat (first | exact Kept.refl _ | apply Kept.alloc | apply Kept.drew | apply kept_add | apply Kept.ext))⟩
    simp [Value.ownBlock] at hg
    omega
  case round =>
    obtain ⟨w0, hw0⟩ : ∃ w0, w0 = wr := ⟨_, rfl⟩
    subst hw0
    obtain ⟨k, g6, y6, hk, hy6, rfl, hB6, hg6, hne, hown, hkw⟩ := hrel
    have hownH := hid hown
    have hkwH := hid hkw
    have hneH := hid hne
    have hB6H := hid hB6
    have hM0 := hM.out w0 hkw
    have hgs0 := hM0.1
    obtain ⟨m0, m1, m2, m3, m4, m5, m6, m7, m8, m9, m10, m11, m12, m13, m14, m15⟩ := hM0.cells
    obtain ⟨c0, c1, c2, c3⟩ := hC.out w0 hkw
    have b0 : w0.cell? ⟨g6, 0, none⟩ = some (.int .i64 y6.a) := cell_of_row _ _ 0 _ _ (0, 0) hB6
    have b1 : w0.cell? ⟨g6, 1, none⟩ = some (.int .i64 y6.b) := cell_of_row _ _ 1 _ _ (0, 0) hB6
    have b2 : w0.cell? ⟨g6, 2, none⟩ = some (.int .i64 y6.c) := cell_of_row _ _ 2 _ _ (0, 0) hB6
    have b3 : w0.cell? ⟨g6, 3, none⟩ = some (.int .i64 y6.d) := cell_of_row _ _ 3 _ _ (0, 0) hB6
    have g6l : g6 < w0.heap.size := (Array.getElem?_eq_some_iff.1 hB6).1
    have hws : W.heap.size ≤ w0.heap.size := hkw.below.size
    have hll := hid (orL_len im c (k + 1))
    have hy6c := hccH.out (k + 1)
    rw [← hy6] at hy6c
    have hn6 := hid (fun w' => hnum.out y6 hy6c w')
    have hT6 := hid (fun w' => hT.out y6 hy6c w')
    have hn2 := hid (show orL im c (k + 1 + 1) = orL im c (k + 1) ++ [numC y6] by rw [orL_next, hy6])
    obtain ⟨ao, cap, rfl, _, _⟩ := hown.reads
    have hy6H := hid hy6
    clear hown hkw hM0 hne hB6 hy6
    cases hd : decide (y6 = c) with
    | true =>
      have hkp : k + 1 = p := by
        refine Nat.le_antisymm hk (Nat.not_lt.1 fun h => hminH.out (k + 1) (by omega) h ?_)
        rw [← hy6H.out]; exact of_decide_eq_true hd
      go_wp2
      refine bodyPost_ret (v := .slice ao (orL im c (k + 1)).length cap) (by simp [results, Try.results50, go_sem]) rfl ?_
      rw [← hkp]
      exact ⟨_, rfl, (hownH.out.kept (by (try simp only [ext_ext]); repeat (first | exact Kept.refl _ | apply Kept.alloc | apply Kept.drew | apply kept_add | apply Kept.ext))).mono kw.out.below.size, (kw.out.trans hkwH.out).trans (by (try simp only [ext_ext]); repeat (first | exact Kept.refl _ | apply Kept.alloc | apply Kept.drew | apply kept_add | apply Kept.ext))⟩
    | false =>
      have hkp : k + 1 < p := by
        refine Nat.lt_of_le_of_ne hk fun h => of_decide_eq_false hd ?_
        rw [hy6H.out, h]; exact hpH.out
      go_wp2_with (first | (go_at_call 58; refine Calls.mono (hn6.out _) ?_; rintro e w' ⟨rfl, y, rfl⟩) | (go_at_call 46; refine Calls.mono (hT6.out _) ?_; rintro e w' ⟨rfl, y, rfl⟩) | (at_builtin; refine wpList_append_int rfl _ _ rfl W W.heap.size _ _ rfl (hownH.out.kept (by (try simp only [ext_ext]); repeat (first | exact Kept.refl _ | apply Kept.alloc | apply Kept.drew | apply kept_add | apply Kept.ext))) (hkwH.out.trans (by (try simp only [ext_ext]); repeat (first | exact Kept.refl _ | apply Kept.alloc | apply Kept.drew | apply kept_add | apply Kept.ext))) (Nat.le_refl _) (by simp; omega) _ _ (numC y6) rfl (cell_of_row _ _ 0 _ _ (0, 0) (heap_at (by simp))) (by have := hll.out; omega) ?_; intro v' w' hown' hkw' hgr' hat'; have hB6' := hid ((hgr'.block g6 (by simp; omega) (fun e => hneH.out g6 e.symm rfl)).trans (((show Kept w0 _ from (by (try simp only [ext_ext]); repeat (first | exact Kept.refl _ | apply Kept.alloc | apply Kept.drew | apply kept_add | apply Kept.ext))).below.block g6 g6l).trans hB6H.out)); have hM1 := hM.out w' hkw'; have hgs1 := hM1.1; obtain ⟨n0, n1, n2, n3, n4, n5, n6, n7, n8, n9, n10, n11, n12, n13, n14, n15⟩ := hM1.cells; have d0 : w'.cell? ⟨g6, 0, none⟩ = some (.int .i64 y6.a) := cell_of_row _ _ 0 _ _ (0, 0) hB6'.out; have d1 : w'.cell? ⟨g6, 1, none⟩ = some (.int .i64 y6.b) := cell_of_row _ _ 1 _ _ (0, 0) hB6'.out; have d2 : w'.cell? ⟨g6, 2, none⟩ = some (.int .i64 y6.c) := cell_of_row _ _ 2 _ _ (0, 0) hB6'.out; have d3 : w'.cell? ⟨g6, 3, none⟩ = some (.int .i64 y6.d) := cell_of_row _ _ 3 _ _ (0, 0) hB6'.out; have g6l' : g6 < w'.heap.size :=(Array.getElem?_eq_some_iff.1 hB6'.out).1))
      go_roundw
      case rel =>
        refine ⟨k + 1, w'.heap.size, im y6, by omega, by rw [hy6H.out]; rfl, rfl, (ext_heap _ _ _ (by simp)).trans (heap_at rfl), hkw'.below.size, fun g hg => ?_, by rw [hn2.out]; exact hown'.kept (by (try simp only [ext_ext]); repeat (first | exact Kept.refl _ | apply Kept.alloc | apply Kept.drew | apply kept_add | apply Kept.ext)), hkw'.trans (by (try simp only [ext_ext]); repeat (first | exact Kept.refl _ | apply Kept.alloc | apply Kept.drew | apply kept_add | apply Kept.ext))⟩
        have := (hown'.lt g hg).2; omega
      case measure =>
        obtain ⟨_, _, e, _, _⟩ := hown'.reads
        rw [e]
        simp only [lenOf, List.length_append, orL_len, List.length_cons, List.length_nil]
        omega
end Go.Proofs.Ytjlaoocomkonhaa
