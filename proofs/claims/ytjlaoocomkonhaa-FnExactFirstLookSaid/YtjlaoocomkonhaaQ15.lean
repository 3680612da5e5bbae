/- Contracts: the image of a hand. -/
import Derived.Test.YtjlaoocomkonhaaQ10
import Derived.Test.YtjlaoocomkonhaaQ14
import Derived.Test.YtjlaoocomkonhaaQ12
import Derived.Test.YtjlaoocomkonhaaQ02
namespace Go.Proofs.Ytjlaoocomkonhaa
open Go.RowKit Go.Sort Go.Shelf
theorem traits_all {t0 t1 t2 t3 : Nat} (h0 : t0 < 4) (h1 : t1 < 4) (h2 : t2 < 4) (h3 : t3 < 4) (n01 : t0 ≠ t1) (n02 : t0 ≠ t2) (n03 : t0 ≠ t3) (n12 : t1 ≠ t2) (n13 : t1 ≠ t3) (n23 : t2 ≠ t3) (k : Nat) (hk : k < 4) : t0 = k ∨ t1 = k ∨ t2 = k ∨ t3 = k := by
  obtain rfl | rfl | rfl | rfl : k = 0 ∨ k = 1 ∨ k = 2 ∨ k = 3 := by omega
  all_goals omega
theorem row3_inj {f : Nat → Int} (h : mapB f = true) {i j k : Nat} (hi : i < 4) (hj : j < 3) (hk : k < 3) (e : f (4 + i * 3 + j) = f (4 + i * 3 + k)) : j = k := by
  have h2 := h
  unfold mapB mapTo at h2
  rw [Bool.and_eq_true] at h2
  have hn := permB_nodup (List.all_eq_true.1 h2.1 i (List.mem_range.2 hi))
  unfold row3 at hn
  simp only [List.nodup_cons, List.mem_cons, List.not_mem_nil, or_false, not_or] at hn
  obtain ⟨⟨a, b⟩, c, _⟩ := hn
  obtain rfl | rfl | rfl : j = 0 ∨ j = 1 ∨ j = 2 := by omega
  all_goals
    obtain rfl | rfl | rfl : k = 0 ∨ k = 1 ∨ k = 2 := by omega
    all_goals first | rfl | (exact absurd e a) | (exact absurd e b) | (exact absurd e c) | (exact absurd e.symm a) | (exact absurd e.symm b) | (exact absurd e.symm c)
theorem tr_ext {c d : Card} (h : ∀ t, t < 4 → tr t c = tr t d) : c = d := by
  have h0 := h 0 (by omega)
  have h1 := h 1 (by omega)
  have h2 := h 2 (by omega)
  have h3 := h 3 (by omega)
  obtain ⟨a, b, cc, dd⟩ := c
  obtain ⟨a', b', c', d'⟩ := d
  simp [tr] at h0 h1 h2 h3
  subst h0 h1 h2 h3
  rfl
theorem img_inj {f : Nat → Int} (h : mapB f = true) {c d : Card} (hc : isCard c = true) (hd : isCard d = true) (e : imgC f c = imgC f d) : c = d := by
  have hT : ∀ i, i < 4 → tr (f i).toNat c = tr (f i).toNat d := fun i hi => by
    have ei : imgT f c i = imgT f d i := by
      unfold imgC at e
      simp only [Card.mk.injEq] at e
      obtain rfl | rfl | rfl | rfl : i = 0 ∨ i = 1 ∨ i = 2 ∨ i = 3 := by omega
      · exact e.1
      · exact e.2.1
      · exact e.2.2.1
      · exact e.2.2.2
    have h1 := tr_3 (f i).toNat hc
    have h2 := tr_3 (f i).toNat hd
    have := row3_inj h hi (j := (tr (f i).toNat c).toNat) (k := (tr (f i).toNat d).toNat) (by omega) (by omega) ei
    omega
  have h2 := h
  unfold mapB at h2
  rw [Bool.and_eq_true] at h2
  have hn := permB_nodup h2.2
  unfold row4 at hn
  simp only [List.nodup_cons, List.mem_cons, List.not_mem_nil, or_false, not_or] at hn
  obtain ⟨⟨a1, a2, a3⟩, ⟨b1, b2⟩, c1, _⟩ := hn
  have t0 := mapB_traits h (i := 0) (by omega)
  have t1 := mapB_traits h (i := 1) (by omega)
  have t2 := mapB_traits h (i := 2) (by omega)
  have t3 := mapB_traits h (i := 3) (by omega)
  refine tr_ext fun k hk => ?_
  rcases traits_all (t0 := (f 0).toNat) (t1 := (f 1).toNat) (t2 := (f 2).toNat) (t3 := (f 3).toNat) (by omega) (by omega) (by omega) (by omega) (by omega) (by omega) (by omega) (by omega) (by omega) (by omega) k hk with e | e | e | e
  · rw [← e]; exact hT 0 (by omega)
  · rw [← e]; exact hT 1 (by omega)
  · rw [← e]; exact hT 2 (by omega)
  · rw [← e]; exact hT 3 (by omega)
/-- The image of a hand. -/
def imgL (f : Nat → Int) (xs : List Card) : List Card := srt (xs.map (imgC f))
theorem map_cards {f : Nat → Int} (h : mapB f = true) {xs : List Card} (hc : ∀ c ∈ xs, isCard c = true) : ∀ c ∈ xs.map (imgC f), isCard c = true := fun c hm => by
  obtain ⟨d, hd, rfl⟩ := List.mem_map.1 hm
  exact isCard_img h (hc d hd)
theorem map_nodup {f : Nat → Int} (h : mapB f = true) : ∀ {xs : List Card}, (∀ c ∈ xs, isCard c = true) → xs.Nodup → (xs.map (imgC f)).Nodup
  | [], _, _ => by simp
  | x :: xs, hc, hn => by
    rw [List.nodup_cons] at hn
    rw [List.map_cons, List.nodup_cons]
    refine ⟨fun hm => ?_, map_nodup h (fun c hm => hc c (List.mem_cons_of_mem _ hm)) hn.2⟩
    obtain ⟨d, hd, e⟩ := List.mem_map.1 hm
    have := img_inj h (hc d (List.mem_cons_of_mem _ hd)) (hc x List.mem_cons_self) e
    exact hn.1 (this ▸ hd)
theorem sorted_srt {xs zs : List Card} (hc : ∀ c ∈ xs, isCard c = true) (hn : xs.Nodup) (hp : zs.Perm xs) (hs : zs.Pairwise fun a b => numC a ≤ numC b) : zs = srt xs := by
  have hzc : ∀ c ∈ zs, isCard c = true := fun c h => hc c (hp.mem_iff.1 h)
  have ha : Asc zs := by
    have hzn : zs.Nodup := hp.nodup_iff.2 hn
    unfold Asc
    rw [List.pairwise_iff_getElem] at hs ⊢
    intro i j hi hj hij
    have h1 := hs i j hi hj hij
    have h2 := List.pairwise_iff_getElem.1 hzn i j hi hj hij
    by_cases e : numC zs[i] = numC zs[j]
    · exfalso
      apply h2
      rw [← cardN_numC (hzc _ (List.getElem_mem hi)), ← cardN_numC (hzc _ (List.getElem_mem hj)), e]
    · omega
  rw [← srt_self hzc ha]
  exact srt_congr fun c => hp.mem_iff
theorem srt_len_nodup {xs : List Card} (hc : ∀ c ∈ xs, isCard c = true) (hn : xs.Nodup) : (srt xs).length = xs.length :=
  ((List.perm_ext_iff_of_nodup (asc_nodup (srt_asc xs)) hn).2 fun c => srt_mem hc c).length_eq
theorem srt_nil2 : srt [] = [] := by unfold srt srtP; exact List.filter_eq_nil_iff.2 (by simp)
theorem srt_len2 (xs : List Card) : (srt xs).length ≤ 81 := by
  unfold srt srtP
  refine Nat.le_trans (List.length_filter_le _ _) ?_
  simp
theorem srt_put2 {xs : List Card} (hc : ∀ c ∈ xs, isCard c = true) (c : Card) : srt (c :: srt xs) = srt (xs ++ [c]) := srt_congr fun d => by
  rw [List.mem_cons, srt_mem hc, List.mem_append, List.mem_singleton]
  exact ⟨fun h => h.elim .inr .inl, fun h => h.elim .inr .inl⟩
theorem sortK_block {w : World} {g m : Nat} {dk : Array (Fin 81)} {os : Array Obj} {cur : Array Value} (h : w.heap[g]? = some (.cells cur T4 (0, 0))) : ∃ cur', (sortWorldK encN 4 w g 0 m dk os).heap[g]? = some (.cells cur' T4 (0, 0)) ∧ cur'.size = cur.size := by
  have hlt := (Array.getElem?_eq_some_iff.1 h).1
  refine ⟨putCells id 0 (flatK encN 4 dk) cur, ?_, by simp [putCells]⟩
  show ((w.heap.modify g (onCells (putCells id 0 (flatK encN 4 dk)))) ++ os)[g]? = _
  rw [Array.getElem?_append_left (by simpa using hlt), Array.getElem?_modify, if_pos rfl, h]
  rfl
theorem ownC_of_row {B : Nat} {w : World} {g n cap : Nat} {zs : List Card} {cur : Array Value} (hB : B ≤ g) (hg : w.heap[g]? = some (.cells cur T4 (0, 0))) (hs : cur.size = cap * 4) (hn : zs.length = n) (hc : n ≤ cap) (hm : cap ≤ maxLen) (hr : RowW w g n (cx zs)) : OwnC B w (.slice (some ⟨g, 0, none⟩) n cap) zs := by
  subst hn
  refine ⟨cells4_length zs, .inr ⟨g, cap, cur, rfl, hB, hg, hc, hm, hs, ?_⟩⟩
  apply List.ext_getElem?
  intro j
  rw [List.getElem?_take]
  by_cases hj : j < zs.length * 4
  · rw [if_pos hj]
    obtain ⟨q, r, rfl, hr4⟩ : ∃ q r, j = q * 4 + r ∧ r < 4 := ⟨j / 4, j % 4, by omega, by omega⟩
    have hq : q < zs.length := by omega
    obtain ⟨g1, g2, g3, g4⟩ := cells4_get zs q hq
    obtain ⟨⟨c1, c2, c3, c4⟩, _⟩ := hr.2 q hq
    have cc : ∀ i v, w.cell? ⟨g, i, none⟩ = some v → cur.toList[i]? = some v := fun i v h => by
      rw [cell_of_row w g i _ _ (0, 0) hg] at h
      simpa using h
    obtain rfl | rfl | rfl | rfl : r = 0 ∨ r = 1 ∨ r = 2 ∨ r = 3 := by omega
    · exact (cc _ _ c1).trans g1.symm
    · exact (cc _ _ c2).trans g2.symm
    · exact (cc _ _ c3).trans g3.symm
    · exact (cc _ _ c4).trans g4.symm
  · rw [if_neg hj, List.getElem?_eq_none (by rw [cells4_length]; omega)]
set_option maxRecDepth 20000 in
theorem sortCardsB_any (B g cap n : Nat) (cs : List Card) (w : World) (hc : ∀ c ∈ cs, isCard c = true) (hn : cs.length = n) (ho : OwnC B w (.slice (some ⟨g, 0, none⟩) n cap) cs) (hnd : cs.Nodup) (hl : n ≤ 1048576) :
    Calls Try.prog 57 #[.slice (some ⟨g, 0, none⟩) n cap, .func (.func 36) #[] #[]] w fun e w' => e = .returned (.tuple #[]) ∧ OwnC B w' (.slice (some ⟨g, 0, none⟩) n cap) (srt cs) ∧ w.grownBy w' (some g) := by
  have hrow := ownC_rowW ho hn
  obtain ⟨cur, hgb, hB, hcap, hmax, hcs⟩ : ∃ cur, w.heap[g]? = some (.cells cur T4 (0, 0)) ∧ B ≤ g ∧ n ≤ cap ∧ cap ≤ maxLen ∧ cur.size = cap * 4 := by
    rcases ho.2 with ⟨e, _⟩ | ⟨g', cap', cur, e, hb, hg, hcp, hm, hs, ht⟩
    · cases e
    · cases e
      exact ⟨cur, hg, hb, by omega, hm, hs⟩
  obtain ⟨d, hd⟩ : ∃ d : Array (Fin 81), d = (cs.map plN).toArray := ⟨_, rfl⟩
  have hds : d.size = n := by rw [hd]; simp [hn]
  have hcx : ∀ t, t < n → cx cs t = cardN (d[t]!.val : Int) := fun t ht => by
    have e : d[t]! = plN (cs[t]'(by omega)) := by subst hd; rw [getElem!_pos _ t (by simp; omega)]; simp
    rw [cx_get _ _ (by omega), e]
    exact (plN_card (hc _ (List.getElem_mem _))).symm
  have hH : HoldsK encN 4 w g 0 d := holdsN (hrow.congr hcx) hds
  have hcmp : CmpLays Try.prog 36 #[] encN 4 cfN g 0 d.size w := fun m os dk _ x y => by
    refine Calls.mono (compareX_any (cardN (x.val : Int)) (cardN (y.val : Int)) (isCard_cardN (by omega) (by omega)) (isCard_cardN (by omega) (by omega)) _) ?_
    rintro e w' ⟨rfl, h⟩
    exact ⟨by rw [numC_plN, numC_plN]; rfl, h⟩
  have eg : ∀ args w, (callFunc 36 args).run Try.prog w = .ok (.enter 36 args) w := enters_of Try.func36 (by kernel_rfl) rfl
  have h := AnyQ.slices_SortFunc sortC 4 Try.isAgg29 Try.sizeOf29 encN (fun _ => rfl) (fun x v hv => by simp [encN] at hv; rcases hv with rfl | rfl | rfl | rfl <;> rfl) cfN swoN 36 #[] g 0 cap d w eg hcmp hH hrow.1 (by omega)
  rw [hds] at h
  refine Calls.mono h ?_
  rintro e w' ⟨rfl, d', m, os, hp, hs, rfl⟩
  have hs' : d'.size = n := hp.1.trans hds
  obtain ⟨zs, hzs⟩ : ∃ zs, zs = d'.toList.map (fun i => cardN (i.val : Int)) := ⟨_, rfl⟩
  have hzl : zs.length = n := by rw [hzs]; simp [hs']
  have hperm : zs.Perm cs := by
    have h3 := hp.2.2
    have e1 : d'.extract 0 n = d' := by rw [← hs']; simp
    have e2 : d.extract 0 n = d := by rw [← hds]; simp
    rw [e1, e2] at h3
    have h4 := h3.map (fun i : Fin 81 => cardN (i.val : Int))
    rw [hzs]
    refine h4.trans ?_
    rw [hd]
    have : ((cs.map plN).map fun i : Fin 81 => cardN (i.val : Int)) = cs := by
      rw [List.map_map]
      conv => rhs; rw [← List.map_id cs]
      exact List.map_congr_left fun c h => plN_card (hc c h)
    simp only [this]; exact List.Perm.refl _
  have hpw : zs.Pairwise (fun a b => numC a ≤ numC b) := by
    rw [hzs, List.pairwise_map, List.pairwise_iff_getElem]
    intro i j hi hj hij
    rw [numC_plN, numC_plN]
    have := hs i j (Nat.zero_le _) hij (by simpa [hs'] using hj)
    rw [getElem!_pos d' j (by simpa using hj), getElem!_pos d' i (by simpa using hi)] at this
    have this := of_decide_eq_false (show decide (cfN _ _ < 0) = false from this)
    unfold cfN at this
    have ei : d'.toList[i] = d'[i]'(by simpa using hi) := by simp
    have ej : d'.toList[j] = d'[j]'(by simpa using hj) := by simp
    rw [ei, ej]
    exact Int.not_lt.1 (fun h => this (by omega))
  have heq := sorted_srt hc hnd hperm hpw
  obtain ⟨cur', hg', hsz'⟩ := sortK_block (m := m) (dk := d') (os := os) hgb
  have hrow' : RowW (sortWorldK encN 4 w g 0 m d' os) g n (cx zs) := (rowN (holdsK_sortWorldK encN 4 w g 0 m d d' os hrow.1 hH (hs'.trans hds.symm)) (lt_sortWorldK encN 4 w g 0 m d' os hrow.1) hs').congr fun t ht => by
    rw [cx_get _ _ (by omega), getElem!_pos d' t (by omega)]
    simp [hzs]
  refine ⟨rfl, ?_, sortK_grown w g m d' os⟩
  rw [← heq]
  exact ownC_of_row hB hg' (by rw [hsz', hcs]) hzl hcap hmax hrow'
set_option maxHeartbeats 1000000 in
set_option maxRecDepth 20000 in
theorem images_any (f : Nat → Int) (ao : Option Addr) (cap n : Nat) (xs : List Card) (w : World) (hm : mapB f = true) (hx : CardsAt w ao xs) (hn : xs.length = n) (hl : n ≤ 27) (hc : ∀ c ∈ xs, isCard c = true) (hnd : xs.Nodup) :
    Calls Try.prog 34 #[mpv f, .slice ao n cap] w (RetP w (imgL f xs)) := by
  have hmk : ∀ w : World, (Instr.makeSlice 22 (.int .i64 0) (.int .i64 (n : Int))).run Try.prog w = .ok (.slice (some ⟨w.heap.size, 0, none⟩) 0 n) (w.alloc (.cells (rowC [] n) T4)) := fun w => by
    obtain ⟨i, hi, hz, hs, hb⟩ := info_parts info_card
    have := run_make (P := Try.prog) w 22 29 i _ Try.underlying22 hi hz .i64 .i64 0 (n : Int) (by omega) (by omega) (by rw [hb]; omega) (by omega)
    rw [hs] at this
    simpa [Value.cells, rowC_nil] using this
  have hmkH := hid hmk
  have hT0 := fun c (hc : isCard c = true) w' => image_any f c hm hc w'
  have hcm := hid (map_cards hm hc)
  have hnm := hid (map_nodup hm hc hnd)
  obtain ⟨im, him⟩ : ∃ im, im = imgC f := ⟨_, rfl⟩
  have hL := hid (show imgL f xs = srt (xs.map im) by rw [him]; rfl)
  rw [← him] at hT0 hcm hnm
  rw [hL.out]
  have hT := hid hT0
  obtain ⟨W, hW⟩ : ∃ W, W = w.alloc (.cells #[.int .i64 (f 0), .int .i64 (f 1), .int .i64 (f 2), .int .i64 (f 3), .int .i64 (f 4), .int .i64 (f 5), .int .i64 (f 6), .int .i64 (f 7), .int .i64 (f 8), .int .i64 (f 9), .int .i64 (f 10), .int .i64 (f 11), .int .i64 (f 12), .int .i64 (f 13), .int .i64 (f 14), .int .i64 (f 15)] 35) := ⟨_, rfl⟩
  have hM := hid (fun w' (hk : Kept W w') => (show BoxM W w.heap.size f by rw [hW]; exact BoxM.new f rfl).kept hk)
  have kw := hid (show Kept w W by rw [hW]; exact (by (try simp only [ext_ext]); repeat (first | exact Kept.refl _ | apply Kept.alloc | apply Kept.drew | apply kept_add | apply Kept.ext)))
  have hWs := hid (show W.heap.size = w.heap.size + 1 by rw [hW]; simp)
  have hWH := hid hW
  have hxH := hid (hx.kept kw.out)
  have hnH := hid hn
  have hcH := hid hc
  clear hm hT0 him hW hmk hx hn hc hnd
  go_enter Try.func34, Try.ntmps34
  have hmk := hmkH.out
  go_wp2_with (fail)
  rw [← hWH.out]
  clear hmk
  have hz0H := hid (show OwnC W.heap.size (W.alloc (.cells (rowC [] n) T4)) (.slice (some ⟨w.heap.size + 1, 0, none⟩) 0 n) [] from ⟨rfl, .inr ⟨w.heap.size + 1, n, _, rfl, by have := hWs.out; omega, heap_at (by rw [hWs.out]), Nat.zero_le _, by unfold maxLen; omega, rowC_size [] n (by simp), by simp [cells4]⟩⟩)
  go_loopw [13, 5] (fun s13 s5 wr => ∃ k : Nat, k ≤ n ∧ s13 = .int .i64 (k : Int) ∧ (∃ g cap, s5 = .slice (some ⟨g, 0, none⟩) k cap) ∧ OwnC W.heap.size wr s5 ((xs.take k).map im) ∧ Kept W wr) (fun s13 _ _ => n - (intOf s13).toNat)
  case atStart => exact ⟨0, by omega, rfl, ⟨_, _, rfl⟩, hz0H.out, (by (try simp only [ext_ext]); repeat (first | exact Kept.refl _ | apply Kept.alloc | apply Kept.drew | apply kept_add | apply Kept.ext))⟩
  case round =>
    obtain ⟨w0, hw0⟩ : ∃ w0, w0 = wr := ⟨_, rfl⟩
    subst hw0
    obtain ⟨k, hk, rfl, ⟨g5, cap5, rfl⟩, hown, hkw⟩ := hrel
    have hownH := hid hown
    have hkwH := hid hkw
    by_cases hlt : k < n
    · have hM0 := hM.out w0 hkw
      have hgs := hM0.1
      obtain ⟨m0, m1, m2, m3, m4, m5, m6, m7, m8, m9, m10, m11, m12, m13, m14, m15⟩ := hM0.cells
      obtain ⟨g, off, rfl, hg, a1, a2, a3, a4⟩ := (hxH.out.kept hkw) k (by rw [hnH.out]; exact hlt)
      have hck := hcH.out _ (cx_mem (by rw [hnH.out]; exact hlt : k < xs.length))
      have hnx := hid (show (xs.take (k + 1)).map im = (xs.take k).map im ++ [im (cx xs k)] by rw [take_cx xs k (by rw [hnH.out]; exact hlt), List.map_append]; rfl)
      have hll := hid (show ((xs.take k).map im).length = k by rw [List.length_map, List.length_take, hnH.out]; omega)
      have hTx := hid (fun w' => hT.out (cx xs k) hck w')
      obtain ⟨y1, hy1⟩ : ∃ y1, y1 = im (cx xs k) := ⟨_, rfl⟩
      rw [← hy1] at hTx hnx
      clear hy1 hown hkw hM0
      go_wp2_with (first | (go_at_call 46; refine Calls.mono (hTx.out _) ?_; rintro e w' ⟨rfl, y, rfl⟩) | (at_builtin; refine wpList_append_card_at rfl _ _ rfl W W.heap.size _ ((xs.take k).map im) rfl (hownH.out.kept (by (try simp only [ext_ext]); repeat (first | exact Kept.refl _ | apply Kept.alloc | apply Kept.drew | apply kept_add | apply Kept.ext))) (hkwH.out.trans (by (try simp only [ext_ext]); repeat (first | exact Kept.refl _ | apply Kept.alloc | apply Kept.drew | apply kept_add | apply Kept.ext))) (Nat.le_refl _) (Kept.below (hkwH.out.trans (by (try simp only [ext_ext]); repeat (first | exact Kept.refl _ | apply Kept.alloc | apply Kept.drew | apply kept_add | apply Kept.ext)))).size _ _ y1 rfl (cardCells_new _ (by simp)) (by rw [hll.out]; omega) ?_; intro v' w8 hown' k8 g8 hat))
      have hsl : ∃ g cap, v' = .slice (some ⟨g, 0, none⟩) (k + 1) cap := by
        rcases hown'.2 with ⟨_, h0⟩ | ⟨g', cap', cur, e, _⟩
        · simp at h0
        · exact ⟨g', cap', by rw [e, List.length_append, hll.out]; rfl⟩
      go_roundw
      case rel => exact ⟨k + 1, by omega, by go_num, hsl, by rw [hnx.out]; exact hown', k8⟩
      case measure => simp [intOf]; omega
    · obtain rfl : k = n := by omega
      have hfull : (xs.take k).map im = xs.map im := by rw [List.take_of_length_le (by rw [hnH.out]; omega)]
      rw [hfull] at hown
      have hS := hid (fun w' (hk : Kept w0 w') => sortCardsB_any W.heap.size g5 cap5 k (xs.map im) w' hcm.out (by rw [List.length_map, hnH.out]) (hown.kept hk) hnm.out (by omega))
      have hB5 := hid (hown.lt g5 rfl).1
      have hlen := hid (show (srt (xs.map im)).length = k by rw [srt_len_nodup hcm.out hnm.out, List.length_map, hnH.out])
      clear hown hkw hfull
      go_wp2_with (fail)
      (go_at_call 57; refine Calls.mono (hS.out _ (by (try simp only [ext_ext]); repeat (first | exact Kept.refl _ | apply Kept.alloc | apply Kept.drew | apply kept_add | apply Kept.ext))) ?_; rintro e w9 ⟨rfl, ho9, g9⟩)
      have K9 := hid (show Kept w w9 from kw.out.trans ((hkwH.out.trans (by (try simp only [ext_ext]); repeat (first | exact Kept.refl _ | apply Kept.alloc | apply Kept.drew | apply kept_add | apply Kept.ext))).grown g9 (fun b e => by cases e; exact hB5.out)))
      have ho9H := hid ho9
      clear ho9 g9 hS
      go_wp2_with (fail)
      refine bodyPost_ret (v := .slice (some ⟨g5, 0, none⟩) k cap5) (by simp [results, Try.results34, go_sem]) rfl ?_
      exact ⟨g5, cap5, by rw [hlen.out], by rw [hlen.out]; exact OwnC.mono ho9H.out kw.out.below.size, K9.out.trans (by (try simp only [ext_ext]); repeat (first | exact Kept.refl _ | apply Kept.alloc | apply Kept.drew | apply kept_add | apply Kept.ext))⟩
end Go.Proofs.Ytjlaoocomkonhaa
