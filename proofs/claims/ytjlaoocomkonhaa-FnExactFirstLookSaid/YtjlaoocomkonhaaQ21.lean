/- Walk: spec.FirstLook. Walk: impl.FirstLook. Walk: the law of FirstLook. -/
import Derived.Test.YtjlaoocomkonhaaQ20
import Derived.Test.YtjlaoocomkonhaaQ17
import Derived.Test.YtjlaoocomkonhaaQ10
import Derived.Test.YtjlaoocomkonhaaQ04
namespace Go.Proofs.Ytjlaoocomkonhaa
open Go.RowKit
theorem sFirstLook_no (ao : Option Addr) (cap : Nat) (xs : List Card) (w : World) (hx : CardsAt w ao xs) (hl : xs.length ≤ 1048576) (h : fewB xs = false) :
    Calls Try.prog 8 #[.slice ao xs.length cap] w (RetCT w false []) := by
  have hF := hid (fun w' (hk : Kept w w') => l5Few_any ao cap xs w' (hx.kept hk) hl)
  rw [h] at hF
  go_enter Try.func8, Try.ntmps8
  go_wp2_with (first | (go_at_call 25; refine Calls.mono (hF.out _ ((by (try simp only [ext_ext]); repeat (first | exact Kept.refl _ | apply Kept.alloc | apply Kept.drew | apply kept_add | apply Kept.ext)))) ?_; rintro e w' ⟨rfl, y, rfl⟩))
  refine bodyPost_ret (v := .tuple #[.slice (some ⟨w.heap.size + y.os.length, 0, none⟩) 0 0, .bool false]) (by simp [results, Try.results8, go_sem]) rfl ?_
  exact ⟨_, rfl, ownC_nil (by omega) (heap_at (by simp)), (by (try simp only [ext_ext]); repeat (first | exact Kept.refl _ | apply Kept.alloc | apply Kept.drew | apply kept_add | apply Kept.ext))⟩
theorem look_ok {xs : List Card} {ms : List (Nat → Int)} (hc : ∀ c ∈ xs, isCard c = true) (hnd : xs.Nodup) (hm : ∀ f ∈ ms, mapB f = true) : ∀ b : List Card, b.length = xs.length → (∀ c ∈ b, isCard c = true) → (ms.foldl (bestM xs) b).length = xs.length ∧ ∀ c ∈ ms.foldl (bestM xs) b, isCard c = true := by
  induction ms with
  | nil => exact fun b h1 h2 => ⟨h1, h2⟩
  | cons f ms ih =>
    intro b h1 h2
    refine ih (fun g hg => hm g (List.mem_cons_of_mem _ hg)) (bestM xs b f) ?_ ?_
    · unfold bestM
      split
      · have hcI := map_cards (hm f List.mem_cons_self) hc
        unfold imgL
        rw [srt_len_nodup hcI (map_nodup (hm f List.mem_cons_self) hc hnd), List.length_map]
      · exact h1
    · unfold bestM
      split
      · have hcI := map_cards (hm f List.mem_cons_self) hc
        exact fun x hx => hcI x ((srt_mem hcI x).1 hx)
      · exact h2
set_option maxHeartbeats 2000000 in
set_option maxRecDepth 20000 in
theorem sFirstLook_yes (ao : Option Addr) (cap : Nat) (xs : List Card) (w : World) (hx : CardsAt w ao xs) (hcap : xs.length ≤ cap) (hao : ao = none → cap = 0) (h : fewB xs = true) :
    Calls Try.prog 8 #[.slice ao xs.length cap] w (RetCT w true (bestL xs xs ords4)) := by
  obtain ⟨hh, h6⟩ := fewB_of h
  have hc := hid (hand_cards hh)
  have hnd := hid (hand_nodup hh)
  have hF := hid (fun w' (hk : Kept w w') => l5Few_any ao cap xs w' (hx.kept hk) (by omega))
  rw [h] at hF
  have hMs := hid l5Maps_any
  obtain ⟨ms, hms⟩ : ∃ ms, ms = mapsL ords4 := ⟨_, rfl⟩
  rw [← hms] at hMs
  have hml := hid (show ms.length = 31104 by rw [hms, mapsL_len, ords4_len])
  have hmk := hid (show ∀ f ∈ ms, mapB f = true from fun f hf => mapsL_ok (fun _ hp => hp) (hms ▸ hf))
  obtain ⟨LK, hLK⟩ : ∃ L, L = lookK xs ms := ⟨_, rfl⟩
  have hfin := hid (show LK ms.length = bestL xs xs ords4 by rw [hLK]; unfold lookK; rw [List.take_length, hms, foldl_mapsL])
  have hL0 := hid (show LK 0 = xs by rw [hLK]; rfl)
  have hLn := hid (show ∀ k, k < ms.length → LK (k + 1) = bestM xs (LK k) (fx ms k) from fun k hk => by rw [hLK]; exact lookK_next xs ms k hk)
  have hLl := hid (show ∀ k, (LK k).length = xs.length from fun k => by rw [hLK]; exact (look_ok hc.out hnd.out (fun f hf => hmk.out f (List.mem_of_mem_take hf)) xs rfl hc.out).1)
  have hLc := hid (show ∀ k, ∀ c ∈ LK k, isCard c = true from fun k => by rw [hLK]; exact (look_ok hc.out hnd.out (fun f hf => hmk.out f (List.mem_of_mem_take hf)) xs rfl hc.out).2)
  rw [← hfin.out]
  have hxH := hid hx
  obtain ⟨n, hn⟩ : ∃ n, n = xs.length := ⟨_, rfl⟩
  have hnH := hid hn.symm
  rw [← hn] at hLl hcap h6 hF ⊢
  have hH := hid (fun (f : Nat → Int) (hf : mapB f = true) w' (hk : Kept w w') => l5Hand_any f ao cap n xs w' hf (hx.kept hk) hnH.out (by omega) hc.out hnd.out)
  have hB := hid (fun (f : Nat → Int) (hf : mapB f = true) (b : List Card) => show (imgL f xs).length = n ∧ (∀ c ∈ imgL f xs, isCard c = true) ∧ bestM xs b f = if lexC (imgL f xs) b < 0 then imgL f xs else b from
    have hcI := map_cards hf hc.out
    ⟨by unfold imgL; rw [srt_len_nodup hcI (map_nodup hf hc.out hnd.out), List.length_map, hnH.out], fun x hx => hcI x ((srt_mem hcI x).1 hx), rfl⟩)
  clear hx h hh hms hLK hn hfin
  go_enter Try.func8, Try.ntmps8
  go_wp2_with (first | (go_at_call 25; refine Calls.mono (hF.out _ ((by (try simp only [ext_ext]); repeat (first | exact Kept.refl _ | apply Kept.alloc | apply Kept.drew | apply kept_add | apply Kept.ext)))) ?_; rintro e w' ⟨rfl, y, rfl⟩))
  (go_at_call 26; refine Calls.mono (hMs.out _) ?_; rintro e w1 ⟨v1, rfl, ho1, k1⟩)
  have K1 := hid (show Kept w w1 from Kept.trans (by (try simp only [ext_ext]); repeat (first | exact Kept.refl _ | apply Kept.alloc | apply Kept.drew | apply kept_add | apply Kept.ext)) k1)
  obtain ⟨ao1, cap1, rfl, hm1, _⟩ := ho1.reads
  have hm1H := hid hm1
  clear ho1 k1 hm1
  go_wp2_with (fail)
  go_loopw [6, 4] (fun s6 s4 wr => ∃ k : Nat, k ≤ ms.length ∧ s6 = .int .i64 (k : Int) ∧ (∃ bo bcap, s4 = .slice bo n bcap ∧ CardsAt wr bo (LK k) ∧ n ≤ bcap ∧ (bo = none → bcap = 0)) ∧ Kept w1 wr) (fun s6 _ _ => ms.length - (intOf s6).toNat)
  case atStart => exact ⟨0, Nat.zero_le _, rfl, ⟨ao, cap, rfl, by rw [hL0.out]; exact hxH.out.kept K1.out, hcap, hao⟩, Kept.refl _⟩
  case round =>
    obtain ⟨w2, hw2⟩ : ∃ w2, w2 = wr := ⟨_, rfl⟩
    subst hw2
    obtain ⟨k, hk, rfl, ⟨bo, bcap, rfl, hb, hbc, hbn⟩, hk2⟩ := hrel
    have hbH := hid hb
    have hbnH := hid hbn
    have hk2H := hid hk2
    clear hb hbn hk2
    by_cases hlt : k < ms.length
    · have hkI : (k : Int) < (ms.length : Int) := by omega
      have hk31 : k < 31104 := Nat.lt_of_lt_of_eq hlt hml.out
      obtain ⟨gm, rfl, hgm, hcm⟩ := hm1H.out k hlt
      have hcm2 := fun j (hj : j < 16) => (hk2H.out.below.cell (p := ⟨gm, k * 16 + j, none⟩) hgm).trans (hcm j hj)
      have hfk := hmk.out _ (fx_mem hlt)
      have hLk := hid (hLn.out k hlt)
      have hBk := hB.out (fx ms k) hfk (LK k)
      have hHk := hid (hH.out (fx ms k) hfk)
      obtain ⟨f, hf⟩ : ∃ f, f = fx ms k := ⟨_, rfl⟩
      rw [← hf] at hcm2 hLk hBk hHk
      obtain ⟨hIl, hIc, hbe⟩ := hBk
      rw [hbe] at hLk
      have m0 := hcm2 0 (by omega)
      have m1 := hcm2 1 (by omega)
      have m2 := hcm2 2 (by omega)
      have m3 := hcm2 3 (by omega)
      have m4 := hcm2 4 (by omega)
      have m5 := hcm2 5 (by omega)
      have m6 := hcm2 6 (by omega)
      have m7 := hcm2 7 (by omega)
      have m8 := hcm2 8 (by omega)
      have m9 := hcm2 9 (by omega)
      have m10 := hcm2 10 (by omega)
      have m11 := hcm2 11 (by omega)
      have m12 := hcm2 12 (by omega)
      have m13 := hcm2 13 (by omega)
      have m14 := hcm2 14 (by omega)
      have m15 := hcm2 15 (by omega)
      have hgm2 : gm < w2.heap.size := Nat.lt_of_lt_of_le hgm hk2H.out.below.size
      obtain ⟨L, hL⟩ : ∃ L, L = imgL f xs := ⟨_, rfl⟩
      rw [← hL] at hLk hIl hIc hHk
      have hIlH := hid hIl
      have hIcH := hid hIc
      clear hcm hcm2 hfk hf hbe hL hIl hIc
      simp only [Nat.add_zero] at m0
      go_wp2_with (fail)
      (go_at_call 27; refine Calls.mono (hHk.out _ (K1.out.trans (hk2H.out.trans (by (try simp only [ext_ext]); repeat (first | exact Kept.refl _ | apply Kept.alloc | apply Kept.drew | apply kept_add | apply Kept.ext))))) ?_; rintro e w3 ⟨g3, cap3, rfl, ho3, k3⟩)
      rw [hIlH.out]
      rw [hIlH.out] at ho3
      have k3 := hid (show Kept w2 w3 from Kept.trans (by (try simp only [ext_ext]); repeat (first | exact Kept.refl _ | apply Kept.alloc | apply Kept.drew | apply kept_add | apply Kept.ext)) k3)
      obtain ⟨_, _, hv, hx3, hc3⟩ := ho3.reads
      rw [hIlH.out] at hv hc3
      cases hv
      have hx3H := hid hx3
      have hC := hid (fun w' (hk : Kept w3 w') => l5Less_any (some ⟨g3, 0, none⟩) bo cap3 bcap n L (LK k) w' (hx3.kept hk) (hbH.out.kept (k3.out.trans hk)) hIlH.out (hLl.out k) (by omega) hIcH.out (hLc.out k))
      obtain ⟨D, hD⟩ : ∃ D, D = lexC L (LK k) := ⟨_, rfl⟩
      rw [← hD] at hC hLk
      clear ho3 hx3 hD m0 m1 m2 m3 m4 m5 m6 m7 m8 m9 m10 m11 m12 m13 m14 m15
      by_cases hneg : D < 0
      · have hbe := hid (show LK (k + 1) = L by rw [hLk.out, if_pos hneg])
        have hd : decide (D < 0) = true := decide_eq_true hneg
        rw [hd] at hC
        clear hneg hd
        go_wp2_with (first | (go_at_call 28; refine Calls.mono (hC.out _ ((by (try simp only [ext_ext]); repeat (first | exact Kept.refl _ | apply Kept.alloc | apply Kept.drew | apply kept_add | apply Kept.ext)))) ?_; rintro e w' ⟨rfl, y, rfl⟩))
        go_roundw
        case rel => exact ⟨k + 1, by omega, by go_num, ⟨_, _, rfl, by rw [hbe.out]; exact hx3H.out.kept (by (try simp only [ext_ext]); repeat (first | exact Kept.refl _ | apply Kept.alloc | apply Kept.drew | apply kept_add | apply Kept.ext)), hc3, fun e => by cases e⟩, hk2H.out.trans (k3.out.trans (by (try simp only [ext_ext]); repeat (first | exact Kept.refl _ | apply Kept.alloc | apply Kept.drew | apply kept_add | apply Kept.ext)))⟩
        case measure => simp [intOf]; omega
      · have hbe := hid (show LK (k + 1) = LK k by rw [hLk.out, if_neg hneg])
        have hd : decide (D < 0) = false := decide_eq_false hneg
        rw [hd] at hC
        clear hneg hd
        go_wp2_with (first | (go_at_call 28; refine Calls.mono (hC.out _ ((by (try simp only [ext_ext]); repeat (first | exact Kept.refl _ | apply Kept.alloc | apply Kept.drew | apply kept_add | apply Kept.ext)))) ?_; rintro e w' ⟨rfl, y, rfl⟩))
        go_roundw
        case rel => exact ⟨k + 1, by omega, by go_num, ⟨_, _, rfl, by rw [hbe.out]; exact hbH.out.kept (k3.out.trans (by (try simp only [ext_ext]); repeat (first | exact Kept.refl _ | apply Kept.alloc | apply Kept.drew | apply kept_add | apply Kept.ext))), hbc, hbnH.out⟩, hk2H.out.trans (k3.out.trans (by (try simp only [ext_ext]); repeat (first | exact Kept.refl _ | apply Kept.alloc | apply Kept.drew | apply kept_add | apply Kept.ext)))⟩
        case measure => simp [intOf]; omega
    · obtain rfl : k = ms.length := by omega
      have hO := hid (fun w' (hk : Kept w2 w') => l2OwnC_any bo bcap n (LK ms.length) w' (hbH.out.kept hk) (hLl.out _) (by omega) hbc hbnH.out)
      go_wp2_with (fail)
      (go_at_call 29; refine Calls.mono (hO.out _ (by (try simp only [ext_ext]); repeat (first | exact Kept.refl _ | apply Kept.alloc | apply Kept.drew | apply kept_add | apply Kept.ext))) ?_; rintro e w3 ⟨v3, rfl, ho3, k3⟩)
      have K3 := hid (show Kept w w3 from K1.out.trans (hk2H.out.trans (Kept.trans (by (try simp only [ext_ext]); repeat (first | exact Kept.refl _ | apply Kept.alloc | apply Kept.drew | apply kept_add | apply Kept.ext)) k3)))
      have ho3H := hid (OwnC.mono (B' := w.heap.size) ho3 (K1.out.trans (hk2H.out.trans (show Kept w2 _ from (by (try simp only [ext_ext]); repeat (first | exact Kept.refl _ | apply Kept.alloc | apply Kept.drew | apply kept_add | apply Kept.ext))))).below.size)
      clear ho3 k3
      go_wp2_with (fail)
      refine bodyPost_ret (v := .tuple #[v3, .bool true]) (by simp [results, Try.results8, go_sem]) rfl ?_
      exact ⟨_, rfl, ho3H.out, K3.out⟩
end Go.Proofs.Ytjlaoocomkonhaa
namespace Go.Proofs.Ytjlaoocomkonhaa
open Go.RowKit
theorem iFirstLook_no (ao : Option Addr) (cap : Nat) (xs : List Card) (w : World) (hx : CardsAt w ao xs) (hl : xs.length ≤ 1048576) (h : fewB xs = false) :
    Calls Try.prog 10 #[.slice ao xs.length cap] w (RetCT w false []) := by
  have hF := hid (fun w' (hk : Kept w w') => isFew_any ao cap xs w' (hx.kept hk) hl)
  rw [h] at hF
  go_enter Try.func10, Try.ntmps10
  go_wp2_with (first | (go_at_call 30; refine Calls.mono (hF.out _ ((by (try simp only [ext_ext]); repeat (first | exact Kept.refl _ | apply Kept.alloc | apply Kept.drew | apply kept_add | apply Kept.ext)))) ?_; rintro e w' ⟨rfl, y, rfl⟩))
  refine bodyPost_ret (v := .tuple #[.slice none 0 0, .bool false]) (by simp [results, Try.results10, go_sem]) rfl ?_
  exact ⟨_, rfl, ownC_none _ _, (by (try simp only [ext_ext]); repeat (first | exact Kept.refl _ | apply Kept.alloc | apply Kept.drew | apply kept_add | apply Kept.ext))⟩
set_option maxHeartbeats 1000000 in
theorem iFirstLook_yes (ao : Option Addr) (cap : Nat) (xs : List Card) (w : World) (hx : CardsAt w ao xs) (hcap : xs.length ≤ cap) (hao : ao = none → cap = 0) (h : fewB xs = true) :
    Calls Try.prog 10 #[.slice ao xs.length cap] w (RetCT w true (bestL xs xs ords4)) := by
  obtain ⟨hh, h6⟩ := fewB_of h
  have hc := hid (hand_cards hh)
  have hnd := hid (hand_nodup hh)
  have hF := hid (fun w' (hk : Kept w w') => isFew_any ao cap xs w' (hx.kept hk) (by omega))
  rw [h] at hF
  have hC := hid (fun w' (hk : Kept w w') => cloneF_any ao cap xs.length xs w' (hx.kept hk) rfl (by omega) hcap hao)
  have hxH := hid hx
  obtain ⟨W, hW⟩ : ∃ W, W = w.alloc (.cells #[.slice ao xs.length cap] 22) := ⟨_, rfl⟩
  have kW := hid (show Kept w W by rw [hW]; exact (by (try simp only [ext_ext]); repeat (first | exact Kept.refl _ | apply Kept.alloc | apply Kept.drew | apply kept_add | apply Kept.ext)))
  have hWs := hid (show W.heap.size = w.heap.size + 1 by rw [hW]; simp)
  have hWc := hid (show W.cell? ⟨w.heap.size, 0, none⟩ = some (.slice ao xs.length cap) by rw [hW]; simp [go_sem])
  have hWH := hid hW
  obtain ⟨L, hL⟩ : ∃ L, L = bestL xs xs ords4 := ⟨_, rfl⟩
  rw [← hL]
  have hLH := hid hL
  clear hx hW hL h hh
  go_enter Try.func10, Try.ntmps10
  go_upto_region 3 with (first | (go_at_call 30; refine Calls.mono (hF.out _ ((by (try simp only [ext_ext]); repeat (first | exact Kept.refl _ | apply Kept.alloc | apply Kept.drew | apply kept_add | apply Kept.ext)))) ?_; rintro e w' ⟨rfl, y, rfl⟩))
  go_wp2_with (fail)
  (go_at_call 31; refine Calls.mono (hC.out _ ((by (try simp only [ext_ext]); repeat (first | exact Kept.refl _ | apply Kept.alloc | apply Kept.drew | apply kept_add | apply Kept.ext)))) ?_; rintro e w1 ⟨v1, rfl, ho1, k1⟩)
  obtain ⟨ao1, cap1, rfl, hx1, hc1⟩ := ho1.reads
  have K1 := hid (show Kept w w1 from Kept.trans (by (try simp only [ext_ext]); repeat (first | exact Kept.refl _ | apply Kept.alloc | apply Kept.drew | apply kept_add | apply Kept.ext)) k1)
  have hbc := hid (show w1.cell? ⟨w.heap.size, 0, none⟩ = some (.slice ao xs.length cap) from (Kept.below (show Kept W w1 from by rw [hWH.out]; exact Kept.trans (by (try simp only [ext_ext]); repeat (first | exact Kept.refl _ | apply Kept.alloc | apply Kept.drew | apply kept_add | apply Kept.ext)) k1)).cell (p := ⟨w.heap.size, 0, none⟩) (by have := hWs.out; omega : w.heap.size < W.heap.size) |>.trans hWc.out)
  have hs1 := hid (show w.heap.size < w1.heap.size by have := (Kept.below (show Kept W w1 from by rw [hWH.out]; exact Kept.trans (by (try simp only [ext_ext]); repeat (first | exact Kept.refl _ | apply Kept.alloc | apply Kept.drew | apply kept_add | apply Kept.ext)) k1)).size; have := hWs.out; omega)
  have ho1H := hid (OwnC.mono (B' := w.heap.size) ho1 (show Kept w _ from (by (try simp only [ext_ext]); repeat (first | exact Kept.refl _ | apply Kept.alloc | apply Kept.drew | apply kept_add | apply Kept.ext))).below.size)
  clear ho1 k1 hx1
  obtain ⟨w3, hw3⟩ : ∃ w3, w3 = w1.alloc (.cells #[.slice ao1 xs.length cap1] 22) := ⟨_, rfl⟩
  have k13 := hid (show Kept w1 w3 by rw [hw3]; exact (by (try simp only [ext_ext]); repeat (first | exact Kept.refl _ | apply Kept.alloc | apply Kept.drew | apply kept_add | apply Kept.ext)))
  have hs3 := hid (show w3.heap.size = w1.heap.size + 1 by rw [hw3]; simp)
  have hb3 := hid (show w3.heap[w1.heap.size]? = some (.cells #[.slice ao1 xs.length cap1] 22 (0, 0)) by rw [hw3]; exact heap_at rfl)
  have hH := hid (show ∀ w', Fr w1.heap.size none none w3 w' → w'.cell? ⟨w.heap.size, 0, none⟩ = some (.slice ao xs.length cap) ∧ w.heap.size < w'.heap.size ∧ CardsAt w' ao xs from fun w' hf => by
    have e1 := hs1.out
    have e3 := hs3.out
    have es := hf.2.2.2.1
    refine ⟨fr_cell hf (by omega) (by omega) ((k13.out.below.cell (p := ⟨w.heap.size, 0, none⟩) e1).trans hbc.out), by omega, fun i hi => ?_⟩
    obtain ⟨g, off, he, hg, q1, q2, q3, q4⟩ := hxH.out i hi
    have kk := (K1.out.trans k13.out).below
    have hg3 : g < w3.heap.size := Nat.lt_of_lt_of_le hg kk.size
    exact ⟨g, off, he, Nat.lt_of_lt_of_le hg3 es, fr_cell hf hg3 (by omega) ((kk.cell (p := ⟨_, _, none⟩) hg).trans q1), fr_cell hf hg3 (by omega) ((kk.cell (p := ⟨_, _, none⟩) hg).trans q2), fr_cell hf hg3 (by omega) ((kk.cell (p := ⟨_, _, none⟩) hg).trans q3), fr_cell hf hg3 (by omega) ((kk.cell (p := ⟨_, _, none⟩) hg).trans q4)⟩)
  have hLk := hid (show LkI w.heap.size xs.length w3 w1.heap.size xs w3 from ⟨Kept.fr (Kept.refl _), ⟨by have := hs3.out; omega, (K1.out.trans k13.out).below.size⟩, ⟨_, hb3.out, ho1H.out.kept k13.out, fun e => by have := (ho1H.out.lt _ e).2; omega⟩, rfl, hc.out⟩)
  have hM := hid (maps_any xs xs.length w3 w1.heap.size w.heap.size ao cap rfl (by omega) hc.out hnd.out hH.out xs hLk.out)
  rw [← hLH.out] at hM
  have hw3H := hid hw3
  clear hw3
  go_upto_region 4 with (fail)
  rw [← hw3H.out]
  go_wp2_with (fail)
  (go_at_call 32; refine Calls.mono (hM.out) ?_; rintro e w4 ⟨rfl, hI4⟩)
  obtain ⟨g0, g1, ⟨v4, g2, g3, g4⟩, g5⟩ := hI4
  have hcell := cell_of_row w4 w1.heap.size 0 _ _ (0, 0) g2
  simp only [List.getElem?_toArray, List.getElem?_cons_zero] at hcell
  have g3H := hid g3
  have KK := hid (show Kept w w4 from Kept.of_fr (K1.out.trans k13.out) g0 K1.out.below.size (fun g hg => by cases hg))
  clear g0 g2 g3 g4 g5
  go_wp2_with (fail)
  refine bodyPost_ret (v := .tuple #[v4, .bool true]) (by simp [results, Try.results10, go_sem]) rfl ?_
  exact ⟨_, rfl, g3H.out, KK.out⟩
end Go.Proofs.Ytjlaoocomkonhaa
namespace Go.Proofs.Ytjlaoocomkonhaa
open Go.RowKit
theorem OwnC.reads2 {B : Nat} {w : World} {v : Value} {cs : List Card} (h : OwnC B w v cs) : ∃ ao cap, v = .slice ao cs.length cap ∧ CardsAt w ao cs ∧ cs.length ≤ cap ∧ (ao = none → cap = 0) := by
  obtain ⟨ao, cap, e, hx, hc⟩ := h.reads
  refine ⟨ao, cap, e, hx, hc, fun h0 => ?_⟩
  subst h0
  rcases h.2 with ⟨e2, _⟩ | ⟨g, cap2, cur, e2, _⟩
  · rw [e2] at e; injection e with _ _ e3; exact e3.symm
  · rw [e2] at e; cases e
theorem bestL_len {xs : List Card} (h : fewB xs = true) : (bestL xs xs ords4).length = xs.length := by
  have hh := (fewB_of h).1
  rw [← foldl_mapsL]
  exact (look_ok (hand_cards hh) (hand_nodup hh) (fun f hf => mapsL_ok (fun _ hp => hp) hf) xs rfl (hand_cards hh)).1
set_option maxHeartbeats 2000000 in
set_option maxRecDepth 20000 in
theorem walk_FnExactFirstLook (ao : Option Addr) (xs : List Card) (cap : Nat) {w : World} (hx : CardsAt w ao xs) (hl : xs.length ≤ maxLen) (_ : World) :
    Calls Try.prog 3 #[.slice ao xs.length cap] w fun e w' => e = .returned (.bool true) ∧ Kept w w' := by
  have hl' : xs.length ≤ 9223372036854775807 := by unfold maxLen at hl; omega
  by_cases hn : xs.length ≤ 1048576
  · obtain ⟨ok, ls, hS, hI, hll⟩ : ∃ ok ls, (∀ ao cap w, CardsAt w ao xs → xs.length ≤ cap → (ao = none → cap = 0) → Calls Try.prog 8 #[.slice ao xs.length cap] w (RetCT w ok ls)) ∧ (∀ ao cap w, CardsAt w ao xs → xs.length ≤ cap → (ao = none → cap = 0) → Calls Try.prog 10 #[.slice ao xs.length cap] w (RetCT w ok ls)) ∧ ls.length ≤ 1048576 := by
      cases hg : fewB xs with
      | false => exact ⟨false, [], fun _ _ _ hx _ _ => sFirstLook_no _ _ _ _ hx hn hg, fun _ _ _ hx _ _ => iFirstLook_no _ _ _ _ hx hn hg, by simp⟩
      | true => exact ⟨true, _, fun _ _ _ hx hc ho => sFirstLook_yes _ _ _ _ hx hc ho hg, fun _ _ _ hx hc ho => iFirstLook_yes _ _ _ _ hx hc ho hg, by rw [bestL_len hg]; exact hn⟩
    have p1 : ¬ ((1 : Int) + (xs.length : Int) * 4 < 0) := by omega
    have p2 : ¬ ((1 : Int) + (ls.length : Int) * 4 < 0) := by omega
    go_enter Try.func3, Try.ntmps3
    go_wp2_with (first | (go_at_call 7; refine Calls.mono (szIntA4S_any _ _ _ hl' _) ?_; rintro e w' ⟨rfl, rfl⟩))
    (go_at_call 9; refine Calls.mono (toIntA4S_any _ _ _ _ (hx.kept (by (try simp only [ext_ext]); repeat (first | exact Kept.refl _ | apply Kept.alloc | apply Kept.drew | apply kept_add | apply Kept.ext))) hn) ?_; rintro e w1 ⟨v1, rfl, ho1, k1⟩)
    have k1 : Kept w w1 := Kept.trans (by (try simp only [ext_ext]); repeat (first | exact Kept.refl _ | apply Kept.alloc | apply Kept.drew | apply kept_add | apply Kept.ext)) k1
    obtain ⟨a1, c1, rfl, hx1, hc1, ha1⟩ := ho1.reads2
    go_wp2_with (fail)
    (go_at_call 8; refine Calls.mono (hS _ _ _ (hx1.kept (by (try simp only [ext_ext]); repeat (first | exact Kept.refl _ | apply Kept.alloc | apply Kept.drew | apply kept_add | apply Kept.ext))) hc1 ha1) ?_; rintro e w2 ⟨v2, rfl, ho2, k2⟩)
    have ho2 := ho2.mono (B' := w1.heap.size) (show Kept w1 _ from (by (try simp only [ext_ext]); repeat (first | exact Kept.refl _ | apply Kept.alloc | apply Kept.drew | apply kept_add | apply Kept.ext))).below.size
    have k2 : Kept w1 w2 := Kept.trans (by (try simp only [ext_ext]); repeat (first | exact Kept.refl _ | apply Kept.alloc | apply Kept.drew | apply kept_add | apply Kept.ext)) k2
    have hx2 := hx.kept (k1.trans k2)
    go_wp2_with (fail)
    (go_at_call 9; refine Calls.mono (toIntA4S_any _ _ _ _ (hx2.kept (by (try simp only [ext_ext]); repeat (first | exact Kept.refl _ | apply Kept.alloc | apply Kept.drew | apply kept_add | apply Kept.ext))) hn) ?_; rintro e w3 ⟨v3, rfl, ho3, k3⟩)
    have ho3 := ho3.mono (B' := w2.heap.size) (show Kept w2 _ from (by (try simp only [ext_ext]); repeat (first | exact Kept.refl _ | apply Kept.alloc | apply Kept.drew | apply kept_add | apply Kept.ext))).below.size
    have k3 : Kept w2 w3 := Kept.trans (by (try simp only [ext_ext]); repeat (first | exact Kept.refl _ | apply Kept.alloc | apply Kept.drew | apply kept_add | apply Kept.ext)) k3
    obtain ⟨a3, c3, rfl, hx3, hc3, ha3⟩ := ho3.reads2
    go_wp2_with (fail)
    (go_at_call 10; refine Calls.mono (hI _ _ _ (hx3.kept (by (try simp only [ext_ext]); repeat (first | exact Kept.refl _ | apply Kept.alloc | apply Kept.drew | apply kept_add | apply Kept.ext))) hc3 ha3) ?_; rintro e w4 ⟨v4, rfl, ho4, k4⟩)
    have ho4 := ho4.mono (B' := w3.heap.size) (show Kept w3 _ from (by (try simp only [ext_ext]); repeat (first | exact Kept.refl _ | apply Kept.alloc | apply Kept.drew | apply kept_add | apply Kept.ext))).below.size
    have k4 : Kept w3 w4 := Kept.trans (by (try simp only [ext_ext]); repeat (first | exact Kept.refl _ | apply Kept.alloc | apply Kept.drew | apply kept_add | apply Kept.ext)) k4
    have n43 : ∀ g, v4.ownBlock = some g → (Value.slice a3 xs.length c3).ownBlock ≠ some g := fun g h h' => by have := (ho4.lt g h).1; have := (ho3.lt g h').2; omega
    have n23 : ∀ g, v2.ownBlock = some g → (Value.slice a3 xs.length c3).ownBlock ≠ some g := fun g h h' => by have := (ho2.lt g h).2; have := (ho3.lt g h').1; omega
    have n24 : ∀ g, v2.ownBlock = some g → v4.ownBlock ≠ some g := fun g h h' => by have := (ho2.lt g h).2; have := (ho4.lt g h').1; have := k3.below.size; omega
    go_wp2_with (fail)
    (go_at_call 11; refine Calls.mono (eqC_any _ _ _ _ _ _ (ho4.kept (by (try simp only [ext_ext]); repeat (first | exact Kept.refl _ | apply Kept.alloc | apply Kept.drew | apply kept_add | apply Kept.ext))) (((ho2.kept k3).kept k4).kept (by (try simp only [ext_ext]); repeat (first | exact Kept.refl _ | apply Kept.alloc | apply Kept.drew | apply kept_add | apply Kept.ext))) hll) ?_; rintro e w5 ⟨rfl, k5⟩)
    have k5 : Kept w4 w5 := Kept.trans (by (try simp only [ext_ext]); repeat (first | exact Kept.refl _ | apply Kept.alloc | apply Kept.drew | apply kept_add | apply Kept.ext)) k5
    have hx5 := hx2.kept (k3.trans (k4.trans k5))
    go_wp2_with (fail)
    (go_at_call 9; refine Calls.mono (toIntA4S_any _ _ _ _ (hx5.kept (by (try simp only [ext_ext]); repeat (first | exact Kept.refl _ | apply Kept.alloc | apply Kept.drew | apply kept_add | apply Kept.ext))) hn) ?_; rintro e w6 ⟨v6, rfl, ho6, k6⟩)
    have k6 : Kept w5 w6 := Kept.trans (by (try simp only [ext_ext]); repeat (first | exact Kept.refl _ | apply Kept.alloc | apply Kept.drew | apply kept_add | apply Kept.ext)) k6
    obtain ⟨a6, c6, rfl, hx6, hc6⟩ := ho6.reads
    have hx36 := hx3.kept (k4.trans (k5.trans k6))
    go_wp2_with (fail)
    (go_at_call 11; refine Calls.mono (eqIntA4S_any _ _ _ _ _ _ _ (hx36.kept (by (try simp only [ext_ext]); repeat (first | exact Kept.refl _ | apply Kept.alloc | apply Kept.drew | apply kept_add | apply Kept.ext))) (hx6.kept (by (try simp only [ext_ext]); repeat (first | exact Kept.refl _ | apply Kept.alloc | apply Kept.drew | apply kept_add | apply Kept.ext))) hn hn) ?_; rintro e w7 ⟨rfl, k7⟩)
    have k7 : Kept w6 w7 := Kept.trans (by (try simp only [ext_ext]); repeat (first | exact Kept.refl _ | apply Kept.alloc | apply Kept.drew | apply kept_add | apply Kept.ext)) k7
    have K7 : Kept w w7 := k1.trans (k2.trans (k3.trans (k4.trans (k5.trans (k6.trans k7)))))
    have s2 : w.heap.size ≤ w2.heap.size := (k1.trans k2).below.size
    have s3 : w.heap.size ≤ w3.heap.size := (k1.trans (k2.trans k3)).below.size
    go_wp2_with (fail)
    (go_at_call 12; refine Calls.mono (markIntA4S_any _ _ _ _ 1 _ (ho3.kept (k4.trans (k5.trans (k6.trans k7)))) hn (by decide) (by decide)) ?_; rintro e w8 ⟨rfl, _, g8⟩)
    have ho48 := (ho4.kept (k5.trans (k6.trans k7))).grown g8 n43
    have ho28 := (ho2.kept (k3.trans (k4.trans (k5.trans (k6.trans k7))))).grown g8 n23
    have K8 : Kept w w8 := K7.grown g8 fun k hk => Nat.le_trans s2 (ho3.lt k hk).1
    go_wp2_with (fail)
    (go_at_call 11; refine Calls.mono (eqC_any _ _ _ _ _ _ ho48 ho28 hll) ?_; rintro e w9 ⟨rfl, k9⟩)
    go_wp2_with (fail)
    (go_at_call 12; refine Calls.mono (markIntA4S_any _ _ _ _ 1 _ (ho48.kept k9) hll (by decide) (by decide)) ?_; rintro e w10 ⟨rfl, ho10, g10⟩)
    have K10 : Kept w w10 := (K8.trans k9).grown g10 fun k hk => Nat.le_trans s3 (ho4.lt k hk).1
    go_wp2_with (fail)
    (go_at_call 13; refine Calls.mono (heldIntA4S_any _ _ _ 1 _ ho10 hll (by decide) (by decide)) ?_; rintro e w11 ⟨rfl, k11⟩)
    have hx11 := hx.kept (K10.trans k11)
    go_wp2_with (fail)
    (go_at_call 9; refine Calls.mono (toIntA4S_any _ _ _ _ (hx11.kept (by (try simp only [ext_ext]); repeat (first | exact Kept.refl _ | apply Kept.alloc | apply Kept.drew | apply kept_add | apply Kept.ext))) hn) ?_; rintro e w12 ⟨v12, rfl, ho12, k12⟩)
    have k12 : Kept w11 w12 := Kept.trans (by (try simp only [ext_ext]); repeat (first | exact Kept.refl _ | apply Kept.alloc | apply Kept.drew | apply kept_add | apply Kept.ext)) k12
    obtain ⟨a12, c12, rfl, hx12, hc12, ha12⟩ := ho12.reads2
    go_wp2_with (fail)
    (go_at_call 10; refine Calls.mono (hI _ _ _ hx12 hc12 ha12) ?_; rintro e w13 ⟨v13, rfl, ho13, k13⟩)
    have ho213 := (((ho28.kept k9).grown g10 n24).kept (k11.trans (k12.trans k13)))
    go_wp2_with (fail)
    (go_at_call 11; refine Calls.mono (eqC_any _ _ _ _ _ _ ho13 ho213 hll) ?_; rintro e w14 ⟨rfl, k14⟩)
    go_wp2_with (fail)
    (go_at_call 13; refine Calls.mono (heldIntA4S_any _ _ _ 1 _ (row_kept ho10 (k11.trans (k12.trans (k13.trans k14)))) hll (by decide) (by decide)) ?_; rintro e w15 ⟨rfl, k15⟩)
    go_wp2_with (fail)
    go_ret
    exact ⟨rfl, K10.trans (k11.trans (k12.trans (k13.trans (k14.trans k15))))⟩
  · go_enter Try.func3, Try.ntmps3
    go_wp2_with (first | (go_at_call 7; refine Calls.mono (szIntA4S_any _ _ _ hl' _) ?_; rintro e w' ⟨rfl, rfl⟩))
    go_ret
    exact ⟨rfl, (by (try simp only [ext_ext]); repeat (first | exact Kept.refl _ | apply Kept.alloc | apply Kept.drew | apply kept_add | apply Kept.ext))⟩
end Go.Proofs.Ytjlaoocomkonhaa
