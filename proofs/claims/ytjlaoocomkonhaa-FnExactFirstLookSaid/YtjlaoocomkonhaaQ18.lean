/- Contracts: all orders as the law's side builds them. Contracts: the visit that keeps the least image. Contracts: the visits that try all maps of one order of the traits. -/
import Derived.Test.YtjlaoocomkonhaaQ17
import Derived.Test.YtjlaoocomkonhaaQ08
namespace Go.Proofs.Ytjlaoocomkonhaa
open Go.RowKit
theorem lz_mem2 {ll : List (List Int)} {k : Nat} (h : k < ll.length) : lz ll k ∈ ll := by
  have e : lz ll k = ll[k] := by simp [lz, h]
  rw [e]; exact List.getElem_mem h
theorem ext_all_len (n : Nat) (ls : List (List Int)) : (ls.flatMap fun r => extTo r n).length ≤ ls.length * n := by
  induction ls with
  | nil => simp
  | cons r ls ih =>
    have := extTo_len r n
    rw [List.flatMap_cons, List.length_append, List.length_cons, Nat.succ_mul]
    omega
theorem OwnI.ei2 {B : Nat} {w : World} {v : Value} {l : List Int} {x : Int} (h : OwnI B w v (l ++ [x])) : EI w v (l ++ [x]) := by
  refine h.ei fun e => ?_
  rcases h.2 with ⟨_, h0⟩ | ⟨g, cap, cur, e2, _⟩
  · simp at h0
  · rw [e2] at e; cases e
set_option maxHeartbeats 2000000 in
set_option maxRecDepth 20000 in
theorem l5Perms_any (n : Nat) (hn1 : 1 ≤ n) (hn4 : n ≤ 4) (N : Int) (hN : N = (n : Int)) (hall : ∀ k, k ≤ n → (permL n k).length ≤ 24) (hlen : ∀ k, ∀ r ∈ permL n k, r.length = k) (w : World) :
    Calls Try.prog 51 #[.int .i64 N] w (RetR w (permL n n)) := by
  have hallH := hid hall
  have hlenH := hid hlen
  have hNH := hid hN
  have hp0 : Hid (permL n 0 = [[]]) := hid rfl
  have hpn := hid (fun k => permL_next n k)
  obtain ⟨P, hP⟩ : ∃ P, P = permL n := ⟨_, rfl⟩
  rw [← hP] at hallH hlenH hp0 hpn ⊢
  clear hall hlen hP hN
  go_enter Try.func51, Try.ntmps51
  go_wp2
  go_loopw [4, 3] (fun s4 s3 wr => ∃ k : Nat, k ≤ n ∧ s4 = .int .i64 (k : Int) ∧ OwnR w.heap.size wr s3 (P k) ∧ s3 ≠ .slice none 0 0 ∧ Kept w wr) (fun s4 _ _ => n - (intOf s4).toNat)
  case atStart => exact ⟨0, by omega, rfl, by rw [hp0.out]; exact ownR_one (by omega) (heap_at (by simp)) ⟨w.heap.size, 0, #[], rfl, heap_past (by simp) (heap_at rfl), rfl, Nat.le_refl _⟩, by simp, (by (try simp only [ext_ext]); repeat (first | exact Kept.refl _ | apply Kept.alloc | apply Kept.drew | apply kept_add | apply Kept.ext))⟩
  case round =>
    obtain ⟨w0, hw0⟩ : ∃ w0, w0 = wr := ⟨_, rfl⟩
    subst hw0
    obtain ⟨k, hk, rfl, hown, hnn, hkw⟩ := hrel
    have hkwH := hid hkw
    have hownH := hid hown
    have hnnH := hid hnn
    by_cases hlt : k < n
    · have hkN : (k : Int) < N := by have := hNH.out; omega
      have hPk := hallH.out k hk
      have hPn := hid (hpn.out k)
      have hPl := hid (hlenH.out k)
      have hPn1 := hid (hallH.out (k + 1) (by omega))
      obtain ⟨R, hR⟩ : ∃ R, R = P k := ⟨_, rfl⟩
      rw [← hR] at hownH hown hPk hPn hPl
      obtain ⟨ao, cap, rfl, hcap, hcs⟩ := hown.reads
      have hcsH := hid hcs
      clear hown hkw hnn hR hcs
      go_wp2_with (fail)
      go_loopw [6, 5] (fun s6 s5 wr => ∃ j : Nat, j ≤ R.length ∧ s6 = .int .i64 (j : Int) ∧ OwnR w0.heap.size wr s5 ((R.take j).flatMap fun r => extTo r n) ∧ s5 ≠ .slice none 0 0 ∧ Kept w0 wr) (fun s6 _ _ => R.length - (intOf s6).toNat)
      case atStart => exact ⟨0, Nat.zero_le _, rfl, by rw [List.take_zero]; exact ownR_nil (Nat.le_refl _) (heap_at rfl), by simp, (by (try simp only [ext_ext]); repeat (first | exact Kept.refl _ | apply Kept.alloc | apply Kept.drew | apply kept_add | apply Kept.ext))⟩
      case round =>
        obtain ⟨w1, hw1⟩ : ∃ w1, w1 = wr := ⟨_, rfl⟩
        subst hw1
        obtain ⟨j, hj, rfl, hown5, hnn5, hkw1⟩ := hrel
        have hkw1H := hid hkw1
        have hown5H := hid hown5
        have hnn5H := hid hnn5
        by_cases hjl : j < R.length
        · obtain ⟨A, hA⟩ : ∃ A, A = (R.take j).flatMap fun r => extTo r n := ⟨_, rfl⟩
          have hAn := hid (show (R.take (j + 1)).flatMap (fun r => extTo r n) = A ++ extTo (lz R j) n by rw [hA]; exact flat_next _ R j [] hjl)
          rw [← hA] at hown5 hown5H
          have hA24 := hid (show A.length ≤ 96 by
            rw [hA]
            refine Nat.le_trans (ext_all_len n _) (Nat.le_trans (Nat.mul_le_mul (Nat.le_trans (List.length_take_le' j R) hPk) hn4) (by omega)))
          obtain ⟨ga, u, rfl, hga, hcu, hei⟩ := hcsH.out j hjl
          obtain ⟨ge, cape, rfl, hge, hints⟩ := hei.ints
          have hrl := hid (show (lz R j).length = k from hPl.out _ (lz_mem2 hjl))
          clear hA hown5 hnn5 hkw1
          obtain ⟨r, hr⟩ : ∃ r, r = lz R j := ⟨_, rfl⟩
          rw [← hr] at hAn hei hints hcu hrl
          have hhas := hid (fun (x : Nat) w' (hk : Kept w0 w') => l1Has_any (some ⟨ge, 0, none⟩) cape r.length r (x : Int) w' (hints.kept hk) rfl (by rw [hrl.out]; omega))
          have howni := hid (fun w' (hk : Kept w0 w') => l1OwnI_any ge 0 cape r.length r w' (hints.kept hk) rfl (by rw [hrl.out]; omega))
          have hcellH := hid (fun w' (hk : Kept w0 w') => (hk.below.cell (p := ⟨ga, j, none⟩) hga).trans hcu)
          clear hr hei hints
          go_wp2_with (fail)
          go_loopw [7, 5] (fun s7 s5 wr => ∃ x : Nat, x ≤ n ∧ s7 = .int .i64 (x : Int) ∧ OwnR w0.heap.size wr s5 (A ++ extTo r x) ∧ s5 ≠ .slice none 0 0 ∧ Kept w0 wr) (fun s7 _ _ => n - (intOf s7).toNat)
          case atStart => exact ⟨0, Nat.zero_le _, rfl, by rw [show extTo r 0 = [] from rfl, List.append_nil]; exact hown5H.out.kept (by (try simp only [ext_ext]); repeat (first | exact Kept.refl _ | apply Kept.alloc | apply Kept.drew | apply kept_add | apply Kept.ext)), hnn5H.out, hkw1H.out.trans (by (try simp only [ext_ext]); repeat (first | exact Kept.refl _ | apply Kept.alloc | apply Kept.drew | apply kept_add | apply Kept.ext))⟩
          case round =>
            obtain ⟨w2, hw2⟩ : ∃ w2, w2 = wr := ⟨_, rfl⟩
            subst hw2
            obtain ⟨x, hx, rfl, hown6, hnn6, hkw2⟩ := hrel
            obtain ⟨A2, hA2⟩ : ∃ A2, A2 = A ++ extTo r x := ⟨_, rfl⟩
            rw [← hA2] at hown6
            have hA2H := hid hA2
            clear hA2
            have hown6H := hid hown6
            have hnn6H := hid hnn6
            have hkw2H := hid hkw2
            obtain ⟨ao6, cap6, rfl, _, _⟩ := hown6.reads
            have hc2 := hcellH.out w2 hkw2
            have hga2 : ga < w2.heap.size := Nat.lt_of_lt_of_le hga hkw2.below.size
            have hnx := hid (extTo_next r x)
            have hel := hid (extTo_len r x)
            by_cases hxn : x < n
            · have hxN : (x : Int) < N := by have := hNH.out; omega
              have hcon := hid (show ∀ w', Kept w0 w' → Calls Try.prog 65 #[.slice (some ⟨ge, 0, none⟩) r.length cape, .int .i64 (x : Int)] w' fun e w'' => e = .returned (.bool (hasI r x)) ∧ Kept w' w'' from hhas.out x)
              clear hown6 hnn6 hkw2
              cases hhit : hasI r x with
              | true =>
                rw [hhit] at hcon hnx
                have hnx2 := hid (show extTo r (x + 1) = extTo r x by rw [hnx.out]; simp)
                go_wp2_with (first | (go_at_call 65; refine Calls.mono (hcon.out _ (hkw2H.out.trans (by (try simp only [ext_ext]); repeat (first | exact Kept.refl _ | apply Kept.alloc | apply Kept.drew | apply kept_add | apply Kept.ext)))) ?_; rintro e w' ⟨rfl, y, rfl⟩))
                go_roundw
                case rel => exact ⟨x + 1, by omega, by go_num, by rw [hnx2.out, ← hA2H.out]; exact hown6H.out.kept (by (try simp only [ext_ext]); repeat (first | exact Kept.refl _ | apply Kept.alloc | apply Kept.drew | apply kept_add | apply Kept.ext)), hnn6H.out, hkw2H.out.trans (by (try simp only [ext_ext]); repeat (first | exact Kept.refl _ | apply Kept.alloc | apply Kept.drew | apply kept_add | apply Kept.ext))⟩
                case measure => simp [intOf]; omega
              | false =>
                rw [hhit] at hcon hnx
                have hnx2 := hid (show extTo r (x + 1) = extTo r x ++ [r ++ [(x : Int)]] by rw [hnx.out]; simp)
                have hA2l := hid (show A2.length ≤ 100 by have := hel.out; have := hA24.out; rw [hA2H.out, List.length_append]; omega)
                go_wp2_with (first | (go_at_call 65; refine Calls.mono (hcon.out _ (hkw2H.out.trans (by (try simp only [ext_ext]); repeat (first | exact Kept.refl _ | apply Kept.alloc | apply Kept.drew | apply kept_add | apply Kept.ext)))) ?_; rintro e w' ⟨rfl, y, rfl⟩) | (go_at_call 66; refine Calls.mono (howni.out _ (hkw2H.out.trans (by (try simp only [ext_ext]); repeat (first | exact Kept.refl _ | apply Kept.alloc | apply Kept.drew | apply kept_add | apply Kept.ext)))) ?_; rintro e w9 ⟨v9, rfl, ho9, k9⟩; have K9 := hid (show Kept w2 w9 from Kept.trans (by (try simp only [ext_ext]); repeat (first | assumption | exact Kept.refl _ | apply Kept.alloc | apply Kept.drew | apply kept_add | apply Kept.ext)) k9); have ho9H := hid (OwnI.mono (B' := w2.heap.size) ho9 (Kept.below (show Kept w2 _ from (by (try simp only [ext_ext]); repeat (first | assumption | exact Kept.refl _ | apply Kept.alloc | apply Kept.drew | apply kept_add | apply Kept.ext)))).size); obtain ⟨ao9, cap9, rfl, _, _⟩ := ho9.reads; clear ho9 k9) | (at_builtin; refine wpList_append_int rfl _ _ rfl w2 w2.heap.size (.slice ao9 r.length cap9) r rfl (ho9H.out.kept (by (try simp only [ext_ext]); repeat (first | exact Kept.refl _ | apply Kept.alloc | apply Kept.drew | apply kept_add | apply Kept.ext))) (K9.out.trans (by (try simp only [ext_ext]); repeat (first | exact Kept.refl _ | apply Kept.alloc | apply Kept.drew | apply kept_add | apply Kept.ext))) (Nat.le_refl _) (Kept.below (K9.out.trans (by (try simp only [ext_ext]); repeat (first | exact Kept.refl _ | apply Kept.alloc | apply Kept.drew | apply kept_add | apply Kept.ext)))).size _ _ (x : Int) rfl (cell_of_row _ _ 0 _ _ (0, 0) (heap_at (by simp))) (by rw [hrl.out]; omega) ?_; intro v8 w8 ho8 k8 hg8 hat8; have k8H := hid k8; have ho8H := hid ho8; obtain ⟨ao8, cap8, rfl, _, _⟩ := ho8.reads; clear ho8 k8 hg8 hat8) | (at_builtin; refine wpList_append_rows rfl _ _ rfl w0 w0.heap.size (.slice ao6 A2.length cap6) A2 rfl (hown6H.out.kept (k8H.out.trans (by (try simp only [ext_ext]); repeat (first | exact Kept.refl _ | apply Kept.alloc | apply Kept.drew | apply kept_add | apply Kept.ext)))) (hkw2H.out.trans (k8H.out.trans (by (try simp only [ext_ext]); repeat (first | exact Kept.refl _ | apply Kept.alloc | apply Kept.drew | apply kept_add | apply Kept.ext)))) (Nat.le_refl _) (Kept.below (hkw2H.out.trans (k8H.out.trans (by (try simp only [ext_ext]); repeat (first | exact Kept.refl _ | apply Kept.alloc | apply Kept.drew | apply kept_add | apply Kept.ext))))).size 0 (.slice (some ⟨w8.heap.size, 0, none⟩) 1 1) [r ++ [(x : Int)]] rfl (ownR_one (Nat.zero_le _) (heap_at (by simp)) (EI.kept (show EI w8 (.slice ao8 (r.length + 1) cap8) (r ++ [(x : Int)]) from by have e8 := ho8H.out.ei2; rwa [List.length_append, List.length_singleton] at e8) (by (try simp only [ext_ext]); repeat (first | exact Kept.refl _ | apply Kept.alloc | apply Kept.drew | apply kept_add | apply Kept.ext)))) (by simp) hnn6H.out (by have := hA2l.out; simp only [List.length_singleton]; omega) ?_; intro v7 w7 ho7 hnn7 hk7; have ho7H := hid ho7; obtain ⟨ao7, cap7, rfl, _, _⟩ := ho7.reads; clear ho7))
                go_roundw
                case rel => exact ⟨x + 1, by omega, by go_num, by rw [hnx2.out, ← List.append_assoc, ← hA2H.out]; have e7 := ho7H.out; rwa [List.length_append, List.length_singleton] at e7, by simp, hk7⟩
                case measure => simp [intOf]; omega
            · obtain rfl : x = n := by omega
              have hxN : ¬ (x : Int) < N := by have := hNH.out; omega
              clear hown6 hnn6 hkw2
              go_wp2_with (fail)
              go_roundw
              case rel => exact ⟨j + 1, by omega, by go_num, by rw [hAn.out, ← hA2H.out]; exact hown6H.out.kept (by (try simp only [ext_ext]); repeat (first | exact Kept.refl _ | apply Kept.alloc | apply Kept.drew | apply kept_add | apply Kept.ext)), hnn6H.out, hkw2H.out.trans (by (try simp only [ext_ext]); repeat (first | exact Kept.refl _ | apply Kept.alloc | apply Kept.drew | apply kept_add | apply Kept.ext))⟩
              case measure => simp [intOf]; omega
        · obtain rfl : j = R.length := by omega
          have he : (R.take R.length).flatMap (fun r => extTo r n) = P (k + 1) := by rw [List.take_length, hPn.out]
          rw [he] at hown5
          obtain ⟨ao5, cap5, rfl, _, _⟩ := hown5.reads
          have hown5H := hid hown5
          clear hown5 hnn5 hkw1 he
          go_wp2_with (fail)
          go_roundw
          case rel => exact ⟨k + 1, by omega, by go_num, (hown5H.out.kept (by (try simp only [ext_ext]); repeat (first | exact Kept.refl _ | apply Kept.alloc | apply Kept.drew | apply kept_add | apply Kept.ext))).mono hkwH.out.below.size, hnn5H.out, hkwH.out.trans (hkw1H.out.trans (by (try simp only [ext_ext]); repeat (first | exact Kept.refl _ | apply Kept.alloc | apply Kept.drew | apply kept_add | apply Kept.ext)))⟩
          case measure => simp [intOf]; omega
    · obtain rfl : k = n := by omega
      have hkN : ¬ (k : Int) < N := by have := hNH.out; omega
      obtain ⟨ao, cap, rfl, _, _⟩ := hown.reads
      go_wp2
      refine bodyPost_ret (v := .slice ao (P k).length cap) (by simp [results, Try.results51, go_sem]) rfl ?_
      exact ⟨_, rfl, hownH.out.kept (by (try simp only [ext_ext]); repeat (first | exact Kept.refl _ | apply Kept.alloc | apply Kept.drew | apply kept_add | apply Kept.ext)), hnnH.out, hkwH.out.trans (by (try simp only [ext_ext]); repeat (first | exact Kept.refl _ | apply Kept.alloc | apply Kept.drew | apply kept_add | apply Kept.ext))⟩
end Go.Proofs.Ytjlaoocomkonhaa
namespace Go.Proofs.Ytjlaoocomkonhaa
open Go.RowKit
/-- The lesser of a row and a hand's image. -/
def bestM (xs : List Card) (b : List Card) (f : Nat → Int) : List Card := if lexC (imgL f xs) b < 0 then imgL f xs else b
def LkI (Bq n : Nat) (W : World) (c : Nat) (b : List Card) (w : World) : Prop :=
  Fr c none none W w ∧ (c < W.heap.size ∧ Bq ≤ W.heap.size) ∧ (∃ v, w.heap[c]? = some (.cells #[v] 22 (0, 0)) ∧ OwnC Bq w v b ∧ v.ownBlock ≠ some c) ∧ b.length = n ∧ ∀ x ∈ b, isCard x = true
theorem LkI.kept {Bq n : Nat} {W : World} {c : Nat} {b : List Card} {w w' : World} (H : LkI Bq n W c b w) (hk : Kept w w') : LkI Bq n W c b w' := by
  obtain ⟨h0, h1, ⟨v, h2, h3, h4⟩, h5⟩ := H
  exact ⟨h0.trans hk.fr, h1, ⟨v, (hk.below.block c (Array.getElem?_eq_some_iff.1 h2).1).trans h2, h3.kept hk, h4⟩, h5⟩
theorem LkI.lt {Bq n : Nat} {W : World} {c : Nat} {b : List Card} {w : World} (H : LkI Bq n W c b w) : c < w.heap.size := by
  obtain ⟨h0, h1, ⟨v, h2, h3, h4⟩, h5⟩ := H
  exact (Array.getElem?_eq_some_iff.1 h2).1
theorem fr_set {c : Nat} {w X : World} (u : Value) (hX : Kept w X) : Fr c none none w (X.setCell ⟨c, 0, none⟩ u) := by
  have hb := hX.below
  have hs : (X.setCell ⟨c, 0, none⟩ u).heap.size = X.heap.size := by simp
  exact ⟨hb.os, hb.tape, hb.output, by rw [hs]; exact hb.size, fun k hk h1 _ => by rw [heap_setCell_other _ _ _ _ h1, hb.block k hk], .inl rfl⟩
set_option maxHeartbeats 1000000 in
set_option maxRecDepth 20000 in
theorem look1_any {Bq : Nat} (f : Nat → Int) (xs : List Card) (n : Nat) (W : World) (c Bh : Nat) (ao : Option Addr) (cap : Nat) (hm : mapB f = true) (hn : xs.length = n) (hl : n ≤ 27) (hc : ∀ x ∈ xs, isCard x = true) (hnd : xs.Nodup)
    (hH : ∀ w', Fr c none none W w' → w'.cell? ⟨Bh, 0, none⟩ = some (.slice ao n cap) ∧ Bh < w'.heap.size ∧ CardsAt w' ao xs)
    (b : List Card) (w : World) (hI : LkI Bq n W c b w) :
    Calls Try.prog 33 #[mpv f, .pointer (some ⟨Bh, 0, none⟩), .pointer (some ⟨c, 0, none⟩)] w fun e w' => e = .returned (.bool true) ∧ LkI Bq n W c (bestM xs b f) w' ∧ Fr c none none w w' := by
  have hlt := hI.lt
  obtain ⟨h0, h1, ⟨v, h2, h3, h4⟩, h5, h6⟩ := hI
  obtain ⟨hbx, hBw, hxw⟩ := hH w h0
  obtain ⟨bo, bcap, rfl, hxb, hcb⟩ := h3.reads
  have hcI := map_cards hm hc
  have hIl : (imgL f xs).length = n := by unfold imgL; rw [srt_len_nodup hcI (map_nodup hm hc hnd), List.length_map, hn]
  have hIc : ∀ x ∈ imgL f xs, isCard x = true := fun x hx => hcI x ((srt_mem hcI x).1 hx)
  have hG := hid (fun w' (hk : Kept w w') => images_any f ao cap n xs w' hm (hxw.kept hk) hn hl hc hnd)
  have hb : Hid (bestM xs b f = if lexC (imgL f xs) b < 0 then imgL f xs else b) := hid rfl
  obtain ⟨L, hL⟩ : ∃ L, L = imgL f xs := ⟨_, rfl⟩
  rw [← hL] at hG hb hIl hIc
  rw [h5] at hcb
  have h0H := hid h0
  have h2H := hid h2
  have h3H := hid h3
  have h4H := hid h4
  have hxbH := hid hxb
  have hIlH := hid hIl
  have hIcH := hid hIc
  have h5H := hid h5
  have h6H := hid h6
  rw [h5H.out] at h2H h3H h4H
  clear h0 h2 h3 h4 hH hxw hxb hL hm hc hnd hcI hIl hIc hn h5 h6
  go_enter Try.func33, Try.ntmps33
  go_wp2_with (fail)
  (go_at_call 34; refine Calls.mono (hG.out _ (by (try simp only [ext_ext]); repeat (first | exact Kept.refl _ | apply Kept.alloc | apply Kept.drew | apply kept_add | apply Kept.ext))) ?_; rintro e w1 ⟨g1, cap1, rfl, ho1, k1⟩)
  rw [hIlH.out]
  have K1 := hid (show Kept w w1 from Kept.trans (by (try simp only [ext_ext]); repeat (first | exact Kept.refl _ | apply Kept.alloc | apply Kept.drew | apply kept_add | apply Kept.ext)) k1)
  have hg1 := hid (show w.heap.size ≤ g1 from Nat.le_trans (show Kept w _ from (by (try simp only [ext_ext]); repeat (first | exact Kept.refl _ | apply Kept.alloc | apply Kept.drew | apply kept_add | apply Kept.ext))).below.size (ho1.lt g1 rfl).1)
  rw [hIlH.out] at ho1
  have ho1H := hid ho1
  obtain ⟨_, _, hv, hx1, hcap1⟩ := ho1.reads
  rw [hIlH.out] at hv hcap1
  cases hv
  have hC := hid (fun w' (hk : Kept w1 w') => cmpF_any (some ⟨g1, 0, none⟩) bo cap1 bcap n L b w' (hx1.kept hk) (hxbH.out.kept (K1.out.trans hk)) hIlH.out h5H.out (by omega) hIcH.out h6H.out)
  have hb0 := (K1.out.below.block c hlt).trans h2H.out
  have hcell := cell_of_row w1 c 0 _ _ (0, 0) hb0
  have hfr := frozen_of_row w1 c 0 _ _ hb0
  simp only [List.getElem?_toArray, List.getElem?_cons_zero] at hcell
  have hcs1 := Nat.lt_of_lt_of_le hlt K1.out.below.size
  have hb0H := hid hb0
  obtain ⟨D, hD⟩ : ∃ D, D = lexC L b := ⟨_, rfl⟩
  rw [← hD] at hC hb
  clear hb0 k1 hG ho1 hx1 hD
  by_cases hneg : D < 0
  · have hbe := hid (show bestM xs b f = L by rw [hb.out, if_pos hneg])
    go_wp2_with (first | (go_at_call 35; refine Calls.mono (hC.out _ ((by (try simp only [ext_ext]); repeat (first | exact Kept.refl _ | apply Kept.alloc | apply Kept.drew | apply kept_add | apply Kept.ext)))) ?_; rintro e w2 ⟨rfl, k2⟩; have hb2 := hid ((k2.below.block c hcs1).trans hb0H.out); have hcell2 := cell_of_row w2 c 0 _ _ (0, 0) hb2.out; have hfr2 := frozen_of_row w2 c 0 _ _ hb2.out; simp only [List.getElem?_toArray, List.getElem?_cons_zero] at hcell2; have hcs2 := Nat.lt_of_lt_of_le hcs1 k2.below.size))
    go_ret
    have hg1c : g1 ≠ c := by have := hg1.out; omega
    refine ⟨rfl, ⟨h0H.out.trans (fr_set _ (K1.out.trans k2)), h1, ⟨.slice (some ⟨g1, 0, none⟩) n cap1, heap_setCell_same _ _ _ _ _ _ hb2.out, ?_, fun e => hg1c (Option.some.inj e)⟩, by rw [hbe.out]; exact hIlH.out, by rw [hbe.out]; exact hIcH.out⟩, fr_set _ (K1.out.trans k2)⟩
    rw [hbe.out]
    exact ((ho1H.out.mono (by have := h1.2; have := h0H.out.2.2.2.1; simp; omega : Bq ≤ _)).kept k2).grown (grown_setCell (grown_refl _ (some c)) (p := ⟨c, 0, none⟩) rfl _) (fun g hg e => by cases hg; exact hg1c (Option.some.inj e).symm)
  · have hbe := hid (show bestM xs b f = b by rw [hb.out, if_neg hneg])
    go_wp2_with (first | (go_at_call 35; refine Calls.mono (hC.out _ ((by (try simp only [ext_ext]); repeat (first | exact Kept.refl _ | apply Kept.alloc | apply Kept.drew | apply kept_add | apply Kept.ext)))) ?_; rintro e w2 ⟨rfl, k2⟩))
    go_ret
    have kk := K1.out.trans k2
    exact ⟨rfl, by rw [hbe.out]; exact LkI.kept ⟨h0H.out, h1, ⟨_, h2H.out, h3H.out, h4H.out⟩, h5H.out, h6H.out⟩ kk, kk.fr⟩
end Go.Proofs.Ytjlaoocomkonhaa
namespace Go.Proofs.Ytjlaoocomkonhaa
open Go.RowKit
/-- The map of one order and four rows. -/
def mkF (p : List Int) (a b c d : Ln) : Nat → Int := ix [ix p 0, ix p 1, ix p 2, ix p 3, a.a, a.b, a.c, b.a, b.b, b.c, c.a, c.b, c.c, d.a, d.b, d.c]
def mapN (p : List Int) (k : Nat) : Nat → Int := mkF p (lx rows3 (k / 216)) (lx rows3 (k / 36 % 6)) (lx rows3 (k / 6 % 6)) (lx rows3 (k % 6))
def bestK (xs : List Card) (p : List Int) (b : List Card) : Nat → List Card
  | 0 => b
  | k + 1 => bestM xs (bestK xs p b k) (mapN p k)
theorem rows3_perm : ((List.range 6).all fun i => permB [(lx rows3 i).a, (lx rows3 i).b, (lx rows3 i).c]) = true := by kernel_rfl
theorem rows3_of {i : Nat} (h : i < 6) : permB [(lx rows3 i).a, (lx rows3 i).b, (lx rows3 i).c] = true := List.all_eq_true.1 rows3_perm i (List.mem_range.2 h)
theorem mkF_ok {p : List Int} {a b c d : Ln} (hp : permB p = true) (h4 : p.length = 4) (ha : permB [a.a, a.b, a.c] = true) (hb : permB [b.a, b.b, b.c] = true) (hc : permB [c.a, c.b, c.c] = true) (hd : permB [d.a, d.b, d.c] = true) : mapB (mkF p a b c d) = true := by
  match p, h4 with
  | [x, y, z, t], _ =>
    have h0 : row3 (mkF [x, y, z, t] a b c d) 0 = [a.a, a.b, a.c] := rfl
    have h1 : row3 (mkF [x, y, z, t] a b c d) 1 = [b.a, b.b, b.c] := rfl
    have h2 : row3 (mkF [x, y, z, t] a b c d) 2 = [c.a, c.b, c.c] := rfl
    have h3 : row3 (mkF [x, y, z, t] a b c d) 3 = [d.a, d.b, d.c] := rfl
    have h4 : row4 (mkF [x, y, z, t] a b c d) = [x, y, z, t] := rfl
    unfold mapB mapTo
    rw [h4, hp, Bool.and_true]
    refine List.all_eq_true.2 fun i hi => ?_
    have hi4 := List.mem_range.1 hi
    match i, hi4 with
    | 0, _ => rw [h0]; exact ha
    | 1, _ => rw [h1]; exact hb
    | 2, _ => rw [h2]; exact hc
    | 3, _ => rw [h3]; exact hd
theorem mapN_ok {p : List Int} (hp : p ∈ ords4) {k : Nat} (hk : k < 1296) : mapB (mapN p k) = true :=
  mkF_ok (ords4_of hp).2 (ords4_of hp).1 (rows3_of (by omega)) (rows3_of (by omega)) (rows3_of (by omega)) (rows3_of (by omega))
theorem kept_grownF {w w' : World} {r : Option Nat} (h : Kept w w') : w.grownBy w' r := ⟨h.below.os, h.below.tape, h.below.output, h.below.size, fun i hi _ => h.below.block i hi⟩
/-- Twelve cells written from the fifth on. -/
def set12 (w : World) (g : Nat) (v : Nat → Value) : World :=
  ((((((((((((w.setCell ⟨g, 4, none⟩ (v 0)).setCell ⟨g, 5, none⟩ (v 1)).setCell ⟨g, 6, none⟩ (v 2)).setCell ⟨g, 7, none⟩ (v 3)).setCell ⟨g, 8, none⟩ (v 4)).setCell ⟨g, 9, none⟩ (v 5)).setCell ⟨g, 10, none⟩ (v 6)).setCell ⟨g, 11, none⟩ (v 7)).setCell ⟨g, 12, none⟩ (v 8)).setCell ⟨g, 13, none⟩ (v 9)).setCell ⟨g, 14, none⟩ (v 10)).setCell ⟨g, 15, none⟩ (v 11))
theorem set12_grown (w : World) (g : Nat) (v : Nat → Value) : w.grownBy (set12 w g v) (some g) := by
  unfold set12
  exact grown_setCell (grown_setCell (grown_setCell (grown_setCell (grown_setCell (grown_setCell (grown_setCell (grown_setCell (grown_setCell (grown_setCell (grown_setCell (grown_setCell (grown_refl _ (some g)) rfl _) rfl _) rfl _) rfl _) rfl _) rfl _) rfl _) rfl _) rfl _) rfl _) rfl _) rfl _
theorem setCell_st {w : World} {g i : Nat} {t : TypeId} {cs cs' : Array Value} {u : Value} (h : w.heap[g]? = some (.cells cs t (0, 0))) (e : cs.setIfInBounds i u = cs') : (w.setCell ⟨g, i, none⟩ u).heap[g]? = some (.cells cs' t (0, 0)) := by rw [heap_setCell_same _ _ _ _ _ _ h, e]
theorem set12_heap {w : World} {g : Nat} {t : TypeId} {a0 a1 a2 a3 b0 b1 b2 b3 b4 b5 b6 b7 b8 b9 b10 b11 : Value} (v : Nat → Value) (h : w.heap[g]? = some (.cells #[a0, a1, a2, a3, b0, b1, b2, b3, b4, b5, b6, b7, b8, b9, b10, b11] t (0, 0))) :
    (set12 w g v).heap[g]? = some (.cells #[a0, a1, a2, a3, v 0, v 1, v 2, v 3, v 4, v 5, v 6, v 7, v 8, v 9, v 10, v 11] t (0, 0)) := by
  unfold set12
  have h1 := setCell_st (cs' := #[a0, a1, a2, a3, v 0, b1, b2, b3, b4, b5, b6, b7, b8, b9, b10, b11]) (i := 4) (u := v 0) h rfl
  have h2 := setCell_st (cs' := #[a0, a1, a2, a3, v 0, v 1, b2, b3, b4, b5, b6, b7, b8, b9, b10, b11]) (i := 5) (u := v 1) h1 rfl
  have h3 := setCell_st (cs' := #[a0, a1, a2, a3, v 0, v 1, v 2, b3, b4, b5, b6, b7, b8, b9, b10, b11]) (i := 6) (u := v 2) h2 rfl
  have h4 := setCell_st (cs' := #[a0, a1, a2, a3, v 0, v 1, v 2, v 3, b4, b5, b6, b7, b8, b9, b10, b11]) (i := 7) (u := v 3) h3 rfl
  have h5 := setCell_st (cs' := #[a0, a1, a2, a3, v 0, v 1, v 2, v 3, v 4, b5, b6, b7, b8, b9, b10, b11]) (i := 8) (u := v 4) h4 rfl
  have h6 := setCell_st (cs' := #[a0, a1, a2, a3, v 0, v 1, v 2, v 3, v 4, v 5, b6, b7, b8, b9, b10, b11]) (i := 9) (u := v 5) h5 rfl
  have h7 := setCell_st (cs' := #[a0, a1, a2, a3, v 0, v 1, v 2, v 3, v 4, v 5, v 6, b7, b8, b9, b10, b11]) (i := 10) (u := v 6) h6 rfl
  have h8 := setCell_st (cs' := #[a0, a1, a2, a3, v 0, v 1, v 2, v 3, v 4, v 5, v 6, v 7, b8, b9, b10, b11]) (i := 11) (u := v 7) h7 rfl
  have h9 := setCell_st (cs' := #[a0, a1, a2, a3, v 0, v 1, v 2, v 3, v 4, v 5, v 6, v 7, v 8, b9, b10, b11]) (i := 12) (u := v 8) h8 rfl
  have h10 := setCell_st (cs' := #[a0, a1, a2, a3, v 0, v 1, v 2, v 3, v 4, v 5, v 6, v 7, v 8, v 9, b10, b11]) (i := 13) (u := v 9) h9 rfl
  have h11 := setCell_st (cs' := #[a0, a1, a2, a3, v 0, v 1, v 2, v 3, v 4, v 5, v 6, v 7, v 8, v 9, v 10, b11]) (i := 14) (u := v 10) h10 rfl
  exact setCell_st (cs' := #[a0, a1, a2, a3, v 0, v 1, v 2, v 3, v 4, v 5, v 6, v 7, v 8, v 9, v 10, v 11]) (i := 15) (u := v 11) h11 rfl
end Go.Proofs.Ytjlaoocomkonhaa
