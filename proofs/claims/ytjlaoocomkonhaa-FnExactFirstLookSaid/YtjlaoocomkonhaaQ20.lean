/- Contracts: all maps, with the visit that keeps the least image. Plain: all maps as the law's side builds them, and the least image over them. Contracts: all maps as the law's side builds them. -/
import Derived.Test.YtjlaoocomkonhaaQ19
import Derived.Test.YtjlaoocomkonhaaQ18
namespace Go.Proofs.Ytjlaoocomkonhaa
open Go.RowKit
def bestL (xs : List Card) (b : List Card) (h : List (List Int)) : List Card := h.foldl (fun b p => bestK xs p b 1296) b
theorem bestL_next (xs b : List Card) (h : List (List Int)) (p : List Int) : bestL xs b (h ++ [p]) = bestK xs p (bestL xs b h) 1296 := by simp [bestL]
theorem fr_cell {c : Nat} {w w' : World} {g i : Nat} {u : Value} (hf : Fr c none none w w') (hg : g < w.heap.size) (hne : g ≠ c) (h : w.cell? ⟨g, i, none⟩ = some u) : w'.cell? ⟨g, i, none⟩ = some u :=
  (cell_block (hf.2.2.2.2.1 g hg hne (by simp)) _).trans h
set_option maxHeartbeats 2000000 in
set_option maxRecDepth 20000 in
theorem maps_any {Bq : Nat} (xs : List Card) (n : Nat) (w : World) (c Bh : Nat) (ao : Option Addr) (cap : Nat) (hn : xs.length = n) (hl : n ≤ 27) (hc : ∀ x ∈ xs, isCard x = true) (hnd : xs.Nodup)
    (hH : ∀ w', Fr c none none w w' → w'.cell? ⟨Bh, 0, none⟩ = some (.slice ao n cap) ∧ Bh < w'.heap.size ∧ CardsAt w' ao xs)
    (b : List Card) (hI : LkI Bq n w c b w) :
    Calls Try.prog 32 #[.func (.func 33) #[] #[.pointer (some ⟨Bh, 0, none⟩), .pointer (some ⟨c, 0, none⟩)]] w fun e w' => e = .returned (.tuple #[]) ∧ LkI Bq n w c (bestL xs b ords4) w' := by
  have hcw := hid hI.lt
  have hHH := hid hH
  have hIH := hid hI
  have hcH := hid hc
  have hndH := hid hnd
  have hnH := hid hn
  obtain ⟨o3, ho3⟩ : ∃ o, o = ords3 := ⟨_, rfl⟩
  obtain ⟨o4, ho4⟩ : ∃ o, o = ords4 := ⟨_, rfl⟩
  have hR3 := hid (show rows3 = lnO o3 by rw [ho3]; rfl)
  have hO3 := hid (show o3 = ordF 3 3 [] from ho3)
  have hO4 := hid (show o4 = ordF 4 4 [] from ho4)
  have hm3 := hid (show ∀ p ∈ o3, p.length = 3 from fun p hp => (ords3_of (ho3 ▸ hp)).1)
  have hl3 := hid (show o3.length = 6 by rw [ho3, ords3_len])
  have hm4 := hid (show ∀ p ∈ o4, p ∈ ords4 from fun p hp => ho4 ▸ hp)
  rw [← ho4]
  clear hH hI hc hnd hn ho3 ho4
  obtain ⟨W, hW⟩ : ∃ W, W = w.alloc (.cells #[(Value.func (.func 33) #[] #[.pointer (some ⟨Bh, 0, none⟩), .pointer (some ⟨c, 0, none⟩)])] 53) := ⟨_, rfl⟩
  have hWs := hid (show W.heap.size = w.heap.size + 1 by rw [hW]; simp)
  have kW := hid (show Kept w W by rw [hW]; exact (by (try simp only [ext_ext]); repeat (first | exact Kept.refl _ | apply Kept.alloc | apply Kept.drew | apply kept_add | apply Kept.ext)))
  have hWc := hid (show W.cell? ⟨w.heap.size, 0, none⟩ = some (Value.func (.func 33) #[] #[.pointer (some ⟨Bh, 0, none⟩), .pointer (some ⟨c, 0, none⟩)]) by rw [hW]; simp [go_sem])
  have hWH := hid hW
  clear hW
  go_enter Try.func32, Try.ntmps32
  go_upto_region 1 with (fail)
  rw [← hWH.out]
  have hsz := hWs.out
  go_upto_region 2 with (fail)
  have hI1 : M1I W (w.heap.size + 1 + 1) [] (some (w.heap.size + 1)) ((W.alloc (.cells #[] T3)).alloc (.cells #[.slice (some ⟨w.heap.size + 1, 0, none⟩) 0 0] 64)) := by
    refine ⟨(by (try simp only [ext_ext]); repeat (first | exact Kept.refl _ | apply Kept.alloc | apply Kept.drew | apply kept_add | apply Kept.ext)), by omega, .slice (some ⟨w.heap.size + 1, 0, none⟩) 0 0, heap_at (by simp [hsz]), ?_, rfl, fun e => by have := Option.some.inj e; omega⟩
    exact ownL_nil (by omega) (heap_past (by simp [hsz]) (heap_at (by simp [hsz])))
  have hI1H := hid hI1
  clear hI1
  go_wp2_with (fail)
  (go_at_call 54; refine Calls.mono (orders_M1 (w.heap.size + 1 + 1) _ o3 (M1I W (w.heap.size + 1 + 1)) (fun h r w w' H hk => H.kept hk) (fun h r w H => H.lt) (fun h p r w' u hp H hu => maps1_any W _ h p r w' u (hm3.out p (pre_mem hp)) (by have := pre_len hp; have := hl3.out; omega) H hu) 3 (by omega) 3 rfl 3 [] [] [] (some (w.heap.size + 1)) _ _ rfl (by rw [hO3.out]; simp) hI1H.out (.inl ⟨rfl, rfl⟩)) ?_; rintro e w2 ⟨rfl, r2, hI2, _⟩)
  rw [List.nil_append, ← hO3.out] at hI2
  obtain ⟨k2, _, v2, h3, h4, h5, h6⟩ := hI2
  rw [← hR3.out] at h4
  obtain ⟨gr, capr, rfl, hgr1, hgr2, hrl, hcr⟩ : ∃ gr capr, v2 = .slice (some ⟨gr, 0, none⟩) 6 capr ∧ W.heap.size ≤ gr ∧ gr < w2.heap.size ∧ LinesAt w2 (some ⟨gr, 0, none⟩) rows3 ∧ 6 ≤ capr := by
    obtain ⟨ao', cap', e, hr, hc'⟩ := h4.reads
    rcases h4.2 with ⟨_, h0⟩ | ⟨g, cap2, cur, e2, hb, hh, _⟩
    · rw [rows3_len] at h0; omega
    · rw [e2] at e
      cases e
      rw [rows3_len] at e2 hc'
      exact ⟨g, cap', e2, hb, (Array.getElem?_eq_some_iff.1 hh).1, hr, hc'⟩
  have K2 := hid (kW.out.trans k2)
  have hcb := cell_of_row w2 (w.heap.size + 1 + 1) 0 _ _ (0, 0) h3
  simp only [List.getElem?_toArray, List.getElem?_cons_zero] at hcb
  have hBr : w.heap.size + 1 + 1 < w2.heap.size := (Array.getElem?_eq_some_iff.1 h3).1
  have hBf : w.heap.size < w2.heap.size := by omega
  have hfb := (k2.below.cell (p := ⟨w.heap.size, 0, none⟩) (by have := hWs.out; omega : w.heap.size < W.heap.size)).trans hWc.out
  have hcl := hcw.out
  have hR := hid (show ∀ w', Fr c none none w2 w' → w'.cell? ⟨w.heap.size + 1 + 1, 0, none⟩ = some (.slice (some ⟨gr, 0, none⟩) 6 capr) ∧ w.heap.size + 1 + 1 < w'.heap.size ∧ w'.cell? ⟨w.heap.size, 0, none⟩ = some (Value.func (.func 33) #[] #[.pointer (some ⟨Bh, 0, none⟩), .pointer (some ⟨c, 0, none⟩)]) ∧ w.heap.size < w'.heap.size ∧ gr < w'.heap.size ∧ ∀ i, i < 6 → LnCells w' gr (i * 3) (lx rows3 i) from fun w' hf => by
    have hs := hf.2.2.2.1
    refine ⟨fr_cell hf hBr (by omega) hcb, by omega, fr_cell hf hBf (by omega) hfb, by omega, by omega, fun i hi => ?_⟩
    obtain ⟨_, _, e, _, q1, q2, q3⟩ := hrl i (by rw [rows3_len]; exact hi)
    cases e
    rw [Nat.zero_add] at q1 q2 q3
    exact ⟨fr_cell hf hgr2 (by omega) q1, fr_cell hf hgr2 (by omega) q2, fr_cell hf hgr2 (by omega) q3⟩)
  have hH2 := hid (show ∀ w', Fr c none none w2 w' → w'.cell? ⟨Bh, 0, none⟩ = some (.slice ao n cap) ∧ Bh < w'.heap.size ∧ CardsAt w' ao xs from fun w' hf => hHH.out w' ((Kept.fr K2.out).trans hf))
  have hLk2 := hid (show LkI Bq n w2 c b w2 by
    obtain ⟨g0, g1, ⟨v, g2, g3, g4⟩, g5⟩ := hIH.out.kept K2.out
    exact ⟨Kept.fr (Kept.refl _), ⟨(Array.getElem?_eq_some_iff.1 g2).1, Nat.le_trans g1.2 K2.out.below.size⟩, ⟨v, g2, g3, g4⟩, g5⟩)
  have hvis := hid (show ∀ h p r w' u, h ++ [p] <+: o4 → (r = none ∧ LkI Bq n w2 c (bestL xs b h) w') → ListAt c r w' u p → Calls Try.prog 56 #[u, .pointer (some ⟨w.heap.size + 1 + 1, 0, none⟩), .pointer (some ⟨w.heap.size, 0, none⟩)] w' fun e w3 => e = .returned (.bool true) ∧ ∃ r', (r' = none ∧ LkI Bq n w2 c (bestL xs b (h ++ [p])) w3) ∧ Fr c r r' w' w3 from fun h p r w' u hp H hu => by
    obtain ⟨rfl, H⟩ := H
    refine Calls.mono (maps2_any p xs n w2 c Bh _ _ gr capr ao cap (hm4.out p (pre_mem hp)) hnH.out hl hcH.out hndH.out hcr hH2.out hR.out (bestL xs b h) w' u H hu) ?_
    rintro e w3 ⟨rfl, H3, hf3⟩
    exact ⟨rfl, none, ⟨rfl, by rw [bestL_next]; exact H3⟩, hf3⟩)
  clear h3 h4 h5 h6 hrl
  go_wp2_with (fail)
  (go_at_call 54; refine Calls.mono (orders_M2 c _ _ o4 (fun h r w' => r = none ∧ LkI Bq n w2 c (bestL xs b h) w') (fun h r w w' H hk => ⟨H.1, H.2.kept hk⟩) (fun h r w H => ⟨H.2.lt, fun g hg => by rw [H.1] at hg; cases hg⟩) hvis.out 4 (by omega) 4 rfl 4 [] [] [] none _ _ rfl (by rw [hO4.out]; simp) ⟨rfl, hLk2.out⟩ (.inl ⟨rfl, rfl⟩)) ?_; rintro e w3 ⟨rfl, r3, hI3, _⟩)
  rw [List.nil_append, ← hO4.out] at hI3
  obtain ⟨_, hI3⟩ := hI3
  go_wp2_with (fail)
  go_end0
  obtain ⟨g0, g1, ⟨v, g2, g3, g4⟩, g5⟩ := hI3
  exact ⟨rfl, (Kept.fr K2.out).trans g0, ⟨hcw.out, hIH.out.2.1.2⟩, ⟨v, g2, g3, g4⟩, g5⟩
end Go.Proofs.Ytjlaoocomkonhaa
namespace Go.Proofs.Ytjlaoocomkonhaa
open Go.RowKit
/-- The maps of one order of the traits, as far as a code. -/
def mapsTo (p : List Int) (k : Nat) : List (Nat → Int) := (List.range k).map (mapN p)
def mapsL (h : List (List Int)) : List (Nat → Int) := h.flatMap fun p => mapsTo p 1296
theorem mapsTo_next (p : List Int) (k : Nat) : mapsTo p (k + 1) = mapsTo p k ++ [mapN p k] := by simp [mapsTo, List.range_succ]
theorem mapsTo_len (p : List Int) (k : Nat) : (mapsTo p k).length = k := by simp [mapsTo]
theorem mapsL_len (h : List (List Int)) : (mapsL h).length = h.length * 1296 := by
  induction h with
  | nil => rfl
  | cons p h ih =>
    have e : mapsL (p :: h) = mapsTo p 1296 ++ mapsL h := rfl
    rw [e, List.length_append, ih, mapsTo_len, List.length_cons]; omega
theorem mapsL_next (h : List (List Int)) (t : Nat) (ht : t < h.length) : mapsL (h.take (t + 1)) = mapsL (h.take t) ++ mapsTo (lz h t) 1296 := by
  unfold mapsL lz
  exact flat_next _ h t [] ht
theorem foldl_mapsTo (xs b : List Card) (p : List Int) (k : Nat) : (mapsTo p k).foldl (bestM xs) b = bestK xs p b k := by
  induction k with
  | zero => rfl
  | succ k ih => rw [mapsTo_next, List.foldl_append, ih]; rfl
theorem foldl_mapsL (xs : List Card) (h : List (List Int)) (b : List Card) : (mapsL h).foldl (bestM xs) b = bestL xs b h := by
  induction h generalizing b with
  | nil => rfl
  | cons p h ih =>
    have e : mapsL (p :: h) = mapsTo p 1296 ++ mapsL h := rfl
    have e2 : bestL xs b (p :: h) = bestL xs (bestK xs p b 1296) h := rfl
    rw [e, List.foldl_append, foldl_mapsTo, ih, e2]
theorem mapsL_ok {h : List (List Int)} (hm : ∀ p ∈ h, p ∈ ords4) {f : Nat → Int} (hf : f ∈ mapsL h) : mapB f = true := by
  unfold mapsL mapsTo at hf
  obtain ⟨p, hp, hf⟩ := List.mem_flatMap.1 hf
  obtain ⟨k, hk, rfl⟩ := List.mem_map.1 hf
  exact mapN_ok (hm p hp) (List.mem_range.1 hk)
theorem fx_mem {fs : List (Nat → Int)} {k : Nat} (h : k < fs.length) : fx fs k ∈ fs := by
  have e : fx fs k = fs[k] := by simp [fx, h]
  rw [e]; exact List.getElem_mem h
/-- The least image after some maps. -/
def lookK (xs : List Card) (fs : List (Nat → Int)) (k : Nat) : List Card := (fs.take k).foldl (bestM xs) xs
theorem lookK_next (xs : List Card) (fs : List (Nat → Int)) (k : Nat) (h : k < fs.length) : lookK xs fs (k + 1) = bestM xs (lookK xs fs k) (fx fs k) := by
  have e : fx fs k = fs[k] := by simp [fx, h]
  unfold lookK
  rw [List.take_succ_eq_append_getElem h, List.foldl_append, e]; rfl
/-- What is left of a code at a trait. -/
def rs (c : Nat) : Nat → Nat
  | 0 => c / 1296
  | 1 => c / 216
  | 2 => c / 36
  | 3 => c / 6
  | _ => c
theorem rs_next (c : Nat) {i : Nat} (h : i < 4) : rs c (i + 1) / 6 = rs c i := by
  match i, h with
  | 0, _ => simp only [rs]; omega
  | 1, _ => simp only [rs]; omega
  | 2, _ => simp only [rs]; omega
  | 3, _ => simp only [rs]
theorem rs_top (c : Nat) : rs c 4 = c := rfl
def part3 (x : Ln) (v : Nat) : Int := if v = 0 then x.a else if v = 1 then x.b else x.c
theorem mapN_trait (p : List Int) (c : Nat) {i : Nat} (h : i < 4) : mapN p c i = ix p i := by
  match i, h with
  | 0, _ => rfl
  | 1, _ => rfl
  | 2, _ => rfl
  | 3, _ => rfl
theorem mapN_value (p : List Int) (c : Nat) (hc : c < 1296) {i v : Nat} (h : i < 4) (hv : v < 3) : mapN p c (4 + i * 3 + v) = part3 (lx rows3 (rs c (i + 1) % 6)) v := by
  have e : c / 216 % 6 = c / 216 := by omega
  match i, h, v, hv with
  | 0, _, 0, _ => simp only [rs, e]; rfl
  | 0, _, 1, _ => simp only [rs, e]; rfl
  | 0, _, 2, _ => simp only [rs, e]; rfl
  | 1, _, 0, _ => rfl
  | 1, _, 1, _ => rfl
  | 1, _, 2, _ => rfl
  | 2, _, 0, _ => rfl
  | 2, _, 1, _ => rfl
  | 2, _, 2, _ => rfl
  | 3, _, 0, _ => rfl
  | 3, _, 1, _ => rfl
  | 3, _, 2, _ => rfl
theorem part3_ix {k v : Nat} (hk : k < 6) (hv : v < 3) : part3 (lx rows3 k) v = ix (lz ords3 k) v := by
  have hl : k < ords3.length := by rw [ords3_len]; exact hk
  have e : lx rows3 k = lnP (lz ords3 k) := by
    rw [lx_get _ _ (by rw [rows3_len]; exact hk)]
    unfold rows3 lnO lz
    simp [hl]
  rw [e]
  match v, hv with
  | 0, _ => rfl
  | 1, _ => rfl
  | 2, _ => rfl
/-- The cells that are written when the traits from k on are done. -/
def doneK (k j : Nat) : Prop := (j < 4 ∧ k ≤ j) ∨ 4 + k * 3 ≤ j
/-- .. and the trait i with its first v values. -/
def doneV (i v j : Nat) : Prop := (j < 4 ∧ i ≤ j) ∨ 4 + (i + 1) * 3 ≤ j ∨ (4 + i * 3 ≤ j ∧ j < 4 + i * 3 + v)
theorem done_top {F G : Nat → Int} : ∀ j, j < 16 → doneK 4 j → F j = G j := fun j hj h => by unfold doneK at h; omega
theorem done_trait {F G : Nat → Int} {i : Nat} (hi : i < 4) {x : Int} (hx : G i = x) (h : ∀ j, j < 16 → doneK (i + 1) j → F j = G j) : ∀ j, j < 16 → doneV i 0 j → upd F i x j = G j := fun j hj hd => by
  unfold upd
  by_cases e : j = i
  · rw [if_pos e, e, hx]
  · rw [if_neg e]
    refine h j hj ?_
    unfold doneV at hd
    unfold doneK
    omega
theorem done_value {F G : Nat → Int} {i v : Nat} (hi : i < 4) (hv : v < 3) {x : Int} (hx : G (4 + i * 3 + v) = x) (h : ∀ j, j < 16 → doneV i v j → F j = G j) : ∀ j, j < 16 → doneV i (v + 1) j → upd F (4 + i * 3 + v) x j = G j := fun j hj hd => by
  unfold upd
  by_cases e : j = 4 + i * 3 + v
  · rw [if_pos e, e, hx]
  · rw [if_neg e]
    refine h j hj ?_
    unfold doneV at hd ⊢
    omega
theorem done_row {F G : Nat → Int} {i : Nat} (h : ∀ j, j < 16 → doneV i 3 j → F j = G j) : ∀ j, j < 16 → doneK i j → F j = G j := fun j hj hd => by
  refine h j hj ?_
  unfold doneK at hd
  unfold doneV
  omega
theorem done_all {F G : Nat → Int} (h : ∀ j, j < 16 → doneK 0 j → F j = G j) : ∀ j, j < 16 → F j = G j := fun j hj => h j hj (by unfold doneK; omega)
end Go.Proofs.Ytjlaoocomkonhaa
namespace Go.Proofs.Ytjlaoocomkonhaa
open Go.RowKit
theorem permL_len (n : Nat) : ∀ k, ∀ r ∈ permL n k, r.length = k
  | 0 => fun r hr => by
    have : r = [] := List.mem_singleton.1 hr
    rw [this]; rfl
  | k + 1 => fun r hr => by
    rw [permL_next] at hr
    obtain ⟨s, hs, hr⟩ := List.mem_flatMap.1 hr
    unfold extTo at hr
    obtain ⟨x, _, rfl⟩ := List.mem_map.1 hr
    rw [List.length_append, permL_len n k s hs]; rfl
theorem permL_le3 : ((List.range 4).all fun k => decide ((permL 3 k).length ≤ 24)) = true := by kernel_rfl
theorem permL_le4 : ((List.range 5).all fun k => decide ((permL 4 k).length ≤ 24)) = true := by kernel_rfl
theorem l5Perms3 (w : World) : Calls Try.prog 51 #[.int .i64 3] w (RetR w ords3) := by
  have h := l5Perms_any 3 (by omega) (by omega) 3 rfl (fun k hk => of_decide_eq_true (List.all_eq_true.1 permL_le3 k (List.mem_range.2 (by omega)))) (permL_len 3) w
  rwa [permL_3] at h
theorem l5Perms4 (w : World) : Calls Try.prog 51 #[.int .i64 4] w (RetR w ords4) := by
  have h := l5Perms_any 4 (by omega) (by omega) 4 rfl (fun k hk => of_decide_eq_true (List.all_eq_true.1 permL_le4 k (List.mem_range.2 (by omega)))) (permL_len 4) w
  rwa [permL_4] at h
theorem OwnR.at_ {B : Nat} {w : World} {ao : Option Addr} {n cap : Nat} {ll : List (List Int)} (h : OwnR B w (.slice ao n cap) ll) {i : Nat} (hi : i < ll.length) :
    ∃ g ge cape, ao = some ⟨g, 0, none⟩ ∧ g < w.heap.size ∧ w.cell? ⟨g, i, none⟩ = some (.slice (some ⟨ge, 0, none⟩) (lz ll i).length cape) ∧ ge < w.heap.size ∧ ∀ j, j < (lz ll i).length → w.cell? ⟨ge, j, none⟩ = some (.int .i64 (ix (lz ll i) j)) := by
  obtain ⟨ao', cap', e, _, hr⟩ := h.reads
  cases e
  obtain ⟨g, u, rfl, hg, hu, he⟩ := hr i hi
  obtain ⟨ge, cape, rfl, hge, hints⟩ := he.ints
  refine ⟨g, ge, cape, rfl, hg, hu, hge, fun j hj => ?_⟩
  obtain ⟨_, _, e, _, h1⟩ := hints j hj
  cases e
  rwa [Nat.zero_add] at h1
set_option maxHeartbeats 4000000 in
set_option maxRecDepth 20000 in
theorem l5Maps_any (w : World) : Calls Try.prog 26 #[] w (RetM w (mapsL ords4)) := by
  obtain ⟨o4, ho4⟩ : ∃ o, o = ords4 := ⟨_, rfl⟩
  obtain ⟨o3, ho3⟩ : ∃ o, o = ords3 := ⟨_, rfl⟩
  obtain ⟨mp, hmp⟩ : ∃ m, m = mapN := ⟨_, rfl⟩
  obtain ⟨MT, hMT⟩ : ∃ m, m = mapsTo := ⟨_, rfl⟩
  obtain ⟨ML, hML⟩ : ∃ m, m = mapsL := ⟨_, rfl⟩
  have hP4 := hid (show ∀ w, Calls Try.prog 51 #[.int .i64 4] w (RetR w o4) from ho4 ▸ l5Perms4)
  have hP3 := hid (show ∀ w, Calls Try.prog 51 #[.int .i64 3] w (RetR w o3) from ho3 ▸ l5Perms3)
  have hl4 := hid (show o4.length = 24 by rw [ho4, ords4_len])
  have hl3 := hid (show o3.length = 6 by rw [ho3, ords3_len])
  have hm4 := hid (show ∀ t, t < o4.length → (lz o4 t).length = 4 from fun t ht => (ords4_of (ho4 ▸ lz_mem2 ht)).1)
  have hm3 := hid (show ∀ t, t < o3.length → (lz o3 t).length = 3 from fun t ht => (ords3_of (ho3 ▸ lz_mem2 ht)).1)
  have htr := hid (show ∀ p c i, i < 4 → mp p c i = ix p i from fun p c i hi => by rw [hmp]; exact mapN_trait p c hi)
  have hvl := hid (show ∀ p c, c < 1296 → ∀ i v, i < 4 → v < 3 → mp p c (4 + i * 3 + v) = ix (lz o3 (rs c (i + 1) % 6)) v from fun p c hc i v hi hv => by rw [hmp, ho3, mapN_value p c hc hi hv]; exact part3_ix (Nat.mod_lt _ (by omega)) hv)
  have hT0 := hid (show ∀ p, MT p 0 = [] from fun p => by rw [hMT]; rfl)
  have hTn := hid (show ∀ p k, MT p (k + 1) = MT p k ++ [mp p k] from fun p k => by rw [hMT, hmp]; exact mapsTo_next p k)
  have hTl := hid (show ∀ p k, (MT p k).length = k from fun p k => by rw [hMT]; exact mapsTo_len p k)
  have hL0 := hid (show ML [] = [] by rw [hML]; rfl)
  have hLn := hid (show ∀ t, t < o4.length → ML (o4.take (t + 1)) = ML (o4.take t) ++ MT (lz o4 t) 1296 from fun t ht => by rw [hML, hMT]; exact mapsL_next o4 t ht)
  have hLl := hid (show ∀ t, t ≤ o4.length → (ML (o4.take t)).length = t * 1296 from fun t ht => by rw [hML, mapsL_len, List.length_take, Nat.min_eq_left ht])
  rw [← ho4, ← hML]
  clear ho4 ho3 hmp hMT hML
  go_enter Try.func26, Try.ntmps26
  go_wp2_with (fail)
  (go_at_call 51; refine Calls.mono (hP4.out _) ?_; rintro e w1 ⟨v2, rfl, ho2, _, k1⟩)
  go_wp2_with (fail)
  (go_at_call 51; refine Calls.mono (hP3.out _) ?_; rintro e w2 ⟨v3, rfl, ho3, _, k2⟩)
  obtain ⟨ao2, cap2, rfl, _, _⟩ := ho2.reads
  obtain ⟨ao3, cap3, rfl, _, _⟩ := ho3.reads
  have hK2 := hid (show Kept w w2 from Kept.trans (Kept.trans (by (try simp only [ext_ext]); repeat (first | exact Kept.refl _ | apply Kept.alloc | apply Kept.drew | apply kept_add | apply Kept.ext)) k1) (Kept.trans (by (try simp only [ext_ext]); repeat (first | exact Kept.refl _ | apply Kept.alloc | apply Kept.drew | apply kept_add | apply Kept.ext)) k2))
  have hI0 := hid (show MI w (.slice (some ⟨w.heap.size, 0, none⟩) 0 0) (.slice ao2 o4.length cap2) (.slice ao3 o3.length cap3) o4 o3 [] w2 from
    ⟨(ownM_nil (w := w.alloc (.cells #[] TM)) (Nat.le_refl _) (heap_at rfl)).kept (Kept.trans k1 k2), (ho2.kept k2).mono (show Kept w _ from (by (try simp only [ext_ext]); repeat (first | exact Kept.refl _ | apply Kept.alloc | apply Kept.drew | apply kept_add | apply Kept.ext))).below.size, ho3.mono (show Kept w _ from Kept.trans (by (try simp only [ext_ext]); repeat (first | exact Kept.refl _ | apply Kept.alloc | apply Kept.drew | apply kept_add | apply Kept.ext)) k1).below.size, hK2.out⟩)
  clear ho2 ho3 k1 k2
  go_wp2_with (fail)
  go_loopw [4, 1] (fun s4 s1 wr => ∃ t : Nat, t ≤ o4.length ∧ s4 = .int .i64 (t : Int) ∧ MI w s1 (.slice ao2 o4.length cap2) (.slice ao3 o3.length cap3) o4 o3 (ML (o4.take t)) wr) (fun s4 _ _ => o4.length - (intOf s4).toNat)
  case atStart => exact ⟨0, Nat.zero_le _, rfl, by rw [List.take_zero, hL0.out]; exact hI0.out⟩
  case round =>
    obtain ⟨w3, hw3⟩ : ∃ w3, w3 = wr := ⟨_, rfl⟩
    subst hw3
    obtain ⟨t, ht, rfl, hI⟩ := hrel
    have hIH := hid hI
    clear hI
    by_cases hlt : t < o4.length
    · obtain ⟨p, hp⟩ : ∃ p, p = lz o4 t := ⟨_, rfl⟩
      obtain ⟨A, hA⟩ : ∃ A, A = ML (o4.take t) := ⟨_, rfl⟩
      have hAl := hid (show A.length ≤ 24 * 1296 by have e4 := hl4.out; rw [hA, hLl.out t ht, ← e4]; exact Nat.mul_le_mul_right _ ht)
      have hAn := hid (show ML (o4.take (t + 1)) = A ++ MT p 1296 by rw [hA, hp]; exact hLn.out t hlt)
      have hpl := hid (show p.length = 4 by rw [hp]; exact hm4.out t hlt)
      have hpH := hid hp
      rw [← hA] at hIH
      clear hA hp
      go_wp2_with (fail)
      go_loopw [5, 1] (fun s5 s1 wr => ∃ c : Nat, c ≤ 1296 ∧ s5 = .int .i64 (c : Int) ∧ MI w s1 (.slice ao2 o4.length cap2) (.slice ao3 o3.length cap3) o4 o3 (A ++ MT p c) wr) (fun s5 _ _ => 1296 - (intOf s5).toNat)
      case atStart => exact ⟨0, Nat.zero_le _, rfl, by rw [hT0.out, List.append_nil]; exact hIH.out⟩
      case round =>
        obtain ⟨w4, hw4⟩ : ∃ w4, w4 = wr := ⟨_, rfl⟩
        subst hw4
        obtain ⟨c, hc, rfl, hI4⟩ := hrel
        have hI4H := hid hI4
        clear hI4
        obtain ⟨A4, hA4⟩ : ∃ A4, A4 = A ++ MT p c := ⟨_, rfl⟩
        rw [← hA4] at hI4H
        have hA4l := hid (show A4.length ≤ 100000 by have := hAl.out; rw [hA4, List.length_append, hTl.out]; omega)
        have hA4n := hid (show A ++ MT p (c + 1) = A4 ++ [mp p c] by rw [hA4, hTn.out, List.append_assoc])
        by_cases hc2 : c < 1296
        · have hbox := hid (hI4H.out.box)
          have htrc := hid (htr.out p c)
          have hvlc := hid (hvl.out p c hc2)
          obtain ⟨G, hG⟩ : ∃ G, G = mp p c := ⟨_, rfl⟩
          rw [← hG] at htrc hvlc hA4n
          obtain ⟨R, hR⟩ : ∃ R, R = rs c := ⟨_, rfl⟩
          rw [← hR] at hvlc
          have hR4 := hid (show R 4 = c by rw [hR]; rfl)
          have hRn := hid (show ∀ i, i < 4 → R (i + 1) / 6 = R i from fun i hi => by rw [hR]; exact rs_next c hi)
          have hRb := hid (show ∀ i, R i ≤ c from fun i => by rw [hR]; unfold rs; split <;> omega)
          clear hG hR hA4
          have hcI : (c : Int) < 1296 := by omega
          go_wp2_with (fail)
          obtain ⟨g6, hg6⟩ : ∃ g, g = w4.heap.size := ⟨_, rfl⟩
          rw [← hg6] at hbox ⊢
          have hg6b := hid (show w.heap.size ≤ g6 from hbox.out.2.1)
          clear hg6
          go_loopw [8, 7] (fun s8 s7 wr => ∃ (k : Nat) (i : Int) (F : Nat → Int), k ≤ 4 ∧ i = (k : Int) - 1 ∧ s8 = .int .i64 i ∧ s7 = .int .i64 ((R k : Nat) : Int) ∧ MB w u1 (.slice ao2 o4.length cap2) (.slice ao3 o3.length cap3) o4 o3 A4 g6 F wr ∧ ∀ j, j < 16 → doneK k j → F j = G j) (fun s8 _ _ => (intOf s8 + 1).toNat)
          case atStart => exact ⟨4, 3, fun _ => 0, by omega, rfl, rfl, by rw [hR4.out], hbox.out, done_top⟩
          case round =>
            obtain ⟨w5, hw5⟩ : ∃ w5, w5 = wr := ⟨_, rfl⟩
            subst hw5
            obtain ⟨k, i, F, hk, hi, rfl, rfl, hB, hF⟩ := hrel
            have hBH := hid hB
            have hFH := hid hF
            clear hB hF
            cases k with
            | zero =>
              obtain rfl : i = -1 := by omega
              clear hi
              have hFG := hid (done_all hFH.out)
              have hBM := hBH.out.boxM
              have hgs := hBM.1
              obtain ⟨m0, m1, m2, m3, m4, m5, m6, m7, m8, m9, m10, m11, m12, m13, m14, m15⟩ := hBM.cells
              have hMI := hid hBH.out.1
              clear hBM
              go_wp2_with (first | (at_builtin; refine wpList_append_mp rfl _ _ rfl w.heap.size _ A4 rfl (hMI.out.1.kept (by (try simp only [ext_ext]); repeat (first | exact Kept.refl _ | apply Kept.alloc | apply Kept.drew | apply kept_add | apply Kept.ext))) (Kept.below (hMI.out.2.2.2.trans (by (try simp only [ext_ext]); repeat (first | exact Kept.refl _ | apply Kept.alloc | apply Kept.drew | apply kept_add | apply Kept.ext)))).size _ _ G rfl (fun j hj => by rw [← hFG.out j hj]; exact (BoxM.new F rfl).2 j hj) (by have := hA4l.out; omega) ?_; intro v7 w7 ho7 hg7))
              go_roundw
              case rel => exact ⟨c + 1, by omega, by go_num, by rw [hA4n.out]; exact MI.app (hMI.out.kept (by (try simp only [ext_ext]); repeat (first | exact Kept.refl _ | apply Kept.alloc | apply Kept.drew | apply kept_add | apply Kept.ext))) ho7 hg7⟩
              case measure => simp [intOf]; omega
            | succ i' =>
              obtain rfl : i = (i' : Int) := by omega
              clear hi
              have hi4 : i' < 4 := by omega
              have hi4I : (i' : Int) < 4 := by omega
              obtain ⟨N7, hN7⟩ : ∃ N, N = R (i' + 1) := ⟨_, rfl⟩
              have hv7 := hid (show ∀ v, v < 3 → G (4 + i' * 3 + v) = ix (lz o3 (N7 % 6)) v from fun v hv => by rw [hN7]; exact hvlc.out i' v hi4 hv)
              have hN7d := hid (show N7 / 6 = R i' by rw [hN7]; exact hRn.out i' hi4)
              have hN7b : N7 < 1296 := by have := hRb.out (i' + 1); omega
              rw [← hN7]
              clear hN7
              obtain ⟨ga, ge, cape, rfl, hga, hca, hge, hce⟩ := OwnR.at_ hBH.out.1.2.1 hlt
              rw [← hpH.out, hpl.out] at hca hce
              have hvx := hce i' hi4
              have hxg := hid (htrc.out i' hi4)
              obtain ⟨x, hx⟩ : ∃ x, x = ix p i' := ⟨_, rfl⟩
              rw [← hx] at hvx hxg
              have hxc := hBH.out.cell (i := i') (by omega)
              have hxf := frozen_of_row w5 g6 i' _ _ hBH.out.2.2.2
              have hgs : g6 < w5.heap.size := hBH.out.boxM.1
              have htI : (t : Int) < (o4.length : Int) := by omega
              have hB2 := hid (hBH.out.set i' x)
              have hF2 := hid (done_trait hi4 hxg.out hFH.out)
              clear hce hx
              go_wp2_with (fail)
              go_loopw [9] (fun s9 wr => ∃ (v : Nat) (F : Nat → Int), v ≤ 3 ∧ s9 = .int .i64 (v : Int) ∧ MB w u1 (.slice (some ⟨ga, 0, none⟩) o4.length cap2) (.slice ao3 o3.length cap3) o4 o3 A4 g6 F wr ∧ ∀ j, j < 16 → doneV i' v j → F j = G j) (fun s9 _ => 3 - (intOf s9).toNat)
              case atStart => exact ⟨0, upd F i' x, by omega, rfl, hB2.out, hF2.out⟩
              case round =>
                obtain ⟨w6, hw6⟩ : ∃ w6, w6 = wr := ⟨_, rfl⟩
                subst hw6
                obtain ⟨v, F6, hv, rfl, hB6, hF6⟩ := hrel
                have hB6H := hid hB6
                have hF6H := hid hF6
                clear hB6 hF6 hca hvx hxc hxf hga hge hgs
                by_cases hv3 : v < 3
                · have hv3I : (v : Int) < 3 := by omega
                  have hvg := hid (hv7.out v hv3)
                  obtain ⟨q, hq⟩ : ∃ q, q = N7 % 6 := ⟨_, rfl⟩
                  rw [← hq] at hvg
                  have q1 : (N7 : Int).tmod 6 = (q : Int) := by rw [Int.tmod_eq_emod_of_nonneg (by omega)]; omega
                  have q2 : q < o3.length := by rw [hl3.out]; omega
                  have q3 : (q : Int) < (o3.length : Int) := by omega
                  have hq6 : q < 6 := by omega
                  have u1' : IntKind.i64.wrap (q : Int) = (q : Int) := Go.IntWalk.i64_in _ ⟨by omega, by omega⟩
                  obtain ⟨gb, gf, capf, rfl, hgb, hcb, hgf, hcf⟩ := OwnR.at_ hB6H.out.1.2.2.1 q2
                  rw [hm3.out q q2] at hcb hcf
                  have hvy := hcf v hv3
                  obtain ⟨y, hy⟩ : ∃ y, y = ix (lz o3 q) v := ⟨_, rfl⟩
                  rw [← hy] at hvy hvg
                  have hyc := hB6H.out.cell (i := 4 + i' * 3 + v) (by omega)
                  have hyf := frozen_of_row w6 g6 (4 + i' * 3 + v) _ _ hB6H.out.2.2.2
                  have hgs6 : g6 < w6.heap.size := hB6H.out.boxM.1
                  have hB7 := hid (hB6H.out.set (4 + i' * 3 + v) y)
                  have hF7 := hid (done_value hi4 hv3 hvg.out hF6H.out)
                  clear hcf hy hq
                  go_wp2_with (first | go_region)
                  go_roundw
                  case rel => exact ⟨v + 1, upd F6 (4 + i' * 3 + v) y, by omega, by go_num, hB7.out.kept (by (try simp only [ext_ext]); repeat (first | exact Kept.refl _ | apply Kept.alloc | apply Kept.drew | apply kept_add | apply Kept.ext)), hF7.out⟩
                  case measure => simp [intOf]; omega
                · obtain rfl : v = 3 := by omega
                  have n1 : (N7 : Int).tdiv 6 = ((R i' : Nat) : Int) := by rw [Int.tdiv_eq_ediv_of_nonneg (by omega), ← hN7d.out]; omega
                  have hRi := hRb.out i'
                  go_wp2_with (fail)
                  go_roundw
                  case rel => exact ⟨i', (i' : Int) - 1, F6, by omega, rfl, rfl, rfl, hB6H.out, done_row hF6H.out⟩
                  case measure => simp [intOf]
        · obtain rfl : c = 1296 := by omega
          have ht24 : t ≤ 24 := Nat.le_trans ht (Nat.le_of_eq hl4.out)
          have hcI : ¬ (((1296 : Nat) : Int) < 1296) := by omega
          go_wp2_with (fail)
          go_roundw
          case rel => exact ⟨t + 1, hlt, by go_num, by rw [hAn.out, ← hA4]; exact hI4H.out⟩
          case measure => simp only [intOf]; have hlt' : t < o4.length := hlt; omega
    · obtain rfl : t = o4.length := by omega
      have hfin := hid (show MI w u1 (.slice ao2 o4.length cap2) (.slice ao3 o3.length cap3) o4 o3 (ML o4) w3 from by have e := hIH.out; rwa [List.take_length] at e)
      go_wp2_with (fail)
      refine bodyPost_ret (v := u1) (by simp [results, Try.results26, go_sem]) rfl ?_
      exact ⟨_, rfl, hfin.out.1, hfin.out.2.2.2⟩
end Go.Proofs.Ytjlaoocomkonhaa
