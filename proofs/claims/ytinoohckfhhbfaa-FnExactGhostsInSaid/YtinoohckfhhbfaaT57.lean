/- Contracts: the search for caps that counts. -/
import Derived.Test.YtinoohckfhhbfaaT56
namespace Go.Proofs.Ytinoohckfhhbfaa
open Go.RowKit
/-- The places ascend. -/
def ascB (b : List Int) : Prop := ∀ i j, i < j → j < b.length → ix b i < ix b j
theorem ix_app (b : List Int) (x : Int) {i : Nat} (h : i < b.length) : ix (b ++ [x]) i = ix b i := by
  rw [ix_get _ _ (by simp; omega), ix_get _ _ h, List.getElem_append_left h]
theorem ix_last (b : List Int) (x : Int) : ix (b ++ [x]) b.length = x := by simp [ix]
theorem plB_app {n : Nat} {b : List Int} {k : Nat} (h : plB n b) (hn : n ≤ k) : plB (k + 1) (b ++ [(k : Int)]) := fun i hi => by
  by_cases h0 : i < b.length
  · rw [ix_app _ _ h0]; have := h i h0; omega
  · have e : i = b.length := by simp at hi; omega
    rw [e, ix_last]; omega
theorem plB_mono {n m : Nat} {b : List Int} (h : plB n b) (hn : n ≤ m) : plB m b := fun i hi => by have := h i hi; omega
theorem ascB_app {n : Nat} {b : List Int} {k : Nat} (h : plB n b) (ha : ascB b) (hn : n ≤ k) : ascB (b ++ [(k : Int)]) := fun i j hij hj => by
  by_cases h0 : j < b.length
  · rw [ix_app _ _ h0, ix_app _ _ (by omega)]; exact ha i j hij h0
  · have e : j = b.length := by simp at hj; omega
    rw [e, ix_last, ix_app _ _ (by omega)]
    have := h i (by omega); omega
theorem distC_pk {xs : List Card} {b : List Int} (hd : distC xs) (hb : plB xs.length b) (ha : ascB b) : distC (pk xs b) := fun i j hi hj e => by
  rw [pk_len] at hi hj
  obtain ⟨p, hp, ep⟩ := plB_nat hb hi
  obtain ⟨q, hq, eq⟩ := plB_nat hb hj
  rw [pk_get hi, pk_get hj, ep, eq] at e
  have := hd _ _ (by omega) (by omega) e
  rcases Nat.lt_trichotomy i j with h | h | h
  · have := ha i j h hj; omega
  · exact h
  · have := ha j i h hi; omega
/-- Whether a card of a list makes a line with two of those at places. -/
def blk (xs : List Card) (b : List Int) (i : Nat) : Bool := decide (0 < thr (pk xs b) (cx xs i))
/-- The caps behind the first one that the last d cards go on from. -/
def capT (xs : List Card) : Nat → List Int → List (List Int)
  | 0, _ => []
  | d + 1, b => (if blk xs b (xs.length - (d + 1)) = true then [] else (b ++ [((xs.length - (d + 1) : Nat) : Int)]) :: capT xs d (b ++ [((xs.length - (d + 1) : Nat) : Int)])) ++ capT xs d b
def capL (xs : List Card) (d : Nat) (b : List Int) : List (List Int) := b :: capT xs d b
theorem capT_hit {xs : List Card} {k : Nat} {b : List Int} (hk : k < xs.length) (h : blk xs b k = true) : capT xs (xs.length - k) b = capT xs (xs.length - (k + 1)) b := by
  rw [show xs.length - k = (xs.length - (k + 1)) + 1 by omega, capT, show xs.length - (xs.length - (k + 1) + 1) = k by omega, if_pos h, List.nil_append]
theorem capT_free {xs : List Card} {k : Nat} {b : List Int} (hk : k < xs.length) (h : blk xs b k = false) : capT xs (xs.length - k) b = capL xs (xs.length - (k + 1)) (b ++ [(k : Int)]) ++ capT xs (xs.length - (k + 1)) b := by
  rw [show xs.length - k = (xs.length - (k + 1)) + 1 by omega, capT, show xs.length - (xs.length - (k + 1) + 1) = k by omega, if_neg (by simp [h]), capL]
/-- How many caps there are with some places and n more, of the last d. -/
def cntC (xs : List Card) : Nat → Nat → List Int → Nat
  | _, 0, _ => 1
  | 0, _ + 1, _ => 0
  | d + 1, n + 1, b => (if blk xs b (xs.length - (d + 1)) = true then 0 else cntC xs d n (b ++ [((xs.length - (d + 1) : Nat) : Int)])) + cntC xs d (n + 1) b
theorem cntC_zero (xs : List Card) (d : Nat) (b : List Int) : cntC xs d 0 b = 1 := by cases d <;> rfl
theorem cntC_hit {xs : List Card} {k n : Nat} {b : List Int} (hk : k < xs.length) (h : blk xs b k = true) : cntC xs (xs.length - k) (n + 1) b = cntC xs (xs.length - (k + 1)) (n + 1) b := by
  rw [show xs.length - k = (xs.length - (k + 1)) + 1 by omega, cntC, show xs.length - (xs.length - (k + 1) + 1) = k by omega, if_pos h, Nat.zero_add]
theorem cntC_free {xs : List Card} {k n : Nat} {b : List Int} (hk : k < xs.length) (h : blk xs b k = false) : cntC xs (xs.length - k) (n + 1) b = cntC xs (xs.length - (k + 1)) n (b ++ [(k : Int)]) + cntC xs (xs.length - (k + 1)) (n + 1) b := by
  rw [show xs.length - k = (xs.length - (k + 1)) + 1 by omega, cntC, show xs.length - (xs.length - (k + 1) + 1) = k by omega, if_neg (by simp [h])]
theorem cntC_le (xs : List Card) : ∀ (d n : Nat) (b : List Int), cntC xs d n b ≤ 2 ^ d
  | d, 0, b => by rw [cntC_zero]; exact Nat.one_le_two_pow
  | 0, n + 1, b => by simp [cntC]
  | d + 1, n + 1, b => by
    have h1 := cntC_le xs d n (b ++ [((xs.length - (d + 1) : Nat) : Int)])
    have h2 := cntC_le xs d (n + 1) b
    unfold cntC
    rw [Nat.pow_succ]
    split <;> omega
theorem capT_len (xs : List Card) : ∀ (d : Nat) (b : List Int), (capT xs d b).length + 1 ≤ 2 ^ d
  | 0, b => by simp [capT]
  | d + 1, b => by
    have h1 := capT_len xs d (b ++ [((xs.length - (d + 1) : Nat) : Int)])
    have h2 := capT_len xs d b
    unfold capT
    simp only [List.length_append, Nat.pow_succ]
    split <;> simp <;> omega
theorem capT_long (xs : List Card) : ∀ (d : Nat) (b : List Int), ∀ p, p ∈ capT xs d b → b.length < p.length ∧ p.length ≤ b.length + d
  | 0, b, p, h => by simp [capT] at h
  | d + 1, b, p, h => by
    have h2 := capT_long xs d b p
    have h1 := capT_long xs d (b ++ [((xs.length - (d + 1) : Nat) : Int)]) p
    unfold capT at h
    rw [List.length_append, List.length_singleton] at h1
    rw [List.mem_append] at h
    rcases h with h | h
    · split at h
      · simp at h
      · rw [List.mem_cons] at h
        rcases h with rfl | h
        · rw [List.length_append, List.length_singleton]; omega
        · have := h1 h; omega
    · have := h2 h; omega
theorem capL_mem {xs : List Card} {d : Nat} {b p : List Int} (h : p ∈ capL xs d b) : p.length ≤ b.length + d := by
  simp only [capL, List.mem_cons] at h
  rcases h with rfl | h
  · omega
  · exact (capT_long xs d b p h).2
/-- How many of the lists have so many places. -/
def cntQ (h : List (List Int)) (n : Int) : Nat := (h.filter fun p => decide ((p.length : Int) = n)).length
theorem cntQ_yes (h : List (List Int)) {p : List Int} {n : Int} (e : (p.length : Int) = n) : cntQ (h ++ [p]) n = cntQ h n + 1 := by simp [cntQ, e]
theorem cntQ_no (h : List (List Int)) {p : List Int} {n : Int} (e : ¬ (p.length : Int) = n) : cntQ (h ++ [p]) n = cntQ h n := by simp [cntQ, e]
theorem cntQ_le (h : List (List Int)) (n : Int) : cntQ h n ≤ h.length := List.length_filter_le _ _
theorem cntQ_app (h g : List (List Int)) (n : Int) : cntQ (h ++ g) n = cntQ h n + cntQ g n := by simp [cntQ]
theorem cntQ_cons (p : List Int) (h : List (List Int)) (n : Int) : cntQ (p :: h) n = (if (p.length : Int) = n then 1 else 0) + cntQ h n := by
  rw [show p :: h = [p] ++ h from rfl, cntQ_app]
  unfold cntQ
  by_cases e : (p.length : Int) = n <;> simp [e]
theorem cntQ_none {h : List (List Int)} {n : Int} (hn : ∀ p, p ∈ h → (p.length : Int) ≠ n) : cntQ h n = 0 := by
  unfold cntQ
  rw [List.length_eq_zero_iff, List.filter_eq_nil_iff]
  intro p hp
  simpa using hn p hp
theorem cntQ_capT (xs : List Card) : ∀ (d n : Nat) (b : List Int), cntQ (capT xs d b) ((b.length + (n + 1) : Nat) : Int) = cntC xs d (n + 1) b
  | 0, n, b => by simp [capT, cntC, cntQ]
  | d + 1, n, b => by
    have h2 := cntQ_capT xs d n b
    unfold capT cntC
    rw [cntQ_app, h2]
    congr 1
    split
    · rfl
    · rw [cntQ_cons]
      cases n with
      | zero =>
        rw [cntC_zero, if_pos (by simp), cntQ_none fun p hp => by have := capT_long xs d _ p hp; simp at this; omega]
      | succ n =>
        have h1 := cntQ_capT xs d n (b ++ [((xs.length - (d + 1) : Nat) : Int)])
        rw [if_neg (by simp; omega), Nat.zero_add, ← h1]
        congr 1
        simp only [List.length_append, List.length_singleton]; omega
theorem cntQ_capL (xs : List Card) (d n : Nat) (b : List Int) : cntQ (capL xs d b) ((b.length + n : Nat) : Int) = cntC xs d n b := by
  unfold capL
  rw [cntQ_cons]
  cases n with
  | zero => rw [cntC_zero, if_pos (by simp), cntQ_none fun p hp => by have := capT_long xs d b p hp; omega]
  | succ n => rw [if_neg (by omega), Nat.zero_add, cntQ_capT]
theorem ints_drop {w : World} {g off n cap : Nat} {b : List Int} (h : IntsAt w (some ⟨g, off, none⟩) b) (hn : b.length = n) (hc : n ≤ cap) (k : Nat) : IntsAt w (if cap = k then some ⟨g, off, none⟩ else some ⟨g, off + k, none⟩) (b.drop k) := by
  intro i hi
  rw [List.length_drop] at hi
  obtain ⟨_, _, he, hg, h1⟩ := h (k + i) (by omega)
  cases he
  rw [if_neg (by omega)]
  refine ⟨g, off + k, rfl, hg, ?_⟩
  rw [Nat.add_assoc, h1]
  simp [ix]
theorem ix_drop (b : List Int) (k i : Nat) : ix (b.drop k) i = ix b (k + i) := by simp [ix]
set_option maxHeartbeats 1000000 in
theorem caps_step (W : World) (ao : Option Addr) (cap n : Nat) (xs : List Card) (hn : xs.length = n) (hx : CardsAt W ao xs) (hc : areC xs) (hd : distC xs) (h15 : n ≤ 15) (c : Nat) (hWc : W.heap.size ≤ c) (q0 q1 : Value) (tot : List (List Int)) (Inv : List (List Int) → World → Prop) (hkeep : ∀ h w w', Inv h w → Kept w w' → Inv h w') (hin : ∀ h w, Inv h w → c < w.heap.size)
    (hvis : ∀ h p w u, h ++ [p] <+: tot → Inv h w → ListAt c none w u p → Calls Try.prog 95 #[u, q0, q1] w fun e w' => e = .returned (.tuple #[]) ∧ Inv (h ++ [p]) w' ∧ Fr c none none w w')
    (D : Nat) (ih : ∀ (k : Nat) (b : List Int) (h rest : List (List Int)) (w : World) (v : Value), n - k < D → k ≤ n → b.length ≤ k → plB k b → ascB b → h ++ capL xs (n - k) b ++ rest = tot → Inv h w → Kept W w → ListAt c none w v b → Calls Try.prog 94 #[.slice ao n cap, .int .i64 k, v, .func (.func 95) #[] #[q0, q1]] w fun e w' => e = .returned (.tuple #[]) ∧ Inv (h ++ capL xs (n - k) b) w' ∧ Fr c none none w w')
    (k : Nat) (b : List Int) (h rest : List (List Int)) (w : World) (v : Value) (hD : n - k = D) (hk : k ≤ n) (hbk : b.length ≤ k) (hp : plB k b) (ha : ascB b) (htot : h ++ capL xs (n - k) b ++ rest = tot) (hI : Inv h w) (hkW : Kept W w) (hv : ListAt c none w v b) :
    Calls Try.prog 94 #[.slice ao n cap, .int .i64 k, v, .func (.func 95) #[] #[q0, q1]] w fun e w' => e = .returned (.tuple #[]) ∧ Inv (h ++ capL xs (n - k) b) w' ∧ Fr c none none w w' := by
  have h1 := hid (hvis h b)
  have hpre := hid (show h ++ [b] <+: tot from ⟨capT xs (n - k) b ++ rest, by rw [← htot]; simp [capL]⟩)
  have htotH := hid htot
  have ihH := hid ih
  have hkH := hid hkeep
  have hinH := hid hin
  have hIH := hid hI
  have hvH := hid hv
  have hkWH := hid hkW
  have hnH := hid hn
  have hpH := hid hp
  have haH := hid ha
  have hplH := hid (show plB xs.length b from plB_mono hp (by omega))
  have hxH := hid hx
  have hcH := hid hc
  have hcyH := hid (areC_pk hc hplH.out)
  have hdyH := hid (distC_pk hd hplH.out ha)
  obtain ⟨bo, bcap, rfl, hbc⟩ := hv.form
  obtain ⟨m, hm⟩ : ∃ m, b.length = m := ⟨_, rfl⟩
  obtain ⟨ys, hys⟩ : ∃ ys, ys = pk xs b := ⟨_, rfl⟩
  have hyl := hid (show ys.length = m by rw [hys, pk_len, hm])
  have hygH := hid (show ∀ i p : Nat, i < m → ix b i = p → cx ys i = cx xs p from fun i p hi e => by rw [hys, pk_get (by omega), e]; rfl)
  have hblkH := hid (show ∀ i, blk xs b i = decide (0 < thrOut ys (cx xs i) m) from fun i => by rw [← hyl.out, hys]; rfl)
  rw [← hys] at hcyH hdyH
  rw [hm] at hbk hbc ⊢
  have hmH := hid hm
  clear hvis htot ih hkeep hin hI hv hkW hn hp ha hx hc hd hys hm
  go_enter Try.func94, Try.ntmps94
  go_wp2_with (fail)
  (go_at_call 95; refine Calls.mono (h1.out _ _ hpre.out hIH.out (by rw [← hmH.out]; exact hvH.out)) ?_; rintro e w1 ⟨rfl, hI1, hf1⟩)
  have hI1H := hid hI1
  have hf1H := hid hf1
  clear hI1 hf1
  go_wp2_with (fail)
  go_loopw [8] (fun i wr => ∃ k' : Nat, k ≤ k' ∧ k' ≤ n ∧ i = .int .i64 k' ∧ ∃ h', h' ++ capT xs (n - k') b = h ++ capL xs (n - k) b ∧ Inv h' wr ∧ Fr c none none w wr) (fun i _ => n - (intOf i).toNat)
  case atStart => exact ⟨k, Nat.le_refl _, hk, rfl, h ++ [b], by simp [capL], hI1H.out, hf1H.out⟩
  case round wr =>
    obtain ⟨i, hki, hin', rfl, h', hh, hI, hf⟩ := hrel
    have hhH := hid hh
    have hIH' := hid hI
    have hfH := hid hf
    have hkwr := hid (Kept.of_fr hkWH.out hf hWc (fun g e => by cases e))
    have hvr := hid (hvH.out.fr hf)
    have hcr := hinH.out _ _ hI
    clear hh hI hf
    by_cases hlt : i < n
    · have hxr := hxH.out.kept hkwr.out
      have hxrH := hid hxr
      obtain ⟨gx, offx, rfl, hgx, e1, e2, e3, e4⟩ := hxr i (by rw [hnH.out]; exact hlt)
      have hir := hid hvr.out.ints
      go_wp2
      go_loopw [26, 9] (fun j f wr' => ∃ p : Nat, p ≤ m ∧ j = .int .i64 p ∧ f = .bool (decide (thrOut ys (cx xs i) p = 0)) ∧ Kept wr wr') (fun j _ _ => m - (intOf j).toNat)
      case atStart => exact ⟨0, Nat.zero_le _, rfl, by simp [thrOut, rsum], (by (try simp only [ext_ext]); repeat (first | exact Kept.refl _ | apply Kept.alloc | apply Kept.drew | apply kept_add | apply Kept.ext))⟩
      case round =>
        obtain ⟨p, hp, rfl, rfl, z, rfl⟩ := hrel
        by_cases hlt2 : p < m
        · obtain ⟨g, off, rfl, hg, hcell⟩ := hir.out p (by rw [hmH.out]; exact hlt2)
          obtain ⟨pp, hppn, hppe⟩ := plB_nat hplH.out (i := p) (by rw [hmH.out]; exact hlt2)
          rw [hppe] at hcell
          have hcy1 := hygH.out p pp hlt2 hppe
          have hdr := ints_drop hir.out hmH.out hbc (p + 1)
          have hwr1 : IntKind.i64.wrap ((p : Int) + 1) = (p : Int) + 1 := Go.IntWalk.i64_in _ ⟨by omega, by omega⟩
          have hnat : ((p : Int) + 1).toNat = p + 1 := by omega
          have hk1 : (0 : Int) ≤ (p : Int) + 1 := by omega
          have hk2 : (p : Int) + 1 ≤ (m : Int) := by omega
          have hk3 : (m : Int) ≤ (bcap : Int) := by omega
          have hk4 : (p : Int) + 1 ≤ (bcap : Int) := by omega
          have hk5 : p + 1 ≤ m := by omega
          by_cases hbx : bcap = p + 1
          · rw [if_pos hbx] at hdr
            have hdx := hid hdr
            clear hdr
            subst hbx
            go_wp2
            go_loopw [36, 9] (fun j f wr' => ∃ q : Nat, p + 1 + q ≤ m ∧ j = .int .i64 q ∧ f = .bool (decide (thrOut ys (cx xs i) p + thrIn ys (cx xs i) p q = 0)) ∧ Kept wr wr') (fun j _ _ => m - (intOf j).toNat)
            case atStart => exact ⟨0, by omega, rfl, by simp [thrIn, rsum], (by (try simp only [ext_ext]); repeat (first | exact Kept.refl _ | apply Kept.alloc | apply Kept.drew | apply kept_add | apply Kept.ext))⟩
            case round =>
              obtain ⟨q, hq, rfl, rfl, z, rfl⟩ := hrel
              by_cases hlt3 : p + 1 + q < m
              · exact absurd hlt3 (by omega)
              · have hj : ¬ q < m - (p + 1) := by omega
                have eq : q = m - (p + 1) := by omega
                have eo : Hid (thrOut ys (cx xs i) (p + 1) = thrOut ys (cx xs i) p + thrIn ys (cx xs i) p q) := hid (by rw [thrOut_next, hyl.out, eq])
                clear eq
                go_wp2
                go_roundw
                case rel => exact ⟨p + 1, by omega, by go_num, by rw [eo.out], (by (try simp only [ext_ext]); repeat (first | exact Kept.refl _ | apply Kept.alloc | apply Kept.drew | apply kept_add | apply Kept.ext))⟩
                case measure => simp [intOf]; omega
          · rw [if_neg hbx] at hdr
            have hdx := hid hdr
            clear hdr
            go_wp2
            go_loopw [36, 9] (fun j f wr' => ∃ q : Nat, p + 1 + q ≤ m ∧ j = .int .i64 q ∧ f = .bool (decide (thrOut ys (cx xs i) p + thrIn ys (cx xs i) p q = 0)) ∧ Kept wr wr') (fun j _ _ => m - (intOf j).toNat)
            case atStart => exact ⟨0, by omega, rfl, by simp [thrIn, rsum], (by (try simp only [ext_ext]); repeat (first | exact Kept.refl _ | apply Kept.alloc | apply Kept.drew | apply kept_add | apply Kept.ext))⟩
            case round =>
              obtain ⟨q, hq, rfl, rfl, z, rfl⟩ := hrel
              by_cases hlt3 : p + 1 + q < m
              · have hj : q < m - (p + 1) := by omega
                obtain ⟨g', off', he, hg', hcell'⟩ := (hdx.out.kept ((by (try simp only [ext_ext]); repeat (first | exact Kept.refl _ | apply Kept.alloc | apply Kept.drew | apply kept_add | apply Kept.ext)) : Kept wr (ext wr z))) q (by rw [List.length_drop, hmH.out]; omega)
                cases he
                obtain ⟨qq, hqqn, hqqe⟩ := plB_nat hplH.out (i := p + 1 + q) (by rw [hmH.out]; exact hlt3)
                rw [ix_drop, hqqe] at hcell'
                have hcy2 := hygH.out _ qq hlt3 hqqe
                obtain ⟨_, _, he, _, a1, a2, a3, a4⟩ := hxrH.out pp hppn
                cases he
                obtain ⟨_, _, he, _, b1, b2, b3, b4⟩ := hxrH.out qq hqqn
                cases he
                have hcp := hcH.out pp hppn
                have hcq := hcH.out qq hqqn
                have hppn' : pp < n := by rw [← hnH.out]; exact hppn
                have hqqn' : qq < n := by rw [← hnH.out]; exact hqqn
                have hne : decide (cx xs pp = cx xs qq) = false := decide_eq_false fun e => by
                  have := hdyH.out p (p + 1 + q) (by rw [hyl.out]; omega) (by rw [hyl.out]; omega) (by rw [hcy1, hcy2, e])
                  omega
                have e0 : Hid (thrIn ys (cx xs i) p (q + 1) = thrIn ys (cx xs i) p q + if thirdC (cx xs pp) (cx xs qq) = cx xs i then 1 else 0) := hid (by rw [thrIn_next, thr1, hcy1, hcy2]; simp [lineC, hne])
                have hb0 := hid (thrIn_bd ys (cx xs i) p q)
                have hb1 := hid (thrOut_bd ys (cx xs i) p (by rw [hyl.out]; omega))
                clear hne
                cases hfree : decide (thrOut ys (cx xs i) p + thrIn ys (cx xs i) p q = 0) with
                | true =>
                  have hf0 := hid (of_decide_eq_true hfree)
                  clear hfree
                  go_wp2_with (first | (refine wp_region_ext (by kernel_rfl) (by kernel_rfl) ?_; (repeat (go_big_quiet_step (((first | (go_at_call 60; first | exact ext_call (third_any _ _ hcp hcq _) | exact ext_call2 (third_any _ _ hcp hcq _))))))); refine wpQuiet_end fun z => ?_))
                  go_roundw
                  case rel => exact ⟨q + 1, by omega, by go_num, by rw [e0.out]; have := hf0.out; by_cases e : thirdC (cx xs pp) (cx xs qq) = cx xs i <;> simp [e] <;> omega, (by (try simp only [ext_ext]); repeat (first | exact Kept.refl _ | apply Kept.alloc | apply Kept.drew | apply kept_add | apply Kept.ext))⟩
                  case measure => simp [intOf]; omega
                | false =>
                  have hf0 := hid (of_decide_eq_false hfree)
                  clear hfree
                  go_wp2_with (first | (refine wp_region_ext (by kernel_rfl) (by kernel_rfl) ?_; (repeat (go_big_quiet_step ((fail)))); refine wpQuiet_end fun z => ?_))
                  go_roundw
                  case rel => exact ⟨q + 1, by omega, by go_num, by rw [e0.out, decide_eq_false]; have := hf0.out; have := hb0.out; have := hb1.out; split <;> omega, (by (try simp only [ext_ext]); repeat (first | exact Kept.refl _ | apply Kept.alloc | apply Kept.drew | apply kept_add | apply Kept.ext))⟩
                  case measure => simp [intOf]; omega
              · have hj : ¬ q < m - (p + 1) := by omega
                have eq : q = m - (p + 1) := by omega
                have eo : Hid (thrOut ys (cx xs i) (p + 1) = thrOut ys (cx xs i) p + thrIn ys (cx xs i) p q) := hid (by rw [thrOut_next, hyl.out, eq])
                clear eq
                go_wp2
                go_roundw
                case rel => exact ⟨p + 1, by omega, by go_num, by rw [eo.out], (by (try simp only [ext_ext]); repeat (first | exact Kept.refl _ | apply Kept.alloc | apply Kept.drew | apply kept_add | apply Kept.ext))⟩
                case measure => simp [intOf]; omega
        · obtain rfl : m = p := by omega
          have hb1 := thrOut_bd ys (cx xs i) m (by rw [hyl.out]; omega)
          have hvm : Hid (ListAt c none wr (.slice bo m bcap) b) := hid (by rw [← hmH.out]; exact hvr.out)
          have hwr1 : IntKind.i64.wrap ((i : Int) + 1) = (i : Int) + 1 := Go.IntWalk.i64_in _ ⟨by omega, by omega⟩
          have hk3 : (m : Int) ≤ (bcap : Int) := by omega
          cases hb : blk xs b i with
          | true =>
            have hfr : decide (thrOut ys (cx xs i) m = 0) = false := decide_eq_false (by rw [hblkH.out] at hb; have := of_decide_eq_true hb; omega)
            have hnx := hid (show capT xs (n - i) b = capT xs (n - (i + 1)) b by rw [← hnH.out]; exact capT_hit (by rw [hnH.out]; exact hlt) hb)
            clear hb hb1
            rw [hfr]
            clear hfr
            go_wp2_with (fail)
            go_roundw
            case rel => exact ⟨i + 1, by omega, hlt, by go_num, h', by rw [← hhH.out, hnx.out], hkH.out _ _ _ hIH'.out (by (try simp only [ext_ext]); repeat (first | exact Kept.refl _ | apply Kept.alloc | apply Kept.drew | apply kept_add | apply Kept.ext)), hfH.out.trans (Kept.fr (by (try simp only [ext_ext]); repeat (first | exact Kept.refl _ | apply Kept.alloc | apply Kept.drew | apply kept_add | apply Kept.ext)))⟩
            case measure => simp [intOf]; omega
          | false =>
            have hfr : decide (thrOut ys (cx xs i) m = 0) = true := decide_eq_true (by rw [hblkH.out] at hb; have := of_decide_eq_false hb; omega)
            have hnx := hid (show capT xs (n - i) b = capL xs (n - (i + 1)) (b ++ [(i : Int)]) ++ capT xs (n - (i + 1)) b by rw [← hnH.out]; exact capT_free (by rw [hnH.out]; exact hlt) hb)
            have hT := hid (show h' ++ capL xs (n - (i + 1)) (b ++ [(i : Int)]) ++ (capT xs (n - (i + 1)) b ++ rest) = tot by
              rw [← htotH.out, ← hhH.out, hnx.out]; simp [List.append_assoc])
            have hA := hid (show n - (i + 1) < D by omega)
            have hB := hid (show (b ++ [(i : Int)]).length ≤ i + 1 by rw [List.length_append, List.length_singleton, hmH.out]; omega)
            have hC := hid (plB_app hpH.out hki)
            have hE := hid (ascB_app hpH.out haH.out hki)
            clear hb hb1
            rw [hfr]
            clear hfr
            go_wp2_with (first | (at_builtin; refine wpList_append_intF rfl _ _ rfl b m hmH.out c none bcap _ (hvm.out.kept (by (try simp only [ext_ext]); repeat (first | exact Kept.refl _ | apply Kept.alloc | apply Kept.drew | apply kept_add | apply Kept.ext))) rfl _ _ (i : Int) rfl (cell_of_row _ _ 0 _ _ (0, 0) (heap_at (by simp))) (by rw [hmH.out]; omega) ?_; intro v' w1 hown1 hk1) | (go_at_call 94; refine Calls.mono (ihH.out (i + 1) (b ++ [(i : Int)]) h' (capT xs (n - (i + 1)) b ++ rest) _ _ hA.out hlt hB.out hC.out hE.out hT.out (hkH.out _ _ _ hIH'.out (Kept.trans (by (try simp only [ext_ext]); repeat (first | exact Kept.refl _ | apply Kept.alloc | apply Kept.drew | apply kept_add | apply Kept.ext)) hk1)) (hkwr.out.trans (Kept.trans (by (try simp only [ext_ext]); repeat (first | exact Kept.refl _ | apply Kept.alloc | apply Kept.drew | apply kept_add | apply Kept.ext)) hk1)) (hown1.list (by simp; omega) (fun g e => by cases e))) ?_; rintro e w2 ⟨rfl, hI2, hf2⟩))
            go_roundw
            case rel => exact ⟨i + 1, by omega, hlt, by go_num, _, by rw [← hhH.out, hnx.out, List.append_assoc], hI2, hfH.out.trans (Fr.trans (Kept.fr (Kept.trans (by (try simp only [ext_ext]); repeat (first | exact Kept.refl _ | apply Kept.alloc | apply Kept.drew | apply kept_add | apply Kept.ext)) hk1)) hf2)⟩
            case measure => simp [intOf]; omega
    · obtain rfl : i = n := by omega
      have he : Hid (h' = h ++ capL xs (i - k) b) := hid (by rw [← hhH.out]; simp [capT])
      go_wp2
      go_end0
      exact ⟨rfl, he.out ▸ hIH'.out, hfH.out⟩
theorem caps_all (W : World) (ao : Option Addr) (cap n : Nat) (xs : List Card) (hn : xs.length = n) (hx : CardsAt W ao xs) (hc : areC xs) (hd : distC xs) (h15 : n ≤ 15) (c : Nat) (hWc : W.heap.size ≤ c) (q0 q1 : Value) (tot : List (List Int)) (Inv : List (List Int) → World → Prop) (hkeep : ∀ h w w', Inv h w → Kept w w' → Inv h w') (hin : ∀ h w, Inv h w → c < w.heap.size)
    (hvis : ∀ h p w u, h ++ [p] <+: tot → Inv h w → ListAt c none w u p → Calls Try.prog 95 #[u, q0, q1] w fun e w' => e = .returned (.tuple #[]) ∧ Inv (h ++ [p]) w' ∧ Fr c none none w w') :
    ∀ (D k : Nat) (b : List Int) (h rest : List (List Int)) (w : World) (v : Value), n - k ≤ D → k ≤ n → b.length ≤ k → plB k b → ascB b → h ++ capL xs (n - k) b ++ rest = tot → Inv h w → Kept W w → ListAt c none w v b → Calls Try.prog 94 #[.slice ao n cap, .int .i64 k, v, .func (.func 95) #[] #[q0, q1]] w fun e w' => e = .returned (.tuple #[]) ∧ Inv (h ++ capL xs (n - k) b) w' ∧ Fr c none none w w' := by
  intro D
  induction D with
  | zero => exact fun k b h rest w v hD hk hbk hp ha ht hI hkW hv => caps_step W ao cap n xs hn hx hc hd h15 c hWc q0 q1 tot Inv hkeep hin hvis 0 (fun k _ _ _ _ _ h => absurd h (Nat.not_lt_zero _)) k b h rest w v (by omega) hk hbk hp ha ht hI hkW hv
  | succ D ih => exact fun k b h rest w v hD hk hbk hp ha ht hI hkW hv => caps_step W ao cap n xs hn hx hc hd h15 c hWc q0 q1 tot Inv hkeep hin hvis (n - k) (fun k' b' h' rest' w' v' hlt => ih k' b' h' rest' w' v' (by omega)) k b h rest w v rfl hk hbk hp ha ht hI hkW hv
def CntJ (c B : Nat) (n : Int) (h : List (List Int)) (w : World) : Prop := c ≠ B ∧ B < w.heap.size ∧ w.cell? ⟨B, 0, none⟩ = some (.int .i64 n) ∧ w.heap[c]? = some (.cells #[.int .i64 (cntQ h n : Nat)] 3)
theorem CntJ.kept {c B : Nat} {n : Int} {h : List (List Int)} {w w' : World} (H : CntJ c B n h w) (hk : Kept w w') : CntJ c B n h w' := by
  obtain ⟨h0, h1, h2, h3⟩ := H
  exact ⟨h0, Nat.lt_of_lt_of_le h1 hk.below.size, (hk.below.cell (p := ⟨_, _, none⟩) h1).trans h2, (hk.below.block c (Array.getElem?_eq_some_iff.1 h3).1).trans h3⟩
theorem CntJ.lt {c B : Nat} {n : Int} {h : List (List Int)} {w : World} (H : CntJ c B n h w) : c < w.heap.size := (Array.getElem?_eq_some_iff.1 H.2.2.2).1
theorem fr_set (w : World) (c o : Nat) (u : Value) : Fr c none none w (w.setCell ⟨c, o, none⟩ u) := ⟨rfl, rfl, rfl, by simp, fun k _ hk _ => heap_setCell_other _ _ _ _ (fun e => hk e), .inl rfl⟩
theorem countCaps1_any (c B : Nat) (n : Int) (h : List (List Int)) (p : List Int) (w : World) (u : Value) (hl : h.length ≤ 1048576) (hI : CntJ c B n h w) (hu : ListAt c none w u p) (hp : p.length ≤ 1048576) :
    Calls Try.prog 95 #[u, .pointer (some ⟨B, 0, none⟩), .pointer (some ⟨c, 0, none⟩)] w fun e w' => e = .returned (.tuple #[]) ∧ CntJ c B n (h ++ [p]) w' ∧ Fr c none none w w' := by
  obtain ⟨ao, cap, rfl, _⟩ := hu.form
  have hlt := hI.lt
  obtain ⟨h0, h1, h2, h3⟩ := hI
  have hle := cntQ_le h n
  have hc := cell_of_row w c 0 _ _ (0, 0) h3
  have hf := frozen_of_row w c 0 _ _ h3
  by_cases e : (p.length : Int) = n
  · have hy := hid (cntQ_yes h e)
    have heq : ((p.length : Int) == n) = true := by simp [e]
    have h3H := hid h3
    have h2H := hid h2
    have h0H := hid h0
    clear h3 e h0
    simp only [List.getElem?_toArray, List.getElem?_cons_zero] at hc
    go_enter Try.func95, Try.ntmps95
    go_wp2
    go_end0
    refine ⟨rfl, ⟨h0H.out, by simpa using h1, ?_, ?_⟩, fr_set _ _ _ _⟩
    · exact (cell_block (heap_setCell_other _ _ _ _ h0H.out.symm) _).trans h2
    · rw [heap_setCell_same _ _ _ _ _ _ h3H.out, hy.out]
      rfl
  · have hy := hid (cntQ_no h e)
    have heq : ((p.length : Int) == n) = false := by simp [e]
    have h3H := hid h3
    have h0H := hid h0
    clear h3 e
    go_enter Try.func95, Try.ntmps95
    go_wp2
    go_end0
    exact ⟨rfl, ⟨h0H.out, h1, h2, by rw [hy.out]; exact h3H.out⟩, ⟨rfl, rfl, rfl, Nat.le_refl _, fun _ _ _ _ => rfl, .inl rfl⟩⟩
def capB (xs : List Card) : Bool := isHand xs && decide (xs.length ≤ 15)
theorem capB_of {xs : List Card} (h : capB xs = true) : isHand xs = true ∧ xs.length ≤ 15 := by simpa [capB] using h
theorem l3Pool_any (ao : Option Addr) (cap : Nat) (xs : List Card) (w : World) (hx : CardsAt w ao xs) (hl : xs.length ≤ 1048576) :
    Calls Try.prog 62 #[.slice ao xs.length cap] w fun e w' => e = .returned (.bool (capB xs)) ∧ Kept w w' := by
  have hv : Hid (capB xs = (isHand xs && decide (xs.length ≤ 15))) := hid rfl
  cases h : isHand xs
  · go_enter Try.func62, Try.ntmps62
    go_wp2_with (first | (go_at_call 40; refine Calls.mono (l2Hand_any _ _ _ _ (by first | assumption | exact CardsAt.kept (by assumption) (by (try simp only [ext_ext]); repeat (first | exact Kept.refl _ | apply Kept.alloc | apply Kept.drew | apply kept_add | apply Kept.ext))) hl) ?_; rintro e w' ⟨rfl, y, rfl⟩))
    go_ret
    exact ⟨ret_of (by rw [hv.out, h]; rfl), (by (try simp only [ext_ext]); repeat (first | exact Kept.refl _ | apply Kept.alloc | apply Kept.drew | apply kept_add | apply Kept.ext))⟩
  · by_cases h2 : xs.length ≤ 15
    all_goals
      go_enter Try.func62, Try.ntmps62
      go_wp2_with (first | (go_at_call 40; refine Calls.mono (l2Hand_any _ _ _ _ (by first | assumption | exact CardsAt.kept (by assumption) (by (try simp only [ext_ext]); repeat (first | exact Kept.refl _ | apply Kept.alloc | apply Kept.drew | apply kept_add | apply Kept.ext))) hl) ?_; rintro e w' ⟨rfl, y, rfl⟩))
      go_ret
      exact ⟨ret_of (by rw [hv.out, h]; simp; omega), (by (try simp only [ext_ext]); repeat (first | exact Kept.refl _ | apply Kept.alloc | apply Kept.drew | apply kept_add | apply Kept.ext))⟩
theorem isPool_any (ao : Option Addr) (cap : Nat) (xs : List Card) (w : World) (hx : CardsAt w ao xs) (hl : xs.length ≤ 1048576) :
    Calls Try.prog 93 #[.slice ao xs.length cap] w fun e w' => e = .returned (.bool (capB xs)) ∧ Kept w w' := by
  have hv : Hid (capB xs = (isHand xs && decide (xs.length ≤ 15))) := hid rfl
  cases h : isHand xs
  · go_enter Try.func93, Try.ntmps93
    go_wp2_with (first | (go_at_call 56; refine Calls.mono (IsHand_any _ _ _ _ (by first | assumption | exact CardsAt.kept (by assumption) (by (try simp only [ext_ext]); repeat (first | exact Kept.refl _ | apply Kept.alloc | apply Kept.drew | apply kept_add | apply Kept.ext))) hl) ?_; rintro e w' ⟨rfl, y, rfl⟩))
    go_ret
    exact ⟨ret_of (by rw [hv.out, h]; rfl), (by (try simp only [ext_ext]); repeat (first | exact Kept.refl _ | apply Kept.alloc | apply Kept.drew | apply kept_add | apply Kept.ext))⟩
  · by_cases h2 : xs.length ≤ 15
    all_goals
      go_enter Try.func93, Try.ntmps93
      go_wp2_with (first | (go_at_call 56; refine Calls.mono (IsHand_any _ _ _ _ (by first | assumption | exact CardsAt.kept (by assumption) (by (try simp only [ext_ext]); repeat (first | exact Kept.refl _ | apply Kept.alloc | apply Kept.drew | apply kept_add | apply Kept.ext))) hl) ?_; rintro e w' ⟨rfl, y, rfl⟩))
      go_ret
      exact ⟨ret_of (by rw [hv.out, h]; simp; omega), (by (try simp only [ext_ext]); repeat (first | exact Kept.refl _ | apply Kept.alloc | apply Kept.drew | apply kept_add | apply Kept.ext))⟩
theorem countCaps_no (ao : Option Addr) (cap : Nat) (xs : List Card) (n : Int) (w : World) (hx : CardsAt w ao xs) (hl : xs.length ≤ 1048576) (hg : (capB xs && inB n 0 15) = false) :
    Calls Try.prog 66 #[.slice ao xs.length cap, .int .i64 n] w fun e w' => e = .returned (.tuple #[.int .i64 0, .bool false]) ∧ Kept w w' := by
  cases h : capB xs
  · go_enter Try.func66, Try.ntmps66
    go_wp2_with (first | (go_at_call 93; refine Calls.mono (isPool_any _ _ _ _ (by first | assumption | exact CardsAt.kept (by assumption) (by (try simp only [ext_ext]); repeat (first | exact Kept.refl _ | apply Kept.alloc | apply Kept.drew | apply kept_add | apply Kept.ext))) hl) ?_; rintro e w' ⟨rfl, y, rfl⟩))
    refine bodyPost_ret (v := .tuple #[.int .i64 0, .bool false]) (by simp [results, Try.results66, go_sem]) rfl ⟨rfl, ?_⟩
    exact (by (try simp only [ext_ext]); repeat (first | exact Kept.refl _ | apply Kept.alloc | apply Kept.drew | apply kept_add | apply Kept.ext))
  cases h2 : inB n 0 15
  · go_enter Try.func66, Try.ntmps66
    go_wp2_with (first | (go_at_call 93; refine Calls.mono (isPool_any _ _ _ _ (by first | assumption | exact CardsAt.kept (by assumption) (by (try simp only [ext_ext]); repeat (first | exact Kept.refl _ | apply Kept.alloc | apply Kept.drew | apply kept_add | apply Kept.ext))) hl) ?_; rintro e w' ⟨rfl, y, rfl⟩) | (go_at_call 47; refine Calls.mono (within_any _ _ _ _) ?_; rintro e w' ⟨rfl, rfl⟩))
    refine bodyPost_ret (v := .tuple #[.int .i64 0, .bool false]) (by simp [results, Try.results66, go_sem]) rfl ⟨rfl, ?_⟩
    exact (by (try simp only [ext_ext]); repeat (first | exact Kept.refl _ | apply Kept.alloc | apply Kept.drew | apply kept_add | apply Kept.ext))
  · simp [h, h2] at hg
theorem countCaps_yes (ao : Option Addr) (cap : Nat) (xs : List Card) (n : Int) (w : World) (hx : CardsAt w ao xs) (hg : (capB xs && inB n 0 15) = true) :
    Calls Try.prog 66 #[.slice ao xs.length cap, .int .i64 n] w fun e w' => e = .returned (.tuple #[.int .i64 (cntQ (capL xs xs.length []) n : Nat), .bool true]) ∧ Kept w w' := by
  obtain ⟨hp, hn⟩ : capB xs = true ∧ inB n 0 15 = true := by simpa using hg
  obtain ⟨hh, h15⟩ := capB_of hp
  have hnb := inB_of hn
  have hc := areC_hand hh
  have hd := distC_hand hh
  have hvl : (capL xs xs.length []).length ≤ 32768 := by
    have h1 := capT_len xs xs.length []
    have h2 : (2 : Nat) ^ xs.length ≤ 2 ^ 15 := Nat.pow_le_pow_right (by omega) h15
    have h3 : (2 : Nat) ^ 15 = 32768 := by decide
    simp only [capL, List.length_cons]
    omega
  have hPl0 := fun w' (hk : Kept w w') => isPool_any ao cap xs w' (hx.kept hk) (by omega)
  rw [hp] at hPl0
  have hPl := hid hPl0
  have hxH := hid hx
  have hcH := hid hc
  have hdH := hid hd
  have hvlH := hid hvl
  clear hg hx hPl0 hc hd hvl
  go_enter Try.func66, Try.ntmps66
  go_wp2_with (fail)
  (go_at_call 93; refine Calls.mono (hPl.out _ (by (try simp only [ext_ext]); repeat (first | exact Kept.refl _ | apply Kept.alloc | apply Kept.drew | apply kept_add | apply Kept.ext))) ?_; rintro e w1 ⟨rfl, k1⟩)
  have hB : w1.cell? ⟨w.heap.size, 0, none⟩ = some (.int .i64 n) := (k1.below.cell (p := ⟨_, _, none⟩) (by simp)).trans (by simp [go_sem])
  have K1 : Kept w w1 := Kept.trans (by (try simp only [ext_ext]); repeat (first | exact Kept.refl _ | apply Kept.alloc | apply Kept.drew | apply kept_add | apply Kept.ext)) k1
  have hsz : w.heap.size < w1.heap.size := by have := k1.below.size; simp at this; omega
  go_wp2_with (first | (go_at_call 47; refine Calls.mono (within_any _ _ _ _) ?_; rintro e w' ⟨rfl, rfl⟩))
  have hI : CntJ w1.heap.size w.heap.size n [] (w1.alloc (.cells #[.int .i64 0] 3)) := ⟨by omega, by simp; omega, by simp [go_sem, hB, hsz], heap_at rfl⟩
  (go_at_call 94; refine Calls.mono (caps_all w ao cap xs.length xs rfl hxH.out hcH.out hdH.out h15 w1.heap.size (by omega) _ _ (capL xs xs.length []) (CntJ w1.heap.size w.heap.size n) (fun h w w' H hk => H.kept hk) (fun h w H => H.lt) (fun h p w u hp H hu => countCaps1_any _ _ n h p w u (by have := pre_len hp; have := hvlH.out; omega) H hu (by have := capL_mem (pre_mem hp); simp at this; omega)) xs.length 0 [] [] [] _ _ (by omega) (by omega) (by simp) (fun i hi => by simp at hi) (fun i j _ hj => by simp at hj) (by simp) hI (K1.trans (by (try simp only [ext_ext]); repeat (first | exact Kept.refl _ | apply Kept.alloc | apply Kept.drew | apply kept_add | apply Kept.ext))) (.inl ⟨rfl, rfl⟩)) ?_; rintro e w2 ⟨rfl, hI2, hf2⟩)
  have K2 : Kept w w2 := Kept.of_fr (K1.trans (by (try simp only [ext_ext]); repeat (first | exact Kept.refl _ | apply Kept.alloc | apply Kept.drew | apply kept_add | apply Kept.ext))) hf2 (by omega) (fun g e => by cases e)
  obtain ⟨_, _, _, h3⟩ := hI2
  have hcell := cell_of_row w2 w1.heap.size 0 _ _ (0, 0) h3
  simp only [List.nil_append, Nat.sub_zero] at hcell
  go_wp2_with (fail)
  refine bodyPost_ret (v := .tuple #[.int .i64 (cntQ (capL xs xs.length []) n : Nat), .bool true]) (by simp [results, Try.results66, go_sem]) rfl ⟨rfl, ?_⟩
  exact K2
end Go.Proofs.Ytinoohckfhhbfaa
