/- Contracts: the pile of a seed. -/
import Derived.Test.YtenmnipgnjaheaaT28
import Derived.Test.YtenmnipgnjaheaaT16
import Derived.Deep.RegionHeld3
import Derived.Deep.AppendLies
namespace Go.Proofs.Ytenmnipgnjaheaa
open Go.RowKit
theorem cells4_set (cs : List Card) (i : Nat) (c : Card) (h : i < cs.length) :
    cells4 (cs.set i c) = ((((cells4 cs).set (i * 4) (.int .i64 c.a)).set (i * 4 + 1) (.int .i64 c.b)).set (i * 4 + 2) (.int .i64 c.c)).set (i * 4 + 3) (.int .i64 c.d) := by
  induction cs generalizing i with
  | nil => simp at h
  | cons x cs ih =>
    cases i with
    | zero => rfl
    | succ i =>
      rw [show (i + 1) * 4 = i * 4 + 4 by omega]
      exact congrArg (fun l => Value.int .i64 x.a :: .int .i64 x.b :: .int .i64 x.c :: .int .i64 x.d :: l) (ih i (by simpa using h))
theorem OwnC.setCard {B : Nat} {w : World} {g cap i : Nat} {cs : List Card} (c : Card) (h : OwnC B w (.slice (some ⟨g, 0, none⟩) cs.length cap) cs) (hi : i < cs.length) :
    OwnC B ((((w.setCell ⟨g, i * 4, none⟩ (.int .i64 c.a)).setCell ⟨g, i * 4 + 1, none⟩ (.int .i64 c.b)).setCell ⟨g, i * 4 + 2, none⟩ (.int .i64 c.c)).setCell ⟨g, i * 4 + 3, none⟩ (.int .i64 c.d)) (.slice (some ⟨g, 0, none⟩) cs.length cap) (cs.set i c) := by
  rcases h.2 with ⟨h0, _⟩ | ⟨g', cap', cur, h1, hb, hg, hn, hm, hs, ht⟩
  · cases h0
  · cases h1
    have e1 := heap_setCell_same w g (i * 4) _ _ (.int .i64 c.a) hg
    have e2 := heap_setCell_same _ g (i * 4 + 1) _ _ (.int .i64 c.b) e1
    have e3 := heap_setCell_same _ g (i * 4 + 2) _ _ (.int .i64 c.c) e2
    have e4 := heap_setCell_same _ g (i * 4 + 3) _ _ (.int .i64 c.d) e3
    refine ⟨by rw [cells4_length], .inr ⟨g, cap, _, by rw [List.length_set], hb, e4, by rw [List.length_set]; exact hn, hm, by simp [hs], ?_⟩⟩
    rw [List.length_set, cells4_set cs i c hi, ← ht]
    simp only [Array.toList_setIfInBounds, List.take_set]
theorem OwnC.setCardN {B : Nat} {w : World} {g cap i n : Nat} {cs : List Card} (c : Card) (h : OwnC B w (.slice (some ⟨g, 0, none⟩) n cap) cs) (hn : cs.length = n) (hi : i < n) :
    OwnC B ((((w.setCell ⟨g, i * 4, none⟩ (.int .i64 c.a)).setCell ⟨g, i * 4 + 1, none⟩ (.int .i64 c.b)).setCell ⟨g, i * 4 + 2, none⟩ (.int .i64 c.c)).setCell ⟨g, i * 4 + 3, none⟩ (.int .i64 c.d)) (.slice (some ⟨g, 0, none⟩) n cap) (cs.set i c) := by
  subst hn
  exact h.setCard c hi
theorem OwnC.cellsN {B : Nat} {w : World} {g cap i n : Nat} {cs : List Card} (h : OwnC B w (.slice (some ⟨g, 0, none⟩) n cap) cs) (hn : cs.length = n) (hi : i < n) : CardCells w g (i * 4) (cx cs i) := by
  subst hn
  obtain ⟨ao, cap', hv, hx, _⟩ := h.reads
  cases hv
  obtain ⟨g', off', hh, _, hc⟩ := hx i hi
  cases hh
  simpa using hc
theorem OwnC.frozenN {B : Nat} {w : World} {g cap n : Nat} {cs : List Card} (h : OwnC B w (.slice (some ⟨g, 0, none⟩) n cap) cs) (j : Nat) : w.frozen? ⟨g, j, none⟩ = false := by
  rcases h.2 with ⟨h0, _⟩ | ⟨g', cap', cur, h1, hb, hg, _⟩
  · cases h0
  · cases h1
    exact frozen_of_row w g j _ _ hg
theorem kept_setOwn {W w : World} {g o : Nat} {u : Value} (hk : Kept W w) (hg : W.heap.size ≤ g) : Kept W (w.setCell ⟨g, o, none⟩ u) :=
  hk.grown (grown_setCell (grown_refl _ (some g)) (p := ⟨g, o, none⟩) rfl u) fun k hk => by cases hk; exact hg
theorem kept_setCard {W w : World} {g o1 o2 o3 o4 : Nat} {u1 u2 u3 u4 : Value} (hk : Kept W w) (hg : W.heap.size ≤ g) : Kept W ((((w.setCell ⟨g, o1, none⟩ u1).setCell ⟨g, o2, none⟩ u2).setCell ⟨g, o3, none⟩ u3).setCell ⟨g, o4, none⟩ u4) :=
  kept_setOwn (kept_setOwn (kept_setOwn (kept_setOwn hk hg) hg) hg) hg
/-- Two cards change places. -/
def cswap (cs : List Card) (i k : Nat) : List Card := (cs.set i (cx cs k)).set k (cx cs i)
theorem cswap_len (cs : List Card) (i k : Nat) : (cswap cs i k).length = cs.length := by simp [cswap]
def behI (s : Int) : Int := (25173 * s + 13849) % 65536
theorem behI_bd (s : Int) : 0 ≤ behI s ∧ behI s ≤ 65535 := by unfold behI; omega
def placeI (s : Int) (i : Nat) : Nat := (s / 8 % ((i : Int) + 1)).toNat
theorem placeI_lt (s : Int) (i : Nat) : placeI s i ≤ i := by
  unfold placeI
  have h1 := Int.emod_nonneg (s / 8) (show ((i : Int) + 1) ≠ 0 by omega)
  have h2 := Int.emod_lt_of_pos (s / 8) (show 0 < ((i : Int) + 1) by omega)
  omega
theorem placeI_eq (s : Int) (i : Nat) : s / 8 % ((i : Int) + 1) = (placeI s i : Nat) := by
  unfold placeI
  have h1 := Int.emod_nonneg (s / 8) (show ((i : Int) + 1) ≠ 0 by omega)
  omega
/-- What is left of the shuffling. -/
def pileR (s : Int) (cs : List Card) (i : Nat) : List Card := if i = 0 then cs else pileR (behI s) (cswap cs i (placeI (behI s) i)) (i - 1)
termination_by i
decreasing_by omega
theorem pileR_zero (s : Int) (cs : List Card) : pileR s cs 0 = cs := by rw [pileR]; simp
theorem pileR_next (s : Int) (cs : List Card) {i : Nat} (h : 0 < i) : pileR s cs i = pileR (behI s) (cswap cs i (placeI (behI s) i)) (i - 1) := by rw [pileR, if_neg (by omega)]
theorem pileR_len : ∀ (i : Nat) (s : Int) (cs : List Card), (pileR s cs i).length = cs.length
  | 0, s, cs => by rw [pileR_zero]
  | i + 1, s, cs => by rw [pileR_next s cs (by omega), pileR_len, cswap_len]
def deckN (k : Nat) : List Card := (List.range k).map fun i => cardN (i : Nat)
theorem deckN_next (k : Nat) : deckN (k + 1) = deckN k ++ [cardN (k : Nat)] := by simp [deckN, List.range_succ]
theorem deckN_len (k : Nat) : (deckN k).length = k := by simp [deckN]
def pileC (s : Int) : List Card := pileR s (deckN 81) 80
theorem pileC_len (s : Int) : (pileC s).length = 81 := by rw [pileC, pileR_len, deckN_len]
theorem behind_any (s : Int) (h0 : 0 ≤ s) (h1 : s ≤ 65535) (w : World) : Calls Try.prog 100 #[.int .i64 s] w fun e w' => e = .returned (.int .i64 (behI s)) ∧ w = w' := by
  have e : (25173 * s + 13849).tmod 65536 = behI s := Int.tmod_eq_emod_of_nonneg (by omega)
  go_enter Try.func100, Try.ntmps100
  go_wp2
  go_ret
  exact ⟨rfl, rfl⟩
theorem l4Behind_any (s : Int) (h0 : 0 ≤ s) (h1 : s ≤ 65535) (w : World) : Calls Try.prog 97 #[.int .i64 s] w fun e w' => e = .returned (.int .i64 (behI s)) ∧ w = w' := by
  have e : (25173 * s + 13849).tmod 65536 = behI s := Int.tmod_eq_emod_of_nonneg (by omega)
  go_enter Try.func97, Try.ntmps97
  go_wp2
  go_ret
  exact ⟨rfl, rfl⟩
theorem pile_any (s : Int) (h0 : 0 ≤ s) (h1 : s ≤ 65535) (w : World) : Calls Try.prog 88 #[.int .i64 s] w (RetC w (pileC s)) := by
  have hpl := hid (pileC_len s)
  go_enter Try.func88, Try.ntmps88
  go_wp2
  go_loopw [8, 3] (fun i v wr => ∃ n : Nat, n ≤ 81 ∧ i = .int .i64 n ∧ OwnC w.heap.size wr v (deckN n) ∧ Kept w wr) (fun i _ _ => 81 - (intOf i).toNat)
  case atStart => exact ⟨0, by omega, rfl, show OwnC _ _ _ [] from ownC_nil (Nat.le_refl _) (heap_at rfl), (by (try simp only [ext_ext]); repeat (first | exact Kept.refl _ | apply Kept.alloc | apply Kept.drew | apply kept_add | apply Kept.ext))⟩
  case round wr =>
    obtain ⟨n, hn, rfl, hown, hkw⟩ := hrel
    obtain ⟨ao4, cap4, hv4, hx4, _⟩ := hown.reads
    clear hx4
    subst hv4
    have hownH := hid hown
    have hkwH := hid hkw
    have hdl := hid (deckN_len n)
    have hdn := hid (deckN_next n)
    have hws := hkw.below.size
    by_cases hlt : n < 81
    · clear hown hkw
      go_wp2_with (first | (go_at_call 99; refine Calls.mono (card_any (n : Int) (by omega) (by omega) _) ?_; rintro e w' ⟨rfl, y, rfl⟩) | (at_builtin; refine wpList_append_card_at rfl _ _ rfl w w.heap.size _ _ rfl (hownH.out.kept (by (try simp only [ext_ext]); repeat (first | exact Kept.refl _ | apply Kept.alloc | apply Kept.drew | apply kept_add | apply Kept.ext))) (hkwH.out.trans (by (try simp only [ext_ext]); repeat (first | exact Kept.refl _ | apply Kept.alloc | apply Kept.drew | apply kept_add | apply Kept.ext))) (Nat.le_refl _) (by simp; omega) _ _ (cardN (n : Int)) rfl ?_ (by have := hdl.out; omega) ?_; rotate_left; intro v' w' hown' hkw' hgr' hat'))
      case refine_1 => exact cardCells_new _ (by simp)
      go_roundw
      case rel => exact ⟨n + 1, hlt, by go_num, by rw [hdn.out]; exact hown', hkw'⟩
      case measure => simp [intOf]; omega
    · obtain rfl : n = 81 := by omega
      obtain ⟨g, cap, hgv, hgb, hgl⟩ := World.ownsRow.form hown (by rw [hdl.out]; omega)
      cases hgv
      have hpe : Hid (pileR s (deckN 81) 80 = pileC s) := hid rfl
      go_wp2
      rw [hdl.out] at hown ⊢
      simp only [Int.cast_ofNat_Int]
      go_loopw [5, 0] (fun i u wr => ∃ (i' : Nat) (s' : Int) (cs : List Card), i' ≤ 80 ∧ i = .int .i64 i' ∧ u = .int .i64 s' ∧ 0 ≤ s' ∧ s' ≤ 65535 ∧ cs.length = 81 ∧ OwnC w.heap.size wr (.slice (some ⟨g, 0, none⟩) 81 cap4) cs ∧ pileR s' cs i' = pileC s ∧ Kept w wr ∧ g < wr.heap.size) (fun i _ _ => (intOf i).toNat)
      case atStart => exact ⟨80, s, deckN 81, by omega, rfl, rfl, h0, h1, hdl.out, hown, hpe.out, hkw, hgl⟩
      case round wr2 =>
        obtain ⟨i, s', cs, hi80, rfl, rfl, b0, b1, hcl, hown2, hpr, hkw2, hgl2⟩ := hrel
        by_cases hpos : 0 < i
        · have e1 : (behI s').tdiv 8 = behI s' / 8 := Int.tdiv_eq_ediv_of_nonneg (behI_bd s').1
          have e2 : (behI s' / 8).tmod ((i : Int) + 1) = (placeI (behI s') i : Nat) := by
            rw [Int.tmod_eq_emod_of_nonneg (by have := (behI_bd s').1; omega), placeI_eq]
          have hz : ¬ ((i : Int) + 1 = 0) := by omega
          have hkl := placeI_lt (behI s') i
          have hpn := hid ((pileR_next s' cs hpos).symm.trans hpr)
          generalize hk : placeI (behI s') i = k at e2 hkl hpn
          have hq0 : 0 ≤ behI s' / 8 := by have := (behI_bd s').1; omega
          have hq1 : behI s' / 8 ≤ 8191 := by have := (behI_bd s').2; omega
          generalize behI s' / 8 = q at e1 e2 hq0 hq1
          have hdec : (i : Int) - 1 = ((i - 1 : Nat) : Int) := by omega
          obtain ⟨p1, p2, p3, p4⟩ := hown2.cellsN hcl (show i < 81 by omega)
          obtain ⟨q1, q2, q3, q4⟩ := hown2.cellsN hcl (show k < 81 by omega)
          have hfr := hown2.frozenN
          have i81 : i < 81 := by omega
          have k81 : k < 81 := by omega
          have hownH := hid hown2
          have hkwH := hid hkw2
          clear hown2 hkw2 hpr hown hk
          by_cases hik : i = k
          · subst hik
            go_wp2_with (first | (go_at_call 100; refine Calls.mono (behind_any _ b0 b1 _) ?_; rintro e w' ⟨rfl, rfl⟩) | go_region)
            go_roundw
            case rel =>
              refine ⟨i - 1, behI s', cswap cs i i, by omega, rfl, rfl, (behI_bd s').1, (behI_bd s').2, by rw [cswap_len]; exact hcl, ((hownH.out.setCardN (cx cs i) hcl i81).setCardN (cx cs i) (by rw [List.length_set]; exact hcl) k81).kept ((Kept.refl _).drew), hpn.out, Kept.drew (kept_setCard (kept_setCard hkwH.out hgb) hgb), by simpa using hgl2⟩
            case measure => simp [intOf]; omega
          · go_wp2_with (first | (go_at_call 100; refine Calls.mono (behind_any _ b0 b1 _) ?_; rintro e w' ⟨rfl, rfl⟩) | go_region)
            go_roundw
            case rel =>
              refine ⟨i - 1, behI s', cswap cs i k, by omega, rfl, rfl, (behI_bd s').1, (behI_bd s').2, by rw [cswap_len]; exact hcl, ((hownH.out.setCardN (cx cs k) hcl i81).setCardN (cx cs i) (by rw [List.length_set]; exact hcl) k81).kept ((Kept.refl _).drew), hpn.out, Kept.drew (kept_setCard (kept_setCard hkwH.out hgb) hgb), by simpa using hgl2⟩
            case measure => simp [intOf]; omega
        · obtain rfl : i = 0 := by omega
          rw [pileR_zero] at hpr
          go_wp2
          go_ret
          subst hpr
          exact ⟨_, rfl, hown2, hkw2⟩
theorem l4Pile_any (s : Int) (h0 : 0 ≤ s) (h1 : s ≤ 65535) (w : World) : Calls Try.prog 84 #[.int .i64 s] w (RetC w (pileC s)) := by
  have hpl := hid (pileC_len s)
  go_enter Try.func84, Try.ntmps84
  go_wp2
  go_loopw [4, 3] (fun i v wr => ∃ n : Nat, n ≤ 81 ∧ i = .int .i64 n ∧ OwnC w.heap.size wr v (deckN n) ∧ Kept w wr) (fun i _ _ => 81 - (intOf i).toNat)
  case atStart => exact ⟨0, by omega, rfl, show OwnC _ _ _ [] from ownC_nil (Nat.le_refl _) (heap_at rfl), (by (try simp only [ext_ext]); repeat (first | exact Kept.refl _ | apply Kept.alloc | apply Kept.drew | apply kept_add | apply Kept.ext))⟩
  case round wr =>
    obtain ⟨n, hn, rfl, hown, hkw⟩ := hrel
    obtain ⟨ao4, cap4, hv4, hx4, _⟩ := hown.reads
    clear hx4
    subst hv4
    have hownH := hid hown
    have hkwH := hid hkw
    have hdl := hid (deckN_len n)
    have hdn := hid (deckN_next n)
    have hws := hkw.below.size
    by_cases hlt : n < 81
    · clear hown hkw
      go_wp2_with (first | (go_at_call 96; refine Calls.mono (l2At_any (n : Int) (by omega) (by omega) _) ?_; rintro e w' ⟨rfl, y, rfl⟩) | (at_builtin; refine wpList_append_card_at rfl _ _ rfl w w.heap.size _ _ rfl (hownH.out.kept (by (try simp only [ext_ext]); repeat (first | exact Kept.refl _ | apply Kept.alloc | apply Kept.drew | apply kept_add | apply Kept.ext))) (hkwH.out.trans (by (try simp only [ext_ext]); repeat (first | exact Kept.refl _ | apply Kept.alloc | apply Kept.drew | apply kept_add | apply Kept.ext))) (Nat.le_refl _) (by simp; omega) _ _ (cardN (n : Int)) rfl ?_ (by have := hdl.out; omega) ?_; rotate_left; intro v' w' hown' hkw' hgr' hat'))
      case refine_1 => exact cardCells_new _ (by simp)
      go_roundw
      case rel => exact ⟨n + 1, hlt, by go_num, by rw [hdn.out]; exact hown', hkw'⟩
      case measure => simp [intOf]; omega
    · obtain rfl : n = 81 := by omega
      obtain ⟨g, cap, hgv, hgb, hgl⟩ := World.ownsRow.form hown (by rw [hdl.out]; omega)
      cases hgv
      have hpe : Hid (pileR s (deckN 81) 80 = pileC s) := hid rfl
      go_wp2
      rw [hdl.out] at hown ⊢
      simp only [Int.cast_ofNat_Int]
      go_loopw [5, 0] (fun i u wr => ∃ (i' : Nat) (s' : Int) (cs : List Card), i' ≤ 80 ∧ i = .int .i64 i' ∧ u = .int .i64 s' ∧ 0 ≤ s' ∧ s' ≤ 65535 ∧ cs.length = 81 ∧ OwnC w.heap.size wr (.slice (some ⟨g, 0, none⟩) 81 cap4) cs ∧ pileR s' cs i' = pileC s ∧ Kept w wr ∧ g < wr.heap.size) (fun i _ _ => (intOf i).toNat)
      case atStart => exact ⟨80, s, deckN 81, by omega, rfl, rfl, h0, h1, hdl.out, hown, hpe.out, hkw, hgl⟩
      case round wr2 =>
        obtain ⟨i, s', cs, hi80, rfl, rfl, b0, b1, hcl, hown2, hpr, hkw2, hgl2⟩ := hrel
        by_cases hpos : 0 < i
        · have e1 : (behI s').tdiv 8 = behI s' / 8 := Int.tdiv_eq_ediv_of_nonneg (behI_bd s').1
          have e2 : (behI s' / 8).tmod ((i : Int) + 1) = (placeI (behI s') i : Nat) := by
            rw [Int.tmod_eq_emod_of_nonneg (by have := (behI_bd s').1; omega), placeI_eq]
          have hz : ¬ ((i : Int) + 1 = 0) := by omega
          have hkl := placeI_lt (behI s') i
          have hpn := hid ((pileR_next s' cs hpos).symm.trans hpr)
          generalize hk : placeI (behI s') i = k at e2 hkl hpn
          have hq0 : 0 ≤ behI s' / 8 := by have := (behI_bd s').1; omega
          have hq1 : behI s' / 8 ≤ 8191 := by have := (behI_bd s').2; omega
          generalize behI s' / 8 = q at e1 e2 hq0 hq1
          have hdec : (i : Int) - 1 = ((i - 1 : Nat) : Int) := by omega
          obtain ⟨p1, p2, p3, p4⟩ := hown2.cellsN hcl (show i < 81 by omega)
          obtain ⟨q1, q2, q3, q4⟩ := hown2.cellsN hcl (show k < 81 by omega)
          have hfr := hown2.frozenN
          have i81 : i < 81 := by omega
          have k81 : k < 81 := by omega
          have hownH := hid hown2
          have hkwH := hid hkw2
          clear hown2 hkw2 hpr hown hk
          by_cases hik : i = k
          · subst hik
            go_wp2_with (first | (go_at_call 97; refine Calls.mono (l4Behind_any _ b0 b1 _) ?_; rintro e w' ⟨rfl, rfl⟩) | go_region)
            all_goals
              go_roundw
              case rel =>
                refine ⟨i - 1, behI s', cswap cs i i, by omega, rfl, rfl, (behI_bd s').1, (behI_bd s').2, by rw [cswap_len]; exact hcl, ((hownH.out.setCardN (cx cs i) hcl i81).setCardN (cx cs i) (by rw [List.length_set]; exact hcl) k81).kept ((((Kept.refl _).alloc _).alloc _).drew), hpn.out, Kept.drew (Kept.alloc (Kept.alloc (kept_setCard (kept_setCard hkwH.out hgb) hgb) _) _), by simp; omega⟩
              case measure => simp [intOf]; omega
          · go_wp2_with (first | (go_at_call 97; refine Calls.mono (l4Behind_any _ b0 b1 _) ?_; rintro e w' ⟨rfl, rfl⟩) | go_region)
            all_goals
              go_roundw
              case rel =>
                refine ⟨i - 1, behI s', cswap cs i k, by omega, rfl, rfl, (behI_bd s').1, (behI_bd s').2, by rw [cswap_len]; exact hcl, ((hownH.out.setCardN (cx cs k) hcl i81).setCardN (cx cs i) (by rw [List.length_set]; exact hcl) k81).kept ((((Kept.refl _).alloc _).alloc _).drew), hpn.out, Kept.drew (Kept.alloc (Kept.alloc (kept_setCard (kept_setCard hkwH.out hgb) hgb) _) _), by simp; omega⟩
              case measure => simp [intOf]; omega
        · obtain rfl : i = 0 := by omega
          rw [pileR_zero] at hpr
          go_wp2
          go_ret
          subst hpr
          exact ⟨_, rfl, hown2, hkw2⟩
end Go.Proofs.Ytenmnipgnjaheaa
