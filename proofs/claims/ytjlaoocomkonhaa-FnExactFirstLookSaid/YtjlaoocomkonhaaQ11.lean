/- Contracts: how many pairs of a hand have each card as their third one; the greatest of some numbers, its place. Contracts: the pile of a seed. Contracts: what a law does with a game that it is given: its size, its copy, and whether two are the same. Contracts: the place of a card in a list, whether it is there. Contracts: whether a deal is valid. Contracts: the marks that a law writes into a game; a game in a variable. Contracts: cards again in new memory; the new deal of a seed. -/
import Derived.Test.YtjlaoocomkonhaaQ10
import Derived.Deep.RegionHeld3
import Derived.Deep.AppendLies
import Derived.Test.YtjlaoocomkonhaaQ05
import Derived.Test.YtjlaoocomkonhaaQ03
import Derived.Lib.SliceRun
namespace Go.Proofs.Ytjlaoocomkonhaa
open Go.RowKit
theorem thirdT_comm (x y : Int) : thirdT x y = thirdT y x := by unfold thirdT; omega
theorem thirdC_comm (x y : Card) : thirdC x y = thirdC y x := by simp only [thirdC, thirdT_comm]
theorem isCard_third {x y : Card} (hx : isCard x = true) (hy : isCard y = true) : isCard (thirdC x y) = true := by
  obtain ⟨x1, x2, x3, x4⟩ := isCard_of hx
  obtain ⟨y1, y2, y3, y4⟩ := isCard_of hy
  simp only [isCard, thirdC, thirdT, Bool.and_eq_true]
  exact ⟨⟨⟨inB_t (by omega) (by omega), inB_t (by omega) (by omega)⟩, inB_t (by omega) (by omega)⟩, inB_t (by omega) (by omega)⟩
def ind (xs : List Card) (i j n : Nat) : Int := if n = (numC (thirdC (cx xs i) (cx xs j))).toNat then 1 else 0
theorem ind_bd (xs : List Card) (i j n : Nat) : 0 ≤ ind xs i j n ∧ ind xs i j n ≤ 1 := by unfold ind; split <;> omega
/-- The counts behind the pairs of the first k cards and m pairs of the next. -/
def thT (xs : List Card) (k m : Nat) : Nat → Int := fun n => (rsum k fun i => rsum i fun j => ind xs i j n) + rsum m fun j => ind xs k j n
theorem thT_next (xs : List Card) (k m : Nat) : upd (thT xs k m) (numC (thirdC (cx xs k) (cx xs m))).toNat (thT xs k m (numC (thirdC (cx xs k) (cx xs m))).toNat + 1) = thT xs k (m + 1) := by
  funext n
  unfold upd
  by_cases h : n = (numC (thirdC (cx xs k) (cx xs m))).toNat
  · rw [if_pos h, ← h]
    simp only [thT, rsum_succ, ind, if_pos h]
    omega
  · rw [if_neg h]
    simp only [thT, rsum_succ, ind, if_neg h]
    omega
theorem thT_turn (xs : List Card) (k : Nat) : thT xs k k = thT xs (k + 1) 0 := by
  funext n
  simp only [thT, rsum_succ]
  simp [rsum]
theorem thT_bd (xs : List Card) (k m n : Nat) (hk : k ≤ 81) (hm : m ≤ 81) : 0 ≤ thT xs k m n ∧ thT xs k m n ≤ 6642 := by
  have h1 := rsum_bd (n := k) (f := fun i => rsum i fun j => ind xs i j n) (b := 81) fun i hi => by
    have := rsum_bd (n := i) (f := fun j => ind xs i j n) (b := 1) fun j _ => ind_bd xs i j n
    omega
  have h2 := rsum_bd (n := m) (f := fun j => ind xs k j n) (b := 1) fun j _ => ind_bd xs k j n
  unfold thT
  omega
theorem thT_thr {xs : List Card} (hc : areC xs) (hd : distC xs) {n : Nat} (hn : n ≤ 80) : thT xs xs.length 0 n = thr xs (cardN n) := by
  have e : thr xs (cardN n) = lowP xs.length fun i k => thr1 xs (cardN n) i k := (lowP_upP _ _).symm
  rw [e]
  unfold thT lowP
  rw [show rsum 0 _ = (0 : Int) from rfl, Int.add_zero]
  refine rsum_congr fun i hi => rsum_congr fun j hj => ?_
  have h1 := hc i hi
  have h2 := hc j (by omega)
  have h3 := isCard_third h1 h2
  have hne : cx xs j ≠ cx xs i := fun e => by have := hd j i (by omega) hi e; omega
  have h4 := numC_bd h3
  unfold ind thr1 lineC
  simp only [hne, decide_false, Bool.not_false, Bool.true_and, decide_eq_true_eq]
  rw [thirdC_comm (cx xs j) (cx xs i)]
  by_cases hq : n = (numC (thirdC (cx xs i) (cx xs j))).toNat
  · rw [if_pos hq, if_pos (by rw [← cardN_numC h3]; congr 1; omega)]
  · rw [if_neg hq, if_neg (fun e => hq (by rw [e, numC_cardN]; rfl))]
theorem Kept.setRow {a w : World} (h : Kept a w) {g : Nat} (hg : a.heap.size ≤ g) (cs : Array Value) : Kept a (w.setRow g cs) := by
  have hb := h.below
  refine .of_below ⟨by rw [setRow_os]; exact hb.os, by rw [setRow_tape]; exact hb.tape, by rw [setRow_output]; exact hb.output, by rw [setRow_size]; exact hb.size, fun k hk => ?_⟩
  rw [setRow_other _ _ _ _ (by omega)]
  exact hb.block k hk
/-- The numbers of a table. -/
def tl (n : Nat) (f : Nat → Int) : List Int := (List.range n).map f
theorem tl_len (n : Nat) (f : Nat → Int) : (tl n f).length = n := by simp [tl]
theorem tl_ix {n i : Nat} (f : Nat → Int) (h : i < n) : ix (tl n f) i = f i := by rw [ix_get _ _ (by rw [tl_len]; exact h)]; simp [tl]
theorem intsAt_tab {w : World} {g n : Nat} {f : Nat → Int} {t : TypeId} {fr : Nat × Nat} (h : w.heap[g]? = some (.cells (tab n f) t fr)) : IntsAt w (some ⟨g, 0, none⟩) (tl n f) := by
  refine intsAt_block (e := t) (fr := fr) ?_
  rw [h]; simp [tab, tl]
/-- The greatest of the first numbers. -/
def maxTo (xs : List Int) : Nat → Int
  | 0 => ix xs 0
  | k + 1 => max (maxTo xs k) (ix xs (k + 1))
theorem maxTo_ge (xs : List Int) : ∀ (k j : Nat), j ≤ k → ix xs j ≤ maxTo xs k
  | 0, j, h => by obtain rfl : j = 0 := by omega
                  exact Int.le_refl _
  | k + 1, j, h => by
    unfold maxTo
    by_cases hj : j = k + 1
    · subst hj; omega
    · have := maxTo_ge xs k j (by omega); omega
theorem maxTo_at (xs : List Int) : ∀ (k : Nat), ∃ j, j ≤ k ∧ ix xs j = maxTo xs k
  | 0 => ⟨0, Nat.le_refl _, rfl⟩
  | k + 1 => by
    obtain ⟨j, hj, e⟩ := maxTo_at xs k
    unfold maxTo
    by_cases h : maxTo xs k ≤ ix xs (k + 1)
    · exact ⟨k + 1, Nat.le_refl _, by omega⟩
    · exact ⟨j, by omega, by omega⟩
end Go.Proofs.Ytjlaoocomkonhaa
namespace Go.Proofs.Ytjlaoocomkonhaa
open Go.RowKit
theorem cells4_set (cs : List Card) (i : Nat) (c : Card) (h : i < cs.length) :
    cells4 (cs.set i c) = ((((cells4 cs).set (i * 4) (.int .i64 c.a)).set (i * 4 + 1) (.int .i64 c.b)).set (i * 4 + 2) (.int .i64 c.c)).set (i * 4 + 3) (.int .i64 c.d) := by
  induction cs generalizing i with
  | nil => simp at h
  | cons x cs ih =>
    cases i with
    | zero => rfl
    | succ i =>
      rw [show (i + 1) * 4 = i * 4 + 4 by omega]
      exact congrArg (fun l => Value.int .i64 x.a :: .int .i64 x.b :: .int .i64 x.c :: .int .i64 x.d :: l) (ih i (by simpa using h))
theorem OwnC.setCard {B : Nat} {w : World} {g cap i : Nat} {cs : List Card} (c : Card) (h : OwnC B w (.slice (some ⟨g, 0, none⟩) cs.length cap) cs) (hi : i < cs.length) :
    OwnC B ((((w.setCell ⟨g, i * 4, none⟩ (.int .i64 c.a)).setCell ⟨g, i * 4 + 1, none⟩ (.int .i64 c.b)).setCell ⟨g, i * 4 + 2, none⟩ (.int .i64 c.c)).setCell ⟨g, i * 4 + 3, none⟩ (.int .i64 c.d)) (.slice (some ⟨g, 0, none⟩) cs.length cap) (cs.set i c) := by
  rcases h.2 with ⟨h0, _⟩ | ⟨g', cap', cur, h1, hb, hg, hn, hm, hs, ht⟩
  · cases h0
  · cases h1
    have e1 := heap_setCell_same w g (i * 4) _ _ (.int .i64 c.a) hg
    have e2 := heap_setCell_same _ g (i * 4 + 1) _ _ (.int .i64 c.b) e1
    have e3 := heap_setCell_same _ g (i * 4 + 2) _ _ (.int .i64 c.c) e2
    have e4 := heap_setCell_same _ g (i * 4 + 3) _ _ (.int .i64 c.d) e3
    refine ⟨by rw [cells4_length], .inr ⟨g, cap, _, by rw [List.length_set], hb, e4, by rw [List.length_set]; exact hn, hm, by simp [hs], ?_⟩⟩
    rw [List.length_set, cells4_set cs i c hi, ← ht]
    simp only [Array.toList_setIfInBounds, List.take_set]
theorem OwnC.setCardN {B : Nat} {w : World} {g cap i n : Nat} {cs : List Card} (c : Card) (h : OwnC B w (.slice (some ⟨g, 0, none⟩) n cap) cs) (hn : cs.length = n) (hi : i < n) :
    OwnC B ((((w.setCell ⟨g, i * 4, none⟩ (.int .i64 c.a)).setCell ⟨g, i * 4 + 1, none⟩ (.int .i64 c.b)).setCell ⟨g, i * 4 + 2, none⟩ (.int .i64 c.c)).setCell ⟨g, i * 4 + 3, none⟩ (.int .i64 c.d)) (.slice (some ⟨g, 0, none⟩) n cap) (cs.set i c) := by
  subst hn
  exact h.setCard c hi
theorem OwnC.cellsN {B : Nat} {w : World} {g cap i n : Nat} {cs : List Card} (h : OwnC B w (.slice (some ⟨g, 0, none⟩) n cap) cs) (hn : cs.length = n) (hi : i < n) : CardCells w g (i * 4) (cx cs i) := by
  subst hn
  obtain ⟨ao, cap', hv, hx, _⟩ := h.reads
  cases hv
  obtain ⟨g', off', hh, _, hc⟩ := hx i hi
  cases hh
  simpa using hc
theorem OwnC.frozenN {B : Nat} {w : World} {g cap n : Nat} {cs : List Card} (h : OwnC B w (.slice (some ⟨g, 0, none⟩) n cap) cs) (j : Nat) : w.frozen? ⟨g, j, none⟩ = false := by
  rcases h.2 with ⟨h0, _⟩ | ⟨g', cap', cur, h1, hb, hg, _⟩
  · cases h0
  · cases h1
    exact frozen_of_row w g j _ _ hg
theorem kept_setOwn {W w : World} {g o : Nat} {u : Value} (hk : Kept W w) (hg : W.heap.size ≤ g) : Kept W (w.setCell ⟨g, o, none⟩ u) :=
  hk.grown (grown_setCell (grown_refl _ (some g)) (p := ⟨g, o, none⟩) rfl u) fun k hk => by cases hk; exact hg
theorem kept_setCard {W w : World} {g o1 o2 o3 o4 : Nat} {u1 u2 u3 u4 : Value} (hk : Kept W w) (hg : W.heap.size ≤ g) : Kept W ((((w.setCell ⟨g, o1, none⟩ u1).setCell ⟨g, o2, none⟩ u2).setCell ⟨g, o3, none⟩ u3).setCell ⟨g, o4, none⟩ u4) :=
  kept_setOwn (kept_setOwn (kept_setOwn (kept_setOwn hk hg) hg) hg) hg
/-- Two cards change places. -/
def cswap (cs : List Card) (i k : Nat) : List Card := (cs.set i (cx cs k)).set k (cx cs i)
theorem cswap_len (cs : List Card) (i k : Nat) : (cswap cs i k).length = cs.length := by simp [cswap]
def behI (s : Int) : Int := (25173 * s + 13849) % 65536
theorem behI_bd (s : Int) : 0 ≤ behI s ∧ behI s ≤ 65535 := by unfold behI; omega
def placeI (s : Int) (i : Nat) : Nat := (s / 8 % ((i : Int) + 1)).toNat
theorem placeI_lt (s : Int) (i : Nat) : placeI s i ≤ i := by
  unfold placeI
  have h1 := Int.emod_nonneg (s / 8) (show ((i : Int) + 1) ≠ 0 by omega)
  have h2 := Int.emod_lt_of_pos (s / 8) (show 0 < ((i : Int) + 1) by omega)
  omega
theorem placeI_eq (s : Int) (i : Nat) : s / 8 % ((i : Int) + 1) = (placeI s i : Nat) := by
  unfold placeI
  have h1 := Int.emod_nonneg (s / 8) (show ((i : Int) + 1) ≠ 0 by omega)
  omega
/-- What is left of the shuffling. -/
def pileR (s : Int) (cs : List Card) (i : Nat) : List Card := if i = 0 then cs else pileR (behI s) (cswap cs i (placeI (behI s) i)) (i - 1)
termination_by i
decreasing_by omega
theorem pileR_zero (s : Int) (cs : List Card) : pileR s cs 0 = cs := by rw [pileR]; simp
theorem pileR_next (s : Int) (cs : List Card) {i : Nat} (h : 0 < i) : pileR s cs i = pileR (behI s) (cswap cs i (placeI (behI s) i)) (i - 1) := by rw [pileR, if_neg (by omega)]
theorem pileR_len : ∀ (i : Nat) (s : Int) (cs : List Card), (pileR s cs i).length = cs.length
  | 0, s, cs => by rw [pileR_zero]
  | i + 1, s, cs => by rw [pileR_next s cs (by omega), pileR_len, cswap_len]
def deckN (k : Nat) : List Card := (List.range k).map fun i => cardN (i : Nat)
theorem deckN_next (k : Nat) : deckN (k + 1) = deckN k ++ [cardN (k : Nat)] := by simp [deckN, List.range_succ]
theorem deckN_len (k : Nat) : (deckN k).length = k := by simp [deckN]
def pileC (s : Int) : List Card := pileR s (deckN 81) 80
theorem pileC_len (s : Int) : (pileC s).length = 81 := by rw [pileC, pileR_len, deckN_len]
end Go.Proofs.Ytjlaoocomkonhaa
namespace Go.Proofs.Ytjlaoocomkonhaa
open Go.RowKit
def cpF (xs : List Int) (k : Nat) : Nat → Int := fun i => if i < k then ix xs i else 0
theorem own_tab2 {w : World} {B g n : Nat} {f : Nat → Int} (hB : B ≤ g) (hn : n ≤ maxLen) (h : w.heap[g]? = some (.cells (tab n f) 3)) : OwnI B w (.slice (some ⟨g, 0, none⟩) n n) (tl n f) := by
  have e : (tab n f).toList = vals1 (tl n f) := by simp [tab, tl]
  unfold OwnI
  rw [tl_len]
  exact ⟨by simp [tl], .inr ⟨g, n, tab n f, rfl, hB, h, Nat.le_refl _, hn, by rw [tab_size, Nat.mul_one], by rw [e, List.take_of_length_le (by simp [tl])]⟩⟩
theorem cpF_end (xs : List Int) : tl xs.length (cpF xs xs.length) = xs := by
  apply List.ext_getElem (by simp [tl])
  intro i h1 h2
  simp only [tl, List.getElem_map, List.getElem_range, cpF, if_pos h2, ix_get xs i h2]
/-- A deal's and a game's values. -/
abbrev dv (s n : Int) (a : Value) : Value := .agg #[.int .i64 s, .int .i64 n, a]
abbrev gv (s n : Int) (a b c : Value) : Value := .agg #[.int .i64 s, .int .i64 n, a, b, c]
/-- A row of its own beside blocks that lie before it and change. -/
theorem own_move {V V' : World} {z y : More} {B n len : Nat} {t : TypeId} {v : Value} {cells : List Value} (h : (ext V z).ownsRow B t n v len cells) (hs : V'.heap.size = V.heap.size) (hB : V.heap.size ≤ B) : (ext V' (z.add y)).ownsRow B t n v len cells := by
  rcases h.2 with h0 | ⟨g, cap, cur, h1, hb, h2, h3⟩
  · exact ⟨h.1, .inl h0⟩
  · refine ⟨h.1, .inr ⟨g, cap, cur, h1, hb, ?_, h3⟩⟩
    rw [← ext_ext]
    have hg : g < (ext V' z).heap.size := by
      have := (Array.getElem?_eq_some_iff.1 h2).1
      rw [ext_size] at this ⊢
      omega
    rw [ext_heap _ _ _ hg, ← h2]
    simp only [ext]
    rw [Array.getElem?_append_right (by omega), Array.getElem?_append_right (by omega), hs]
theorem own_here {V V' : World} {z : More} {B n len : Nat} {t : TypeId} {v : Value} {cells : List Value} (h : (ext V z).ownsRow B t n v len cells) (hs : V'.heap.size = V.heap.size) (hB : V.heap.size ≤ B) : (ext V' z).ownsRow B t n v len cells := by
  rcases h.2 with h0 | ⟨g, cap, cur, h1, hb, h2, h3⟩
  · exact ⟨h.1, .inl h0⟩
  · refine ⟨h.1, .inr ⟨g, cap, cur, h1, hb, ?_, h3⟩⟩
    rw [← h2]
    simp only [ext]
    rw [Array.getElem?_append_right (by omega), Array.getElem?_append_right (by omega), hs]
theorem szIntA4S_any' (ao : Option Addr) (n cap : Nat) (left : Int) (hn : n ≤ 9223372036854775807) (h0 : 0 ≤ left) (h1 : left ≤ 1048576) (w : World) :
    Calls Try.prog 7 #[.slice ao n cap, .int .i64 left] w fun e w' => e = .returned (.int .i64 (if (n : Int) ≤ left then left - n else -1)) ∧ w = w' := by
  by_cases h : (n : Int) ≤ left
  all_goals
    go_enter Try.func7, Try.ntmps7
    go_wp2
    go_ret
    exact ⟨ret_of (by simp [h]), rfl⟩
/-- A call hands back a game that lies in memory of its own. -/
def RetG (W : World) (s n : Int) (laid : List Card) (scores wrong : List Int) (e : Ending) (w' : World) : Prop :=
  ∃ lo lc so sc wo wc, e = .returned (gv s n (.slice lo laid.length lc) (.slice so scores.length sc) (.slice wo wrong.length wc)) ∧
    OwnC W.heap.size w' (.slice lo laid.length lc) laid ∧ OwnI W.heap.size w' (.slice so scores.length sc) scores ∧ OwnI W.heap.size w' (.slice wo wrong.length wc) wrong ∧
    (∀ g, (Value.slice lo laid.length lc).ownBlock = some g → (Value.slice so scores.length sc).ownBlock ≠ some g) ∧ (∀ g, (Value.slice lo laid.length lc).ownBlock = some g → (Value.slice wo wrong.length wc).ownBlock ≠ some g) ∧
    (∀ g, (Value.slice so scores.length sc).ownBlock = some g → (Value.slice wo wrong.length wc).ownBlock ≠ some g) ∧ Kept W w'
end Go.Proofs.Ytjlaoocomkonhaa
namespace Go.Proofs.Ytjlaoocomkonhaa
open Go.RowKit
/-- The place of a card, or -1. -/
def placeC (xs : List Card) (c : Card) : Int := idxOf (fun x => decide (x = c)) xs
def hasC (xs : List Card) (c : Card) : Bool := xs.any fun x => decide (x = c)
theorem placeC_some {xs : List Card} {c : Card} {k : Nat} (hk : k < xs.length) (h : cx xs k = c) (hn : ∀ j, j < k → decide (cx xs j = c) = false) : placeC xs c = k :=
  show idxOf (fun x => decide (x = c)) xs = k from idxOf_some (d := ⟨0, 0, 0, 0⟩) hk (by show decide (cx xs k = c) = true; exact decide_eq_true h) (fun j hj => by show decide (cx xs j = c) = false; exact hn j hj)
theorem placeC_none {xs : List Card} {c : Card} (hn : ∀ j, j < xs.length → decide (cx xs j = c) = false) : placeC xs c = -1 :=
  show idxOf (fun x => decide (x = c)) xs = -1 from idxOf_none (d := ⟨0, 0, 0, 0⟩) (fun j hj => by show decide (cx xs j = c) = false; exact hn j hj)
theorem placeC_has (xs : List Card) (c : Card) : decide (0 ≤ placeC xs c) = hasC xs c := idxOf_any _ xs
theorem placeC_le (xs : List Card) (c : Card) : -1 ≤ placeC xs c ∧ placeC xs c ≤ xs.length := idxOf_le _ xs
end Go.Proofs.Ytjlaoocomkonhaa
namespace Go.Proofs.Ytjlaoocomkonhaa
open Go.RowKit
/-- A slice's first cards. -/
theorem CardsAt.take {w : World} {ao : Option Addr} {cs : List Card} (h : CardsAt w ao cs) {i : Nat} (hi : i ≤ cs.length) : CardsAt w ao (cs.take i) := by
  intro j hj
  have hj' : j < i := by rw [List.length_take] at hj; omega
  have e : cx (cs.take i) j = cx cs j := by rw [cx_get _ _ hj, cx_get _ _ (by omega), List.getElem_take]
  rw [e]
  exact h j (by omega)
theorem take_lenC {cs : List Card} {i : Nat} (hi : i ≤ cs.length) : (cs.take i).length = i := by rw [List.length_take]; omega
theorem OwnC.cardsN {B : Nat} {w : World} {g cap n : Nat} {cs : List Card} (h : OwnC B w (.slice (some ⟨g, 0, none⟩) n cap) cs) (hn : cs.length = n) : CardsAt w (some ⟨g, 0, none⟩) cs := by
  subst hn
  obtain ⟨ao, cap', hv, hx, _⟩ := h.reads
  cases hv
  exact hx
theorem OwnC.capN {B : Nat} {w : World} {g cap n : Nat} {cs : List Card} (h : OwnC B w (.slice (some ⟨g, 0, none⟩) n cap) cs) (hn : cs.length = n) : n ≤ cap := by
  subst hn
  obtain ⟨ao, cap', hv, _, hc⟩ := h.reads
  cases hv
  exact hc
def layAt (P : List Card) (n : Nat) (laid : List Card) (i : Nat) : Bool := hasC (P.take n) (cx laid i) && !hasC (laid.take i) (cx laid i)
def layB (P : List Card) (n : Nat) (laid : List Card) : Bool := (List.range laid.length).all fun i => layAt P n laid i
theorem layB_no {P : List Card} {n : Nat} {laid : List Card} {i : Nat} (hi : i < laid.length) (h : layAt P n laid i = false) : layB P n laid = false := by
  cases hp : layB P n laid with
  | false => rfl
  | true =>
    have := List.all_eq_true.1 hp i (List.mem_range.2 hi)
    rw [h] at this; cases this
theorem layB_yes {P : List Card} {n : Nat} {laid : List Card} (h : ∀ i, i < laid.length → layAt P n laid i = true) : layB P n laid = true :=
  List.all_eq_true.2 fun i hi => h i (List.mem_range.1 hi)
theorem hasC_mem (xs : List Card) (c : Card) : hasC xs c = decide (c ∈ xs) := by
  rw [Bool.eq_iff_iff]
  simp [hasC]
theorem sub_len : ∀ {l m : List Card}, l.Nodup → (∀ x, x ∈ l → x ∈ m) → l.length ≤ m.length
  | [], m, _, _ => Nat.zero_le _
  | x :: l, m, hn, hs => by
    rw [List.nodup_cons] at hn
    have hx := hs x (by simp)
    have h1 := sub_len (l := l) (m := m.erase x) hn.2 fun y hy => (List.mem_erase_of_ne (fun e => hn.1 (by rw [← e]; exact hy))).2 (hs y (by simp [hy]))
    have h2 := List.length_erase_of_mem hx
    have h3 := List.length_pos_of_mem hx
    simp only [List.length_cons]; omega
theorem lay_le {P : List Card} {n : Nat} {laid : List Card} (h : layB P n laid = true) : laid.length ≤ n := by
  have key : ∀ k, k ≤ laid.length → (laid.take k).Nodup ∧ ∀ x, x ∈ laid.take k → x ∈ P.take n := by
    intro k
    induction k with
    | zero => intro _; simp
    | succ k ih =>
      intro hk
      obtain ⟨h1, h2⟩ := ih (by omega)
      have := List.all_eq_true.1 h k (List.mem_range.2 (by omega))
      simp only [layAt, Bool.and_eq_true, hasC_mem, decide_eq_true_eq, Bool.not_eq_true', decide_eq_false_iff_not] at this
      rw [take_cx laid k (by omega)]
      refine ⟨List.nodup_append.2 ⟨h1, by simp, fun a ha b hb => ?_⟩, fun x hx => ?_⟩
      · rw [List.mem_singleton] at hb
        rw [hb]
        intro e
        exact this.2 (e ▸ ha)
      · rcases List.mem_append.1 hx with h' | h'
        · exact h2 x h'
        · rw [List.mem_singleton] at h'; rw [h']; exact this.1
  obtain ⟨h1, h2⟩ := key laid.length (Nat.le_refl _)
  rw [List.take_of_length_le (Nat.le_refl _)] at h1 h2
  have h3 := sub_len h1 h2
  rw [List.length_take] at h3
  omega
def dealB (s n : Int) (laid : List Card) : Bool := inB s 0 65535 && inB n 0 81 && decide ((laid.length : Int) ≤ n) && layB (pileC s) n.toNat laid
end Go.Proofs.Ytjlaoocomkonhaa
namespace Go.Proofs.Ytjlaoocomkonhaa
open Go.RowKit
/-- A game in a block. -/
def Box5 (w : World) (g : Nat) (s n : Int) (a b c : Value) : Prop :=
  g < w.heap.size ∧ w.cell? ⟨g, 0, none⟩ = some (.int .i64 s) ∧ w.cell? ⟨g, 1, none⟩ = some (.int .i64 n) ∧ w.cell? ⟨g, 2, none⟩ = some a ∧ w.cell? ⟨g, 3, none⟩ = some b ∧ w.cell? ⟨g, 4, none⟩ = some c
theorem Box5.kept {w w' : World} {g : Nat} {s n : Int} {a b c : Value} (h : Box5 w g s n a b c) (hk : Kept w w') : Box5 w' g s n a b c := by
  obtain ⟨h0, h1, h2, h3, h4, h5⟩ := h
  have hb := hk.below
  exact ⟨Nat.lt_of_lt_of_le h0 hb.size, (hb.cell (p := ⟨_, _, none⟩) h0).trans h1, (hb.cell (p := ⟨_, _, none⟩) h0).trans h2, (hb.cell (p := ⟨_, _, none⟩) h0).trans h3, (hb.cell (p := ⟨_, _, none⟩) h0).trans h4, (hb.cell (p := ⟨_, _, none⟩) h0).trans h5⟩
theorem Box5.grown {w w' : World} {g : Nat} {s n : Int} {a b c : Value} {row : Option Nat} (h : Box5 w g s n a b c) (hg : w.grownBy w' row) (hr : row ≠ some g) : Box5 w' g s n a b c := by
  obtain ⟨h0, h1, h2, h3, h4, h5⟩ := h
  have hb : w'.heap[g]? = w.heap[g]? := hg.block g h0 (Ne.symm hr)
  exact ⟨Nat.lt_of_lt_of_le h0 hg.size, (cell_block hb _).trans h1, (cell_block hb _).trans h2, (cell_block hb _).trans h3, (cell_block hb _).trans h4, (cell_block hb _).trans h5⟩
theorem Box5.new {w : World} {g : Nat} {t : TypeId} (s n : Int) (a b c : Value) (hg : g = w.heap.size) : Box5 (w.alloc (.cells #[.int .i64 s, .int .i64 n, a, b, c] t)) g s n a b c := by
  have hh := heap_at (o := .cells #[.int .i64 s, .int .i64 n, a, b, c] t) hg
  exact ⟨by simp; omega, cell_of_row _ g 0 _ t (0, 0) hh, cell_of_row _ g 1 _ t (0, 0) hh, cell_of_row _ g 2 _ t (0, 0) hh, cell_of_row _ g 3 _ t (0, 0) hh, cell_of_row _ g 4 _ t (0, 0) hh⟩
theorem markIntS_big (v : Value) (n : Nat) (cells : List Value) (B : Nat) (k : Int) (w : World) (h : w.ownsRow B 3 1 v n cells) (hn : n ≤ 1048576) (hk : 0 ≤ k) (hk' : k ≤ 100000000) :
    Calls Try.prog 20 #[v, .int .i64 k] w fun e w' => e = .returned (.int .i64 (k + n)) ∧ w'.ownsRow B 3 1 v n (marks k n) ∧ w.grownBy w' v.ownBlock := by
  rcases h.2 with ⟨rfl, h0⟩ | ⟨g, cap, cur, rfl, hb, hg, hcap, hmax, hs, ht⟩
  · subst h0
    go_enter Try.func20, Try.ntmps20
    go_wp2
    refine wp_loop_rounds 1 ?_
    rw [rounds_succ]
    go_wp2
    go_ret
    exact ⟨ret_of (by simp), ⟨by simp [marks], .inl ⟨rfl, rfl⟩⟩, grown_refl _ _⟩
  · have hgs := (Array.getElem?_eq_some_iff.1 hg).1
    have hs' : n ≤ cur.size := by omega
    have hown := hid (show ∀ wr : World, wr.heap[g]? = some (.cells (mkd k cur n) 3) → wr.ownsRow B 3 1 (.slice (some ⟨g, 0, none⟩) n cap) n (marks k n) from fun wr hw => ⟨by simp [marks], .inr ⟨g, cap, _, rfl, hb, hw, hcap, hmax, by rw [mkd_size _ _ hs', hs], by rw [Nat.mul_one]; exact mkd_take _ _ _⟩⟩)
    have hsH := hid hs'
    clear hs ht hmax hcap hs'
    go_enter Try.func20, Try.ntmps20
    go_wp2
    go_loopw [5, 1] (fun i s wr => ∃ m : Nat, m ≤ n ∧ i = .int .i64 m ∧ s = .int .i64 (k + m) ∧ wr.heap[g]? = some (.cells (mkd k cur m) 3) ∧ w.grownBy wr (some g)) (fun i _ _ => n - (intOf i).toNat)
    case atStart => exact ⟨0, Nat.zero_le _, rfl, by simp, by rw [mkd_zero]; exact hg, grown_refl _ _⟩
    case round wr =>
      obtain ⟨m, hm, rfl, rfl, hw, hgr⟩ := hrel
      by_cases hlt : m < n
      · have hwH := hid hw
        have hgrH := hid hgr
        have hlen := hid (show m < cur.size by have := hsH.out; omega)
        obtain ⟨v0, hv0⟩ := mkd_some k (cur := cur) (t := m) hlen.out
        have hc := (cell_of_row _ g m _ _ (0, 0) hw).trans hv0
        have hf := frozen_of_row _ g m _ _ hw
        have hset := hid (mkd_set k (cur := cur) (t := m) hlen.out)
        clear hw hgr hv0
        go_wp2
        go_roundw
        case rel =>
          refine ⟨m + 1, by omega, by go_num, by go_num, ?_, ?_⟩
          · rw [heap_setCell_same _ _ _ _ _ _ hwH.out]
            exact congrArg (fun c => some (Obj.cells c 3 (0, 0))) hset.out
          · exact grown_setCell hgrH.out (p := ⟨g, _, none⟩) rfl _
        case measure => simp [intOf]; omega
      · obtain rfl : m = n := by omega
        go_wp2
        go_ret
        exact ⟨rfl, hown.out _ hw, hgr⟩
end Go.Proofs.Ytjlaoocomkonhaa
namespace Go.Proofs.Ytjlaoocomkonhaa
open Go.RowKit
theorem cards_cells {w : World} {g off : Nat} {cs : List Card} (h : CardsAt w (some ⟨g, off, none⟩) cs) {j : Nat} {u : Value} (hj : (cells4 cs)[j]? = some u) : w.cell? ⟨g, off + j, none⟩ = some u := by
  have hlt : j < cs.length * 4 := by rw [← cells4_length]; exact (List.getElem?_eq_some_iff.1 hj).1
  obtain ⟨_, _, he, _, h1, h2, h3, h4⟩ := h (j / 4) (by omega)
  cases he
  obtain ⟨c1, c2, c3, c4⟩ := cells4_get cs (j / 4) (by omega)
  obtain e | e | e | e : j % 4 = 0 ∨ j % 4 = 1 ∨ j % 4 = 2 ∨ j % 4 = 3 := by omega
  · rw [show j = j / 4 * 4 by omega] at hj ⊢
    rw [c1] at hj; cases hj
    exact h1
  · rw [show j = j / 4 * 4 + 1 by omega] at hj ⊢
    rw [c2] at hj; cases hj
    rw [← Nat.add_assoc]
    exact h2
  · rw [show j = j / 4 * 4 + 2 by omega] at hj ⊢
    rw [c3] at hj; cases hj
    rw [← Nat.add_assoc]
    exact h3
  · rw [show j = j / 4 * 4 + 3 by omega] at hj ⊢
    rw [c4] at hj; cases hj
    rw [← Nat.add_assoc]
    exact h4
theorem cells4_one (cs : List Card) : ∀ u ∈ cells4 cs, u.oneCell' = true := fun u hu => by
  simp only [cells4, List.mem_flatMap] at hu
  obtain ⟨z, _, hz⟩ := hu
  simp at hz
  rcases hz with rfl | rfl | rfl | rfl <;> rfl
theorem cloneC_any (g off cap n : Nat) (cs : List Card) (w : World) (hx : CardsAt w (some ⟨g, off, none⟩) cs) (hn : cs.length = n) (h0 : 0 < n) (hl : n ≤ 1048576) (hcap : n ≤ cap) :
    Calls Try.prog 31 #[.slice (some ⟨g, off, none⟩) n cap] w (RetC w cs) := by
  have hxH := hid hx
  obtain ⟨i, hi, hz, hsz, hb⟩ := info_parts info_card
  have hl4 := hid (show (cells4 cs).length = n * 4 by rw [cells4_length, hn])
  have hnH := hid hn
  have h1c := cells4_one cs
  have qT : ∀ (w : World) (a : Option Addr) (n c : Nat), (binOp .eql 22 (.slice a n c) (.slice none 0 0)).run Try.prog w = .ok (.bool a.isNone) w := fun w a n c => Lib.run_eql_slice_nil w _ _ a n c 0 0 Try.underlying22
  clear hx hn
  go_enter Try.func31, Try.ntmps31
  go_wp2_with (first | (at_builtin; refine wpList_append_grows _ rfl _ _ 22 rfl T4 i _ 4 32 Try.underlying22 hi hz hsz hb rfl (by decide) (some ⟨w.heap.size, 0, none⟩) 0 0 [] rfl (fun e => by cases e) rfl (fun bb e j u hj => by simp at hj) ⟨g, off, none⟩ n cap (cells4 cs) rfl hl4.out (fun j u hj => by rw [Addr.add_lit]; exact cards_cells (hxH.out.kept (by (try simp only [ext_ext]); repeat (first | exact Kept.refl _ | apply Kept.alloc | apply Kept.drew | apply kept_add | apply Kept.ext))) hj) h1c (by omega) (by unfold maxLen; omega) (by omega) ?_; intro v' w' hown hg'))
  refine bodyPost_ret (v := v') (by simp [results, Try.results31, go_sem]) rfl ?_
  refine ⟨_, rfl, OwnC.mono (B := w.heap.size + 1) ?_ (by omega), Kept.trans (show Kept w _ from (by (try simp only [ext_ext]); repeat (first | exact Kept.refl _ | apply Kept.alloc | apply Kept.drew | apply kept_add | apply Kept.ext))) ((Kept.refl _).grown hg' fun k hk => by cases hk)⟩
  unfold OwnC
  rw [hnH.out]
  simpa using hown
theorem l2Own_any (g off cap n : Nat) (cs : List Card) (w : World) (hx : CardsAt w (some ⟨g, off, none⟩) cs) (hn : cs.length = n) (h0 : 0 < n) (hl : n ≤ 1048576) (hcap : n ≤ cap) :
    Calls Try.prog 29 #[.slice (some ⟨g, off, none⟩) n cap] w (RetC w cs) := by
  have hxH := hid hx
  obtain ⟨i, hi, hz, hsz, hb⟩ := info_parts info_card
  have hl4 := hid (show (cells4 cs).length = n * 4 by rw [cells4_length, hn])
  have hnH := hid hn
  have h1c := cells4_one cs
  clear hx hn
  go_enter Try.func29, Try.ntmps29
  go_wp2_with (first | (at_builtin; refine wpList_append_grows _ rfl _ _ 22 rfl T4 i _ 4 32 Try.underlying22 hi hz hsz hb rfl (by decide) (some ⟨w.heap.size, 0, none⟩) 0 0 [] rfl (fun e => by cases e) rfl (fun bb e j u hj => by simp at hj) ⟨g, off, none⟩ n cap (cells4 cs) rfl hl4.out (fun j u hj => by rw [Addr.add_lit]; exact cards_cells (hxH.out.kept (by (try simp only [ext_ext]); repeat (first | exact Kept.refl _ | apply Kept.alloc | apply Kept.drew | apply kept_add | apply Kept.ext))) hj) h1c (by omega) (by unfold maxLen; omega) (by omega) ?_; intro v' w' hown hg'))
  refine bodyPost_ret (v := v') (by simp [results, Try.results29, go_sem]) rfl ?_
  refine ⟨_, rfl, OwnC.mono (B := w.heap.size + 1) ?_ (by omega), Kept.trans (show Kept w _ from (by (try simp only [ext_ext]); repeat (first | exact Kept.refl _ | apply Kept.alloc | apply Kept.drew | apply kept_add | apply Kept.ext))) ((Kept.refl _).grown hg' fun k hk => by cases hk)⟩
  unfold OwnC
  rw [hnH.out]
  simpa using hown
def firstC (s : Int) : List Card := (pileC s).take 12
theorem firstC_len (s : Int) : (firstC s).length = 12 := by simp [firstC, pileC_len]
/-- A deal in memory of its own. -/
def RetD (W : World) (s n : Int) (laid : List Card) (e : Ending) (w' : World) : Prop := ∃ lo lc, e = .returned (dv s n (.slice lo laid.length lc)) ∧ OwnC W.heap.size w' (.slice lo laid.length lc) laid ∧ Kept W w'
end Go.Proofs.Ytjlaoocomkonhaa
