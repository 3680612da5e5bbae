/- Contracts: the visits that gather the orders of three; what the searches for orders hold. Plain: the orders as the law's side builds them. Plain sums over numbers and pairs of numbers. Contracts: how many cards of a hand have each value. Plain laws: choices, fractions in lowest terms. Contracts: choices, fractions in lowest terms. Contracts: how many cards of a hand have each value of a trait. -/
import Derived.Test.YtjlaoocomkonhaaQ06
import Derived.Test.YtjlaoocomkonhaaQ07
import Derived.Test.YtjlaoocomkonhaaQ04
import Derived.Laws.Cover3
import Derived.Deep.RegionLaw
import Derived.Test.YtjlaoocomkonhaaQ03
import Derived.WalkKit
import Derived.Test.YtjlaoocomkonhaaQ02
namespace Go.Proofs.Ytjlaoocomkonhaa
open Go.RowKit
theorem fr_store {c : Nat} {r : Option Nat} {w X w1 : World} {g1 : Nat} (u : Value) (hX : Kept w X) (hg : X.grownBy w1 r) (hat : r = some g1 ∨ g1 = X.heap.size) : Fr c r (some g1) w (w1.setCell ⟨c, 0, none⟩ u) := by
  have hb := hX.below
  have hs : (w1.setCell ⟨c, 0, none⟩ u).heap.size = w1.heap.size := by simp
  refine ⟨hg.os.trans hb.os, hg.tape.trans hb.tape, hg.output.trans hb.output, by rw [hs]; exact Nat.le_trans hb.size hg.size, fun k hk h1 h2 => ?_, ?_⟩
  · rw [heap_setCell_other _ _ _ _ h1, hg.block k (Nat.lt_of_lt_of_le hk hb.size) (Ne.symm h2), hb.block k hk]
  · rcases hat with e | e
    · exact .inl e.symm
    · exact .inr ⟨g1, rfl, by rw [e]; exact hb.size⟩
theorem step_append_lnAt {ops : Array Oper} {o : Oper} {a : Act} {K : Act → World → Prop} {Q : Exit → Act → World → Prop} {E : Prop} {w : World} (hgd : o.guard = none) (s x : Operand)
    (ho : o.op = .call { callee := .builtin .append, args := #[s, x], argTypes := #[64, 64] }) (B : Nat) (v : Value) (ls : List Ln) (hs : a.eval s = v) (hown : OwnL B w v ls) (hBw : B ≤ w.heap.size)
    (g cap : Nat) (c : Ln) (hx : a.eval x = .slice (some ⟨g, 0, none⟩) 1 cap) (hc : LnCells w g 0 c) (hl : ls.length ≤ 1048576)
    (h : ∀ g' cap' w', OwnL B w' (.slice (some ⟨g', 0, none⟩) (ls.length + 1) cap') (ls ++ [c]) → w.grownBy w' v.ownBlock → (v.ownBlock = some g' ∨ g' = w.heap.size) → K (a.put o.dst (.slice (some ⟨g', 0, none⟩) (ls.length + 1) cap')) w') : if Region.wanted o (yielded ops a.tmps) = true then Oper.wp Try.prog o a w K Q else E := by
  obtain ⟨i, hi, hz, hsz, hb⟩ := info_parts info_ln
  obtain ⟨h0, h1, h2⟩ := hc
  refine step_append_lies w hgd s x 64 ho B T3 i _ 3 24 Try.underlying64 hi hz hsz hb rfl (by decide) v ls.length (cells3 ls) hs hown ⟨g, 0, none⟩ 1 cap
    [.int .i64 c.a, .int .i64 c.b, .int .i64 c.c] hx rfl ?_ ?_ (by omega) (by unfold maxLen; omega) (by omega) hBw w.heap.size rfl ?_
  · intro j u hj
    match j, hj with
    | 0, hj => simp at hj; subst hj; exact h0
    | 1, hj => simp at hj; subst hj; exact h1
    | 2, hj => simp at hj; subst hj; exact h2
    | j + 3, hj => simp at hj
  · intro u hu
    simp at hu
    rcases hu with rfl | rfl | rfl <;> rfl
  · intro g' cap' w' hown' hg hat _
    refine h _ _ w' ?_ hg hat
    have e : cells3 (ls ++ [c]) = cells3 ls ++ [.int .i64 c.a, .int .i64 c.b, .int .i64 c.c] := by simp [cells3]
    unfold OwnL
    rw [e, List.length_append]
    exact hown'
def lnP (p : List Int) : Ln := ⟨ix p 0, ix p 1, ix p 2⟩
def lnO (h : List (List Int)) : List Ln := h.map lnP
def ords3 : List (List Int) := ordF 3 3 []
def ords4 : List (List Int) := ordF 4 4 []
def rows3 : List Ln := lnO ords3
theorem ords3_len : ords3.length = 6 := by kernel_rfl
theorem ords4_len : ords4.length = 24 := by kernel_rfl
theorem rows3_len : rows3.length = 6 := by unfold rows3 lnO; rw [List.length_map, ords3_len]
theorem ords3_ok : (ords3.all fun p => decide (p.length = 3) && permB p) = true := by kernel_rfl
theorem ords4_ok : (ords4.all fun p => decide (p.length = 4) && permB p) = true := by kernel_rfl
theorem ords3_of {p : List Int} (h : p ∈ ords3) : p.length = 3 ∧ permB p = true := by
  have := List.all_eq_true.1 ords3_ok p h
  simpa using this
theorem ords4_of {p : List Int} (h : p ∈ ords4) : p.length = 4 ∧ permB p = true := by
  have := List.all_eq_true.1 ords4_ok p h
  simpa using this
def M1I (W : World) (c : Nat) (h : List (List Int)) (r : Option Nat) (w : World) : Prop :=
  Kept W w ∧ W.heap.size ≤ c ∧ ∃ v, w.heap[c]? = some (.cells #[v] 64) ∧ OwnL W.heap.size w v (lnO h) ∧ v.ownBlock = r ∧ r ≠ some c
theorem M1I.kept {W : World} {c : Nat} {h : List (List Int)} {r : Option Nat} {w w' : World} (H : M1I W c h r w) (hk : Kept w w') : M1I W c h r w' := by
  obtain ⟨h0, h1, v, h2, h3, h4, h5⟩ := H
  exact ⟨h0.trans hk, h1, v, (hk.below.block c (Array.getElem?_eq_some_iff.1 h2).1).trans h2, h3.kept hk, h4, h5⟩
theorem M1I.lt {W : World} {c : Nat} {h : List (List Int)} {r : Option Nat} {w : World} (H : M1I W c h r w) : c < w.heap.size ∧ ∀ g, r = some g → g < w.heap.size := by
  obtain ⟨h0, h1, v, h2, h3, h4, h5⟩ := H
  exact ⟨(Array.getElem?_eq_some_iff.1 h2).1, fun g hg => (h3.lt g (h4.trans hg)).2⟩
set_option maxHeartbeats 1000000 in
theorem maps1_any (W : World) (c : Nat) (h : List (List Int)) (p : List Int) (r : Option Nat) (w : World) (u : Value) (hp3 : p.length = 3) (hhl : h.length ≤ 1000) (hI : M1I W c h r w) (hu : ListAt c r w u p) :
    Calls Try.prog 55 #[u, .pointer (some ⟨c, 0, none⟩)] w fun e w' => e = .returned (.bool true) ∧ ∃ r', M1I W c (h ++ [p]) r' w' ∧ Fr c r r' w w' := by
  have hlt := hI.lt.1
  obtain ⟨h0, h1, v, h2, h3, h4, h5⟩ := hI
  have hcell := cell_of_row w c 0 _ _ (0, 0) h2
  have hfr := frozen_of_row w c 0 _ _ h2
  simp only [List.getElem?_toArray, List.getElem?_cons_zero] at hcell
  obtain ⟨bo, bcap, rfl, _, _⟩ := h3.reads
  obtain ⟨lg, lo, lcap, rfl, l1, l2, l3, l4, l5⟩ : ∃ g off cap, u = .slice (some ⟨g, off, none⟩) 3 cap ∧ g ≠ c ∧ r ≠ some g ∧ g < w.heap.size ∧ IntsAt w (some ⟨g, off, none⟩) p ∧ 3 ≤ cap := by
    rcases hu with ⟨_, e⟩ | ⟨g, off, cap, e, h⟩
    · rw [e] at hp3; cases hp3
    · rw [hp3] at e h; exact ⟨g, off, cap, e, h⟩
  obtain ⟨_, _, he, _, m1⟩ := l4 0 (by omega)
  cases he
  obtain ⟨_, _, he, _, m2⟩ := l4 1 (by omega)
  cases he
  obtain ⟨_, _, he, _, m3⟩ := l4 2 (by omega)
  cases he
  simp only [Nat.add_zero] at m1 m2 m3
  have hll : (lnO h).length ≤ 1000 := by simp [lnO]; omega
  have h0H := hid h0
  have h2H := hid h2
  have h3H := hid h3
  have h5H := hid h5
  have h4H := hid h4
  have hy := hid (show lnO (h ++ [p]) = lnO h ++ [lnP p] by simp [lnO])
  have hlp : Hid (lnP p = ⟨ix p 0, ix p 1, ix p 2⟩) := hid rfl
  clear h0 h2 h3 h5 h4 hu l4
  have hAA : ∀ w : World, (Instr.arrayAt 30 (.slice (some ⟨lg, lo, none⟩) 3 lcap)).run Try.prog w = .ok (.pointer (some ⟨lg, lo, none⟩)) w := fun w => run_arrayAt w _ _ 3 _ 3 lcap Try.underlying30 (Nat.le_refl _)
  have hneH := hid (show some c ≠ (Value.slice bo (lnO h).length bcap).ownBlock by rw [h4H.out]; exact fun e => h5H.out e.symm)
  go_enter Try.func55, Try.ntmps55
  go_wp2_with (fail)
  go_region_law (first | (refine step_append_lnAt rfl _ _ rfl W.heap.size (.slice bo (lnO h).length bcap) (lnO h) rfl (h3H.out.kept (by (try simp only [ext_ext]); repeat (first | exact Kept.refl _ | apply Kept.alloc | apply Kept.drew | apply kept_add | apply Kept.ext))) (Kept.below (show Kept W _ from h0H.out.trans (by (try simp only [ext_ext]); repeat (first | exact Kept.refl _ | apply Kept.alloc | apply Kept.drew | apply kept_add | apply Kept.ext)))).size _ _ (lnP p) rfl (lnCells_new (lnP p) (by simp)) (by omega) ?_; intro g1 cap1 w1 hown1 hg1 hat1; have hb1 := (hg1.block c (by simp; omega) hneH.out).trans (((Kept.below (show Kept w _ from (by (try simp only [ext_ext]); repeat (first | exact Kept.refl _ | apply Kept.alloc | apply Kept.drew | apply kept_add | apply Kept.ext)))).block c hlt).trans h2H.out); have hf1 := frozen_of_row w1 c 0 _ _ hb1; have hc1 := cell_of_row w1 c 0 _ _ (0, 0) hb1; simp only [List.getElem?_toArray, List.getElem?_cons_zero] at hc1))
  all_goals
    go_wp2_with (fail)
    have hgc : g1 ≠ c := by
      rcases hat1 with e | e
      · intro e2; rw [e2] at e; exact hneH.out e.symm
      · intro e2; rw [e2] at e; simp at e; omega
    go_ret
    refine ⟨rfl, some g1, ⟨Kept.setCell ((h0H.out.trans (by (try simp only [ext_ext]); repeat (first | exact Kept.refl _ | apply Kept.alloc | apply Kept.drew | apply kept_add | apply Kept.ext))).grown hg1 fun k hk => (h3H.out.lt k hk).1) h1 _, h1, .slice (some ⟨g1, 0, none⟩) ((lnO h).length + 1) cap1, ?_, ?_, rfl, fun e => hgc (Option.some.inj e)⟩, ?_⟩
    · exact heap_setCell_same _ _ _ _ _ _ hb1
    · rw [hy.out]
      exact OwnL.grown hown1 (grown_setCell (grown_refl _ (some c)) (p := ⟨c, 0, none⟩) rfl _) (fun g hg e => by cases hg; exact hgc (Option.some.inj e).symm)
    · rw [h4H.out] at hg1 hat1
      exact fr_store _ (by (try simp only [ext_ext]); repeat (first | exact Kept.refl _ | apply Kept.alloc | apply Kept.drew | apply kept_add | apply Kept.ext)) hg1 hat1
end Go.Proofs.Ytjlaoocomkonhaa
namespace Go.Proofs.Ytjlaoocomkonhaa
open Go.RowKit
def extTo (r : List Int) (k : Nat) : List (List Int) := ((List.range k).filter fun x => !hasI r x).map fun x : Nat => r ++ [(x : Int)]
theorem extTo_next (r : List Int) (k : Nat) : extTo r (k + 1) = extTo r k ++ if hasI r k = true then [] else [r ++ [(k : Int)]] := by
  simp only [extTo, List.range_succ, List.filter_append, List.map_append]
  congr 1
  cases h : hasI r k <;> simp [h]
def permL (n : Nat) : Nat → List (List Int)
  | 0 => [[]]
  | k + 1 => (permL n k).flatMap fun r => extTo r n
theorem permL_next (n k : Nat) : permL n (k + 1) = (permL n k).flatMap fun r => extTo r n := rfl
theorem permL_3 : permL 3 3 = ords3 := by kernel_rfl
theorem permL_4 : permL 4 4 = ords4 := by kernel_rfl
theorem flat_next {α β : Type} (f : α → List β) (ls : List α) (k : Nat) (d : α) (h : k < ls.length) : (ls.take (k + 1)).flatMap f = (ls.take k).flatMap f ++ f (ls.getD k d) := by
  rw [List.take_succ_eq_append_getElem h, List.flatMap_append]
  simp [h]
theorem extTo_len (r : List Int) (k : Nat) : (extTo r k).length ≤ k := by
  unfold extTo
  rw [List.length_map]
  exact Nat.le_trans (List.length_filter_le _ _) (by simp)
end Go.Proofs.Ytjlaoocomkonhaa
namespace Go.Proofs.Ytjlaoocomkonhaa
def rsum : Nat → (Nat → Int) → Int
  | 0, _ => 0
  | n + 1, f => rsum n f + f n
theorem rsum_succ (n : Nat) (f : Nat → Int) : rsum (n + 1) f = rsum n f + f n := rfl
theorem rsum_congr {n : Nat} {f g : Nat → Int} (h : ∀ i, i < n → f i = g i) : rsum n f = rsum n g := by
  induction n with
  | zero => rfl
  | succ n ih => rw [rsum_succ, rsum_succ, ih fun i hi => h i (by omega), h n (by omega)]
theorem rsum_add (n : Nat) (f g : Nat → Int) : rsum n (fun i => f i + g i) = rsum n f + rsum n g := by
  induction n with
  | zero => rfl
  | succ n ih => simp only [rsum_succ, ih]; omega
theorem rsum_zero (n : Nat) : rsum n (fun _ => 0) = 0 := by
  induction n with
  | zero => rfl
  | succ n ih => simp only [rsum_succ, ih]; rfl
theorem rsum_bd {n : Nat} {f : Nat → Int} {b : Int} (h : ∀ i, i < n → 0 ≤ f i ∧ f i ≤ b) : 0 ≤ rsum n f ∧ rsum n f ≤ n * b := by
  induction n with
  | zero => simp [rsum]
  | succ n ih =>
    have h1 := ih fun i hi => h i (by omega)
    have h2 := h n (by omega)
    rw [rsum_succ]
    have : ((n + 1 : Nat) : Int) * b = n * b + b := by rw [Int.natCast_add, Int.add_mul]; simp
    omega
/-- Pairs, the later place ahead; pairs, the earlier place ahead. -/
def lowP (n : Nat) (f : Nat → Nat → Int) : Int := rsum n fun i => rsum i fun k => f k i
def upP (n : Nat) (f : Nat → Nat → Int) : Int := rsum n fun i => rsum (n - (i + 1)) fun j => f i (i + 1 + j)
theorem lowP_upP (n : Nat) (f : Nat → Nat → Int) : lowP n f = upP n f := by
  induction n with
  | zero => rfl
  | succ n ih =>
    have e1 : lowP (n + 1) f = lowP n f + rsum n fun k => f k n := rfl
    have e2 : upP (n + 1) f = upP n f + rsum n fun k => f k n := by
      unfold upP
      rw [rsum_succ, show n + 1 - (n + 1) = 0 by omega, ← rsum_add]
      show _ + rsum 0 _ = _
      rw [show rsum 0 _ = 0 from rfl, Int.add_zero]
      apply rsum_congr
      intro i hi
      rw [show n + 1 - (i + 1) = (n - (i + 1)) + 1 by omega, rsum_succ, show i + 1 + (n - (i + 1)) = n by omega]
    rw [e1, e2, ih]
theorem rsum_swap (n m : Nat) (f : Nat → Nat → Int) : (rsum n fun i => rsum m fun j => f i j) = rsum m fun j => rsum n fun i => f i j := by
  induction n with
  | zero => exact (rsum_zero m).symm
  | succ n ih => rw [rsum_succ, ih, ← rsum_add]; rfl
theorem lowP_congr {n : Nat} {f g : Nat → Nat → Int} (h : ∀ i k, k < i → i < n → f k i = g k i) : lowP n f = lowP n g :=
  rsum_congr fun i hi => rsum_congr fun k hk => h i k hk hi
end Go.Proofs.Ytjlaoocomkonhaa
namespace Go.Proofs.Ytjlaoocomkonhaa
open Go.RowKit
abbrev v3 (a b c : Int) : Value := .agg #[.int .i64 a, .int .i64 b, .int .i64 c]
/-- Of the first n places those at which f is v. -/
def cnt (f : Nat → Int) (n : Nat) (v : Int) : Int := rsum n fun i => if f i = v then 1 else 0
theorem cnt_next (f : Nat → Int) (n : Nat) (v : Int) : cnt f (n + 1) v = cnt f n v + if f n = v then 1 else 0 := rfl
theorem cnt_bd (f : Nat → Int) (n : Nat) (v : Int) : 0 ≤ cnt f n v ∧ cnt f n v ≤ n := by
  have := rsum_bd (n := n) (f := fun i => if f i = v then 1 else 0) (b := 1) fun i _ => by split <;> omega
  unfold cnt; omega
abbrev cnt3 (f : Nat → Int) (n : Nat) : Value := v3 (cnt f n 0) (cnt f n 1) (cnt f n 2)
end Go.Proofs.Ytjlaoocomkonhaa
namespace Go.Proofs.Ytjlaoocomkonhaa

/-- The number of choices of k of n, as both texts reckon it. -/
def chooseL (n : Nat) : Nat → Int
  | 0 => 1
  | i + 1 => chooseL n i * ((n : Int) - i) / (i + 1)
/-- What is asked of one step of it. -/
def chooseOk (n i : Nat) : Bool := decide (0 ≤ chooseL n i * ((n : Int) - i)) && decide (chooseL n i * ((n : Int) - i) ≤ 4000000000000000000) && decide (0 ≤ chooseL n i) && decide (chooseL n i ≤ 4000000000000000000)
theorem chooseOk_all : (List.range 82).all (fun n => (List.range 17).all fun i => chooseOk n i) = true := by decide +kernel
theorem choose_ok {n i : Nat} (hn : n ≤ 81) (hi : i ≤ 16) : 0 ≤ chooseL n i * ((n : Int) - i) ∧ chooseL n i * ((n : Int) - i) ≤ 4000000000000000000 ∧ 0 ≤ chooseL n i ∧ chooseL n i ≤ 4000000000000000000 := by
  have h := List.all_eq_true.1 (List.all_eq_true.1 chooseOk_all n (List.mem_range.2 (by omega))) i (List.mem_range.2 (by omega))
  simp only [chooseOk, Bool.and_eq_true, decide_eq_true_eq] at h
  omega

/-- The greatest common divisor of two whole numbers. -/
def gcdI (a b : Int) : Int := (Nat.gcd a.toNat b.toNat : Nat)
theorem gcdI_step {a b : Int} (ha : 0 ≤ a) (hb : 0 < b) : gcdI b (a % b) = gcdI a b := by
  unfold gcdI
  congr 1
  obtain ⟨n, rfl⟩ := Int.eq_ofNat_of_zero_le ha
  obtain ⟨m, rfl⟩ := Int.eq_ofNat_of_zero_le (Int.le_of_lt hb)
  have e : ((n : Int) % (m : Int)).toNat = n % m := by rw [← Int.natCast_emod]; rfl
  rw [e]
  simp only [Int.toNat_natCast]
  rw [Nat.gcd_comm m, ← Nat.gcd_rec, Nat.gcd_comm]
theorem gcdI_zero {a : Int} (ha : 0 ≤ a) : gcdI a 0 = a := by
  unfold gcdI
  simp
  omega
theorem gcdI_pos {a b : Int} (hb : 0 < b) : 1 ≤ gcdI a b := by
  unfold gcdI
  have : 0 < Nat.gcd a.toNat b.toNat := Nat.gcd_pos_of_pos_right _ (by omega)
  omega
theorem gcdI_le {a b : Int} (hb : 0 < b) : gcdI a b ≤ b := by
  unfold gcdI
  have := Nat.gcd_le_right (m := a.toNat) (n := b.toNat) (by omega)
  omega
def cutN (a b : Int) : Int := a / gcdI a b
def cutD (a b : Int) : Int := b / gcdI a b
theorem choosePos_all : (List.range 82).all (fun n => (List.range 17).all fun i => decide (n < i) || decide (1 ≤ chooseL n i)) = true := by decide +kernel
theorem choose_pos {n i : Nat} (hn : n ≤ 81) (hi : i ≤ 16) (h : i ≤ n) : 1 ≤ chooseL n i := by
  have h1 := List.all_eq_true.1 choosePos_all n (List.mem_range.2 (by omega))
  have h2 := List.all_eq_true.1 h1 i (List.mem_range.2 (by omega))
  simp only [Bool.or_eq_true, decide_eq_true_eq] at h2
  omega
end Go.Proofs.Ytjlaoocomkonhaa
namespace Go.Proofs.Ytjlaoocomkonhaa
open Go.RowKit

/-- Two numbers, one cell each. -/
abbrev v2 (p q : Int) : Value := .agg #[.int .i64 p, .int .i64 q]
end Go.Proofs.Ytjlaoocomkonhaa
namespace Go.Proofs.Ytjlaoocomkonhaa
open Go.RowKit
/-- A trait of a card. -/
def tr (t : Nat) (x : Card) : Int := if t = 0 then x.a else if t = 1 then x.b else if t = 2 then x.c else x.d
theorem tr_3 {x : Card} (t : Nat) (h : isCard x = true) : tr t x = 0 ∨ tr t x = 1 ∨ tr t x = 2 := by
  obtain ⟨h1, h2, h3, h4⟩ := isCard_of h
  unfold tr
  repeat' split
  all_goals omega
def trs (xs : List Card) (t : Nat) (i : Nat) : Int := tr t (cx xs i)
theorem trait_cell {w : World} {g off t : Nat} {x : Card} (h : CardCells w g off x) (ht : t ≤ 3) : w.cell? ⟨g, off + t, none⟩ = some (.int .i64 (tr t x)) := by
  obtain ⟨h1, h2, h3, h4⟩ := h
  obtain rfl | rfl | rfl | rfl : t = 0 ∨ t = 1 ∨ t = 2 ∨ t = 3 := by omega
  · exact h1
  · exact h2
  · exact h3
  · exact h4
end Go.Proofs.Ytjlaoocomkonhaa
