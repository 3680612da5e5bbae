/- Plain law: of the pairs of a hand three times as many as there are lines have their third card there. -/
import Derived.Test.YtenmnipgnjaheaaT17
import Derived.Test.YtenmnipgnjaheaaT16
namespace Go.Proofs.Ytenmnipgnjaheaa
open Go.RowKit
theorem rsum_split (a b : Nat) (f : Nat → Int) : rsum (a + b) f = rsum a f + rsum b fun j => f (a + j) := by
  induction b with
  | zero => simp [rsum]
  | succ b ih => rw [← Nat.add_assoc, rsum_succ, ih, rsum_succ]; omega
theorem rsum_none {n : Nat} {f : Nat → Int} (h : ∀ m, m < n → f m = 0) : rsum n f = 0 := by
  rw [rsum_congr (g := fun _ => 0) h, rsum_zero]
theorem rsum_one {n j : Nat} {f : Nat → Int} (hj : j < n) (h : ∀ m, m < n → m ≠ j → f m = 0) : rsum n f = f j := by
  obtain ⟨d, rfl⟩ : ∃ d, n = j + (1 + d) := ⟨n - j - 1, by omega⟩
  rw [rsum_split, rsum_split, rsum_none (n := j) fun m hm => h m (by omega) (by omega), rsum_none (n := d) fun m hm => h _ (by omega) (by omega)]
  simp [rsum]
/-- Whether a place has the third card of two places. -/
def tri (xs : List Card) (i k m : Nat) : Int := if cx xs m = thirdC (cx xs i) (cx xs k) then 1 else 0
def has01 (xs : List Card) (i k : Nat) : Int := if hasC xs (thirdC (cx xs i) (cx xs k)) = true then 1 else 0
theorem third_turn {x y z : Card} (hx : isCard x = true) (hy : isCard y = true) (hz : isCard z = true) : (z = thirdC x y) ↔ (y = thirdC x z) := by
  obtain ⟨x1, x2, x3, x4⟩ := isCard_of hx
  obtain ⟨y1, y2, y3, y4⟩ := isCard_of hy
  obtain ⟨z1, z2, z3, z4⟩ := isCard_of hz
  obtain ⟨a, b, c, d⟩ := x
  obtain ⟨a', b', c', d'⟩ := y
  obtain ⟨p, q, r, s⟩ := z
  simp only at x1 x2 x3 x4 y1 y2 y3 y4 z1 z2 z3 z4
  simp only [thirdC, thirdT, Card.mk.injEq]
  constructor
  · intro h; omega
  · intro h; omega
theorem tri_turn {xs : List Card} (hc : areC xs) {i k m : Nat} (hi : i < xs.length) (hk : k < xs.length) (hm : m < xs.length) : tri xs i k m = tri xs i m k := by
  unfold tri
  by_cases h : cx xs m = thirdC (cx xs i) (cx xs k)
  · rw [if_pos h, if_pos ((third_turn (hc i hi) (hc k hk) (hc m hm)).1 h)]
  · rw [if_neg h, if_neg fun e => h ((third_turn (hc i hi) (hc k hk) (hc m hm)).2 e)]
theorem tri_swap (xs : List Card) (i k m : Nat) : tri xs i k m = tri xs k i m := by unfold tri; rw [thirdC_comm]
theorem third_self {x y : Card} (hx : isCard x = true) (hy : isCard y = true) (h : x = thirdC x y) : x = y := by
  obtain ⟨x1, x2, x3, x4⟩ := isCard_of hx
  obtain ⟨y1, y2, y3, y4⟩ := isCard_of hy
  obtain ⟨a, b, c, d⟩ := x
  obtain ⟨a', b', c', d'⟩ := y
  simp only at x1 x2 x3 x4 y1 y2 y3 y4
  simp only [thirdC, thirdT, Card.mk.injEq] at h ⊢
  omega
theorem tri_own {xs : List Card} (hc : areC xs) (hd : distC xs) {i k : Nat} (hi : i < xs.length) (hk : k < xs.length) (h : i ≠ k) : tri xs i k i = 0 := by
  unfold tri
  rw [if_neg fun e => h (hd i k hi hk (third_self (hc i hi) (hc k hk) e))]
theorem tri_sum {xs : List Card} (hd : distC xs) (i k : Nat) : rsum xs.length (fun m => tri xs i k m) = has01 xs i k := by
  unfold has01
  by_cases h : hasC xs (thirdC (cx xs i) (cx xs k)) = true
  · rw [if_pos h]
    simp only [hasC, List.any_eq_true, decide_eq_true_eq] at h
    obtain ⟨x, hx, e⟩ := h
    obtain ⟨j, hj, rfl⟩ := List.mem_iff_getElem.1 hx
    rw [← cx_get xs j hj] at e
    rw [rsum_one hj fun m hm hne => by unfold tri; rw [if_neg fun e' => hne (hd m j hm hj (e'.trans e.symm))]]
    unfold tri
    rw [if_pos e]
  · rw [if_neg h]
    refine rsum_none fun m hm => ?_
    unfold tri
    rw [if_neg fun e => h (by simp only [hasC, List.any_eq_true, decide_eq_true_eq]; exact ⟨_, cx_mem hm, e⟩)]
/-- The three places that a third card may have. -/
theorem has_parts {xs : List Card} (hc : areC xs) (hd : distC xs) {i k : Nat} (hik : i < k) (hk : k < xs.length) :
    has01 xs i k = rsum i (fun m => tri xs i k m) + rsum (k - (i + 1)) (fun j => tri xs i k (i + 1 + j)) + rsum (xs.length - (k + 1)) (fun j => tri xs i k (k + 1 + j)) := by
  rw [← tri_sum hd]
  have e : xs.length = i + (1 + ((k - (i + 1)) + (1 + (xs.length - (k + 1))))) := by omega
  have hs := rsum_split i (1 + ((k - (i + 1)) + (1 + (xs.length - (k + 1))))) (fun m => tri xs i k m)
  rw [← e] at hs
  rw [hs, rsum_split, rsum_split, rsum_split]
  have z1 : rsum 1 (fun j => tri xs i k (i + j)) = 0 := by simp [rsum, tri_own hc hd (by omega) hk (Nat.ne_of_lt hik)]
  have z2 : rsum 1 (fun j => tri xs i k (i + (1 + (k - (i + 1) + j)))) = 0 := by
    have e2 : i + (1 + (k - (i + 1) + 0)) = k := by omega
    simp only [rsum, e2]
    rw [tri_swap, tri_own hc hd hk (by omega) (by omega)]; rfl
  have e3 : (fun j => tri xs i k (i + (1 + j))) = fun j => tri xs i k (i + 1 + j) := by funext j; congr 1; omega
  have e4 : (fun j => tri xs i k (i + (1 + (k - (i + 1) + (1 + j))))) = fun j => tri xs i k (k + 1 + j) := by funext j; congr 1; omega
  rw [z1, z2, e3, e4]
  omega
theorem flat_len {α β : Type} (f : α → List β) (l : List α) : ((l.flatMap f).length : Int) = (l.map fun x => ((f x).length : Int)).sum := by
  induction l with
  | nil => rfl
  | cons x l ih => simp only [List.flatMap_cons, List.length_append, List.map_cons, List.sum_cons]; omega
theorem range_sum (n : Nat) (f : Nat → Int) : ((List.range n).map f).sum = rsum n f := by
  induction n with
  | zero => rfl
  | succ n ih => rw [List.range_succ, List.map_append, List.sum_append, ih]; simp [rsum]
theorem lineAt_sum {xs : List Card} (hd : distC xs) {i k : Nat} (hk : k < xs.length) : ((lineAt xs i k).length : Int) = rsum (xs.length - (k + 1)) fun j => tri xs i k (k + 1 + j) := by
  unfold lineAt
  split
  · rename_i h
    obtain ⟨m, e, hm, ec⟩ := placeC_spec (xs := xs) (c := thirdC (cx xs i) (cx xs k)) (by omega)
    rw [e] at h
    have hj : m - (k + 1) < xs.length - (k + 1) := by omega
    rw [rsum_one hj fun m' hm' hne => by
      unfold tri
      rw [if_neg fun e' => hne (by have := hd (k + 1 + m') m (by omega) hm (e'.trans ec.symm); omega)]]
    have e1 : k + 1 + (m - (k + 1)) = m := by omega
    unfold tri
    rw [e1, if_pos ec]; rfl
  · rename_i h
    rw [rsum_none fun m' hm' => ?_]; · rfl
    unfold tri
    rw [if_neg fun e' => ?_]
    apply h
    have : placeC xs (thirdC (cx xs i) (cx xs k)) = (k + 1 + m' : Nat) := placeC_some (by omega) e' fun j hj => decide_eq_false fun e2 => by
      have := hd j (k + 1 + m') (by omega) (by omega) (e2.trans e'.symm); omega
    rw [this]; omega
theorem linesC_sum {xs : List Card} (hd : distC xs) : ((linesC xs).length : Int) = upP xs.length fun i k => rsum (xs.length - (k + 1)) fun j => tri xs i k (k + 1 + j) := by
  unfold linesC linesTo upP
  rw [flat_len, range_sum]
  refine rsum_congr fun i hi => ?_
  unfold linesMid
  rw [flat_len, range_sum]
  exact rsum_congr fun j hj => lineAt_sum hd (by omega)
/-- Pairs whose third card is there. -/
theorem pairs_lines {xs : List Card} (hc : areC xs) (hd : distC xs) : lowP xs.length (fun i k => has01 xs i k) = 3 * ((linesC xs).length : Int) := by
  -- all three parts are one sum over a < b < c
  have hL : ((linesC xs).length : Int) = lowP xs.length fun i k => rsum (xs.length - (k + 1)) fun j => tri xs i k (k + 1 + j) := by rw [linesC_sum hd, ← lowP_upP]
  have hS : (lowP xs.length fun i k => rsum (xs.length - (k + 1)) fun j => tri xs i k (k + 1 + j)) = rsum xs.length fun c => rsum c fun b => rsum b fun a => tri xs a b c := by
    have e1 : (lowP xs.length fun i k => rsum (xs.length - (k + 1)) fun j => tri xs i k (k + 1 + j)) = upP xs.length fun k m => rsum k fun i => tri xs i k m := by
      unfold lowP upP
      exact rsum_congr fun k hk => rsum_swap _ _ _
    rw [e1, ← lowP_upP]
    rfl
  have h3 : (lowP xs.length fun i k => rsum i fun m => tri xs i k m) = rsum xs.length fun c => rsum c fun b => rsum b fun a => tri xs a b c := by
    refine rsum_congr fun c hc' => rsum_congr fun b hb => rsum_congr fun a ha => ?_
    rw [tri_turn hc (by omega) hc' (by omega), tri_swap]
  have h2 : (lowP xs.length fun i k => rsum (k - (i + 1)) fun j => tri xs i k (i + 1 + j)) = rsum xs.length fun c => rsum c fun b => rsum b fun a => tri xs a b c := by
    refine rsum_congr fun c hc' => ?_
    have e1 : (rsum c fun i => rsum (c - (i + 1)) fun j => tri xs i c (i + 1 + j)) = upP c fun i m => tri xs i c m := rfl
    rw [e1, ← lowP_upP]
    refine rsum_congr fun b hb => rsum_congr fun a ha => ?_
    exact tri_turn hc (by omega) hc' (by omega)
  have hp : lowP xs.length (fun i k => has01 xs i k) = lowP xs.length fun i k => (rsum i (fun m => tri xs i k m) + rsum (k - (i + 1)) (fun j => tri xs i k (i + 1 + j))) + rsum (xs.length - (k + 1)) (fun j => tri xs i k (k + 1 + j)) :=
    lowP_congr fun i k hki hi => has_parts hc hd hki hi
  have hadd : ∀ f g : Nat → Nat → Int, (lowP xs.length fun i k => f i k + g i k) = lowP xs.length f + lowP xs.length g := fun f g => by
    unfold lowP
    rw [← rsum_add]
    exact rsum_congr fun i _ => rsum_add _ _ _
  rw [hp, hadd, hadd, h3, h2, hS]
  rw [hS] at hL
  omega
end Go.Proofs.Ytenmnipgnjaheaa
