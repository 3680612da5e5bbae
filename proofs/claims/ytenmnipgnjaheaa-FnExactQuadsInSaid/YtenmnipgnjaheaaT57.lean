/- Contracts: the search for caps that counts. -/
import Derived.Test.YtenmnipgnjaheaaT56
namespace Go.Proofs.Ytenmnipgnjaheaa
open Go.RowKit
/-- The places ascend. -/
def ascB (b : List Int) : Prop := ∀ i j, i < j → j < b.length → ix b i < ix b j
theorem ix_app (b : List Int) (x : Int) {i : Nat} (h : i < b.length) : ix (b ++ [x]) i = ix b i := by
  rw [ix_get _ _ (by simp; omega), ix_get _ _ h, List.getElem_append_left h]
theorem ix_last (b : List Int) (x : Int) : ix (b ++ [x]) b.length = x := by simp [ix]
theorem plB_app {n : Nat} {b : List Int} {k : Nat} (h : plB n b) (hn : n ≤ k) : plB (k + 1) (b ++ [(k : Int)]) := fun i hi => by
  by_cases h0 : i < b.length
  · rw [ix_app _ _ h0]; have := h i h0; omega
  · have e : i = b.length := by simp at hi; omega
    rw [e, ix_last]; omega
theorem plB_mono {n m : Nat} {b : List Int} (h : plB n b) (hn : n ≤ m) : plB m b := fun i hi => by have := h i hi; omega
theorem ascB_app {n : Nat} {b : List Int} {k : Nat} (h : plB n b) (ha : ascB b) (hn : n ≤ k) : ascB (b ++ [(k : Int)]) := fun i j hij hj => by
  by_cases h0 : j < b.length
  · rw [ix_app _ _ h0, ix_app _ _ (by omega)]; exact ha i j hij h0
  · have e : j = b.length := by simp at hj; omega
    rw [e, ix_last, ix_app _ _ (by omega)]
    have := h i (by omega); omega
theorem distC_pk {xs : List Card} {b : List Int} (hd : distC xs) (hb : plB xs.length b) (ha : ascB b) : distC (pk xs b) := fun i j hi hj e => by
  rw [pk_len] at hi hj
  obtain ⟨p, hp, ep⟩ := plB_nat hb hi
  obtain ⟨q, hq, eq⟩ := plB_nat hb hj
  rw [pk_get hi, pk_get hj, ep, eq] at e
  have := hd _ _ (by omega) (by omega) e
  rcases Nat.lt_trichotomy i j with h | h | h
  · have := ha i j h hj; omega
  · exact h
  · have := ha j i h hi; omega
/-- Whether a card of a list makes a line with two of those at places. -/
def blk (xs : List Card) (b : List Int) (i : Nat) : Bool := decide (0 < thr (pk xs b) (cx xs i))
/-- The caps behind the first one that the last d cards go on from. -/
def capT (xs : List Card) : Nat → List Int → List (List Int)
  | 0, _ => []
  | d + 1, b => (if blk xs b (xs.length - (d + 1)) = true then [] else (b ++ [((xs.length - (d + 1) : Nat) : Int)]) :: capT xs d (b ++ [((xs.length - (d + 1) : Nat) : Int)])) ++ capT xs d b
def capL (xs : List Card) (d : Nat) (b : List Int) : List (List Int) := b :: capT xs d b
theorem capT_hit {xs : List Card} {k : Nat} {b : List Int} (hk : k < xs.length) (h : blk xs b k = true) : capT xs (xs.length - k) b = capT xs (xs.length - (k + 1)) b := by
  rw [show xs.length - k = (xs.length - (k + 1)) + 1 by omega, capT, show xs.length - (xs.length - (k + 1) + 1) = k by omega, if_pos h, List.nil_append]
theorem capT_free {xs : List Card} {k : Nat} {b : List Int} (hk : k < xs.length) (h : blk xs b k = false) : capT xs (xs.length - k) b = capL xs (xs.length - (k + 1)) (b ++ [(k : Int)]) ++ capT xs (xs.length - (k + 1)) b := by
  rw [show xs.length - k = (xs.length - (k + 1)) + 1 by omega, capT, show xs.length - (xs.length - (k + 1) + 1) = k by omega, if_neg (by simp [h]), capL]
/-- How many caps there are with some places and n more, of the last d. -/
def cntC (xs : List Card) : Nat → Nat → List Int → Nat
  | _, 0, _ => 1
  | 0, _ + 1, _ => 0
  | d + 1, n + 1, b => (if blk xs b (xs.length - (d + 1)) = true then 0 else cntC xs d n (b ++ [((xs.length - (d + 1) : Nat) : Int)])) + cntC xs d (n + 1) b
theorem cntC_zero (xs : List Card) (d : Nat) (b : List Int) : cntC xs d 0 b = 1 := by cases d <;> rfl
theorem cntC_hit {xs : List Card} {k n : Nat} {b : List Int} (hk : k < xs.length) (h : blk xs b k = true) : cntC xs (xs.length - k) (n + 1) b = cntC xs (xs.length - (k + 1)) (n + 1) b := by
  rw [show xs.length - k = (xs.length - (k + 1)) + 1 by omega, cntC, show xs.length - (xs.length - (k + 1) + 1) = k by omega, if_pos h, Nat.zero_add]
theorem cntC_free {xs : List Card} {k n : Nat} {b : List Int} (hk : k < xs.length) (h : blk xs b k = false) : cntC xs (xs.length - k) (n + 1) b = cntC xs (xs.length - (k + 1)) n (b ++ [(k : Int)]) + cntC xs (xs.length - (k + 1)) (n + 1) b := by
  rw [show xs.length - k = (xs.length - (k + 1)) + 1 by omega, cntC, show xs.length - (xs.length - (k + 1) + 1) = k by omega, if_neg (by simp [h])]
theorem cntC_le (xs : List Card) : ∀ (d n : Nat) (b : List Int), cntC xs d n b ≤ 2 ^ d
  | d, 0, b => by rw [cntC_zero]; exact Nat.one_le_two_pow
  | 0, n + 1, b => by simp [cntC]
  | d + 1, n + 1, b => by
    have h1 := cntC_le xs d n (b ++ [((xs.length - (d + 1) : Nat) : Int)])
    have h2 := cntC_le xs d (n + 1) b
    unfold cntC
    rw [Nat.pow_succ]
    split <;> omega
theorem capT_len (xs : List Card) : ∀ (d : Nat) (b : List Int), (capT xs d b).length + 1 ≤ 2 ^ d
  | 0, b => by simp [capT]
  | d + 1, b => by
    have h1 := capT_len xs d (b ++ [((xs.length - (d + 1) : Nat) : Int)])
    have h2 := capT_len xs d b
    unfold capT
    simp only [List.length_append, Nat.pow_succ]
    split <;> simp <;> omega
theorem capT_long (xs : List Card) : ∀ (d : Nat) (b : List Int), ∀ p, p ∈ capT xs d b → b.length < p.length ∧ p.length ≤ b.length + d
  | 0, b, p, h => by simp [capT] at h
  | d + 1, b, p, h => by
    have h2 := capT_long xs d b p
    have h1 := capT_long xs d (b ++ [((xs.length - (d + 1) : Nat) : Int)]) p
    unfold capT at h
    rw [List.length_append, List.length_singleton] at h1
    rw [List.mem_append] at h
    rcases h with h | h
    · split at h
      · simp at h
      · rw [List.mem_cons] at h
        rcases h with rfl | h
        · rw [List.length_append, List.length_singleton]; omega
        · have := h1 h; omega
    · have := h2 h; omega
theorem capL_mem {xs : List Card} {d : Nat} {b p : List Int} (h : p ∈ capL xs d b) : p.length ≤ b.length + d := by
  simp only [capL, List.mem_cons] at h
  rcases h with rfl | h
  · omega
  · exact (capT_long xs d b p h).2
/-- How many of the lists have so many places. -/
def cntQ (h : List (List Int)) (n : Int) : Nat := (h.filter fun p => decide ((p.length : Int) = n)).length
theorem cntQ_yes (h : List (List Int)) {p : List Int} {n : Int} (e : (p.length : Int) = n) : cntQ (h ++ [p]) n = cntQ h n + 1 := by simp [cntQ, e]
theorem cntQ_no (h : List (List Int)) {p : List Int} {n : Int} (e : ¬ (p.length : Int) = n) : cntQ (h ++ [p]) n = cntQ h n := by simp [cntQ, e]
theorem cntQ_le (h : List (List Int)) (n : Int) : cntQ h n ≤ h.length := List.length_filter_le _ _
theorem cntQ_app (h g : List (List Int)) (n : Int) : cntQ (h ++ g) n = cntQ h n + cntQ g n := by simp [cntQ]
theorem cntQ_cons (p : List Int) (h : List (List Int)) (n : Int) : cntQ (p :: h) n = (if (p.length : Int) = n then 1 else 0) + cntQ h n := by
  rw [show p :: h = [p] ++ h from rfl, cntQ_app]
  unfold cntQ
  by_cases e : (p.length : Int) = n <;> simp [e]
theorem cntQ_none {h : List (List Int)} {n : Int} (hn : ∀ p, p ∈ h → (p.length : Int) ≠ n) : cntQ h n = 0 := by
  unfold cntQ
  rw [List.length_eq_zero_iff, List.filter_eq_nil_iff]
  intro p hp
  simpa using hn p hp
theorem cntQ_capT (xs : List Card) : ∀ (d n : Nat) (b : List Int), cntQ (capT xs d b) ((b.length + (n + 1) : Nat) : Int) = cntC xs d (n + 1) b
  | 0, n, b => by simp [capT, cntC, cntQ]
  | d + 1, n, b => by
    have h2 := cntQ_capT xs d n b
    unfold capT cntC
    rw [cntQ_app, h2]
    congr 1
    split
    · rfl
    · rw [cntQ_cons]
      cases n with
      | zero =>
        rw [cntC_zero, if_pos (by simp), cntQ_none fun p hp => by have := capT_long xs d _ p hp; simp at this; omega]
      | succ n =>
        have h1 := cntQ_capT xs d n (b ++ [((xs.length - (d + 1) : Nat) : Int)])
        rw [if_neg (by simp; omega), Nat.zero_add, ← h1]
        congr 1
        simp only [List.length_append, List.length_singleton]; omega
theorem cntQ_capL (xs : List Card) (d n : Nat) (b : List Int) : cntQ (capL xs d b) ((b.length + n : Nat) : Int) = cntC xs d n b := by
  unfold capL
  rw [cntQ_cons]
  cases n with
  | zero => rw [cntC_zero, if_pos (by simp), cntQ_none fun p hp => by have := capT_long xs d b p hp; omega]
  | succ n => rw [if_neg (by omega), Nat.zero_add, cntQ_capT]
theorem ints_drop {w : World} {g off n cap : Nat} {b : List Int} (h : IntsAt w (some ⟨g, off, none⟩) b) (hn : b.length = n) (hc : n ≤ cap) (k : Nat) : IntsAt w (if cap = k then some ⟨g, off, none⟩ else some ⟨g, off + k, none⟩) (b.drop k) := by
  intro i hi
  rw [List.length_drop] at hi
  obtain ⟨_, _, he, hg, h1⟩ := h (k + i) (by omega)
  cases he
  rw [if_neg (by omega)]
  refine ⟨g, off + k, rfl, hg, ?_⟩
  rw [Nat.add_assoc, h1]
  simp [ix]
theorem ix_drop (b : List Int) (k i : Nat) : ix (b.drop k) i = ix b (k + i) := by simp [ix]
def CntJ (c B : Nat) (n : Int) (h : List (List Int)) (w : World) : Prop := c ≠ B ∧ B < w.heap.size ∧ w.cell? ⟨B, 0, none⟩ = some (.int .i64 n) ∧ w.heap[c]? = some (.cells #[.int .i64 (cntQ h n : Nat)] 3)
theorem CntJ.kept {c B : Nat} {n : Int} {h : List (List Int)} {w w' : World} (H : CntJ c B n h w) (hk : Kept w w') : CntJ c B n h w' := by
  obtain ⟨h0, h1, h2, h3⟩ := H
  exact ⟨h0, Nat.lt_of_lt_of_le h1 hk.below.size, (hk.below.cell (p := ⟨_, _, none⟩) h1).trans h2, (hk.below.block c (Array.getElem?_eq_some_iff.1 h3).1).trans h3⟩
theorem CntJ.lt {c B : Nat} {n : Int} {h : List (List Int)} {w : World} (H : CntJ c B n h w) : c < w.heap.size := (Array.getElem?_eq_some_iff.1 H.2.2.2).1
theorem fr_set (w : World) (c o : Nat) (u : Value) : Fr c none none w (w.setCell ⟨c, o, none⟩ u) := ⟨rfl, rfl, rfl, by simp, fun k _ hk _ => heap_setCell_other _ _ _ _ (fun e => hk e), .inl rfl⟩
end Go.Proofs.Ytenmnipgnjaheaa
