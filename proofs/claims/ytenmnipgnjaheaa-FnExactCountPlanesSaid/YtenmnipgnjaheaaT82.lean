/- The planes of a hand: the two counts, as sums over places. -/
import Derived.Test.YtenmnipgnjaheaaT81
namespace Go.Proofs.Ytenmnipgnjaheaa
open Go.RowKit
def sN (n : Nat) (f : Nat → Nat) : Nat := L1 (List.range n) f
theorem sN_zero (f : Nat → Nat) : sN 0 f = 0 := rfl
theorem sN_succ (n : Nat) (f : Nat → Nat) : sN (n + 1) f = sN n f + f n := by
  unfold sN
  rw [List.range_succ, L1_append]
  simp
theorem sN_low {n : Nat} {f : Nat → Nat} (h : ∀ j, j < n → f j = 0) : sN n f = 0 := L1_zero fun j hj => h j (List.mem_range.1 hj)
theorem sN_congr {n : Nat} {f g : Nat → Nat} (h : ∀ j, j < n → f j = g j) : sN n f = sN n g := L1_congr fun j hj => h j (List.mem_range.1 hj)
theorem sN_le {n B : Nat} {f : Nat → Nat} (h : ∀ j, j < n → f j ≤ B) : sN n f ≤ n * B := by
  induction n with
  | zero => simp [sN_zero]
  | succ n ih =>
    rw [sN_succ, Nat.add_mul, Nat.one_mul]
    exact Nat.add_le_add (ih fun j hj => h j (by omega)) (h n (by omega))
theorem sN_cut {n i : Nat} (hi : i ≤ n) (f : Nat → Nat) : sN n (fun j => if j < i then f j else 0) = sN i f := by
  induction n with
  | zero => obtain rfl : i = 0 := by omega
            rfl
  | succ n ih =>
    rw [sN_succ]
    by_cases h : i = n + 1
    · subst h
      rw [if_pos (by omega), sN_succ]
      congr 1
      exact sN_congr fun j hj => if_pos (by omega)
    · rw [ih (by omega), if_neg (by omega), Nat.add_zero]
theorem L1_idx (hs : List Card) (F : Card → Nat) : L1 hs F = sN hs.length (fun i => F (cx hs i)) := by
  have e : hs = (List.range hs.length).map (cx hs) := by
    apply List.ext_getElem
    · simp
    · intro i h1 h2
      simp [cx_get _ _ h1]
  conv => lhs; rw [e]
  rw [L1_map]
  rfl
theorem L3_idx (hs : List Card) (F : Card → Card → Card → Nat) : L3 hs F = sN hs.length (fun i => sN hs.length (fun k => sN hs.length (fun m => F (cx hs i) (cx hs k) (cx hs m)))) := by
  unfold L3
  simp only [L1_idx]
noncomputable def cI (hs : List Card) (i k m : Nat) : Nat := if canB hs (cx hs i) (cx hs k) (cx hs m) = true then 1 else 0
noncomputable def cM (hs : List Card) (i k m : Nat) : Nat := sN m fun t => if k < t then cI hs i k t else 0
noncomputable def cK (hs : List Card) (i k : Nat) : Nat := sN k fun t => if i < t then cM hs i t hs.length else 0
noncomputable def cS (hs : List Card) (i : Nat) : Nat := sN i fun t => cK hs t hs.length
def gI (hs : List Card) (i j k : Nat) : Nat := if goodB hs (cx hs i) (cx hs j) (cx hs k) = true then 1 else 0
def gK (hs : List Card) (i j k : Nat) : Nat := sN k fun t => gI hs i j t
def gJ (hs : List Card) (i j : Nat) : Nat := sN j fun t => gK hs i t t
def gS (hs : List Card) (i : Nat) : Nat := sN i fun t => gJ hs t t
theorem cI_le (hs : List Card) (i k m : Nat) : cI hs i k m ≤ 1 := by unfold cI; split <;> omega
theorem gI_le (hs : List Card) (i k m : Nat) : gI hs i k m ≤ 1 := by unfold gI; split <;> omega
theorem cM_le (hs : List Card) (i k m : Nat) : cM hs i k m ≤ m := by
  have := sN_le (n := m) (B := 1) (f := fun t => if k < t then cI hs i k t else 0) fun j _ => by split; exact cI_le _ _ _ _; omega
  rw [Nat.mul_one] at this; exact this
theorem gK_le (hs : List Card) (i j k : Nat) : gK hs i j k ≤ k := by
  have := sN_le (n := k) (B := 1) (f := fun t => gI hs i j t) fun t _ => gI_le _ _ _ _
  rw [Nat.mul_one] at this; exact this
theorem cK_le {hs : List Card} {i k : Nat} (hl : hs.length ≤ 27) (hk : k ≤ 27) : cK hs i k ≤ 729 := by
  have := sN_le (n := k) (B := 27) (f := fun t => if i < t then cM hs i t hs.length else 0) fun t _ => by
    split
    · exact Nat.le_trans (cM_le _ _ _ _) hl
    · omega
  unfold cK; omega
theorem cS_le {hs : List Card} {i : Nat} (hl : hs.length ≤ 27) (hi : i ≤ 27) : cS hs i ≤ 19683 := by
  have := sN_le (n := i) (B := 729) (f := fun t => cK hs t hs.length) fun t _ => cK_le hl hl
  unfold cS; omega
theorem gJ_le {hs : List Card} {i j : Nat} (hj : j ≤ 27) : gJ hs i j ≤ 729 := by
  have := sN_le (n := j) (B := 27) (f := fun t => gK hs i t t) fun t ht => Nat.le_trans (gK_le _ _ _ _) (by omega)
  unfold gJ; omega
theorem gS_le {hs : List Card} {i : Nat} (hi : i ≤ 27) : gS hs i ≤ 19683 := by
  have := sN_le (n := i) (B := 729) (f := fun t => gJ hs t t) fun t ht => gJ_le (by omega)
  unfold gS; omega
theorem cM_next (hs : List Card) {i k m : Nat} (h : k < m) : cM hs i k (m + 1) = cM hs i k m + cI hs i k m := by unfold cM; rw [sN_succ, if_pos h]
theorem cM_start (hs : List Card) (i k : Nat) : cM hs i k (k + 1) = 0 := sN_low fun j hj => if_neg (by omega)
theorem cK_next (hs : List Card) {i k : Nat} (h : i < k) : cK hs i (k + 1) = cK hs i k + cM hs i k hs.length := by unfold cK; rw [sN_succ, if_pos h]
theorem cK_start (hs : List Card) (i : Nat) : cK hs i (i + 1) = 0 := sN_low fun j hj => if_neg (by omega)
theorem cS_next (hs : List Card) (i : Nat) : cS hs (i + 1) = cS hs i + cK hs i hs.length := sN_succ _ _
theorem gK_next (hs : List Card) (i j k : Nat) : gK hs i j (k + 1) = gK hs i j k + gI hs i j k := sN_succ _ _
theorem gJ_next (hs : List Card) (i j : Nat) : gJ hs i (j + 1) = gJ hs i j + gK hs i j j := sN_succ _ _
theorem gS_next (hs : List Card) (i : Nat) : gS hs (i + 1) = gS hs i + gJ hs i i := sN_succ _ _
theorem can_asc {hs : List Card} {a b c : Card} (hc : canB hs a b c = true) : numC a < numC b ∧ numC b < numC c ∧ thirdC a b ∈ hs := by
  obtain ⟨hp, hs', e0, e1, e2⟩ := can_of hc
  have hlen := span_plane_len hp
  have hasc := spanC_asc [a, b, c]
  obtain ⟨n, hn, hnt, _, _⟩ := nth3_at (L := spanC [a, b, c])
  have l1 := asc_lt hasc (i := 0) (j := 1) (by omega) (by omega)
  have l2 := asc_lt hasc (i := 1) (j := n) (by omega) (by omega)
  rw [e0, e1] at l1
  rw [e1, ← hnt, e2] at l2
  refine ⟨l1, l2, hs' _ ((span_plane_mem hp _).2 ?_)⟩
  obtain ⟨m0, m1, _⟩ := plane_base hp
  exact planeL_closed hp a b m0 m1 fun e => by rw [e] at l1; omega
theorem asc_back {xs : List Card} (h : Asc xs) {i j : Nat} (hi : i < xs.length) (hlt : numC (cx xs i) < numC (cx xs j)) : i < j := by
  rcases Nat.lt_trichotomy i j with h' | h' | h'
  · exact h'
  · subst h'; omega
  · have := asc_lt h h' hi; omega
theorem planes_eq {hs : List Card} (hasc : Asc hs) (hcs : ∀ c ∈ hs, isCard c = true) : gS hs hs.length = 72 * cS hs hs.length := by
  have h := planes_count hasc hcs
  rw [L3_idx, L3_idx] at h
  have e1 : gS hs hs.length = sN hs.length (fun i => sN hs.length (fun k => sN hs.length (fun m => if ord3 (cx hs i) (cx hs k) (cx hs m) = true then (if goodB hs (cx hs i) (cx hs k) (cx hs m) = true then 1 else 0) else 0))) := by
    unfold gS gJ gK
    refine sN_congr fun i hi => ?_
    rw [← sN_cut (n := hs.length) (by omega : i ≤ hs.length)]
    refine sN_congr fun k hk => ?_
    by_cases hki : k < i
    · rw [if_pos hki, ← sN_cut (n := hs.length) (by omega : k ≤ hs.length)]
      refine sN_congr fun m hm => ?_
      by_cases hmk : m < k
      · rw [if_pos hmk, if_pos]
        · rfl
        · simp only [ord3, Bool.and_eq_true, decide_eq_true_eq]
          exact ⟨asc_lt hasc hki hi, asc_lt hasc hmk hk⟩
      · rw [if_neg hmk, if_neg]
        intro ho
        simp only [ord3, Bool.and_eq_true, decide_eq_true_eq] at ho
        exact hmk (asc_back hasc hm ho.2)
    · rw [if_neg hki]
      refine (sN_low fun m _ => if_neg fun ho => ?_).symm
      simp only [ord3, Bool.and_eq_true, decide_eq_true_eq] at ho
      exact hki (asc_back hasc hk ho.1)
  have e2 : cS hs hs.length = sN hs.length (fun i => sN hs.length (fun k => sN hs.length (fun m => if canB hs (cx hs i) (cx hs k) (cx hs m) = true then 1 else 0))) := by
    unfold cS cK cM
    refine sN_congr fun i hi => sN_congr fun k hk => ?_
    by_cases hik : i < k
    · rw [if_pos hik]
      refine sN_congr fun m hm => ?_
      by_cases hkm : k < m
      · rw [if_pos hkm]; rfl
      · rw [if_neg hkm, if_neg]
        exact fun ho => hkm (asc_back hasc hk (can_asc ho).2.1)
    · rw [if_neg hik]
      exact (sN_low fun m _ => if_neg fun ho => hik (asc_back hasc hi (can_asc ho).1)).symm
  rw [e1, e2]
  exact h
end Go.Proofs.Ytenmnipgnjaheaa
