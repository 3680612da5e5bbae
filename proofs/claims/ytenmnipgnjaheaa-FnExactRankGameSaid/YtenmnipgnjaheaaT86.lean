/- Plain: players put in order by insertion. Contracts: comparisons. -/
import Derived.Test.YtenmnipgnjaheaaT38
import Derived.Test.YtenmnipgnjaheaaT39
namespace Go.Proofs.Ytenmnipgnjaheaa
open Go.RowKit
/-- One player comes ahead of another one: more points, or as many and fewer wrong claims. -/
def betR (pts wr : List Int) (i j : Nat) : Bool := decide (ix pts j < ix pts i) || (decide (ix pts i = ix pts j) && decide (ix wr i < ix wr j))
/-- Where a player comes to lie among those ahead. -/
def plR (b : Nat → Nat → Bool) (xs : List Nat) (i : Nat) : Nat → Nat
  | 0 => 0
  | n + 1 => if b i (xs.getD n 0) then plR b xs i n else n + 1
theorem plR_le (b : Nat → Nat → Bool) (xs : List Nat) (i : Nat) : ∀ n, plR b xs i n ≤ n
  | 0 => Nat.le_refl _
  | n + 1 => by
    unfold plR; split
    · have := plR_le b xs i n; omega
    · exact Nat.le_refl _
theorem plR_yes {b : Nat → Nat → Bool} {xs : List Nat} {i n : Nat} (h : b i (xs.getD n 0) = true) : plR b xs i (n + 1) = plR b xs i n := by rw [plR, if_pos h]
theorem plR_no {b : Nat → Nat → Bool} {xs : List Nat} {i n : Nat} (h : b i (xs.getD n 0) = false) : plR b xs i (n + 1) = n + 1 := by rw [plR, if_neg (by rw [h]; simp)]
def insR (b : Nat → Nat → Bool) (xs : List Nat) (i : Nat) : List Nat := xs.take (plR b xs i xs.length) ++ [i] ++ xs.drop (plR b xs i xs.length)
/-- The first players in order. -/
def rkR (b : Nat → Nat → Bool) : Nat → List Nat
  | 0 => []
  | k + 1 => insR b (rkR b k) k
theorem rkR_len (b : Nat → Nat → Bool) : ∀ k, (rkR b k).length = k
  | 0 => rfl
  | k + 1 => by
    have h := rkR_len b k
    have h2 := plR_le b (rkR b k) k (rkR b k).length
    unfold rkR insR
    simp only [List.length_append, List.length_take, List.length_drop, List.length_singleton]
    omega
theorem rkR_lt (b : Nat → Nat → Bool) : ∀ k x, x ∈ rkR b k → x < k
  | 0, x, h => by simp [rkR] at h
  | k + 1, x, h => by
    unfold rkR insR at h
    simp only [List.mem_append, List.mem_singleton] at h
    rcases h with (h | h) | h
    · have := rkR_lt b k x (List.mem_of_mem_take h); omega
    · omega
    · have := rkR_lt b k x (List.mem_of_mem_drop h); omega
theorem rkR_at (b : Nat → Nat → Bool) {k n : Nat} (h : n < k) : (rkR b k).getD n 0 < k := by
  have hl := rkR_len b k
  have e : (rkR b k).getD n 0 = (rkR b k)[n]'(by omega) := by simp [List.getD, hl, h]
  rw [e]; exact rkR_lt b k _ (List.getElem_mem _)
theorem rkR_next {b : Nat → Nat → Bool} {k n : Nat} (h : plR b (rkR b k) k k = n) : rkR b (k + 1) = (rkR b k).take n ++ [k] ++ (rkR b k).drop n := by
  conv => lhs; unfold rkR insR
  rw [rkR_len, h]
/-- Numbers as the program holds them. -/
def ints (l : List Nat) : List Int := l.map fun n : Nat => (n : Int)
theorem ints_len (l : List Nat) : (ints l).length = l.length := by simp [ints]
theorem ints_ix (l : List Nat) (i : Nat) : ix (ints l) i = ((l.getD i 0 : Nat) : Int) := by
  by_cases h : i < l.length
  · rw [ix_get _ _ (by rw [ints_len]; exact h)]; simp [ints, List.getD, h]
  · simp [ix, ints, List.getD, h]
theorem ints_app (a b : List Nat) : ints (a ++ b) = ints a ++ ints b := by simp [ints]
theorem ints_take (a : List Nat) (n : Nat) : ints (a.take n) = (ints a).take n := by simp [ints, List.map_take]
theorem ints_drop (a : List Nat) (n : Nat) : ints (a.drop n) = (ints a).drop n := by simp [ints, List.map_drop]
/-- A player on the way to its place. -/
def mvR (xs : List Nat) (i j : Nat) (rest : List Nat) : List Nat := xs.take j ++ [i] ++ xs.drop j ++ rest
theorem mvR_len (xs : List Nat) (i j : Nat) (rest : List Nat) : (mvR xs i j rest).length = xs.length + 1 + rest.length := by
  simp only [mvR, List.length_append, List.length_take, List.length_drop, List.length_singleton]; omega
theorem mvR_parts {xs : List Nat} {i j : Nat} {rest : List Nat} (h : j < xs.length) : mvR xs i (j + 1) rest = xs.take j ++ ([xs.getD j 0] ++ ([i] ++ (xs.drop (j + 1) ++ rest))) := by
  have e : xs.getD j 0 = xs[j] := by simp [List.getD, h]
  rw [e]
  unfold mvR
  rw [List.take_succ_eq_append_getElem h]
  simp only [List.append_assoc]
theorem mvR_parts2 {xs : List Nat} {i j : Nat} {rest : List Nat} (h : j < xs.length) : mvR xs i j rest = xs.take j ++ ([i] ++ ([xs.getD j 0] ++ (xs.drop (j + 1) ++ rest))) := by
  have e : xs.getD j 0 = xs[j] := by simp [List.getD, h]
  rw [e]
  unfold mvR
  rw [List.drop_eq_getElem_cons h]
  simp only [List.append_assoc, List.cons_append, List.nil_append]
theorem mvR_at {xs : List Nat} {i j : Nat} {rest : List Nat} (h : j ≤ xs.length) : (mvR xs i j rest).getD j 0 = i := by
  unfold mvR
  simp [List.getD, h]
theorem mvR_at1 {xs : List Nat} {i j : Nat} {rest : List Nat} (h : j < xs.length) : (mvR xs i (j + 1) rest).getD j 0 = xs.getD j 0 := by
  rw [mvR_parts h]
  simp [List.getD, Nat.le_of_lt h]
theorem set_mid (A : List Nat) (p q : Nat) (D : List Nat) : ((A ++ ([p] ++ ([q] ++ D))).set (A.length + 1) p).set A.length q = A ++ ([q] ++ ([p] ++ D)) := by
  induction A with
  | nil => rfl
  | cons a A _ => simp
theorem mvR_swap {xs : List Nat} {i j : Nat} {rest : List Nat} (h : j < xs.length) : ((mvR xs i (j + 1) rest).set (j + 1) (xs.getD j 0)).set j i = mvR xs i j rest := by
  rw [mvR_parts h, mvR_parts2 h]
  have := set_mid (xs.take j) (xs.getD j 0) i (xs.drop (j + 1) ++ rest)
  rwa [List.length_take, Nat.min_eq_left (by omega)] at this
theorem mvR_all (xs : List Nat) (i : Nat) (rest : List Nat) (h : xs.length = i) : mvR xs i i rest = xs ++ ([i] ++ rest) := by
  unfold mvR
  rw [List.take_of_length_le (by omega), List.drop_eq_nil_of_le (by omega)]
  simp
def cmpI (u v : Int) : Int := if u < v then -1 else if v < u then 1 else 0
def orI (u v : Int) : Int := if u = 0 then v else u
theorem or_cmp (u v x y : Int) : decide (orI (cmpI v u) (cmpI x y) < 0) = (decide (v < u) || (decide (u = v) && decide (x < y))) := by
  unfold orI cmpI
  by_cases h1 : v < u
  · simp [h1]
  · by_cases h2 : u < v
    · have : ¬ u = v := by omega
      simp [h1, h2, this]
    · obtain rfl : u = v := by omega
      by_cases h3 : x < y
      · simp [h3]
      · by_cases h4 : y < x
        · simp [h3, h4]
        · simp [h3, h4]
theorem cmpI_bd (u v : Int) : -1 ≤ cmpI u v ∧ cmpI u v ≤ 1 := by unfold cmpI; split <;> (try split) <;> omega
theorem Compare_any (u v : Int) (w : World) : Calls Try.prog 53 #[.int .i64 u, .int .i64 v] w fun e w' => e = .returned (.int .i64 (cmpI u v)) ∧ w = w' := by
  have hn : ∀ (z : Int) (w : World), Calls Try.prog 73 #[.int .i64 z] w fun e w' => e = .returned (.bool false) ∧ w = w' := fun z w => by
    go_enter Try.func73, Try.ntmps73
    go_wp2
    go_ret
    exact ⟨ret_of (by simp), rfl⟩
  have hnH := hid hn
  clear hn
  have hc := hid (show ∀ r, cmpI u v = r → cmpI u v = r from fun _ h => h)
  by_cases h1 : u < v
  · have e := hid (show cmpI u v = -1 by unfold cmpI; rw [if_pos h1])
    go_enter Try.func53, Try.ntmps53
    go_wp2_with (first | (go_at_call 73; refine Calls.mono (hnH.out _ _) ?_; rintro e w' ⟨rfl, rfl⟩))
    all_goals
      go_ret
      exact ⟨ret_of (by rw [e.out]; rfl), rfl⟩
  · by_cases h2 : v < u
    · have e := hid (show cmpI u v = 1 by unfold cmpI; rw [if_neg h1, if_pos h2])
      go_enter Try.func53, Try.ntmps53
      go_wp2_with (first | (go_at_call 73; refine Calls.mono (hnH.out _ _) ?_; rintro e w' ⟨rfl, rfl⟩))
      all_goals
        go_ret
        exact ⟨ret_of (by rw [e.out]; rfl), rfl⟩
    · have e := hid (show cmpI u v = 0 by unfold cmpI; rw [if_neg h1, if_neg h2])
      go_enter Try.func53, Try.ntmps53
      go_wp2_with (first | (go_at_call 73; refine Calls.mono (hnH.out _ _) ?_; rintro e w' ⟨rfl, rfl⟩))
      all_goals
        go_ret
        exact ⟨ret_of (by rw [e.out]; rfl), rfl⟩
theorem Or_any (g cap : Nat) (u v : Int) (w : World) (h0 : w.cell? ⟨g, 0, none⟩ = some (.int .i64 u)) (h1 : w.cell? ⟨g, 1, none⟩ = some (.int .i64 v)) :
    Calls Try.prog 52 #[.slice (some ⟨g, 0, none⟩) 2 cap] w fun e w' => e = .returned (.int .i64 (orI u v)) ∧ Kept w w' := by
  by_cases hu : u = 0
  · have e := hid (show orI u v = v by unfold orI; rw [if_pos hu])
    subst hu
    by_cases hv : v = 0
    · subst hv
      go_enter Try.func52, Try.ntmps52
      go_wp2
      refine wp_loop_rounds 3 ?_
      iterate 3
        (all_goals try rw [rounds_succ])
        go_wp2
      all_goals
        go_ret
        exact ⟨ret_of (by rw [e.out]; rfl), (by (try simp only [ext_ext]); repeat (first | exact Kept.refl _ | apply Kept.alloc | apply Kept.drew | apply kept_add | apply Kept.ext))⟩
    · have hb : (v != 0) = true := by simp [hv]
      go_enter Try.func52, Try.ntmps52
      go_wp2
      refine wp_loop_rounds 3 ?_
      iterate 2
        (all_goals try rw [rounds_succ])
        go_wp2
      all_goals
        go_ret
        exact ⟨ret_of (by rw [e.out]; rfl), (by (try simp only [ext_ext]); repeat (first | exact Kept.refl _ | apply Kept.alloc | apply Kept.drew | apply kept_add | apply Kept.ext))⟩
  · have e := hid (show orI u v = u by unfold orI; rw [if_neg hu])
    have hb : (u != 0) = true := by simp [hu]
    go_enter Try.func52, Try.ntmps52
    go_wp2
    refine wp_loop_rounds 3 ?_
    iterate 1
      (all_goals try rw [rounds_succ])
      go_wp2
    all_goals
      go_ret
      exact ⟨ret_of (by rw [e.out]; rfl), (by (try simp only [ext_ext]); repeat (first | exact Kept.refl _ | apply Kept.alloc | apply Kept.drew | apply kept_add | apply Kept.ext))⟩
set_option maxRecDepth 20000 in
theorem rank1_any (pB gB m : Nat) (pts wrong : List Int) (po wo : Option Addr) (pc wc pi pj : Nat) (w : World) (hp0 : w.cell? ⟨pB, 0, none⟩ = some (.slice po m pc)) (hg0 : w.cell? ⟨gB, 4, none⟩ = some (.slice wo m wc)) (hpB : pB < w.heap.size) (hgB : gB < w.heap.size)
    (hp : IntsAt w po pts) (hw : IntsAt w wo wrong) (hpl : pts.length = m) (hwl : wrong.length = m) (hx : pi < m) (hy : pj < m) :
    Calls Try.prog 51 #[.int .i64 pi, .int .i64 pj, .pointer (some ⟨pB, 0, none⟩), .pointer (some ⟨gB, 0, none⟩)] w fun e w' => e = .returned (.int .i64 (orI (cmpI (ix pts pj) (ix pts pi)) (cmpI (ix wrong pi) (ix wrong pj)))) ∧ Kept w w' := by
  obtain ⟨p, po1, rfl, hpg, a1⟩ := hp pi (by omega)
  obtain ⟨_, _, he, _, a2⟩ := hp pj (by omega)
  cases he
  obtain ⟨q, qo1, rfl, hqg, b1⟩ := hw pi (by omega)
  obtain ⟨_, _, he, _, b2⟩ := hw pj (by omega)
  cases he
  have hx1 : (pi : Int) < (m : Int) := by omega
  have hy1 : (pj : Int) < (m : Int) := by omega
  clear hp hw hpl hwl
  go_enter Try.func51, Try.ntmps51
  go_wp2_with (first | (refine wp_region_ext_tail 20 (by kernel_rfl) (by kernel_rfl) ?_; simp only [List.take_succ_cons, List.take_zero, List.drop_succ_cons, List.drop_zero]; (repeat (go_big_quiet_step ((first | (go_at_call 53; first | exact ext_call_same (Compare_any _ _ _) | exact ext_call_same2 (Compare_any _ _ _)))))); refine wpQuiet_tail fun z => ?_) | (go_at_call 52; refine Calls.mono (Or_any _ _ (cmpI (ix pts pj) (ix pts pi)) (cmpI (ix wrong pi) (ix wrong pj)) _ (cell_of_row _ _ 0 _ _ (0, 0) (heap_at (by simp))) (cell_of_row _ _ 1 _ _ (0, 0) (heap_at (by simp)))) ?_; rintro e w' ⟨rfl, y, rfl⟩))
  refine bodyPost_ret (v := .int .i64 (orI (cmpI (ix pts pj) (ix pts pi)) (cmpI (ix wrong pi) (ix wrong pj)))) (by simp [results, Try.results51, go_sem]) rfl ?_
  exact ⟨rfl, (by (try simp only [ext_ext]); repeat (first | exact Kept.refl _ | apply Kept.alloc | apply Kept.drew | apply kept_add | apply Kept.ext))⟩
end Go.Proofs.Ytenmnipgnjaheaa
