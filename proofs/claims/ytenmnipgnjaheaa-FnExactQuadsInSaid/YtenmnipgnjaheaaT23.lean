/- Plain laws of the lines of a list: they ascend, and two of them have at most one card in common. -/
import Derived.Test.YtenmnipgnjaheaaT22
import Derived.Test.YtenmnipgnjaheaaT17
namespace Go.Proofs.Ytenmnipgnjaheaa
open Go.RowKit
/-- The order of lines by their first two places. -/
def lnLt (x y : Ln) : Prop := x.a < y.a ∨ (x.a = y.a ∧ x.b < y.b)
theorem lineAt_ab {xs : List Card} {i k : Nat} {l : Ln} (h : l ∈ lineAt xs i k) : l.a = i ∧ l.b = k := by
  unfold lineAt at h
  split at h
  · rw [List.mem_singleton] at h; subst h; exact ⟨rfl, rfl⟩
  · cases h
theorem lineAt_pair (xs : List Card) (i k : Nat) : List.Pairwise lnLt (lineAt xs i k) := by
  unfold lineAt
  split
  · exact List.pairwise_singleton _ _
  · exact List.Pairwise.nil
theorem linesMid_pair (xs : List Card) (i m : Nat) : List.Pairwise lnLt (linesMid xs i m) := by
  unfold linesMid
  rw [List.pairwise_flatMap]
  refine ⟨fun j _ => lineAt_pair _ _ _, ?_⟩
  refine List.Pairwise.imp ?_ (List.pairwise_lt_range (n := m))
  intro j1 j2 hj x hx y hy
  obtain ⟨x1, x2⟩ := lineAt_ab hx
  obtain ⟨y1, y2⟩ := lineAt_ab hy
  exact .inr ⟨by omega, by omega⟩
theorem linesMid_a {xs : List Card} {i m : Nat} {l : Ln} (h : l ∈ linesMid xs i m) : l.a = i := by
  simp only [linesMid, List.mem_flatMap, List.mem_range] at h
  obtain ⟨j, _, h⟩ := h
  exact (lineAt_ab h).1
theorem linesC_pair (xs : List Card) : List.Pairwise lnLt (linesC xs) := by
  unfold linesC linesTo
  rw [List.pairwise_flatMap]
  refine ⟨fun i _ => linesMid_pair _ _ _, ?_⟩
  refine List.Pairwise.imp ?_ (List.pairwise_lt_range (n := xs.length))
  intro i1 i2 hi x hx y hy
  have := linesMid_a hx
  have := linesMid_a hy
  exact .inl (by omega)
theorem linesC_lt {xs : List Card} {i j : Nat} (h : i < j) (hj : j < (linesC xs).length) : lnLt (lx (linesC xs) i) (lx (linesC xs) j) := by
  rw [lx_get _ _ hj, lx_get _ _ (Nat.lt_trans h hj)]
  exact List.pairwise_iff_getElem.1 (linesC_pair xs) i j (Nat.lt_trans h hj) hj h
theorem lnLt_ne {x y : Ln} (h : lnLt x y) : x ≠ y := by
  intro e; subst e
  rcases h with h | ⟨_, h⟩ <;> omega
theorem third_back {x y z : Card} (hx : isCard x = true) (hy : isCard y = true) (h : z = thirdC x y) : thirdC x z = y ∧ thirdC y z = x := by
  obtain ⟨x1, x2, x3, x4⟩ := isCard_of hx
  obtain ⟨y1, y2, y3, y4⟩ := isCard_of hy
  subst h
  obtain ⟨a, b, c, d⟩ := x
  obtain ⟨a', b', c', d'⟩ := y
  simp only at x1 x2 x3 x4 y1 y2 y3 y4
  simp only [thirdC, thirdT, Card.mk.injEq]
  omega
theorem two_common {xs : List Card} (hc : areC xs) (hd : distC xs) {a b : Ln} (ha : a ∈ linesC xs) (hb : b ∈ linesC xs) (h : 2 ≤ comI a b) : a = b := by
  obtain ⟨i, k, m, rfl, h1, h2, h3, h4⟩ := mem_linesC ha
  obtain ⟨i', k', m', rfl, p1, p2, p3, p4⟩ := mem_linesC hb
  obtain ⟨t2, t3⟩ := third_back (hc i (by omega)) (hc k (by omega)) h4
  obtain ⟨u2, u3⟩ := third_back (hc i' (by omega)) (hc k' (by omega)) p4
  have h5 : (isIn ⟨i', k', m'⟩ i = true ∧ isIn ⟨i', k', m'⟩ k = true) ∨ (isIn ⟨i', k', m'⟩ i = true ∧ isIn ⟨i', k', m'⟩ m = true) ∨ (isIn ⟨i', k', m'⟩ k = true ∧ isIn ⟨i', k', m'⟩ m = true) := by
    simp only [comI, rsum, in01] at h
    have e0 : lnF ⟨i, k, m⟩ 0 = (i : Int) := rfl
    have e1 : lnF ⟨i, k, m⟩ 1 = (k : Int) := rfl
    have e2 : lnF ⟨i, k, m⟩ 2 = (m : Int) := rfl
    rw [e0, e1, e2] at h
    cases q1 : isIn ⟨i', k', m'⟩ (i : Int) <;> cases q2 : isIn ⟨i', k', m'⟩ (k : Int) <;> cases q3 : isIn ⟨i', k', m'⟩ (m : Int) <;> simp [q1, q2, q3] at h ⊢
  have one : ∀ x : Nat, isIn ⟨i', k', m'⟩ (x : Int) = true → x = i' ∨ x = k' ∨ x = m' := fun x hx => by
    simp only [isIn, List.any_cons, List.any_nil, Bool.or_false, Bool.or_eq_true, decide_eq_true_eq] at hx
    omega
  have fin : ∀ {x y : Nat}, x < xs.length → y < xs.length → ∀ {c : Card}, cx xs x = c → cx xs y = c → x = y := fun hx hy _ e1 e2 => hd _ _ hx hy (e1.trans e2.symm)
  rcases h5 with ⟨q1, q2⟩ | ⟨q1, q2⟩ | ⟨q1, q2⟩ <;> rcases one _ q1 with e1 | e1 | e1 <;> rcases one _ q2 with e2 | e2 | e2
  all_goals first | (exfalso; omega) | skip
  all_goals
    subst e1 e2
    first
    | (have e := fin (by omega) (by omega) h4 p4; first | (exfalso; omega) | (simp only [e]))
    | (have e := fin (by omega) (by omega) h4 u2.symm; first | (exfalso; omega) | (simp only [e]))
    | (have e := fin (by omega) (by omega) h4 u3.symm; first | (exfalso; omega) | (simp only [e]))
    | (have e := fin (by omega) (by omega) t2.symm p4; first | (exfalso; omega) | (simp only [e]))
    | (have e := fin (by omega) (by omega) t2.symm u2.symm; first | (exfalso; omega) | (simp only [e]))
    | (have e := fin (by omega) (by omega) t2.symm u3.symm; first | (exfalso; omega) | (simp only [e]))
    | (have e := fin (by omega) (by omega) t3.symm p4; first | (exfalso; omega) | (simp only [e]))
    | (have e := fin (by omega) (by omega) t3.symm u2.symm; first | (exfalso; omega) | (simp only [e]))
    | (have e := fin (by omega) (by omega) t3.symm u3.symm; first | (exfalso; omega) | (simp only [e]))
/-- Two lines have no card or one in common. -/
theorem comI_lines {xs : List Card} (hc : areC xs) (hd : distC xs) {i j : Nat} (h : j < i) (hi : i < (linesC xs).length) : comI (lx (linesC xs) i) (lx (linesC xs) j) = 0 ∨ comI (lx (linesC xs) i) (lx (linesC xs) j) = 1 := by
  have hb := comI_bd (lx (linesC xs) i) (lx (linesC xs) j)
  by_cases h2 : 2 ≤ comI (lx (linesC xs) i) (lx (linesC xs) j)
  · exact absurd (two_common hc hd (lx_mem hi) (lx_mem (by omega)) h2).symm (lnLt_ne (linesC_lt h hi))
  · omega
/-- On lines both ways to count are one. -/
theorem comS_lines {xs : List Card} {a : Ln} {j : Nat} (hj : j < (linesC xs).length) : comS a (lx (linesC xs) j) = comI a (lx (linesC xs) j) := by
  obtain ⟨i, k, m, e, h1, h2, h3, _⟩ := linesC_at hj
  rw [e]
  exact comS_comI (by simp only; omega) (by simp only; omega)
end Go.Proofs.Ytenmnipgnjaheaa
