/- Contracts: whether a deal is valid. -/
import Derived.Test.YtjlaoocomkonhaaT35
import Derived.Test.YtjlaoocomkonhaaT34
import Derived.Test.YtjlaoocomkonhaaT8
namespace Go.Proofs.Ytjlaoocomkonhaa
open Go.RowKit
/-- A slice's first cards. -/
theorem CardsAt.take {w : World} {ao : Option Addr} {cs : List Card} (h : CardsAt w ao cs) {i : Nat} (hi : i ≤ cs.length) : CardsAt w ao (cs.take i) := by
  intro j hj
  have hj' : j < i := by rw [List.length_take] at hj; omega
  have e : cx (cs.take i) j = cx cs j := by rw [cx_get _ _ hj, cx_get _ _ (by omega), List.getElem_take]
  rw [e]
  exact h j (by omega)
theorem take_lenC {cs : List Card} {i : Nat} (hi : i ≤ cs.length) : (cs.take i).length = i := by rw [List.length_take]; omega
theorem OwnC.cardsN {B : Nat} {w : World} {g cap n : Nat} {cs : List Card} (h : OwnC B w (.slice (some ⟨g, 0, none⟩) n cap) cs) (hn : cs.length = n) : CardsAt w (some ⟨g, 0, none⟩) cs := by
  subst hn
  obtain ⟨ao, cap', hv, hx, _⟩ := h.reads
  cases hv
  exact hx
theorem OwnC.capN {B : Nat} {w : World} {g cap n : Nat} {cs : List Card} (h : OwnC B w (.slice (some ⟨g, 0, none⟩) n cap) cs) (hn : cs.length = n) : n ≤ cap := by
  subst hn
  obtain ⟨ao, cap', hv, _, hc⟩ := h.reads
  cases hv
  exact hc
def layAt (P : List Card) (n : Nat) (laid : List Card) (i : Nat) : Bool := hasC (P.take n) (cx laid i) && !hasC (laid.take i) (cx laid i)
def layB (P : List Card) (n : Nat) (laid : List Card) : Bool := (List.range laid.length).all fun i => layAt P n laid i
theorem layB_no {P : List Card} {n : Nat} {laid : List Card} {i : Nat} (hi : i < laid.length) (h : layAt P n laid i = false) : layB P n laid = false := by
  cases hp : layB P n laid with
  | false => rfl
  | true =>
    have := List.all_eq_true.1 hp i (List.mem_range.2 hi)
    rw [h] at this; cases this
theorem layB_yes {P : List Card} {n : Nat} {laid : List Card} (h : ∀ i, i < laid.length → layAt P n laid i = true) : layB P n laid = true :=
  List.all_eq_true.2 fun i hi => h i (List.mem_range.1 hi)
theorem hasC_mem (xs : List Card) (c : Card) : hasC xs c = decide (c ∈ xs) := by
  rw [Bool.eq_iff_iff]
  simp [hasC]
theorem sub_len : ∀ {l m : List Card}, l.Nodup → (∀ x, x ∈ l → x ∈ m) → l.length ≤ m.length
  | [], m, _, _ => Nat.zero_le _
  | x :: l, m, hn, hs => by
    rw [List.nodup_cons] at hn
    have hx := hs x (by simp)
    have h1 := sub_len (l := l) (m := m.erase x) hn.2 fun y hy => (List.mem_erase_of_ne (fun e => hn.1 (by rw [← e]; exact hy))).2 (hs y (by simp [hy]))
    have h2 := List.length_erase_of_mem hx
    have h3 := List.length_pos_of_mem hx
    simp only [List.length_cons]; omega
theorem lay_le {P : List Card} {n : Nat} {laid : List Card} (h : layB P n laid = true) : laid.length ≤ n := by
  have key : ∀ k, k ≤ laid.length → (laid.take k).Nodup ∧ ∀ x, x ∈ laid.take k → x ∈ P.take n := by
    intro k
    induction k with
    | zero => intro _; simp
    | succ k ih =>
      intro hk
      obtain ⟨h1, h2⟩ := ih (by omega)
      have := List.all_eq_true.1 h k (List.mem_range.2 (by omega))
      simp only [layAt, Bool.and_eq_true, hasC_mem, decide_eq_true_eq, Bool.not_eq_true', decide_eq_false_iff_not] at this
      rw [take_cx laid k (by omega)]
      refine ⟨List.nodup_append.2 ⟨h1, by simp, fun a ha b hb => ?_⟩, fun x hx => ?_⟩
      · rw [List.mem_singleton] at hb
        rw [hb]
        intro e
        exact this.2 (e ▸ ha)
      · rcases List.mem_append.1 hx with h' | h'
        · exact h2 x h'
        · rw [List.mem_singleton] at h'; rw [h']; exact this.1
  obtain ⟨h1, h2⟩ := key laid.length (Nat.le_refl _)
  rw [List.take_of_length_le (Nat.le_refl _)] at h1 h2
  have h3 := sub_len h1 h2
  rw [List.length_take] at h3
  omega
def dealB (s n : Int) (laid : List Card) : Bool := inB s 0 65535 && inB n 0 81 && decide ((laid.length : Int) ≤ n) && layB (pileC s) n.toNat laid
end Go.Proofs.Ytjlaoocomkonhaa
