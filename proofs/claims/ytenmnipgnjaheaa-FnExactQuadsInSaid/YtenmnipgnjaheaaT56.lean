/- Contracts: the cards at places of a hand; a copy of a row of numbers. -/
import Derived.Test.YtenmnipgnjaheaaT15
import Derived.Test.YtenmnipgnjaheaaT47
namespace Go.Proofs.Ytenmnipgnjaheaa
open Go.RowKit
/-- The cards of a list at some places. -/
def pk (xs : List Card) (b : List Int) : List Card := b.map fun j => cx xs j.toNat
theorem pk_len (xs : List Card) (b : List Int) : (pk xs b).length = b.length := by simp [pk]
theorem pk_get {xs : List Card} {b : List Int} {i : Nat} (h : i < b.length) : cx (pk xs b) i = cx xs (ix b i).toNat := by
  rw [cx_get _ _ (by rw [pk_len]; exact h), ix_get _ _ h]; simp [pk]
theorem take_ix (l : List Int) (k : Nat) (h : k < l.length) : l.take (k + 1) = l.take k ++ [ix l k] := by
  rw [ix_get _ _ h]; exact List.take_succ_eq_append_getElem h
theorem pk_next {xs : List Card} {b : List Int} {k p : Nat} (h : k < b.length) (hp : ix b k = p) : pk xs (b.take (k + 1)) = pk xs (b.take k) ++ [cx xs p] := by
  rw [take_ix b k h, pk, List.map_append, hp]; rfl
/-- Places of a list. -/
def plB (n : Nat) (b : List Int) : Prop := ∀ i, i < b.length → 0 ≤ ix b i ∧ ix b i < n
theorem plB_nat {n : Nat} {b : List Int} (h : plB n b) {i : Nat} (hi : i < b.length) : ∃ p : Nat, p < n ∧ ix b i = p := ⟨(ix b i).toNat, by have := h i hi; omega, by have := h i hi; omega⟩
theorem areC_pk {xs : List Card} {b : List Int} (hc : areC xs) (hb : plB xs.length b) : areC (pk xs b) := fun i hi => by
  rw [pk_len] at hi
  obtain ⟨p, hp, e⟩ := plB_nat hb hi
  rw [pk_get hi, e]
  exact hc p hp
theorem at_any (ao : Option Addr) (cap : Nat) (xs : List Card) (bo : Option Addr) (cap' n : Nat) (b : List Int) (w : World) (hn : b.length = n) (hx : CardsAt w ao xs) (hl : xs.length ≤ 1048576) (hb : IntsAt w bo b) (hbl : n ≤ 1048576) (hp : plB xs.length b) :
    Calls Try.prog 34 #[.slice ao xs.length cap, .slice bo n cap'] w (RetC w (pk xs b)) := by
  subst hn
  go_enter Try.func34, Try.ntmps34
  go_wp2
  go_loopw [11, 5] (fun i v wr => ∃ k : Nat, k ≤ b.length ∧ i = .int .i64 k ∧ OwnC w.heap.size wr v (pk xs (b.take k)) ∧ Kept w wr) (fun i _ _ => b.length - (intOf i).toNat)
  case atStart => exact ⟨0, Nat.zero_le _, rfl, show OwnC _ _ _ [] from ownC_nil (Nat.le_refl _) (heap_at rfl), (by (try simp only [ext_ext]); repeat (first | exact Kept.refl _ | apply Kept.alloc | apply Kept.drew | apply kept_add | apply Kept.ext))⟩
  case round =>
    obtain ⟨k, hk, rfl, hown, z, rfl⟩ := hrel
    have hownH := hid hown
    clear hown
    by_cases hlt : k < b.length
    · obtain ⟨g, off, rfl, hg, h1⟩ := hb k hlt
      obtain ⟨p, hpl, hpe⟩ := plB_nat hp hlt
      have hnx := hid (pk_next (xs := xs) hlt hpe)
      rw [hpe] at h1
      obtain ⟨g', off', rfl, hg', c1, c2, c3, c4⟩ := hx p hpl
      have hlen := hid (show (pk xs (b.take k)).length ≤ 1048576 by rw [pk_len, List.length_take]; omega)
      go_wp2_with (first | (at_builtin; refine wpList_append_card rfl _ _ rfl w _ _ rfl (hownH.out.kept (by (try simp only [ext_ext]); repeat (first | exact Kept.refl _ | apply Kept.alloc | apply Kept.drew | apply kept_add | apply Kept.ext))) (by (try simp only [ext_ext]); repeat (first | exact Kept.refl _ | apply Kept.alloc | apply Kept.drew | apply kept_add | apply Kept.ext)) _ _ (cx xs p) rfl ?_ hlen.out ?_; rotate_left; intro v' z' hown'))
      case refine_1 => exact cardCells_new _ (by simp)
      go_roundw
      case rel => exact ⟨k + 1, by omega, by go_num, by rw [hnx.out]; exact hown', (by (try simp only [ext_ext]); repeat (first | exact Kept.refl _ | apply Kept.alloc | apply Kept.drew | apply kept_add | apply Kept.ext))⟩
      case measure => simp [intOf]; omega
    · obtain rfl : k = b.length := by omega
      rw [List.take_length] at hownH
      go_wp2
      go_ret
      exact ⟨_, rfl, hownH.out.kept (by (try simp only [ext_ext]); repeat (first | exact Kept.refl _ | apply Kept.alloc | apply Kept.drew | apply kept_add | apply Kept.ext)), (by (try simp only [ext_ext]); repeat (first | exact Kept.refl _ | apply Kept.alloc | apply Kept.drew | apply kept_add | apply Kept.ext))⟩
/-- A copy of a row of numbers, and one number behind it: the row that a search hands on. -/
theorem l1Own_any (b : List Int) (n : Nat) (bo : Option Addr) (cap : Nat) (w : World) (hn : b.length = n) (hb : IntsAt w bo b) (h0 : bo = none → n = 0 ∧ cap = 0) (hl : n ≤ 1048576) :
    Calls Try.prog 45 #[.slice bo n cap] w (RetI w b) := by
  have hbH := hid hb
  have hnH := hid hn
  obtain ⟨i, hi, hz, hsz, hby⟩ := info_parts info_i64
  clear hb hn
  cases bo with
  | none =>
    obtain ⟨rfl, rfl⟩ := h0 rfl
    have e : b = [] := List.eq_nil_of_length_eq_zero hnH.out
    subst e
    go_enter Try.func45, Try.ntmps45
    go_wp2_with (first | (at_builtin; refine wpList_append_own_none rfl _ _ 33 rfl w.heap.size 3 i 1 Try.underlying33 hi _ 0 [] rfl (ownI_nil (Nat.le_refl _) (heap_at rfl)) rfl ?_))
    go_ret
    exact ⟨_, rfl, ownI_nil (Nat.le_refl _) (heap_at rfl), (by (try simp only [ext_ext]); repeat (first | exact Kept.refl _ | apply Kept.alloc | apply Kept.drew | apply kept_add | apply Kept.ext))⟩
  | some ad =>
    have hl1 := hid (show (vals1 b).length = n * 1 by simp [vals1, hnH.out])
    have hcell : Hid (∀ w', Kept w w' → ∀ j u, (vals1 b)[j]? = some u → w'.cell? (ad.add j) = some u) := hid fun w' hk j u hj => by
      have hlt : j < b.length := by
        have := (List.getElem?_eq_some_iff.1 hj).1
        simpa [vals1] using this
      obtain ⟨g, off, he, _, h1⟩ := (hbH.out.kept hk) j hlt
      cases he
      rw [Addr.add_lit, h1, ← hj, ix_get _ _ hlt]
      simp [vals1, hlt]
    have h1c : Hid (∀ u ∈ vals1 b, u.oneCell' = true) := hid fun u hu => by
      simp only [vals1, List.mem_map] at hu
      obtain ⟨z, _, rfl⟩ := hu
      rfl
    go_enter Try.func45, Try.ntmps45
    go_wp2_with (first | (at_builtin; go_loud (refine wpList_append_own_at _ rfl _ _ 33 rfl w.heap.size 3 i _ 1 8 Try.underlying33 hi hz hsz hby rfl (by decide) (.slice (some ⟨w.heap.size, 0, none⟩) 0 0) 0 [] rfl (ownI_nil (Nat.le_refl _) (heap_at rfl)) ad n cap (vals1 b) rfl hl1.out (hcell.out _ (by (try simp only [ext_ext]); repeat (first | exact Kept.refl _ | apply Kept.alloc | apply Kept.drew | apply kept_add | apply Kept.ext))) h1c.out (by unfold maxLen; omega) (by omega) (by simp) ?_); intro v' w' hown hg _ hat))
    refine bodyPost_ret (v := v') (by simp [results, Try.results45, go_sem]) rfl ?_
    refine ⟨v', rfl, ?_, (show Kept w _ from (by (try simp only [ext_ext]); repeat (first | exact Kept.refl _ | apply Kept.alloc | apply Kept.drew | apply kept_add | apply Kept.ext))).grown hg fun k hk => by cases hk; exact Nat.le_refl _⟩
    unfold OwnI
    rw [hnH.out]
    simpa using hown
end Go.Proofs.Ytenmnipgnjaheaa
