/- Contracts: the marks that a law writes into rows, and reads again. -/
import Derived.Test.YtjlaoocomkonhaaT12
namespace Go.Proofs.Ytjlaoocomkonhaa
open Go.RowKit
/-- Numbers that count on. -/
def marks (k : Int) (n : Nat) : List Value := (List.range n).map fun i => Value.int .i64 (k + (i : Nat))
theorem marks_len (k : Int) (n : Nat) : (marks k n).length = n := by simp [marks]
theorem marks_get (k : Int) {n i : Nat} (h : i < n) : (marks k n)[i]? = some (.int .i64 (k + (i : Nat))) := by simp [marks, h]
/-- A row whose first cells are marked. -/
def mkd (k : Int) (cur : Array Value) (t : Nat) : Array Value := (marks k t ++ cur.toList.drop t).toArray
theorem mkd_zero (k : Int) (cur : Array Value) : mkd k cur 0 = cur := by simp [mkd, marks]
theorem mkd_size (k : Int) (cur : Array Value) {t : Nat} (h : t ≤ cur.size) : (mkd k cur t).size = cur.size := by
  simp [mkd, marks_len]; omega
theorem mkd_low (k : Int) (cur : Array Value) {t i : Nat} (h : i < t) : (mkd k cur t)[i]? = some (.int .i64 (k + (i : Nat))) := by
  simp only [mkd, List.getElem?_toArray]
  rw [List.getElem?_append_left (by rw [marks_len]; exact h), marks_get k h]
theorem mkd_high (k : Int) (cur : Array Value) {t i : Nat} (h : t ≤ i) : (mkd k cur t)[i]? = cur[i]? := by
  simp only [mkd, List.getElem?_toArray]
  rw [List.getElem?_append_right (by rw [marks_len]; exact h), marks_len, List.getElem?_drop, show t + (i - t) = i by omega]
  simp
theorem mkd_some (k : Int) {cur : Array Value} {t : Nat} (h : t < cur.size) : ∃ v, (mkd k cur t)[t]? = some v :=
  ⟨_, Array.getElem?_eq_getElem (by rw [mkd_size k cur (by omega)]; exact h)⟩
theorem mkd_set (k : Int) {cur : Array Value} {t : Nat} (h : t < cur.size) : (mkd k cur t).setIfInBounds t (.int .i64 (k + (t : Nat))) = mkd k cur (t + 1) := by
  apply Array.ext_getElem?
  intro i
  rw [Array.getElem?_setIfInBounds, mkd_size k cur (by omega)]
  by_cases hi : t = i
  · subst hi
    rw [if_pos rfl, if_pos h, mkd_low k cur (by omega)]
  · rw [if_neg hi]
    by_cases hl : i < t
    · rw [mkd_low k cur hl, mkd_low k cur (by omega)]
    · rw [mkd_high k cur (by omega), mkd_high k cur (by omega)]
theorem mkd_take (k : Int) (cur : Array Value) (t : Nat) : (mkd k cur t).toList.take t = marks k t := by
  simp only [mkd]
  rw [List.take_append_of_le_length (by rw [marks_len]; exact Nat.le_refl _), List.take_of_length_le (by rw [marks_len]; exact Nat.le_refl _)]
theorem row_kept {w w' : World} {B n len : Nat} {t : TypeId} {v : Value} {cells : List Value} (h : w.ownsRow B t n v len cells) (hk : Kept w w') : w'.ownsRow B t n v len cells :=
  World.ownsRow.kept h ⟨hk.below.os, hk.below.tape, hk.below.output, hk.below.size, fun k hk' _ => hk.below.block k hk'⟩ (by cases v.ownBlock <;> simp) (row := none)
theorem grown_refl (w : World) (row : Option Nat) : w.grownBy w row := ⟨rfl, rfl, rfl, Nat.le_refl _, fun _ _ _ => rfl⟩
theorem grown_setCell {w w' : World} {row : Option Nat} (h : w.grownBy w' row) {p : Addr} (hp : row = some p.block) (u : Value) : w.grownBy (w'.setCell p u) row := by
  subst hp
  refine h.trans ⟨rfl, rfl, rfl, by simp, fun k _ hk => heap_setCell_other _ _ _ _ (fun e => hk (by rw [e]))⟩
theorem markIntA4S_any (v : Value) (n : Nat) (cells : List Value) (B : Nat) (k : Int) (w : World) (h : w.ownsRow B 29 4 v n cells) (hn : n ≤ 1048576) (hk : 0 ≤ k) (hk' : k ≤ 10) :
    Calls Try.prog 12 #[v, .int .i64 k] w fun e w' => e = .returned (.int .i64 (k + n * 4)) ∧ w'.ownsRow B 29 4 v n (marks k (n * 4)) ∧ w.grownBy w' v.ownBlock := by
  rcases h.2 with ⟨rfl, h0⟩ | ⟨g, cap, cur, rfl, hb, hg, hcap, hmax, hs, ht⟩
  · subst h0
    go_enter Try.func12, Try.ntmps12
    go_wp2
    refine wp_loop_rounds 1 ?_
    rw [rounds_succ]
    go_wp2
    go_ret
    exact ⟨ret_of (by simp), ⟨by simp [marks], .inl ⟨rfl, rfl⟩⟩, grown_refl _ _⟩
  · have hgs := (Array.getElem?_eq_some_iff.1 hg).1
    have hown := hid (show ∀ wr : World, wr.heap[g]? = some (.cells (mkd k cur (n * 4)) 29) → wr.ownsRow B 29 4 (.slice (some ⟨g, 0, none⟩) n cap) n (marks k (n * 4)) from fun wr hw => ⟨by simp [marks], .inr ⟨g, cap, _, rfl, hb, hw, hcap, hmax, by rw [mkd_size _ _ (by rw [hs]; exact Nat.mul_le_mul_right _ hcap), hs], mkd_take _ _ _⟩⟩)
    have hsH := hid (show n * 4 ≤ cur.size by rw [hs]; exact Nat.mul_le_mul_right _ hcap)
    clear hs ht hmax hcap
    go_enter Try.func12, Try.ntmps12
    go_wp2
    go_loopw [5, 1] (fun i s wr => ∃ m : Nat, m ≤ n ∧ i = .int .i64 m ∧ s = .int .i64 (k + (m * 4 : Nat)) ∧ wr.heap[g]? = some (.cells (mkd k cur (m * 4)) 29) ∧ w.grownBy wr (some g)) (fun i _ _ => n - (intOf i).toNat)
    case atStart => exact ⟨0, Nat.zero_le _, rfl, by simp, by rw [Nat.zero_mul, mkd_zero]; exact hg, grown_refl _ _⟩
    case round wr =>
      obtain ⟨m, hm, rfl, rfl, hw, hgr⟩ := hrel
      by_cases hlt : m < n
      · have hwH := hid hw
        have hgrH := hid hgr
        clear hw hgr
        go_wp2
        go_loopw [6, 1] (fun j s wr => ∃ q : Nat, q ≤ 4 ∧ j = .int .i64 q ∧ s = .int .i64 (k + (m * 4 + q : Nat)) ∧ wr.heap[g]? = some (.cells (mkd k cur (m * 4 + q)) 29) ∧ w.grownBy wr (some g)) (fun j _ _ => 4 - (intOf j).toNat)
        case atStart => exact ⟨0, Nat.zero_le _, rfl, by simp, hwH.out, hgrH.out⟩
        case round wr =>
          obtain ⟨q, hq, rfl, rfl, hw, hgr⟩ := hrel
          have hwH := hid hw
          have hgrH := hid hgr
          by_cases hlt2 : q < 4
          · have hlen := hid (show m * 4 + q < cur.size by have := hsH.out; omega)
            obtain ⟨v0, hv0⟩ := mkd_some k (cur := cur) (t := m * 4 + q) hlen.out
            have hc := (cell_of_row _ g (m * 4 + q) _ _ (0, 0) hw).trans hv0
            have hf := frozen_of_row _ g (m * 4 + q) _ _ hw
            have hset := hid (mkd_set k (cur := cur) (t := m * 4 + q) hlen.out)
            clear hw hgr hv0
            go_wp2
            go_roundw
            case rel =>
              refine ⟨q + 1, by omega, by go_num, by go_num, ?_, ?_⟩
              · rw [heap_setCell_same _ _ _ _ _ _ hwH.out]
                first | exact congrArg (fun c => some (Obj.cells c 29 (0, 0))) hset.out
              · exact grown_setCell hgrH.out (p := ⟨g, _, none⟩) rfl _
            case measure => simp [intOf]; omega
          · obtain rfl : q = 4 := by omega
            clear hw hgr
            go_wp2
            go_roundw
            case rel => exact ⟨m + 1, hlt, by go_num, by go_num, by rw [Nat.add_mul, Nat.one_mul]; exact hwH.out, hgrH.out⟩
            case measure => simp [intOf]; omega
      · obtain rfl : m = n := by omega
        go_wp2
        go_ret
        exact ⟨ret_of (by simp), hown.out _ hw, hgr⟩
theorem heldIntA4S_any (v : Value) (n : Nat) (B : Nat) (k : Int) (w : World) (h : w.ownsRow B 29 4 v n (marks k (n * 4))) (hn : n ≤ 1048576) (hk : 0 ≤ k) (hk' : k ≤ 10) :
    Calls Try.prog 13 #[v, .int .i64 k] w fun e w' => e = .returned (.int .i64 (k + n * 4)) ∧ Kept w w' := by
  have hcell := fun g (hg : v.ownBlock = some g) => World.ownsRow.cells h (g := g) hg
  rcases h.2 with ⟨rfl, h0⟩ | ⟨g, cap, cur, rfl, hb, hg, hcap, hmax, hs, ht⟩
  · subst h0
    go_enter Try.func13, Try.ntmps13
    go_wp2
    refine wp_loop_rounds 1 ?_
    rw [rounds_succ]
    go_wp2
    go_ret
    exact ⟨ret_of (by simp), (by (try simp only [ext_ext]); repeat (first | exact Kept.refl _ | apply Kept.alloc | apply Kept.drew | apply kept_add | apply Kept.ext))⟩
  · have hgs := (Array.getElem?_eq_some_iff.1 hg).1
    have hcH := hid (hcell g rfl)
    clear hcell hs ht hmax hcap h hg
    go_enter Try.func13, Try.ntmps13
    go_wp2
    go_loopw [5, 1] (fun i s wr => ∃ m : Nat, m ≤ n ∧ i = .int .i64 m ∧ s = .int .i64 (k + (m * 4 : Nat)) ∧ Kept w wr) (fun i _ _ => n - (intOf i).toNat)
    case atStart => exact ⟨0, Nat.zero_le _, rfl, by simp, (by (try simp only [ext_ext]); repeat (first | exact Kept.refl _ | apply Kept.alloc | apply Kept.drew | apply kept_add | apply Kept.ext))⟩
    case round =>
      obtain ⟨m, hm, rfl, rfl, z, rfl⟩ := hrel
      by_cases hlt : m < n
      · go_wp2
        go_loopw [6, 1] (fun j s wr => ∃ q : Nat, q ≤ 4 ∧ j = .int .i64 q ∧ s = .int .i64 (k + (m * 4 + q : Nat)) ∧ Kept w wr) (fun j _ _ => 4 - (intOf j).toNat)
        case atStart => exact ⟨0, Nat.zero_le _, rfl, by simp, (by (try simp only [ext_ext]); repeat (first | exact Kept.refl _ | apply Kept.alloc | apply Kept.drew | apply kept_add | apply Kept.ext))⟩
        case round =>
          obtain ⟨q, hq, rfl, rfl, z, rfl⟩ := hrel
          by_cases hlt2 : q < 4
          · have hc := hcH.out (m * 4 + q) (.int .i64 (k + (m * 4 + q : Nat))) (marks_get k (by omega))
            rw [Addr.add_lit, Nat.zero_add] at hc
            go_wp2
            go_roundw
            case rel => exact ⟨q + 1, by omega, by go_num, by go_num, (by (try simp only [ext_ext]); repeat (first | exact Kept.refl _ | apply Kept.alloc | apply Kept.drew | apply kept_add | apply Kept.ext))⟩
            case measure => simp [intOf]; omega
          · obtain rfl : q = 4 := by omega
            go_wp2
            go_roundw
            case rel => exact ⟨m + 1, hlt, by go_num, by go_num, (by (try simp only [ext_ext]); repeat (first | exact Kept.refl _ | apply Kept.alloc | apply Kept.drew | apply kept_add | apply Kept.ext))⟩
            case measure => simp [intOf]; omega
      · obtain rfl : m = n := by omega
        go_wp2
        go_ret
        exact ⟨ret_of (by simp), (by (try simp only [ext_ext]); repeat (first | exact Kept.refl _ | apply Kept.alloc | apply Kept.drew | apply kept_add | apply Kept.ext))⟩
end Go.Proofs.Ytjlaoocomkonhaa
