/- Contracts: the marks that a law writes into a game; a game in a variable. -/
import Derived.Test.YtenmnipgnjaheaaT34
namespace Go.Proofs.Ytenmnipgnjaheaa
open Go.RowKit
/-- A game in a block. -/
def Box5 (w : World) (g : Nat) (s n : Int) (a b c : Value) : Prop :=
  g < w.heap.size ∧ w.cell? ⟨g, 0, none⟩ = some (.int .i64 s) ∧ w.cell? ⟨g, 1, none⟩ = some (.int .i64 n) ∧ w.cell? ⟨g, 2, none⟩ = some a ∧ w.cell? ⟨g, 3, none⟩ = some b ∧ w.cell? ⟨g, 4, none⟩ = some c
theorem Box5.kept {w w' : World} {g : Nat} {s n : Int} {a b c : Value} (h : Box5 w g s n a b c) (hk : Kept w w') : Box5 w' g s n a b c := by
  obtain ⟨h0, h1, h2, h3, h4, h5⟩ := h
  have hb := hk.below
  exact ⟨Nat.lt_of_lt_of_le h0 hb.size, (hb.cell (p := ⟨_, _, none⟩) h0).trans h1, (hb.cell (p := ⟨_, _, none⟩) h0).trans h2, (hb.cell (p := ⟨_, _, none⟩) h0).trans h3, (hb.cell (p := ⟨_, _, none⟩) h0).trans h4, (hb.cell (p := ⟨_, _, none⟩) h0).trans h5⟩
theorem Box5.grown {w w' : World} {g : Nat} {s n : Int} {a b c : Value} {row : Option Nat} (h : Box5 w g s n a b c) (hg : w.grownBy w' row) (hr : row ≠ some g) : Box5 w' g s n a b c := by
  obtain ⟨h0, h1, h2, h3, h4, h5⟩ := h
  have hb : w'.heap[g]? = w.heap[g]? := hg.block g h0 (Ne.symm hr)
  exact ⟨Nat.lt_of_lt_of_le h0 hg.size, (cell_block hb _).trans h1, (cell_block hb _).trans h2, (cell_block hb _).trans h3, (cell_block hb _).trans h4, (cell_block hb _).trans h5⟩
theorem Box5.new {w : World} {g : Nat} {t : TypeId} (s n : Int) (a b c : Value) (hg : g = w.heap.size) : Box5 (w.alloc (.cells #[.int .i64 s, .int .i64 n, a, b, c] t)) g s n a b c := by
  have hh := heap_at (o := .cells #[.int .i64 s, .int .i64 n, a, b, c] t) hg
  exact ⟨by simp; omega, cell_of_row _ g 0 _ t (0, 0) hh, cell_of_row _ g 1 _ t (0, 0) hh, cell_of_row _ g 2 _ t (0, 0) hh, cell_of_row _ g 3 _ t (0, 0) hh, cell_of_row _ g 4 _ t (0, 0) hh⟩
theorem markIntS_big (v : Value) (n : Nat) (cells : List Value) (B : Nat) (k : Int) (w : World) (h : w.ownsRow B 3 1 v n cells) (hn : n ≤ 1048576) (hk : 0 ≤ k) (hk' : k ≤ 100000000) :
    Calls Try.prog 23 #[v, .int .i64 k] w fun e w' => e = .returned (.int .i64 (k + n)) ∧ w'.ownsRow B 3 1 v n (marks k n) ∧ w.grownBy w' v.ownBlock := by
  rcases h.2 with ⟨rfl, h0⟩ | ⟨g, cap, cur, rfl, hb, hg, hcap, hmax, hs, ht⟩
  · subst h0
    go_enter Try.func23, Try.ntmps23
    go_wp2
    refine wp_loop_rounds 1 ?_
    rw [rounds_succ]
    go_wp2
    go_ret
    exact ⟨ret_of (by simp), ⟨by simp [marks], .inl ⟨rfl, rfl⟩⟩, grown_refl _ _⟩
  · have hgs := (Array.getElem?_eq_some_iff.1 hg).1
    have hs' : n ≤ cur.size := by omega
    have hown := hid (show ∀ wr : World, wr.heap[g]? = some (.cells (mkd k cur n) 3) → wr.ownsRow B 3 1 (.slice (some ⟨g, 0, none⟩) n cap) n (marks k n) from fun wr hw => ⟨by simp [marks], .inr ⟨g, cap, _, rfl, hb, hw, hcap, hmax, by rw [mkd_size _ _ hs', hs], by rw [Nat.mul_one]; exact mkd_take _ _ _⟩⟩)
    have hsH := hid hs'
    clear hs ht hmax hcap hs'
    go_enter Try.func23, Try.ntmps23
    go_wp2
    go_loopw [5, 1] (fun i s wr => ∃ m : Nat, m ≤ n ∧ i = .int .i64 m ∧ s = .int .i64 (k + m) ∧ wr.heap[g]? = some (.cells (mkd k cur m) 3) ∧ w.grownBy wr (some g)) (fun i _ _ => n - (intOf i).toNat)
    case atStart => exact ⟨0, Nat.zero_le _, rfl, by simp, by rw [mkd_zero]; exact hg, grown_refl _ _⟩
    case round wr =>
      obtain ⟨m, hm, rfl, rfl, hw, hgr⟩ := hrel
      by_cases hlt : m < n
      · have hwH := hid hw
        have hgrH := hid hgr
        have hlen := hid (show m < cur.size by have := hsH.out; omega)
        obtain ⟨v0, hv0⟩ := mkd_some k (cur := cur) (t := m) hlen.out
        have hc := (cell_of_row _ g m _ _ (0, 0) hw).trans hv0
        have hf := frozen_of_row _ g m _ _ hw
        have hset := hid (mkd_set k (cur := cur) (t := m) hlen.out)
        clear hw hgr hv0
        go_wp2
        go_roundw
        case rel =>
          refine ⟨m + 1, by omega, by go_num, by go_num, ?_, ?_⟩
          · rw [heap_setCell_same _ _ _ _ _ _ hwH.out]
            exact congrArg (fun c => some (Obj.cells c 3 (0, 0))) hset.out
          · exact grown_setCell hgrH.out (p := ⟨g, _, none⟩) rfl _
        case measure => simp [intOf]; omega
      · obtain rfl : m = n := by omega
        go_wp2
        go_ret
        exact ⟨rfl, hown.out _ hw, hgr⟩
theorem markDeal_any (s n : Int) (lo : Option Addr) (lc B : Nat) (laid : List Card) (k : Int) (w : World) (h : OwnC B w (.slice lo laid.length lc) laid) (hl : laid.length ≤ 1048576) (hk : 0 ≤ k) (hk' : k ≤ 10) :
    Calls Try.prog 55 #[dv s n (.slice lo laid.length lc), .int .i64 k] w fun e w' => e = .returned (.int .i64 (k + laid.length * 4)) ∧ ∃ u1, Kept w u1 ∧ u1.grownBy w' (Value.slice lo laid.length lc).ownBlock := by
  go_enter Try.func55, Try.ntmps55
  go_wp2_with (fail)
  (go_at_call 12; refine Calls.mono (markIntA4S_any _ _ _ B k _ (h.kept (by (try simp only [ext_ext]); repeat (first | exact Kept.refl _ | apply Kept.alloc | apply Kept.drew | apply kept_add | apply Kept.ext))) hl hk hk') ?_; rintro e w1 ⟨rfl, _, g1⟩)
  go_wp2_with (fail)
  go_ret
  exact ⟨rfl, _, (by (try simp only [ext_ext]); repeat (first | exact Kept.refl _ | apply Kept.alloc | apply Kept.drew | apply kept_add | apply Kept.ext)), g1⟩
theorem markGame_any (s n : Int) (lo so wo : Option Addr) (lc sc wc B : Nat) (laid : List Card) (scores wrong : List Int) (k : Int) (w : World) (h : OwnC B w (.slice lo laid.length lc) laid) (hs : OwnI B w (.slice so scores.length sc) scores) (hw : OwnI B w (.slice wo wrong.length wc) wrong)
    (a1 : ∀ g, (Value.slice lo laid.length lc).ownBlock = some g → (Value.slice so scores.length sc).ownBlock ≠ some g) (a2 : ∀ g, (Value.slice lo laid.length lc).ownBlock = some g → (Value.slice wo wrong.length wc).ownBlock ≠ some g)
    (a3 : ∀ g, (Value.slice so scores.length sc).ownBlock = some g → (Value.slice wo wrong.length wc).ownBlock ≠ some g)
    (hl : laid.length ≤ 1048576) (hl2 : scores.length ≤ 1048576) (hl3 : wrong.length ≤ 1048576) (hk : 0 ≤ k) (hk' : k ≤ 10) :
    Calls Try.prog 22 #[gv s n (.slice lo laid.length lc) (.slice so scores.length sc) (.slice wo wrong.length wc), .int .i64 k] w fun e w' => ∃ k', e = .returned (.int .i64 k') ∧ 0 ≤ k' ∧
      ∃ u1 u2 u3, Kept w u1 ∧ u1.grownBy u2 (Value.slice lo laid.length lc).ownBlock ∧ u2.grownBy u3 (Value.slice so scores.length sc).ownBlock ∧ u3.grownBy w' (Value.slice wo wrong.length wc).ownBlock := by
  have m1 : (0 : Int) ≤ k + (laid.length : Int) * 4 := by omega
  have m1' : k + (laid.length : Int) * 4 ≤ 100000000 := by omega
  have m2 : (0 : Int) ≤ k + (laid.length : Int) * 4 + (scores.length : Int) := by omega
  have m2' : k + (laid.length : Int) * 4 + (scores.length : Int) ≤ 100000000 := by omega
  have bx := hid (fun (w' : World) (hk : Kept (w.alloc (.cells #[.int .i64 s, .int .i64 n, .slice lo laid.length lc, .slice so scores.length sc, .slice wo wrong.length wc] 41)) w') => (Box5.new (t := 41) s n (.slice lo laid.length lc) (.slice so scores.length sc) (.slice wo wrong.length wc) (rfl : w.heap.size = w.heap.size)).kept hk)
  go_enter Try.func22, Try.ntmps22
  go_wp2_with (fail)
  (go_at_call 55; refine Calls.mono (markDeal_any s n _ _ B laid k _ (h.kept (by (try simp only [ext_ext]); repeat (first | exact Kept.refl _ | apply Kept.alloc | apply Kept.drew | apply kept_add | apply Kept.ext))) hl hk hk') ?_; rintro e w1 ⟨rfl, u1, k1, g1⟩)
  have hs1 := ((hs.kept (by (try simp only [ext_ext]); repeat (first | exact Kept.refl _ | apply Kept.alloc | apply Kept.drew | apply kept_add | apply Kept.ext))).kept k1).grown g1 (fun g h1 h2 => a1 g h2 h1)
  have hw1 := ((hw.kept (by (try simp only [ext_ext]); repeat (first | exact Kept.refl _ | apply Kept.alloc | apply Kept.drew | apply kept_add | apply Kept.ext))).kept k1).grown g1 (fun g h1 h2 => a2 g h2 h1)
  have b1 := (bx.out _ k1).grown g1 (fun e => by have := (h.lt _ e).2; omega)
  obtain ⟨b10, _, _, _, b13, b14⟩ := b1
  go_wp2_with (fail)
  (go_at_call 23; refine Calls.mono (markIntS_big _ _ _ B _ _ hs1 hl2 m1 m1') ?_; rintro e w2 ⟨rfl, _, g2⟩)
  have hw2 := hw1.grown g2 (fun g h1 h2 => a3 g h2 h1)
  have b24 := (cell_block (g2.block w.heap.size b10 (fun e => by have := (hs.lt _ e.symm).2; omega)) _).trans b14
  go_wp2_with (fail)
  (go_at_call 23; refine Calls.mono (markIntS_big _ _ _ B _ _ hw2 hl3 m2 m2') ?_; rintro e w3 ⟨rfl, _, g3⟩)
  go_wp2_with (fail)
  go_ret
  exact ⟨_, rfl, by omega, u1, w1, w2, Kept.trans (by (try simp only [ext_ext]); repeat (first | exact Kept.refl _ | apply Kept.alloc | apply Kept.drew | apply kept_add | apply Kept.ext)) k1, g1, g2, g3⟩
end Go.Proofs.Ytenmnipgnjaheaa
