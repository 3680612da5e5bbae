/- Contracts: the marks of a game, written and read again; new games. -/
import Derived.Test.YtopfdfdgfhnbeaaT50
import Derived.Test.YtopfdfdgfhnbeaaT39
namespace Go.Proofs.Ytopfdfdgfhnbeaa
open Go.RowKit
theorem row_grown {w w' : World} {B n len : Nat} {t : TypeId} {v : Value} {cells : List Value} {row : Option Nat} (h : w.ownsRow B t n v len cells) (hg : w.grownBy w' row) (hn : ∀ g, v.ownBlock = some g → row ≠ some g) : w'.ownsRow B t n v len cells := by
  refine World.ownsRow.kept h hg ?_
  cases hu : v.ownBlock with
  | none => exact .inl rfl
  | some g => exact .inr fun e => hn g hu e.symm
theorem heldIntS_big (v : Value) (n : Nat) (B : Nat) (k : Int) (w : World) (h : w.ownsRow B 3 1 v n (marks k n)) (hn : n ≤ 1048576) (hk : 0 ≤ k) (hk' : k ≤ 100000000) :
    Calls Try.prog 54 #[v, .int .i64 k] w fun e w' => e = .returned (.int .i64 (k + n)) ∧ Kept w w' := by
  have hcell := fun g (hg : v.ownBlock = some g) => World.ownsRow.cells h (g := g) hg
  rcases h.2 with ⟨rfl, h0⟩ | ⟨g, cap, cur, rfl, hb, hg, hcap, hmax, hs, ht⟩
  · subst h0
    go_enter Try.func54, Try.ntmps54
    go_wp2
    refine wp_loop_rounds 1 ?_
    rw [rounds_succ]
    go_wp2
    go_ret
    exact ⟨ret_of (by simp), (by (try simp only [ext_ext]); repeat (first | exact Kept.refl _ | apply Kept.alloc | apply Kept.drew | apply kept_add | apply Kept.ext))⟩
  · have hgs := (Array.getElem?_eq_some_iff.1 hg).1
    have hcH := hid (hcell g rfl)
    clear hcell hs ht hmax hcap h hg
    go_enter Try.func54, Try.ntmps54
    go_wp2
    go_loopw [5, 1] (fun i s wr => ∃ m : Nat, m ≤ n ∧ i = .int .i64 m ∧ s = .int .i64 (k + m) ∧ Kept w wr) (fun i _ _ => n - (intOf i).toNat)
    case atStart => exact ⟨0, Nat.zero_le _, rfl, by simp, (by (try simp only [ext_ext]); repeat (first | exact Kept.refl _ | apply Kept.alloc | apply Kept.drew | apply kept_add | apply Kept.ext))⟩
    case round =>
      obtain ⟨m, hm, rfl, rfl, z, rfl⟩ := hrel
      by_cases hlt : m < n
      · have hc := hcH.out m (.int .i64 (k + (m : Nat))) (marks_get k hlt)
        rw [Addr.add_lit, Nat.zero_add] at hc
        go_wp2
        go_roundw
        case rel => exact ⟨m + 1, by omega, by go_num, by go_num, (by (try simp only [ext_ext]); repeat (first | exact Kept.refl _ | apply Kept.alloc | apply Kept.drew | apply kept_add | apply Kept.ext))⟩
        case measure => simp [intOf]; omega
      · obtain rfl : m = n := by omega
        go_wp2
        go_ret
        exact ⟨rfl, (by (try simp only [ext_ext]); repeat (first | exact Kept.refl _ | apply Kept.alloc | apply Kept.drew | apply kept_add | apply Kept.ext))⟩
theorem markDealM_any (s n : Int) (lo : Option Addr) (lc B : Nat) (laid : List Card) (w : World) (h : OwnC B w (.slice lo laid.length lc) laid) (hl : laid.length ≤ 1048576) :
    Calls Try.prog 51 #[dv s n (.slice lo laid.length lc), .int .i64 1] w fun e w' => e = .returned (.int .i64 (1 + laid.length * 4)) ∧ w'.ownsRow B 22 4 (.slice lo laid.length lc) laid.length (marks 1 (laid.length * 4)) ∧ ∃ u1, Kept w u1 ∧ u1.grownBy w' (Value.slice lo laid.length lc).ownBlock := by
  go_enter Try.func51, Try.ntmps51
  go_wp2_with (fail)
  (go_at_call 26; refine Calls.mono (markIntA4S_any _ _ _ B 1 _ (h.kept (by (try simp only [ext_ext]); repeat (first | exact Kept.refl _ | apply Kept.alloc | apply Kept.drew | apply kept_add | apply Kept.ext))) hl (by decide) (by decide)) ?_; rintro e w1 ⟨rfl, o1, g1⟩)
  go_wp2_with (fail)
  go_ret
  exact ⟨rfl, o1, _, (by (try simp only [ext_ext]); repeat (first | exact Kept.refl _ | apply Kept.alloc | apply Kept.drew | apply kept_add | apply Kept.ext)), g1⟩
theorem heldDeal_any (s n : Int) (lo : Option Addr) (l lc B : Nat) (w : World) (h : w.ownsRow B 22 4 (.slice lo l lc) l (marks 1 (l * 4))) (hl : l ≤ 1048576) :
    Calls Try.prog 53 #[dv s n (.slice lo l lc), .int .i64 1] w fun e w' => e = .returned (.int .i64 (1 + l * 4)) ∧ Kept w w' := by
  have hne : ¬ ((1 : Int) + (l : Int) * 4 < 0) := by omega
  go_enter Try.func53, Try.ntmps53
  go_wp2_with (first | (go_at_call 86; refine Calls.mono (heldIntA4S_any _ _ B 1 _ (row_kept h (by (try simp only [ext_ext]); repeat (first | exact Kept.refl _ | apply Kept.alloc | apply Kept.drew | apply kept_add | apply Kept.ext))) hl (by decide) (by decide)) ?_; rintro e w' ⟨rfl, y, rfl⟩))
  go_ret
  exact ⟨rfl, (by (try simp only [ext_ext]); repeat (first | exact Kept.refl _ | apply Kept.alloc | apply Kept.drew | apply kept_add | apply Kept.ext))⟩
def GMarks (B : Nat) (w : World) (a b c : Value) (l1 l2 l3 : Nat) : Prop :=
  w.ownsRow B 22 4 a l1 (marks 1 (l1 * 4)) ∧ w.ownsRow B 3 1 b l2 (marks (1 + (l1 : Int) * 4) l2) ∧ w.ownsRow B 3 1 c l3 (marks (1 + (l1 : Int) * 4 + (l2 : Int)) l3)
theorem GMarks.kept {B : Nat} {w w' : World} {a b c : Value} {l1 l2 l3 : Nat} (h : GMarks B w a b c l1 l2 l3) (hk : Kept w w') : GMarks B w' a b c l1 l2 l3 := ⟨row_kept h.1 hk, row_kept h.2.1 hk, row_kept h.2.2 hk⟩
theorem markGame_full (s n : Int) (lo so wo : Option Addr) (lc sc wc B : Nat) (laid : List Card) (scores wrong : List Int) (w : World) (h : OwnC B w (.slice lo laid.length lc) laid) (hs : OwnI B w (.slice so scores.length sc) scores) (hw : OwnI B w (.slice wo wrong.length wc) wrong)
    (a1 : ∀ g, (Value.slice lo laid.length lc).ownBlock = some g → (Value.slice so scores.length sc).ownBlock ≠ some g) (a2 : ∀ g, (Value.slice lo laid.length lc).ownBlock = some g → (Value.slice wo wrong.length wc).ownBlock ≠ some g)
    (a3 : ∀ g, (Value.slice so scores.length sc).ownBlock = some g → (Value.slice wo wrong.length wc).ownBlock ≠ some g)
    (hl : laid.length ≤ 1048576) (hl2 : scores.length ≤ 1048576) (hl3 : wrong.length ≤ 1048576) :
    Calls Try.prog 21 #[gv s n (.slice lo laid.length lc) (.slice so scores.length sc) (.slice wo wrong.length wc), .int .i64 1] w fun e w' => e = .returned (.int .i64 (1 + (laid.length : Int) * 4 + (scores.length : Int) + (wrong.length : Int))) ∧
      GMarks B w' (.slice lo laid.length lc) (.slice so scores.length sc) (.slice wo wrong.length wc) laid.length scores.length wrong.length ∧
      ∃ u1 u2 u3, Kept w u1 ∧ u1.grownBy u2 (Value.slice lo laid.length lc).ownBlock ∧ u2.grownBy u3 (Value.slice so scores.length sc).ownBlock ∧ u3.grownBy w' (Value.slice wo wrong.length wc).ownBlock := by
  have m1 : (0 : Int) ≤ 1 + (laid.length : Int) * 4 := by omega
  have m1' : 1 + (laid.length : Int) * 4 ≤ 100000000 := by omega
  have m2 : (0 : Int) ≤ 1 + (laid.length : Int) * 4 + (scores.length : Int) := by omega
  have m2' : 1 + (laid.length : Int) * 4 + (scores.length : Int) ≤ 100000000 := by omega
  have bx := hid (fun (w' : World) (hk : Kept (w.alloc (.cells #[.int .i64 s, .int .i64 n, .slice lo laid.length lc, .slice so scores.length sc, .slice wo wrong.length wc] 40)) w') => (Box5.new (t := 40) s n (.slice lo laid.length lc) (.slice so scores.length sc) (.slice wo wrong.length wc) (rfl : w.heap.size = w.heap.size)).kept hk)
  go_enter Try.func21, Try.ntmps21
  go_wp2_with (fail)
  (go_at_call 51; refine Calls.mono (markDealM_any s n _ _ B laid _ (h.kept (by (try simp only [ext_ext]); repeat (first | exact Kept.refl _ | apply Kept.alloc | apply Kept.drew | apply kept_add | apply Kept.ext))) hl) ?_; rintro e w1 ⟨rfl, o1, u1, k1, g1⟩)
  have hs1 := ((hs.kept (by (try simp only [ext_ext]); repeat (first | exact Kept.refl _ | apply Kept.alloc | apply Kept.drew | apply kept_add | apply Kept.ext))).kept k1).grown g1 (fun g h1 h2 => a1 g h2 h1)
  have hw1 := ((hw.kept (by (try simp only [ext_ext]); repeat (first | exact Kept.refl _ | apply Kept.alloc | apply Kept.drew | apply kept_add | apply Kept.ext))).kept k1).grown g1 (fun g h1 h2 => a2 g h2 h1)
  have b1 := (bx.out _ k1).grown g1 (fun e => by have := (h.lt _ e).2; omega)
  obtain ⟨b10, _, _, _, b13, b14⟩ := b1
  go_wp2_with (fail)
  (go_at_call 52; refine Calls.mono (markIntS_big _ _ _ B _ _ hs1 hl2 m1 m1') ?_; rintro e w2 ⟨rfl, o2, g2⟩)
  have hw2 := hw1.grown g2 (fun g h1 h2 => a3 g h2 h1)
  have b24 := (cell_block (g2.block w.heap.size b10 (fun e => by have := (hs.lt _ e.symm).2; omega)) _).trans b14
  go_wp2_with (fail)
  (go_at_call 52; refine Calls.mono (markIntS_big _ _ _ B _ _ hw2 hl3 m2 m2') ?_; rintro e w3 ⟨rfl, o3, g3⟩)
  go_wp2_with (fail)
  go_ret
  exact ⟨rfl, ⟨row_grown (row_grown o1 g2 (fun g h1 h2 => a1 g h1 h2)) g3 (fun g h1 h2 => a2 g h1 h2), row_grown o2 g3 (fun g h1 h2 => a3 g h1 h2), o3⟩, u1, w1, w2, Kept.trans (by (try simp only [ext_ext]); repeat (first | exact Kept.refl _ | apply Kept.alloc | apply Kept.drew | apply kept_add | apply Kept.ext)) k1, g1, g2, g3⟩
theorem heldGame_any (s n : Int) (lo so wo : Option Addr) (l lc ls sc lw wc B : Nat) (w : World) (h : GMarks B w (.slice lo l lc) (.slice so ls sc) (.slice wo lw wc) l ls lw) (hl : l ≤ 1048576) (hl2 : ls ≤ 1048576) (hl3 : lw ≤ 1048576) :
    Calls Try.prog 22 #[gv s n (.slice lo l lc) (.slice so ls sc) (.slice wo lw wc), .int .i64 1] w fun e w' => e = .returned (.int .i64 (1 + (l : Int) * 4 + (ls : Int) + (lw : Int))) ∧ Kept w w' := by
  obtain ⟨h1, h2, h3⟩ := h
  have m1 : (0 : Int) ≤ 1 + (l : Int) * 4 := by omega
  have m1' : 1 + (l : Int) * 4 ≤ 100000000 := by omega
  have m2 : (0 : Int) ≤ 1 + (l : Int) * 4 + (ls : Int) := by omega
  have m2' : 1 + (l : Int) * 4 + (ls : Int) ≤ 100000000 := by omega
  have n1 : ¬ ((1 : Int) + (l : Int) * 4 < 0) := by omega
  have n2 : ¬ ((1 : Int) + (l : Int) * 4 + (ls : Int) < 0) := by omega
  have n3 : ¬ ((1 : Int) + (l : Int) * 4 + (ls : Int) + (lw : Int) < 0) := by omega
  go_enter Try.func22, Try.ntmps22
  go_wp2_with (fail)
  (go_at_call 53; refine Calls.mono (heldDeal_any s n lo l lc B _ (row_kept h1 (by (try simp only [ext_ext]); repeat (first | exact Kept.refl _ | apply Kept.alloc | apply Kept.drew | apply kept_add | apply Kept.ext))) hl) ?_; rintro e w' ⟨rfl, z1, rfl⟩)
  go_wp2_with (fail)
  (go_at_call 54; refine Calls.mono (heldIntS_big _ _ B _ _ (row_kept h2 (by (try simp only [ext_ext]); repeat (first | exact Kept.refl _ | apply Kept.alloc | apply Kept.drew | apply kept_add | apply Kept.ext))) hl2 m1 m1') ?_; rintro e w' ⟨rfl, z2, rfl⟩)
  go_wp2_with (fail)
  (go_at_call 54; refine Calls.mono (heldIntS_big _ _ B _ _ (row_kept h3 (by (try simp only [ext_ext]); repeat (first | exact Kept.refl _ | apply Kept.alloc | apply Kept.drew | apply kept_add | apply Kept.ext))) hl3 m2 m2') ?_; rintro e w' ⟨rfl, z3, rfl⟩)
  go_wp2_with (fail)
  go_ret
  exact ⟨rfl, (by (try simp only [ext_ext]); repeat (first | exact Kept.refl _ | apply Kept.alloc | apply Kept.drew | apply kept_add | apply Kept.ext))⟩
end Go.Proofs.Ytopfdfdgfhnbeaa
