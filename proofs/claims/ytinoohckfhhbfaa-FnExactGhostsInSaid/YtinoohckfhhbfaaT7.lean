/- Contracts: lines through a card, the card with a number. -/
import Derived.Test.YtinoohckfhhbfaaT1
import Derived.Test.YtinoohckfhhbfaaC7
import Derived.Test.YtinoohckfhhbfaaM3
namespace Go.Proofs.Ytinoohckfhhbfaa
open Go.RowKit
/-- The card with a number. -/
def cardN (n : Int) : Card := ⟨n / 27, n / 9 % 3, n / 3 % 3, n % 3⟩
theorem isCard_cardN {n : Int} (h : 0 ≤ n) (h' : n ≤ 80) : isCard (cardN n) = true := by
  simp only [isCard, cardN, Bool.and_eq_true]
  exact ⟨⟨⟨inB_t (by omega) (by omega), inB_t (by omega) (by omega)⟩, inB_t (by omega) (by omega)⟩, inB_t (by omega) (by omega)⟩
theorem numC_cardN {n : Int} : numC (cardN n) = n := by
  simp only [numC, cardN]; omega
theorem cardN_numC {x : Card} (h : isCard x = true) : cardN (numC x) = x := by
  obtain ⟨h1, h2, h3, h4⟩ := isCard_of h
  obtain ⟨a, b, c, d⟩ := x
  simp only [cardN, numC, Card.mk.injEq] at *
  omega
theorem l2At_any (n : Int) (h : 0 ≤ n) (h' : n ≤ 80) (w : World) : Calls Try.prog 101 #[.int .i64 n] w fun e w' => e = .returned (cardN n).v ∧ Kept w w' := by
  go_enter Try.func101, Try.ntmps101
  go_wp2
  refine bodyPost_ret (v := (cardN n).v) (by simp [results, Try.results101, go_sem, cardN]) rfl ⟨rfl, ?_⟩
  exact (by (try simp only [ext_ext]); repeat (first | exact Kept.refl _ | apply Kept.alloc | apply Kept.drew | apply kept_add | apply Kept.ext))
theorem card_any (n : Int) (h : 0 ≤ n) (h' : n ≤ 80) (w : World) : Calls Try.prog 103 #[.int .i64 n] w fun e w' => e = .returned (cardN n).v ∧ Kept w w' := by
  go_enter Try.func103, Try.ntmps103
  go_wp2
  refine bodyPost_ret (v := (cardN n).v) (by simp [results, Try.results103, go_sem, cardN]) rfl ⟨rfl, ?_⟩
  exact (by (try simp only [ext_ext]); repeat (first | exact Kept.refl _ | apply Kept.alloc | apply Kept.drew | apply kept_add | apply Kept.ext))
def thr1 (xs : List Card) (c : Card) (i k : Nat) : Int := if lineC (cx xs i) (cx xs k) c then 1 else 0
theorem thr1_bd (xs : List Card) (c : Card) (i k : Nat) : 0 ≤ thr1 xs c i k ∧ thr1 xs c i k ≤ 1 := by unfold thr1; split <;> omega
def thrIn (xs : List Card) (c : Card) (i m : Nat) : Int := rsum m fun j => thr1 xs c i (i + 1 + j)
def thrOut (xs : List Card) (c : Card) (k : Nat) : Int := rsum k fun i => thrIn xs c i (xs.length - (i + 1))
theorem thrIn_bd (xs : List Card) (c : Card) (i m : Nat) : 0 ≤ thrIn xs c i m ∧ thrIn xs c i m ≤ m := by
  have := rsum_bd (n := m) (f := fun j => thr1 xs c i (i + 1 + j)) (b := 1) fun j _ => thr1_bd _ _ _ _
  unfold thrIn; omega
theorem thrOut_bd (xs : List Card) (c : Card) (k : Nat) (h : xs.length ≤ 81) : 0 ≤ thrOut xs c k ∧ thrOut xs c k ≤ k * 81 := by
  exact rsum_bd (n := k) (f := fun i => thrIn xs c i (xs.length - (i + 1))) (b := 81) fun i _ => by
    have := thrIn_bd xs c i (xs.length - (i + 1)); omega
/-- How many lines there are of a card and two of a list. -/
def thr (xs : List Card) (c : Card) : Int := thrOut xs c xs.length
theorem l2Through_any (ao : Option Addr) (cap : Nat) (xs : List Card) (c : Card) (w : World) (hx : CardsAt w ao xs) (hl : xs.length ≤ 81) (hc : areC xs) :
    Calls Try.prog 90 #[.slice ao xs.length cap, c.v] w fun e w' => e = .returned (.int .i64 (thr xs c)) ∧ Kept w w' := by
  go_enter Try.func90, Try.ntmps90
  go_wp2
  go_loopw [6, 5] (fun i s wr => ∃ k : Nat, k ≤ xs.length ∧ i = .int .i64 k ∧ s = .int .i64 (thrOut xs c k) ∧ Kept (w.alloc (.cells #[.int .i64 c.a, .int .i64 c.b, .int .i64 c.c, .int .i64 c.d] 22)) wr) (fun i _ _ => xs.length - (intOf i).toNat)
  case atStart => exact ⟨0, Nat.zero_le _, rfl, rfl, (by (try simp only [ext_ext]); repeat (first | exact Kept.refl _ | apply Kept.alloc | apply Kept.drew | apply kept_add | apply Kept.ext))⟩
  case round =>
    obtain ⟨k, hk, rfl, rfl, z, rfl⟩ := hrel
    have hb := thrOut_bd xs c k hl
    by_cases hlt : k < xs.length
    · go_wp2
      go_loopw [7, 5] (fun j s wr => ∃ m : Nat, k + 1 + m ≤ xs.length ∧ j = .int .i64 ((k + 1 + m : Nat) : Int) ∧ s = .int .i64 (thrOut xs c k + thrIn xs c k m) ∧ Kept (w.alloc (.cells #[.int .i64 c.a, .int .i64 c.b, .int .i64 c.c, .int .i64 c.d] 22)) wr) (fun j _ _ => xs.length - (intOf j).toNat)
      case atStart => exact ⟨0, hlt, by go_num, by simp [thrIn, rsum], (by (try simp only [ext_ext]); repeat (first | exact Kept.refl _ | apply Kept.alloc | apply Kept.drew | apply kept_add | apply Kept.ext))⟩
      case round =>
        obtain ⟨m, hm, hj, rfl, z, rfl⟩ := hrel
        obtain ⟨q, hq⟩ : ∃ q, q = k + 1 + m := ⟨_, rfl⟩
        rw [← hq] at hm hj
        subst hj
        have hqH := hid hq
        have hb2 := thrIn_bd xs c k m
        have hb3 : thrIn xs c k m ≤ 81 := by omega
        by_cases hlt2 : q < xs.length
        · obtain ⟨g, off, rfl, hg, h1, h2, h3, h4⟩ := hx k hlt
          obtain ⟨g', off', he, hg', p1, p2, p3, p4⟩ := hx q hlt2
          cases he
          have g1 : g < w.heap.size + 1 := by omega
          have g2 : g < w.heap.size + 1 + z.os.length := by omega
          have hck := hc k hlt
          have hcq := hc q hlt2
          clear hq
          go_wp2_with (first | (refine wp_region_ext (by kernel_rfl) (by kernel_rfl) ?_; (repeat (go_big_quiet_step (((go_at_call 74; first | exact ext_call (l2Line_any _ _ c hck hcq _) | exact ext_call2 (l2Line_any _ _ c hck hcq _)))))); refine wpQuiet_end fun z => ?_))
          · rename_i hL
            have e1 : thrIn xs c k (m + 1) = thrIn xs c k m + 1 := by
              show thrIn xs c k m + thr1 xs c k (k + 1 + m) = _
              rw [← hqH.out]; simp [thr1, hL]
            go_roundw
            case rel => exact ⟨m + 1, by have := hqH.out; omega, by have := hqH.out; go_num, by rw [e1]; go_num, (by (try simp only [ext_ext]); repeat (first | exact Kept.refl _ | apply Kept.alloc | apply Kept.drew | apply kept_add | apply Kept.ext))⟩
            case measure => simp [intOf]; omega
          · rename_i hL
            have e1 : thrIn xs c k (m + 1) = thrIn xs c k m := by
              show thrIn xs c k m + thr1 xs c k (k + 1 + m) = _
              rw [← hqH.out]; simp [thr1, hL]
            go_roundw
            case rel => exact ⟨m + 1, by have := hqH.out; omega, by have := hqH.out; go_num, by rw [e1], (by (try simp only [ext_ext]); repeat (first | exact Kept.refl _ | apply Kept.alloc | apply Kept.drew | apply kept_add | apply Kept.ext))⟩
            case measure => simp [intOf]; omega
        · have em : m = xs.length - (k + 1) := by have := hqH.out; omega
          have eo : thrOut xs c (k + 1) = thrOut xs c k + thrIn xs c k m := by rw [em]; rfl
          have eoH := hid eo
          clear em eo hq
          go_wp2
          go_roundw
          case rel => exact ⟨k + 1, hlt, by go_num, by rw [eoH.out], (by (try simp only [ext_ext]); repeat (first | exact Kept.refl _ | apply Kept.alloc | apply Kept.drew | apply kept_add | apply Kept.ext))⟩
          case measure => simp [intOf]; omega
    · obtain rfl : k = xs.length := by omega
      go_wp2
      go_ret
      exact ⟨rfl, (by (try simp only [ext_ext]); repeat (first | exact Kept.refl _ | apply Kept.alloc | apply Kept.drew | apply kept_add | apply Kept.ext))⟩
end Go.Proofs.Ytinoohckfhhbfaa
