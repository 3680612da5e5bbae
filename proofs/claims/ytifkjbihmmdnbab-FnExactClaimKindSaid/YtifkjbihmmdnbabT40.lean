/- Contracts: the best points of the others; whether there is a player. -/
import Derived.Test.YtifkjbihmmdnbabT38
import Derived.Test.YtifkjbihmmdnbabC2
namespace Go.Proofs.Ytifkjbihmmdnbab
open Go.RowKit
/-- The most points of the first players but one. -/
def bestK (xs : List Int) (but : Int) : Nat → Int
  | 0 => -61
  | k + 1 => if (k : Int) = but then bestK xs but k else max (bestK xs but k) (ix xs k)
theorem bestK_bd (xs : List Int) (but : Int) (n : Nat) (hb : ∀ i, i < n → -60 ≤ ix xs i ∧ ix xs i ≤ 60) : ∀ k, k ≤ n → -61 ≤ bestK xs but k ∧ bestK xs but k ≤ 60
  | 0, _ => by simp [bestK]
  | k + 1, h => by
    have h1 := bestK_bd xs but n hb k (by omega)
    have h2 := hb k (by omega)
    unfold bestK
    split
    · exact h1
    · omega
theorem bestK_lt (xs : List Int) (but t : Int) (ht : -61 < t) : ∀ k, bestK xs but k < t ↔ ∀ j, j < k → (j : Int) ≠ but → ix xs j < t
  | 0 => by simp [bestK, ht]
  | k + 1 => by
    have ih := bestK_lt xs but t ht k
    unfold bestK
    split
    · rename_i h
      rw [ih]
      constructor
      · intro hj j h1 h2
        rcases Nat.lt_or_eq_of_le (Nat.le_of_lt_succ h1) with h3 | rfl
        · exact hj j h3 h2
        · exact absurd h h2
      · exact fun hj j h1 h2 => hj j (by omega) h2
    · rename_i h
      constructor
      · intro hm j h1 h2
        rcases Nat.lt_or_eq_of_le (Nat.le_of_lt_succ h1) with h3 | rfl
        · exact ih.1 (by omega) j h3 h2
        · omega
      · intro hj
        have h1 := ih.2 fun j h1 h2 => hj j (by omega) h2
        have h2 := hj k (by omega) h
        omega
theorem ptsK_bd {s n : Int} {laid : List Card} {scores wrong : List Int} (hG : GameOk s n laid scores wrong) : ∀ i, i < scores.length → -60 ≤ ix (ptsK scores wrong scores.length) i ∧ ix (ptsK scores wrong scores.length) i ≤ 60 := fun i hi => by
  rw [ptsK_ix _ _ hi]
  have := hG.sb i hi
  have := hG.wb i hi
  omega
theorem aheadI_bd {s n : Int} {laid : List Card} {scores wrong : List Int} (hG : GameOk s n laid scores wrong) : 0 ≤ aheadI n laid ∧ aheadI n laid ≤ 100 := by
  have := hG.n0
  have := hG.n1
  have := hG.laid81
  unfold aheadI; omega
/-- Whether a player can still lead. -/
def canB (pts : List Int) (n : Nat) (player ahead : Int) : Bool := decide (bestK pts player n < ix pts player.toNat + ahead)
theorem canB_eq (pts : List Int) (n : Nat) (player ahead : Int) (h : -61 < ix pts player.toNat + ahead) : (canB pts n player ahead = true) ↔ ∀ j, j < n → (j : Int) ≠ player → ix pts j < ix pts player.toNat + ahead := by
  unfold canB
  rw [decide_eq_true_iff]
  exact bestK_lt _ _ _ h n
theorem l8Best_any (po : Option Addr) (cap : Nat) (xs : List Int) (but : Int) (w : World) (hx : IntsAt w po xs) (hl : xs.length ≤ 4) (hb : ∀ i, i < xs.length → -60 ≤ ix xs i ∧ ix xs i ≤ 60) :
    Calls Try.prog 42 #[.slice po xs.length cap, .int .i64 but] w fun e w' => e = .returned (.int .i64 (bestK xs but xs.length)) ∧ Kept w w' := by
  have hbd := hid (bestK_bd xs but xs.length hb)
  have hbH := hid hb
  clear hb
  go_enter Try.func42, Try.ntmps42
  go_wp2
  go_loopw [5, 6] (fun b i wr => ∃ k : Nat, k ≤ xs.length ∧ i = .int .i64 k ∧ b = .int .i64 (bestK xs but k) ∧ Kept w wr) (fun _ i _ => xs.length - (intOf i).toNat)
  case atStart => exact ⟨0, Nat.zero_le _, rfl, rfl, (by (try simp only [ext_ext]); repeat (first | exact Kept.refl _ | apply Kept.alloc | apply Kept.drew | apply kept_add | apply Kept.ext))⟩
  case round =>
    obtain ⟨k, hk, rfl, rfl, z, rfl⟩ := hrel
    have h0 := hbd.out k hk
    by_cases hlt : k < xs.length
    · obtain ⟨g, off, rfl, hg, q1⟩ := hx k hlt
      have h1 := hbH.out k hlt
      by_cases he : (k : Int) = but
      · have hd : ((k : Int) != but) = false := by simp [he]
        have hv : Hid (bestK xs but (k + 1) = bestK xs but k) := hid (by simp [bestK, he])
        go_wp2
        go_roundw
        case rel => exact ⟨k + 1, hlt, by go_num, by rw [hv.out], (by (try simp only [ext_ext]); repeat (first | exact Kept.refl _ | apply Kept.alloc | apply Kept.drew | apply kept_add | apply Kept.ext))⟩
        case measure => simp [intOf]; omega
      · have hd : ((k : Int) != but) = true := by simp [he]
        have hv : Hid (bestK xs but (k + 1) = max (bestK xs but k) (ix xs k)) := hid (by simp [bestK, he])
        generalize bestK xs but k = bk at h0 hv ⊢
        generalize ix xs k = xk at h1 hv q1 ⊢
        go_wp2_with (first | (go_at_call 59; refine Calls.mono (l1Most_any _ _ _) ?_; rintro e w' ⟨rfl, rfl⟩))
        go_roundw
        case rel => exact ⟨k + 1, hlt, by go_num, by rw [hv.out], (by (try simp only [ext_ext]); repeat (first | exact Kept.refl _ | apply Kept.alloc | apply Kept.drew | apply kept_add | apply Kept.ext))⟩
        case measure => simp [intOf]; omega
    · obtain rfl : k = xs.length := by omega
      go_wp2
      go_ret
      exact ⟨rfl, (by (try simp only [ext_ext]); repeat (first | exact Kept.refl _ | apply Kept.alloc | apply Kept.drew | apply kept_add | apply Kept.ext))⟩
theorem isPlayer_any (s n : Int) (lo so wo : Option Addr) (ll lc sl sc wl wc : Nat) (p : Int) (w : World) (hl : sl ≤ 9223372036854775807) :
    Calls Try.prog 43 #[gv s n (.slice lo ll lc) (.slice so sl sc) (.slice wo wl wc), .int .i64 p] w fun e w' => e = .returned (.bool (inB p 0 ((sl : Int) - 1))) ∧ Kept w w' := by
  go_enter Try.func43, Try.ntmps43
  go_wp2_with (first | (go_at_call 34; refine Calls.mono (within_any _ _ _ _) ?_; rintro e w' ⟨rfl, rfl⟩))
  go_ret
  exact ⟨rfl, (by (try simp only [ext_ext]); repeat (first | exact Kept.refl _ | apply Kept.alloc | apply Kept.drew | apply kept_add | apply Kept.ext))⟩
end Go.Proofs.Ytifkjbihmmdnbab
