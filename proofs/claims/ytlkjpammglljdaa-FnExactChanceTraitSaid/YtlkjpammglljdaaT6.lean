/- Contracts: how many cards of a hand have each value of a trait. -/
import Derived.Test.YtlkjpammglljdaaT4
import Derived.Test.YtlkjpammglljdaaC2
namespace Go.Proofs.Ytlkjpammglljdaa
open Go.RowKit
/-- A trait of a card. -/
def tr (t : Nat) (x : Card) : Int := if t = 0 then x.a else if t = 1 then x.b else if t = 2 then x.c else x.d
theorem tr_3 {x : Card} (t : Nat) (h : isCard x = true) : tr t x = 0 ∨ tr t x = 1 ∨ tr t x = 2 := by
  obtain ⟨h1, h2, h3, h4⟩ := isCard_of h
  unfold tr
  repeat' split
  all_goals omega
def trs (xs : List Card) (t : Nat) (i : Nat) : Int := tr t (cx xs i)
theorem trait_cell {w : World} {g off t : Nat} {x : Card} (h : CardCells w g off x) (ht : t ≤ 3) : w.cell? ⟨g, off + t, none⟩ = some (.int .i64 (tr t x)) := by
  obtain ⟨h1, h2, h3, h4⟩ := h
  obtain rfl | rfl | rfl | rfl : t = 0 ∨ t = 1 ∨ t = 2 ∨ t = 3 := by omega
  · exact h1
  · exact h2
  · exact h3
  · exact h4
theorem l5Column_any (ao : Option Addr) (cap : Nat) (xs : List Card) (t : Nat) (w : World) (hx : CardsAt w ao xs) (hl : xs.length ≤ 1048576) (hc : areC xs) (ht : t ≤ 3) :
    Calls Try.prog 55 #[.slice ao xs.length cap, .int .i64 t] w fun e w' => e = .returned (cnt3 (trs xs t) xs.length) ∧ Kept w w' := by
  go_enter Try.func55, Try.ntmps55
  go_wp2
  go_loopw [6] (fun i wr => ∃ (k : Nat) (s0 s1 s2 : Int), k ≤ xs.length ∧ s0 = cnt (trs xs t) k 0 ∧ s1 = cnt (trs xs t) k 1 ∧ s2 = cnt (trs xs t) k 2 ∧ i = .int .i64 k ∧
      Kept ((w.alloc (.cells #[.int .i64 0, .int .i64 0, .int .i64 0] 39)).alloc (.cells #[.int .i64 s0, .int .i64 s1, .int .i64 s2] 39)) wr) (fun i _ => xs.length - (intOf i).toNat)
  case atStart => exact ⟨0, 0, 0, 0, Nat.zero_le _, rfl, rfl, rfl, rfl, (by (try simp only [ext_ext]); repeat (first | exact Kept.refl _ | apply Kept.alloc | apply Kept.drew | apply kept_add | apply Kept.ext))⟩
  case round =>
    obtain ⟨k, s0, s1, s2, hk, h0, h1, h2, rfl, z, rfl⟩ := hrel
    have b0 := cnt_bd (trs xs t) k 0
    have b1 := cnt_bd (trs xs t) k 1
    have b2 := cnt_bd (trs xs t) k 2
    rw [← h0] at b0
    rw [← h1] at b1
    rw [← h2] at b2
    by_cases hlt : k < xs.length
    · obtain ⟨g, off, rfl, hg, hcc⟩ := hx k hlt
      have hcell := trait_cell hcc ht
      clear hcc
      have h3 := tr_3 t (hc k hlt)
      have ht4 : (t : Int) < 4 := by omega
      have ht5 : t < 4 := by omega
      have g1 : g < w.heap.size + 1 + 1 := by omega
      have g2 : g < w.heap.size + 1 + 1 + z.os.length := by omega
      have e0 := hid h0
      have e1 := hid h1
      have e2 := hid h2
      clear h0 h1 h2
      rcases h3 with hv | hv | hv
      all_goals
        have hvH := hid hv
        rw [hv] at hcell
        clear hv
        go_wp2
        go_roundw
        case measure => simp [intOf]; omega
      · exact ⟨k + 1, s0 + 1, s1, s2, hlt, by rw [cnt_next, e0.out]; simp [trs, hvH.out], by rw [cnt_next, e1.out]; simp [trs, hvH.out], by rw [cnt_next, e2.out]; simp [trs, hvH.out], by go_num, (by (try simp only [ext_ext]); repeat (first | exact Kept.refl _ | apply Kept.alloc | apply Kept.drew | apply kept_add | apply Kept.ext))⟩
      · exact ⟨k + 1, s0, s1 + 1, s2, hlt, by rw [cnt_next, e0.out]; simp [trs, hvH.out], by rw [cnt_next, e1.out]; simp [trs, hvH.out], by rw [cnt_next, e2.out]; simp [trs, hvH.out], by go_num, (by (try simp only [ext_ext]); repeat (first | exact Kept.refl _ | apply Kept.alloc | apply Kept.drew | apply kept_add | apply Kept.ext))⟩
      · exact ⟨k + 1, s0, s1, s2 + 1, hlt, by rw [cnt_next, e0.out]; simp [trs, hvH.out], by rw [cnt_next, e1.out]; simp [trs, hvH.out], by rw [cnt_next, e2.out]; simp [trs, hvH.out], by go_num, (by (try simp only [ext_ext]); repeat (first | exact Kept.refl _ | apply Kept.alloc | apply Kept.drew | apply kept_add | apply Kept.ext))⟩
    · obtain rfl : k = xs.length := by omega
      subst h0 h1 h2
      go_wp2
      refine bodyPost_ret (v := cnt3 (trs xs t) xs.length) (by simp [results, Try.results55, go_sem]) rfl ⟨rfl, ?_⟩
      exact (by (try simp only [ext_ext]); repeat (first | exact Kept.refl _ | apply Kept.alloc | apply Kept.drew | apply kept_add | apply Kept.ext))
end Go.Proofs.Ytlkjpammglljdaa
