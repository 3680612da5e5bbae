/- Contracts: whether a line is disjoint from all of a list. -/
import Derived.Test.YtifkjbihmmdnbaaT19
import Derived.Test.YtifkjbihmmdnbaaT20
import Derived.Test.YtifkjbihmmdnbaaT23
namespace Go.Proofs.Ytifkjbihmmdnbaa
open Go.RowKit
theorem eq01_comm (x y : Int) : eq01 x y = eq01 y x := by
  unfold eq01
  by_cases h : x = y
  · rw [if_pos h, if_pos h.symm]
  · rw [if_neg h, if_neg (Ne.symm h)]
theorem comS_comm (a b : Ln) : comS a b = comS b a := by
  unfold comS comRow
  rw [rsum_swap]
  exact rsum_congr fun i _ => rsum_congr fun j _ => eq01_comm _ _
def sortL (l : Ln) : Prop := l.a < l.b ∧ l.b < l.c
theorem sort_lines {xs : List Card} {l : Ln} (h : l ∈ linesC xs) : sortL l := by
  obtain ⟨i, k, m, rfl, h1, h2, _⟩ := mem_linesC h
  exact ⟨by simp only; omega, by simp only; omega⟩
theorem comI_comm {a b : Ln} (ha : sortL a) (hb : sortL b) : comI a b = comI b a := by
  rw [← comS_comI hb.1 hb.2, ← comS_comI ha.1 ha.2, comS_comm]
/-- Whether a line has a card in common with one of a list. -/
def hitL (ls : List Ln) (a : Ln) : Bool := ls.any fun b => decide (0 < comI a b)
def hitS (ls : List Ln) (a : Ln) : Bool := ls.any fun b => decide (0 < comS b a)
theorem hitS_hitL {ls : List Ln} {a : Ln} (ha : sortL a) (h : ∀ b, b ∈ ls → sortL b) : hitS ls a = hitL ls a := by
  unfold hitS hitL
  induction ls with
  | nil => rfl
  | cons b ls ih =>
    have hb := h b (by simp)
    rw [List.any_cons, List.any_cons, ih fun b hb => h b (by simp [hb]), comS_comI ha.1 ha.2, comI_comm hb ha]
theorem l7Free_any (ao : Option Addr) (cap : Nat) (ls : List Ln) (l : Ln) (w : World) (hx : LinesAt w ao ls) (hl : ls.length ≤ 1048576) :
    Calls Try.prog 52 #[.slice ao ls.length cap, l.v] w fun e w' => e = .returned (.bool (!hitS ls l)) ∧ Kept w w' := by
  go_enter Try.func52, Try.ntmps52
  go_wp2
  go_loopw [5] (fun i wr => ∃ k : Nat, k ≤ ls.length ∧ i = .int .i64 k ∧ (∀ j, j < k → decide (0 < comS (lx ls j) l) = false) ∧ Kept (w.alloc (.cells #[.int .i64 l.a, .int .i64 l.b, .int .i64 l.c] 50)) wr) (fun i _ => ls.length - (intOf i).toNat)
  case atStart => exact ⟨0, Nat.zero_le _, rfl, fun j hj => absurd hj (Nat.not_lt_zero _), (by (try simp only [ext_ext]); repeat (first | exact Kept.refl _ | apply Kept.alloc | apply Kept.drew | apply kept_add | apply Kept.ext))⟩
  case round =>
    obtain ⟨k, hk, rfl, hn, z, rfl⟩ := hrel
    have hnH := hid hn
    clear hn
    by_cases hlt : k < ls.length
    · obtain ⟨g, off, rfl, hg, h1, h2, h3⟩ := hx k hlt
      have g1 : g < w.heap.size + 1 := by omega
      have g2 : g < w.heap.size + 1 + z.os.length := by omega
      have hmem := hid (lx_mem hlt)
      go_wp2_with (first | (refine wp_region_ext (by kernel_rfl) (by kernel_rfl) ?_; (repeat (go_big_quiet_step (((go_at_call 71; first | exact ext_call (l7Common_any (lx ls k) l _) | exact ext_call2 (l7Common_any (lx ls k) l _)))))); refine wpQuiet_end fun z => ?_))
      · rename_i h
        have hy : Hid (hitS ls l = true) := hid (List.any_eq_true.2 ⟨_, hmem.out, by simpa using h⟩)
        go_ret
        exact ⟨ret_of (by rw [hy.out]; rfl), (by (try simp only [ext_ext]); repeat (first | exact Kept.refl _ | apply Kept.alloc | apply Kept.drew | apply kept_add | apply Kept.ext))⟩
      · rename_i h
        go_roundw
        case rel =>
          refine ⟨k + 1, hlt, by go_num, fun j hj => ?_, (by (try simp only [ext_ext]); repeat (first | exact Kept.refl _ | apply Kept.alloc | apply Kept.drew | apply kept_add | apply Kept.ext))⟩
          rcases Nat.lt_or_eq_of_le (Nat.le_of_lt_succ hj) with h' | rfl
          · exact hnH.out j h'
          · exact decide_eq_false (by simpa using h)
        case measure => simp [intOf]; omega
    · have hno : Hid (hitS ls l = false) := hid (by
        unfold hitS
        rw [List.any_eq_false]
        intro b hb
        obtain ⟨j, hj, rfl⟩ := List.mem_iff_getElem.1 hb
        have := hnH.out j (by omega)
        rw [lx_get ls j hj] at this
        simpa using this)
      go_wp2
      go_ret
      exact ⟨ret_of (by rw [hno.out]; rfl), (by (try simp only [ext_ext]); repeat (first | exact Kept.refl _ | apply Kept.alloc | apply Kept.drew | apply kept_add | apply Kept.ext))⟩
end Go.Proofs.Ytifkjbihmmdnbaa
