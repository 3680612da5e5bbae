/- Contracts: the points of a game, and the lines ahead. -/
import Derived.Test.YtenmnipgnjaheaaT37
import Derived.Deep.AppendLies
import Derived.Deep.RegionHeld3
namespace Go.Proofs.Ytenmnipgnjaheaa
open Go.RowKit
theorem dealB_of {s n : Int} {laid : List Card} (h : dealB s n laid = true) : 0 ≤ s ∧ s ≤ 65535 ∧ 0 ≤ n ∧ n ≤ 81 ∧ (laid.length : Int) ≤ n := by
  simp only [dealB, Bool.and_eq_true, decide_eq_true_eq] at h
  obtain ⟨⟨⟨h1, h2⟩, h3⟩, _⟩ := h
  exact ⟨(inB_of h1).1, (inB_of h1).2, (inB_of h2).1, (inB_of h2).2, h3⟩
theorem all60_at {xs : List Int} (h : all60 xs = true) {i : Nat} (hi : i < xs.length) : 0 ≤ ix xs i ∧ ix xs i ≤ 60 := by
  rw [ix_get _ _ hi]
  exact inB_of (List.all_eq_true.1 h _ (List.getElem_mem hi))
structure GameOk (s n : Int) (laid : List Card) (scores wrong : List Int) : Prop where
  n0 : 0 ≤ n
  n1 : n ≤ 81
  laid81 : laid.length ≤ 81
  one : 1 ≤ scores.length
  four : scores.length ≤ 4
  same : wrong.length = scores.length
  sb : ∀ i, i < scores.length → 0 ≤ ix scores i ∧ ix scores i ≤ 60
  wb : ∀ i, i < scores.length → 0 ≤ ix wrong i ∧ ix wrong i ≤ 60
theorem gameB_of {s n : Int} {laid : List Card} {scores wrong : List Int} (h : gameB s n laid scores wrong = true) : GameOk s n laid scores wrong := by
  simp only [gameB, Bool.and_eq_true, decide_eq_true_eq] at h
  obtain ⟨⟨⟨⟨h1, h2⟩, h3⟩, h4⟩, h5⟩ := h
  obtain ⟨_, _, d2, d3, d4⟩ := dealB_of h5
  obtain ⟨o1, o2⟩ := inB_of h1
  exact ⟨d2, d3, by omega, by omega, by omega, h2, fun i hi => all60_at h3 hi, fun i hi => all60_at h4 (by omega)⟩
def aheadI (n : Int) (laid : List Card) : Int := ((laid.length : Int) + 81 - n) / 3
def ptsK (scores wrong : List Int) (k : Nat) : List Int := (List.range k).map fun i => ix scores i - ix wrong i
theorem ptsK_next (scores wrong : List Int) (k : Nat) : ptsK scores wrong (k + 1) = ptsK scores wrong k ++ [ix scores k - ix wrong k] := by simp [ptsK, List.range_succ]
theorem ptsK_len (scores wrong : List Int) (k : Nat) : (ptsK scores wrong k).length = k := by simp [ptsK]
theorem ptsK_ix (scores wrong : List Int) {k i : Nat} (h : i < k) : ix (ptsK scores wrong k) i = ix scores i - ix wrong i := by
  rw [ix_get _ _ (by rw [ptsK_len]; exact h)]; simp [ptsK]
theorem points_any (s n : Int) (lo so wo : Option Addr) (lc sc wc : Nat) (laid : List Card) (scores wrong : List Int) (w : World) (hy : IntsAt w so scores) (hz : IntsAt w wo wrong) (hG : GameOk s n laid scores wrong) :
    Calls Try.prog 49 #[gv s n (.slice lo laid.length lc) (.slice so scores.length sc) (.slice wo wrong.length wc)] w (RetI w (ptsK scores wrong scores.length)) := by
  obtain ⟨_, _, _, _, h4, h2, sb, wb⟩ := hG
  have h2H := hid h2
  have sbH := hid sb
  have wbH := hid wb
  clear h2 sb wb
  go_enter Try.func49, Try.ntmps49
  go_wp2
  have c3 : (w.alloc (.cells #[.int .i64 s, .int .i64 n, .slice lo laid.length lc, .slice so scores.length sc, .slice wo wrong.length wc] 41)).cell? ⟨w.heap.size, 3, none⟩ = some (.slice so scores.length sc) := by simp [go_sem]
  have c4 : (w.alloc (.cells #[.int .i64 s, .int .i64 n, .slice lo laid.length lc, .slice so scores.length sc, .slice wo wrong.length wc] 41)).cell? ⟨w.heap.size, 4, none⟩ = some (.slice wo wrong.length wc) := by simp [go_sem]
  have k1 : Kept w (w.alloc (.cells #[.int .i64 s, .int .i64 n, .slice lo laid.length lc, .slice so scores.length sc, .slice wo wrong.length wc] 41)) := (by (try simp only [ext_ext]); repeat (first | exact Kept.refl _ | apply Kept.alloc | apply Kept.drew | apply kept_add | apply Kept.ext))
  have hsz : (w.alloc (.cells #[.int .i64 s, .int .i64 n, .slice lo laid.length lc, .slice so scores.length sc, .slice wo wrong.length wc] 41)).heap.size = w.heap.size + 1 := by simp
  generalize w.alloc (.cells #[.int .i64 s, .int .i64 n, .slice lo laid.length lc, .slice so scores.length sc, .slice wo wrong.length wc] 41) = W at c3 c4 k1 hsz ⊢
  have hy1 := hy.kept k1
  have hz1 := hz.kept k1
  have k1H := hid k1
  have hszH := hid hsz
  clear hy hz k1
  go_loopw [10, 3] (fun i v wr => ∃ k : Nat, k ≤ scores.length ∧ i = .int .i64 k ∧ OwnI (w.heap.size + 1) wr v (ptsK scores wrong k) ∧ Kept W wr) (fun i _ _ => scores.length - (intOf i).toNat)
  case atStart => exact ⟨0, Nat.zero_le _, rfl, show OwnI _ _ _ [] from ownI_nil (Nat.le_refl _) (heap_at (by simp [hsz])), (by (try simp only [ext_ext]); repeat (first | exact Kept.refl _ | apply Kept.alloc | apply Kept.drew | apply kept_add | apply Kept.ext))⟩
  case round wr =>
    obtain ⟨k, hk, rfl, hown, hkw⟩ := hrel
    obtain ⟨ao4, cap4, hv4, hx4, _⟩ := hown.reads
    clear hx4
    subst hv4
    have hownH := hid hown
    have hkwH := hid hkw
    have hws : w.heap.size + 1 ≤ wr.heap.size := by have := hkw.below.size; omega
    have hpl := hid (ptsK_len scores wrong k)
    have hpn := hid (ptsK_next scores wrong k)
    by_cases hlt : k < scores.length
    · have hlt2 : k < wrong.length := by have := h2H.out; omega
      obtain ⟨g, off, rfl, hg, q1⟩ := (hy1.kept hkw) k hlt
      obtain ⟨g2, off2, rfl, hg2, q2⟩ := (hz1.kept hkw) k hlt2
      obtain ⟨s0, s1⟩ := sbH.out k hlt
      obtain ⟨w0, w1⟩ := wbH.out k hlt
      have d4 := (hkw.below.cell (p := ⟨w.heap.size, 4, none⟩) (show w.heap.size < W.heap.size by omega)).trans c4
      clear hown hkw
      go_wp2_with (first | (at_builtin; refine wpList_append_int rfl _ _ rfl W (w.heap.size + 1) _ _ rfl (hownH.out.kept (by (try simp only [ext_ext]); repeat (first | exact Kept.refl _ | apply Kept.alloc | apply Kept.drew | apply kept_add | apply Kept.ext))) (hkwH.out.trans (by (try simp only [ext_ext]); repeat (first | exact Kept.refl _ | apply Kept.alloc | apply Kept.drew | apply kept_add | apply Kept.ext))) (by have := hszH.out; omega) (by simp; omega) _ _ (ix scores k - ix wrong k) rfl ?_ (by have := hpl.out; omega) ?_; rotate_left; intro v' w' hown' hkw' hgr' hat'))
      case refine_1 => exact cell_of_row _ _ 0 _ _ (0, 0) (heap_at (by simp))
      go_roundw
      case rel => exact ⟨k + 1, hlt, by go_num, by rw [hpn.out]; exact hown', hkw'⟩
      case measure => simp [intOf]; omega
    · obtain rfl : k = scores.length := by omega
      go_wp2
      go_ret
      exact ⟨_, rfl, (hownH.out.kept (by (try simp only [ext_ext]); repeat (first | exact Kept.refl _ | apply Kept.alloc | apply Kept.drew | apply kept_add | apply Kept.ext))).mono (by omega), (k1H.out.trans hkwH.out).trans (by (try simp only [ext_ext]); repeat (first | exact Kept.refl _ | apply Kept.alloc | apply Kept.drew | apply kept_add | apply Kept.ext))⟩
theorem step_append_int {ops : Array Oper} {o : Oper} {a : Act} {K : Act → World → Prop} {Q : Exit → Act → World → Prop} {E : Prop} {w : World} (hgd : o.guard = none) (s x : Operand)
    (ho : o.op = .call { callee := .builtin .append, args := #[s, x], argTypes := #[33, 33] }) (W : World) (B : Nat) (v : Value) (zs : List Int) (hs : a.eval s = v) (hown : OwnI B w v zs) (hk : Kept W w) (hWB : W.heap.size ≤ B) (hBw : B ≤ w.heap.size)
    (g cap : Nat) (c : Int) (hx : a.eval x = .slice (some ⟨g, 0, none⟩) 1 cap) (hc : w.cell? ⟨g, 0, none⟩ = some (.int .i64 c)) (hl : zs.length ≤ 1048576)
    (h : ∀ v' w', OwnI B w' v' (zs ++ [c]) → Kept W w' → K (a.put o.dst v') w') : if Region.wanted o (yielded ops a.tmps) = true then Oper.wp Try.prog o a w K Q else E := by
  obtain ⟨i, hi, hz, hsz, hb⟩ := info_parts info_i64
  refine step_append_lies w hgd s x 33 ho B 3 i _ 1 8 Try.underlying33 hi hz hsz hb rfl (by decide) v zs.length (vals1 zs) hs hown ⟨g, 0, none⟩ 1 cap
    [.int .i64 c] hx rfl ?_ ?_ (by omega) (by unfold maxLen; omega) (by omega) hBw w.heap.size rfl ?_
  · intro j u hj
    match j, hj with
    | 0, hj => simp at hj; subst hj; exact hc
    | j + 1, hj => simp at hj
  · intro u hu
    simp at hu
    rcases hu with rfl; rfl
  · intro g' cap' w' hown' hg _ _
    refine h _ w' ?_ (hk.grown hg fun k hk => Nat.le_trans hWB (hown.lt k hk).1)
    unfold OwnI
    rw [List.length_append, vals1, List.map_append]
    exact hown'
theorem l8Points_any (s n : Int) (lo so wo : Option Addr) (lc sc wc : Nat) (laid : List Card) (scores wrong : List Int) (w : World) (hy : IntsAt w so scores) (hz : IntsAt w wo wrong) (hG : GameOk s n laid scores wrong) :
    Calls Try.prog 44 #[gv s n (.slice lo laid.length lc) (.slice so scores.length sc) (.slice wo wrong.length wc)] w (RetI w (ptsK scores wrong scores.length)) := by
  obtain ⟨_, _, _, _, h4, h2, sb, wb⟩ := hG
  have h2H := hid h2
  have sbH := hid sb
  have wbH := hid wb
  clear h2 sb wb
  go_enter Try.func44, Try.ntmps44
  go_wp2
  have c3 : (w.alloc (.cells #[.int .i64 s, .int .i64 n, .slice lo laid.length lc, .slice so scores.length sc, .slice wo wrong.length wc] 41)).cell? ⟨w.heap.size, 3, none⟩ = some (.slice so scores.length sc) := by simp [go_sem]
  have c4 : (w.alloc (.cells #[.int .i64 s, .int .i64 n, .slice lo laid.length lc, .slice so scores.length sc, .slice wo wrong.length wc] 41)).cell? ⟨w.heap.size, 4, none⟩ = some (.slice wo wrong.length wc) := by simp [go_sem]
  have k1 : Kept w (w.alloc (.cells #[.int .i64 s, .int .i64 n, .slice lo laid.length lc, .slice so scores.length sc, .slice wo wrong.length wc] 41)) := (by (try simp only [ext_ext]); repeat (first | exact Kept.refl _ | apply Kept.alloc | apply Kept.drew | apply kept_add | apply Kept.ext))
  have hsz : (w.alloc (.cells #[.int .i64 s, .int .i64 n, .slice lo laid.length lc, .slice so scores.length sc, .slice wo wrong.length wc] 41)).heap.size = w.heap.size + 1 := by simp
  generalize w.alloc (.cells #[.int .i64 s, .int .i64 n, .slice lo laid.length lc, .slice so scores.length sc, .slice wo wrong.length wc] 41) = W at c3 c4 k1 hsz ⊢
  have hy1 := hy.kept k1
  have hz1 := hz.kept k1
  have k1H := hid k1
  have hszH := hid hsz
  clear hy hz k1
  go_loopw [4, 3] (fun i v wr => ∃ k : Nat, k ≤ scores.length ∧ i = .int .i64 k ∧ OwnI (w.heap.size + 1) wr v (ptsK scores wrong k) ∧ Kept W wr) (fun i _ _ => scores.length - (intOf i).toNat)
  case atStart => exact ⟨0, Nat.zero_le _, rfl, show OwnI _ _ _ [] from ownI_nil (Nat.le_refl _) (heap_at (by simp [hsz])), (by (try simp only [ext_ext]); repeat (first | exact Kept.refl _ | apply Kept.alloc | apply Kept.drew | apply kept_add | apply Kept.ext))⟩
  case round wr =>
    obtain ⟨k, hk, rfl, hown, hkw⟩ := hrel
    obtain ⟨ao4, cap4, hv4, hx4, _⟩ := hown.reads
    clear hx4
    subst hv4
    have hownH := hid hown
    have hkwH := hid hkw
    have hws : w.heap.size + 1 ≤ wr.heap.size := by have := hkw.below.size; omega
    have hpl := hid (ptsK_len scores wrong k)
    have hpn := hid (ptsK_next scores wrong k)
    have hlw : w.heap.size < wr.heap.size := by omega
    by_cases hlt : k < scores.length
    · have hlt2 : k < wrong.length := by have := h2H.out; omega
      obtain ⟨g, off, rfl, hg, q1⟩ := hy1 k hlt
      obtain ⟨g2, off2, rfl, hg2, q2⟩ := hz1 k hlt2
      obtain ⟨s0, s1⟩ := sbH.out k hlt
      obtain ⟨w0, w1⟩ := wbH.out k hlt
      have hS := hid (fun w' (hk : Kept W w') => show w'.cell? ⟨w.heap.size, 3, none⟩ = some (.slice (some ⟨g, off, none⟩) scores.length sc) ∧ w'.cell? ⟨w.heap.size, 4, none⟩ = some (.slice (some ⟨g2, off2, none⟩) wrong.length wc) ∧ w'.cell? ⟨g, off + k, none⟩ = some (.int .i64 (ix scores k)) ∧ w'.cell? ⟨g2, off2 + k, none⟩ = some (.int .i64 (ix wrong k)) from
        ⟨(hk.below.cell (p := ⟨w.heap.size, 3, none⟩) (show w.heap.size < W.heap.size by omega)).trans c3, (hk.below.cell (p := ⟨w.heap.size, 4, none⟩) (show w.heap.size < W.heap.size by omega)).trans c4, (hk.below.cell (p := ⟨_, _, none⟩) hg).trans q1, (hk.below.cell (p := ⟨_, _, none⟩) hg2).trans q2⟩)
      have d3 := (hS.out _ hkw).1
      clear hown hkw
      have hwr : Hid (IntKind.i64.wrap (ix scores k - IntKind.i64.wrap (ix wrong k)) = ix scores k - ix wrong k) := hid (by rw [Go.IntWalk.i64_in (ix wrong k) ⟨by omega, by omega⟩, Go.IntWalk.i64_in _ ⟨by omega, by omega⟩])
      have hi0 : (0 : Int) ≤ (k : Int) := Int.natCast_nonneg _
      have hi1 : (k : Int) < (scores.length : Int) := by omega
      have hi2 : (k : Int) < (wrong.length : Int) := by omega
      go_wp2
      go_region_held3 (fun w' => w'.cell? ⟨w.heap.size, 3, none⟩ = some (.slice (some ⟨g, off, none⟩) scores.length sc) ∧ w'.cell? ⟨w.heap.size, 4, none⟩ = some (.slice (some ⟨g2, off2, none⟩) wrong.length wc) ∧ w'.cell? ⟨g, off + k, none⟩ = some (.int .i64 (ix scores k)) ∧ w'.cell? ⟨g2, off2 + k, none⟩ = some (.int .i64 (ix wrong k)))
        (first | exact hS.out _ hkw' | exact hS.out _ (hkwH.out.trans (by (try simp only [ext_ext]); repeat (first | exact Kept.refl _ | apply Kept.alloc | apply Kept.drew | apply kept_add | apply Kept.ext))))
        (first | (refine step_append_int rfl _ _ rfl W (w.heap.size + 1) _ _ rfl (hownH.out.kept (by (try simp only [ext_ext]); repeat (first | exact Kept.refl _ | apply Kept.alloc | apply Kept.drew | apply kept_add | apply Kept.ext))) (hkwH.out.trans (by (try simp only [ext_ext]); repeat (first | exact Kept.refl _ | apply Kept.alloc | apply Kept.drew | apply kept_add | apply Kept.ext))) (by have := hszH.out; omega) (by simp; omega) _ _ (ix scores k - ix wrong k) rfl (by rw [hwr.out]; simp [go_sem]) (by have := hpl.out; omega) ?_; intro v' w' hown' hkw'))
      go_wp2
      go_roundw
      case rel => exact ⟨k + 1, hlt, by go_num, by rw [hpn.out]; exact hown', hkw'⟩
      case measure => simp [intOf]; omega
    · obtain rfl : k = scores.length := by omega
      have d3 := (hkw.below.cell (p := ⟨w.heap.size, 3, none⟩) (show w.heap.size < W.heap.size by omega)).trans c3
      go_wp2
      go_ret
      exact ⟨_, rfl, (hownH.out.kept (by (try simp only [ext_ext]); repeat (first | exact Kept.refl _ | apply Kept.alloc | apply Kept.drew | apply kept_add | apply Kept.ext))).mono (by omega), (k1H.out.trans hkwH.out).trans (by (try simp only [ext_ext]); repeat (first | exact Kept.refl _ | apply Kept.alloc | apply Kept.drew | apply kept_add | apply Kept.ext))⟩
end Go.Proofs.Ytenmnipgnjaheaa
