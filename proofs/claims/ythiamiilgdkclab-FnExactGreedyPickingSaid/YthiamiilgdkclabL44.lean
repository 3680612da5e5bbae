/- Walk: the law of GreedyPicking. -/
import Derived.Test.YthiamiilgdkclabT14
import Derived.Test.YthiamiilgdkclabT19
import Derived.Test.YthiamiilgdkclabT20
import Derived.Test.YthiamiilgdkclabT23
namespace Go.Proofs.Ythiamiilgdkclab
open Go.RowKit
theorem eq01_comm (x y : Int) : eq01 x y = eq01 y x := by
  unfold eq01
  by_cases h : x = y
  · rw [if_pos h, if_pos h.symm]
  · rw [if_neg h, if_neg (Ne.symm h)]
theorem comS_comm (a b : Ln) : comS a b = comS b a := by
  unfold comS comRow
  rw [rsum_swap]
  exact rsum_congr fun i _ => rsum_congr fun j _ => eq01_comm _ _
def sortL (l : Ln) : Prop := l.a < l.b ∧ l.b < l.c
theorem sort_lines {xs : List Card} {l : Ln} (h : l ∈ linesC xs) : sortL l := by
  obtain ⟨i, k, m, rfl, h1, h2, _⟩ := mem_linesC h
  exact ⟨by simp only; omega, by simp only; omega⟩
theorem comI_comm {a b : Ln} (ha : sortL a) (hb : sortL b) : comI a b = comI b a := by
  rw [← comS_comI hb.1 hb.2, ← comS_comI ha.1 ha.2, comS_comm]
/-- Whether a line has a card in common with one of a list. -/
def hitL (ls : List Ln) (a : Ln) : Bool := ls.any fun b => decide (0 < comI a b)
def hitS (ls : List Ln) (a : Ln) : Bool := ls.any fun b => decide (0 < comS b a)
theorem hitS_hitL {ls : List Ln} {a : Ln} (ha : sortL a) (h : ∀ b, b ∈ ls → sortL b) : hitS ls a = hitL ls a := by
  unfold hitS hitL
  induction ls with
  | nil => rfl
  | cons b ls ih =>
    have hb := h b (by simp)
    rw [List.any_cons, List.any_cons, ih fun b hb => h b (by simp [hb]), comS_comI ha.1 ha.2, comI_comm hb ha]
/-- The picking found line by line. -/
def grK (ls : List Ln) : Nat → List Ln
  | 0 => []
  | k + 1 => if hitL (grK ls k) (lx ls k) = true then grK ls k else grK ls k ++ [lx ls k]
theorem grK_yes {ls : List Ln} {k : Nat} (h : hitL (grK ls k) (lx ls k) = true) : grK ls (k + 1) = grK ls k := by rw [grK, if_pos h]
theorem grK_no {ls : List Ln} {k : Nat} (h : hitL (grK ls k) (lx ls k) = false) : grK ls (k + 1) = grK ls k ++ [lx ls k] := by rw [grK, if_neg (by simp [h])]
theorem grK_len (ls : List Ln) : ∀ k, (grK ls k).length ≤ k
  | 0 => Nat.le_refl _
  | k + 1 => by
    have := grK_len ls k
    unfold grK
    split
    · omega
    · rw [List.length_append]; simp only [List.length_singleton]; omega
theorem grK_mem {ls : List Ln} : ∀ {k : Nat}, k ≤ ls.length → ∀ b, b ∈ grK ls k → b ∈ ls
  | 0, _, b, hb => by cases hb
  | k + 1, hk, b, hb => by
    unfold grK at hb
    split at hb
    · exact grK_mem (by omega) b hb
    · rcases List.mem_append.1 hb with h | h
      · exact grK_mem (by omega) b h
      · rw [List.mem_singleton] at h; subst h; exact lx_mem (by omega)
theorem gr_len {xs : List Card} (h : isHand xs = true) : (grK (linesC xs) (linesC xs).length).length ≤ 1048576 := by
  have h0 := (isHand_of h).1
  have h1 := grK_len (linesC xs) (linesC xs).length
  have h2 := linesC_len xs (by omega)
  omega
theorem l7Free_any (ao : Option Addr) (cap : Nat) (ls : List Ln) (l : Ln) (w : World) (hx : LinesAt w ao ls) (hl : ls.length ≤ 1048576) :
    Calls Try.prog 48 #[.slice ao ls.length cap, l.v] w fun e w' => e = .returned (.bool (!hitS ls l)) ∧ Kept w w' := by
  go_enter Try.func48, Try.ntmps48
  go_wp2
  go_loopw [5] (fun i wr => ∃ k : Nat, k ≤ ls.length ∧ i = .int .i64 k ∧ (∀ j, j < k → decide (0 < comS (lx ls j) l) = false) ∧ Kept (w.alloc (.cells #[.int .i64 l.a, .int .i64 l.b, .int .i64 l.c] 49)) wr) (fun i _ => ls.length - (intOf i).toNat)
  case atStart => exact ⟨0, Nat.zero_le _, rfl, fun j hj => absurd hj (Nat.not_lt_zero _), (by (try simp only [ext_ext]); repeat (first | exact Kept.refl _ | apply Kept.alloc | apply Kept.drew | apply kept_add | apply Kept.ext))⟩
  case round =>
    obtain ⟨k, hk, rfl, hn, z, rfl⟩ := hrel
    have hnH := hid hn
    clear hn
    by_cases hlt : k < ls.length
    · obtain ⟨g, off, rfl, hg, h1, h2, h3⟩ := hx k hlt
      have g1 : g < w.heap.size + 1 := by omega
      have g2 : g < w.heap.size + 1 + z.os.length := by omega
      have hmem := hid (lx_mem hlt)
      go_wp2_with (first | (refine wp_region_ext (by kernel_rfl) (by kernel_rfl) ?_; (repeat (go_big_quiet_step (((go_at_call 46; first | exact ext_call (l7Common_any (lx ls k) l _) | exact ext_call2 (l7Common_any (lx ls k) l _)))))); refine wpQuiet_end fun z => ?_))
      · rename_i h
        have hy : Hid (hitS ls l = true) := hid (List.any_eq_true.2 ⟨_, hmem.out, by simpa using h⟩)
        go_ret
        exact ⟨ret_of (by rw [hy.out]; rfl), (by (try simp only [ext_ext]); repeat (first | exact Kept.refl _ | apply Kept.alloc | apply Kept.drew | apply kept_add | apply Kept.ext))⟩
      · rename_i h
        go_roundw
        case rel =>
          refine ⟨k + 1, hlt, by go_num, fun j hj => ?_, (by (try simp only [ext_ext]); repeat (first | exact Kept.refl _ | apply Kept.alloc | apply Kept.drew | apply kept_add | apply Kept.ext))⟩
          rcases Nat.lt_or_eq_of_le (Nat.le_of_lt_succ hj) with h' | rfl
          · exact hnH.out j h'
          · exact decide_eq_false (by simpa using h)
        case measure => simp [intOf]; omega
    · have hno : Hid (hitS ls l = false) := hid (by
        unfold hitS
        rw [List.any_eq_false]
        intro b hb
        obtain ⟨j, hj, rfl⟩ := List.mem_iff_getElem.1 hb
        have := hnH.out j (by omega)
        rw [lx_get ls j hj] at this
        simpa using this)
      go_wp2
      go_ret
      exact ⟨ret_of (by rw [hno.out]; rfl), (by (try simp only [ext_ext]); repeat (first | exact Kept.refl _ | apply Kept.alloc | apply Kept.drew | apply kept_add | apply Kept.ext))⟩
theorem greedy1_any (B : Nat) (a l : Ln) (w : World) (hB : B < w.heap.size) (hc : LnCells w B 0 a) :
    Calls Try.prog 50 #[l.v, .pointer (some ⟨B, 0, none⟩)] w fun e w' => e = .returned (.bool (decide (0 < comI a l))) ∧ Kept w w' := by
  obtain ⟨h1, h2, h3⟩ := hc
  go_enter Try.func50, Try.ntmps50
  go_wp2_with (first | (go_at_call 47; refine Calls.mono (common_any a l _) ?_; rintro e w' ⟨rfl, y, rfl⟩))
  go_ret
  exact ⟨rfl, (by (try simp only [ext_ext]); repeat (first | exact Kept.refl _ | apply Kept.alloc | apply Kept.drew | apply kept_add | apply Kept.ext))⟩
theorem indexGreedy_any (B : Nat) (a : Ln) (ao : Option Addr) (cap : Nat) (ls : List Ln) (w : World) (hB : B < w.heap.size) (hc : LnCells w B 0 a) (hx : LinesAt w ao ls) (hl : ls.length ≤ 1048576) :
    Calls Try.prog 70 #[.slice ao ls.length cap, .func (.func 50) #[] #[.pointer (some ⟨B, 0, none⟩)]] w fun e w' => e = .returned (.int .i64 (idxOf (fun b => decide (0 < comI a b)) ls)) ∧ Kept w w' := by
  have hcl := hid (fun w' (hk : Kept w w') l => greedy1_any B a l w' (Nat.lt_of_lt_of_le hB hk.below.size) ⟨(hk.below.cell (p := ⟨_, _, none⟩) hB).trans hc.1, (hk.below.cell (p := ⟨_, _, none⟩) hB).trans hc.2.1, (hk.below.cell (p := ⟨_, _, none⟩) hB).trans hc.2.2⟩)
  clear hc
  go_enter Try.func70, Try.ntmps70
  go_wp2
  go_loopw [8] (fun i wr => ∃ k : Nat, k ≤ ls.length ∧ i = .int .i64 k ∧ (∀ j, j < k → decide (0 < comI a (lx ls j)) = false) ∧ Kept w wr) (fun i _ => ls.length - (intOf i).toNat)
  case atStart => exact ⟨0, Nat.zero_le _, rfl, fun j hj => absurd hj (Nat.not_lt_zero _), (by (try simp only [ext_ext]); repeat (first | exact Kept.refl _ | apply Kept.alloc | apply Kept.drew | apply kept_add | apply Kept.ext))⟩
  case round =>
    obtain ⟨k, hk, rfl, hn, z, rfl⟩ := hrel
    have hnH := hid hn
    clear hn
    by_cases hlt : k < ls.length
    · obtain ⟨g, off, rfl, hg, h1, h2, h3⟩ := hx k hlt
      go_wp2_with (first | (go_at_call 50; refine Calls.mono (hcl.out _ ((by (try simp only [ext_ext]); repeat (first | exact Kept.refl _ | apply Kept.alloc | apply Kept.drew | apply kept_add | apply Kept.ext))) (lx ls k)) ?_; rintro e w' ⟨rfl, y, rfl⟩))
      · rename_i h
        go_ret
        exact ⟨ret_of (by rw [idxOf_some (d := ⟨0, 0, 0⟩) hlt (decide_eq_true (show 0 < comI a (lx ls k) by simpa using h)) hnH.out]; rfl), (by (try simp only [ext_ext]); repeat (first | exact Kept.refl _ | apply Kept.alloc | apply Kept.drew | apply kept_add | apply Kept.ext))⟩
      · rename_i h
        go_roundw
        case rel =>
          refine ⟨k + 1, hlt, by go_num, fun j hj => ?_, (by (try simp only [ext_ext]); repeat (first | exact Kept.refl _ | apply Kept.alloc | apply Kept.drew | apply kept_add | apply Kept.ext))⟩
          rcases Nat.lt_or_eq_of_le (Nat.le_of_lt_succ hj) with h' | rfl
          · exact hnH.out j h'
          · exact decide_eq_false (by simpa using h)
        case measure => simp [intOf]; omega
    · go_wp2
      go_ret
      exact ⟨ret_of (by rw [idxOf_none (d := ⟨0, 0, 0⟩) fun j hj => hnH.out j (by omega)]; rfl), (by (try simp only [ext_ext]); repeat (first | exact Kept.refl _ | apply Kept.alloc | apply Kept.drew | apply kept_add | apply Kept.ext))⟩
theorem containsGreedy_any (B : Nat) (a : Ln) (ao : Option Addr) (cap : Nat) (ls : List Ln) (w : World) (hB : B < w.heap.size) (hc : LnCells w B 0 a) (hx : LinesAt w ao ls) (hl : ls.length ≤ 1048576) :
    Calls Try.prog 49 #[.slice ao ls.length cap, .func (.func 50) #[] #[.pointer (some ⟨B, 0, none⟩)]] w fun e w' => e = .returned (.bool (hitL ls a)) ∧ Kept w w' := by
  have hi := hid (indexGreedy_any B a ao cap ls w hB hc hx hl)
  go_enter Try.func49, Try.ntmps49
  go_wp2_with (first | (go_at_call 70; refine Calls.mono (hi.out) ?_; rintro e w' ⟨rfl, y, rfl⟩))
  go_ret
  exact ⟨ret_of (congrArg Value.bool (idxOf_any _ ls)), (by (try simp only [ext_ext]); repeat (first | exact Kept.refl _ | apply Kept.alloc | apply Kept.drew | apply kept_add | apply Kept.ext))⟩
theorem sGreedyPicking_no (ao : Option Addr) (cap : Nat) (xs : List Card) (w : World) (hx : CardsAt w ao xs) (hl : xs.length ≤ 1048576) (h : isHand xs = false) :
    Calls Try.prog 25 #[.slice ao xs.length cap] w (RetLT w false []) := by
  go_enter Try.func25, Try.ntmps25
  go_wp2_with (first | (go_at_call 29; refine Calls.mono (l2Hand_any _ _ _ _ (by first | assumption | exact CardsAt.kept (by assumption) (by (try simp only [ext_ext]); repeat (first | exact Kept.refl _ | apply Kept.alloc | apply Kept.drew | apply kept_add | apply Kept.ext))) hl) ?_; rintro e w' ⟨rfl, y, rfl⟩))
  refine bodyPost_ret (v := .tuple #[.slice (some ⟨w.heap.size, 0, none⟩) 0 0, .bool false]) (by simp [results, Try.results25, go_sem]) rfl ?_
  exact ⟨_, rfl, ownL_nil (Nat.le_refl _) ((ext_heap _ _ _ (by simp)).trans (heap_at rfl)), (by (try simp only [ext_ext]); repeat (first | exact Kept.refl _ | apply Kept.alloc | apply Kept.drew | apply kept_add | apply Kept.ext))⟩
theorem iGreedyPicking_no (ao : Option Addr) (cap : Nat) (xs : List Card) (w : World) (hx : CardsAt w ao xs) (hl : xs.length ≤ 1048576) (h : isHand xs = false) :
    Calls Try.prog 26 #[.slice ao xs.length cap] w (RetLT w false []) := by
  go_enter Try.func26, Try.ntmps26
  go_wp2_with (first | (go_at_call 33; refine Calls.mono (IsHand_any _ _ _ _ (by first | assumption | exact CardsAt.kept (by assumption) (by (try simp only [ext_ext]); repeat (first | exact Kept.refl _ | apply Kept.alloc | apply Kept.drew | apply kept_add | apply Kept.ext))) hl) ?_; rintro e w' ⟨rfl, y, rfl⟩))
  refine bodyPost_ret (v := .tuple #[.slice none 0 0, .bool false]) (by simp [results, Try.results26, go_sem]) rfl ?_
  exact ⟨_, rfl, ownL_none _ _, (by (try simp only [ext_ext]); repeat (first | exact Kept.refl _ | apply Kept.alloc | apply Kept.drew | apply kept_add | apply Kept.ext))⟩
theorem sGreedyPicking_yes (ao : Option Addr) (cap : Nat) (xs : List Card) (w : World) (hx : CardsAt w ao xs) (hh : isHand xs = true) :
    Calls Try.prog 25 #[.slice ao xs.length cap] w (RetLT w true (grK (linesC xs) (linesC xs).length)) := by
  have hl27 := (isHand_of hh).1
  have hc := areC_hand hh
  have hll := linesC_len xs (by omega)
  go_enter Try.func25, Try.ntmps25
  go_wp2_with (first | (go_at_call 29; refine Calls.mono (l2Hand_any _ _ _ _ (by first | assumption | exact CardsAt.kept (by assumption) (by (try simp only [ext_ext]); repeat (first | exact Kept.refl _ | apply Kept.alloc | apply Kept.drew | apply kept_add | apply Kept.ext))) (by omega)) ?_; rintro e w' ⟨rfl, y, rfl⟩) | (go_at_call 39; refine Calls.mono (l2Lines_any _ _ _ _ (by first | assumption | exact CardsAt.kept (by assumption) (by (try simp only [ext_ext]); repeat (first | exact Kept.refl _ | apply Kept.alloc | apply Kept.drew | apply kept_add | apply Kept.ext))) (by omega) hc) ?_; rintro e w' ⟨v, rfl, ho, z, rfl⟩; obtain ⟨ao', cap', hv, hx', hcap'⟩ := ho.reads; subst hv))
  go_loopw [6, 4] (fun i v wr => ∃ n : Nat, n ≤ (linesC xs).length ∧ i = .int .i64 n ∧ OwnL w.heap.size wr v (grK (linesC xs) n) ∧ Kept w wr ∧ SideL wr v (.slice ao' (linesC xs).length cap') (linesC xs)) (fun i _ _ => (linesC xs).length - (intOf i).toNat)
  case atStart =>
    refine ⟨0, Nat.zero_le _, rfl, ?_, (by (try simp only [ext_ext]); repeat (first | exact Kept.refl _ | apply Kept.alloc | apply Kept.drew | apply kept_add | apply Kept.ext)), ⟨⟨_, ho.kept (by (try simp only [ext_ext]); repeat (first | exact Kept.refl _ | apply Kept.alloc | apply Kept.drew | apply kept_add | apply Kept.ext))⟩, fun g hg => ?_⟩⟩
    · exact ownL_nil (Nat.le_refl _) ((ext_heap _ _ _ (by simp)).trans (heap_at rfl))
    · have := (ho.lt g hg).1
      simp at this
      simp [Value.ownBlock]
      omega
  case round wr =>
    obtain ⟨n, hn, rfl, hown, hkw, hside⟩ := hrel
    obtain ⟨ao4, cap4, hv4, hx4, _⟩ := hown.reads
    have hv4H := hid hv4
    subst hv4
    have hownH := hid hown
    have hkwH := hid hkw
    have hsideH := hid hside
    have hfl := hid (Nat.le_trans (grK_len (linesC xs) n) (show n ≤ 1048576 by omega))
    by_cases hlt : n < (linesC xs).length
    · obtain ⟨⟨B2, hB2⟩, _⟩ := hside
      obtain ⟨ao2, cap2, hv2, hx2, _⟩ := hB2.reads
      cases hv2
      obtain ⟨gl, ol, rfl, hgl, q1, q2, q3⟩ := hx2 n hlt
      have hws := hkw.below.size
      have hsl := hid (hitS_hitL (ls := grK (linesC xs) n) (a := lx (linesC xs) n) (sort_lines (lx_mem hlt)) fun b hb => sort_lines (grK_mem hn b hb))
      have hfr := hid (fun w' (hk : Kept wr w') => l7Free_any ao4 cap4 (grK (linesC xs) n) (lx (linesC xs) n) w' (hx4.kept hk) hfl.out)
      clear hkw hx2 hB2 hown
      cases hp : hitL (grK (linesC xs) n) (lx (linesC xs) n)
      all_goals
        have hpH := hid hp
        have hfr1 := hfr.out
        rw [hsl.out, hp] at hfr1
        have hfr2 := hid hfr1
        clear hfr1 hp
        go_wp2_with (first | (go_at_call 48; refine Calls.mono (hfr2.out _ ((by (try simp only [ext_ext]); repeat (first | exact Kept.refl _ | apply Kept.alloc | apply Kept.drew | apply kept_add | apply Kept.ext)))) ?_; rintro e w' ⟨rfl, y, rfl⟩) | (at_builtin; refine wpList_append_ln_at rfl _ _ rfl w w.heap.size _ _ rfl (hownH.out.kept (by (try simp only [ext_ext]); repeat (first | exact Kept.refl _ | apply Kept.alloc | apply Kept.drew | apply kept_add | apply Kept.ext))) (hkwH.out.trans (by (try simp only [ext_ext]); repeat (first | exact Kept.refl _ | apply Kept.alloc | apply Kept.drew | apply kept_add | apply Kept.ext))) (Nat.le_refl _) (by simp; omega) _ _ (lx (linesC xs) n) rfl ?_ hfl.out ?_; rotate_left; intro v' w' hown' hkw' hgr' hat'))
      case refine_1 => exact lnCells_new ⟨_, _, _⟩ (by simp)
      all_goals
        go_roundw
        case rel =>
          first
          | exact ⟨n + 1, hlt, by go_num, by rw [grK_no hpH.out]; exact hown', hkw', (hsideH.out.kept (by (try simp only [ext_ext]); repeat (first | exact Kept.refl _ | apply Kept.alloc | apply Kept.drew | apply kept_add | apply Kept.ext))).grown hgr' hat'⟩
          | exact ⟨n + 1, hlt, by go_num, by rw [grK_yes hpH.out]; exact hownH.out.kept (by (try simp only [ext_ext]); repeat (first | exact Kept.refl _ | apply Kept.alloc | apply Kept.drew | apply kept_add | apply Kept.ext)), hkwH.out.trans (by (try simp only [ext_ext]); repeat (first | exact Kept.refl _ | apply Kept.alloc | apply Kept.drew | apply kept_add | apply Kept.ext)), hsideH.out.kept (by (try simp only [ext_ext]); repeat (first | exact Kept.refl _ | apply Kept.alloc | apply Kept.drew | apply kept_add | apply Kept.ext))⟩
        case measure => simp [intOf]; omega
    · obtain rfl : n = (linesC xs).length := by omega
      go_wp2
      refine bodyPost_ret (v := .tuple #[.slice ao4 (grK (linesC xs) (linesC xs).length).length cap4, .bool true]) (by simp [results, Try.results25, go_sem]) rfl ?_
      exact ⟨_, rfl, hownH.out.kept (by (try simp only [ext_ext]); repeat (first | exact Kept.refl _ | apply Kept.alloc | apply Kept.drew | apply kept_add | apply Kept.ext)), hkwH.out.trans (by (try simp only [ext_ext]); repeat (first | exact Kept.refl _ | apply Kept.alloc | apply Kept.drew | apply kept_add | apply Kept.ext))⟩
theorem iGreedyPicking_yes (ao : Option Addr) (cap : Nat) (xs : List Card) (w : World) (hx : CardsAt w ao xs) (hh : isHand xs = true) :
    Calls Try.prog 26 #[.slice ao xs.length cap] w (RetLT w true (grK (linesC xs) (linesC xs).length)) := by
  have hl27 := (isHand_of hh).1
  have hc := areC_hand hh
  have hll := linesC_len xs (by omega)
  go_enter Try.func26, Try.ntmps26
  go_wp2_with (first | (go_at_call 33; refine Calls.mono (IsHand_any _ _ _ _ (by first | assumption | exact CardsAt.kept (by assumption) (by (try simp only [ext_ext]); repeat (first | exact Kept.refl _ | apply Kept.alloc | apply Kept.drew | apply kept_add | apply Kept.ext))) (by omega)) ?_; rintro e w' ⟨rfl, y, rfl⟩) | (go_at_call 41; refine Calls.mono (linesIn_any _ _ _ _ (by first | assumption | exact CardsAt.kept (by assumption) (by (try simp only [ext_ext]); repeat (first | exact Kept.refl _ | apply Kept.alloc | apply Kept.drew | apply kept_add | apply Kept.ext))) (by omega) hc (distC_hand hh)) ?_; rintro e w' ⟨v, rfl, ho, z, rfl⟩; obtain ⟨ao', cap', hv, hx', hcap'⟩ := ho.reads; subst hv))
  go_loopw [14, 4] (fun i v wr => ∃ n : Nat, n ≤ (linesC xs).length ∧ i = .int .i64 n ∧ OwnL w.heap.size wr v (grK (linesC xs) n) ∧ Kept w wr ∧ SideL wr v (.slice ao' (linesC xs).length cap') (linesC xs)) (fun i _ _ => (linesC xs).length - (intOf i).toNat)
  case atStart =>
    refine ⟨0, Nat.zero_le _, rfl, ?_, (by (try simp only [ext_ext]); repeat (first | exact Kept.refl _ | apply Kept.alloc | apply Kept.drew | apply kept_add | apply Kept.ext)), ⟨⟨_, ho.kept (by (try simp only [ext_ext]); repeat (first | exact Kept.refl _ | apply Kept.alloc | apply Kept.drew | apply kept_add | apply Kept.ext))⟩, fun g hg => ?_⟩⟩
    · exact ownL_nil (Nat.le_add_right _ _) ((ext_heap _ _ _ (by simp)).trans (heap_at (by simp)))
    · have := (ho.lt g hg).1
      simp at this
      simp [Value.ownBlock]
      omega
  case round wr =>
    obtain ⟨n, hn, rfl, hown, hkw, hside⟩ := hrel
    obtain ⟨ao4, cap4, hv4, hx4, _⟩ := hown.reads
    have hv4H := hid hv4
    subst hv4
    have hownH := hid hown
    have hkwH := hid hkw
    have hsideH := hid hside
    have hfl := hid (Nat.le_trans (grK_len (linesC xs) n) (show n ≤ 1048576 by omega))
    by_cases hlt : n < (linesC xs).length
    · obtain ⟨⟨B2, hB2⟩, _⟩ := hside
      obtain ⟨ao2, cap2, hv2, hx2, _⟩ := hB2.reads
      cases hv2
      obtain ⟨gl, ol, rfl, hgl, q1, q2, q3⟩ := hx2 n hlt
      have hws := hkw.below.size
      have hfr := hid (fun B w' (hB : B < w'.heap.size) (hcl : LnCells w' B 0 (lx (linesC xs) n)) (hk : Kept wr w') => containsGreedy_any B (lx (linesC xs) n) ao4 cap4 (grK (linesC xs) n) w' hB hcl (hx4.kept hk) hfl.out)
      clear hkw hx2 hB2 hown
      cases hp : hitL (grK (linesC xs) n) (lx (linesC xs) n)
      all_goals
        have hpH := hid hp
        have hfr1 := hfr.out
        rw [hp] at hfr1
        have hfr2 := hid hfr1
        clear hfr1 hp
        go_wp2_with (first | (go_at_call 49; refine Calls.mono (hfr2.out _ _ (by simp) (lnCells_new (lx (linesC xs) n) (by simp)) ((by (try simp only [ext_ext]); repeat (first | exact Kept.refl _ | apply Kept.alloc | apply Kept.drew | apply kept_add | apply Kept.ext)))) ?_; rintro e w' ⟨rfl, y, rfl⟩) | (at_builtin; refine wpList_append_ln_at rfl _ _ rfl w w.heap.size _ _ rfl (hownH.out.kept (by (try simp only [ext_ext]); repeat (first | exact Kept.refl _ | apply Kept.alloc | apply Kept.drew | apply kept_add | apply Kept.ext))) (hkwH.out.trans (by (try simp only [ext_ext]); repeat (first | exact Kept.refl _ | apply Kept.alloc | apply Kept.drew | apply kept_add | apply Kept.ext))) (Nat.le_refl _) (by simp; omega) _ _ (lx (linesC xs) n) rfl ?_ hfl.out ?_; rotate_left; intro v' w' hown' hkw' hgr' hat'))
      case refine_1 => exact lnCells_new ⟨_, _, _⟩ (by simp)
      all_goals
        go_roundw
        case rel =>
          first
          | exact ⟨n + 1, hlt, by go_num, by rw [grK_no hpH.out]; exact hown', hkw', (hsideH.out.kept (by (try simp only [ext_ext]); repeat (first | exact Kept.refl _ | apply Kept.alloc | apply Kept.drew | apply kept_add | apply Kept.ext))).grown hgr' hat'⟩
          | exact ⟨n + 1, hlt, by go_num, by rw [grK_yes hpH.out]; exact hownH.out.kept (by (try simp only [ext_ext]); repeat (first | exact Kept.refl _ | apply Kept.alloc | apply Kept.drew | apply kept_add | apply Kept.ext)), hkwH.out.trans (by (try simp only [ext_ext]); repeat (first | exact Kept.refl _ | apply Kept.alloc | apply Kept.drew | apply kept_add | apply Kept.ext)), hsideH.out.kept (by (try simp only [ext_ext]); repeat (first | exact Kept.refl _ | apply Kept.alloc | apply Kept.drew | apply kept_add | apply Kept.ext))⟩
        case measure => simp [intOf]; omega
    · obtain rfl : n = (linesC xs).length := by omega
      go_wp2
      refine bodyPost_ret (v := .tuple #[.slice ao4 (grK (linesC xs) (linesC xs).length).length cap4, .bool true]) (by simp [results, Try.results26, go_sem]) rfl ?_
      exact ⟨_, rfl, hownH.out.kept (by (try simp only [ext_ext]); repeat (first | exact Kept.refl _ | apply Kept.alloc | apply Kept.drew | apply kept_add | apply Kept.ext)), hkwH.out.trans (by (try simp only [ext_ext]); repeat (first | exact Kept.refl _ | apply Kept.alloc | apply Kept.drew | apply kept_add | apply Kept.ext))⟩
set_option maxHeartbeats 1000000 in
theorem walk_FnExactGreedyPicking (ao : Option Addr) (xs : List Card) (cap : Nat) {w : World} (hx : CardsAt w ao xs) (hl : xs.length ≤ maxLen) (_ : World) :
    Calls Try.prog 7 #[.slice ao xs.length cap] w fun e w' => e = .returned (.bool true) ∧ Kept w w' := by
  have hl' : xs.length ≤ 9223372036854775807 := by unfold maxLen at hl; omega
  by_cases hn : xs.length ≤ 1048576
  · obtain ⟨ok, ls, hS, hI, hll⟩ : ∃ ok ls, (∀ ao cap w, CardsAt w ao xs → Calls Try.prog 25 #[.slice ao xs.length cap] w (RetLT w ok ls)) ∧ (∀ ao cap w, CardsAt w ao xs → xs.length ≤ cap → Calls Try.prog 26 #[.slice ao xs.length cap] w (RetLT w ok ls)) ∧ ls.length ≤ 1048576 := by
      cases hg : isHand xs with
      | false => exact ⟨false, [], fun _ _ _ hx => sGreedyPicking_no _ _ _ _ hx hn hg, fun _ _ _ hx hc => iGreedyPicking_no _ _ _ _ hx hn hg, by simp⟩
      | true => exact ⟨true, grK (linesC xs) (linesC xs).length, fun _ _ _ hx => sGreedyPicking_yes _ _ _ _ hx hg, fun _ _ _ hx hc => iGreedyPicking_yes _ _ _ _ hx hg, (gr_len hg)⟩
    have p1 : ¬ ((1 : Int) + (xs.length : Int) * 4 < 0) := by omega
    have p2 : ¬ ((1 : Int) + (ls.length : Int) * 3 < 0) := by omega
    go_enter Try.func7, Try.ntmps7
    go_wp2_with (first | (go_at_call 9; refine Calls.mono (szIntA4S_any _ _ _ hl' _) ?_; rintro e w' ⟨rfl, rfl⟩))
    (go_at_call 11; refine Calls.mono (toIntA4S_any _ _ _ _ hx hn) ?_; rintro e w1 ⟨v1, rfl, ho1, k1⟩)
    obtain ⟨a1, c1, rfl, hx1, hc1⟩ := ho1.reads
    go_wp2_with (fail)
    (go_at_call 25; refine Calls.mono (hS _ _ _ hx1) ?_; rintro e w2 ⟨v2, rfl, ho2, k2⟩)
    have hx2 := hx.kept (k1.trans k2)
    go_wp2_with (fail)
    (go_at_call 11; refine Calls.mono (toIntA4S_any _ _ _ _ hx2 hn) ?_; rintro e w3 ⟨v3, rfl, ho3, k3⟩)
    obtain ⟨a3, c3, rfl, hx3, hc3⟩ := ho3.reads
    go_wp2_with (fail)
    (go_at_call 26; refine Calls.mono (hI _ _ _ hx3 hc3) ?_; rintro e w4 ⟨v4, rfl, ho4, k4⟩)
    have n43 : ∀ g, v4.ownBlock = some g → (Value.slice a3 xs.length c3).ownBlock ≠ some g := fun g h h' => by have := (ho4.lt g h).1; have := (ho3.lt g h').2; omega
    have n23 : ∀ g, v2.ownBlock = some g → (Value.slice a3 xs.length c3).ownBlock ≠ some g := fun g h h' => by have := (ho2.lt g h).2; have := (ho3.lt g h').1; omega
    have n24 : ∀ g, v2.ownBlock = some g → v4.ownBlock ≠ some g := fun g h h' => by have := (ho2.lt g h).2; have := (ho4.lt g h').1; have := k3.below.size; omega
    go_wp2_with (fail)
    (go_at_call 17; refine Calls.mono (eqL_any _ _ _ _ _ _ ho4 ((ho2.kept k3).kept k4) hll) ?_; rintro e w5 ⟨rfl, k5⟩)
    have hx5 := hx2.kept (k3.trans (k4.trans k5))
    go_wp2_with (fail)
    (go_at_call 11; refine Calls.mono (toIntA4S_any _ _ _ _ hx5 hn) ?_; rintro e w6 ⟨v6, rfl, ho6, k6⟩)
    obtain ⟨a6, c6, rfl, hx6, hc6⟩ := ho6.reads
    have hx36 := hx3.kept (k4.trans (k5.trans k6))
    go_wp2_with (fail)
    (go_at_call 14; refine Calls.mono (eqIntA4S_any _ _ _ _ _ _ _ hx36 hx6 hn hn) ?_; rintro e w7 ⟨rfl, k7⟩)
    have K7 : Kept w w7 := k1.trans (k2.trans (k3.trans (k4.trans (k5.trans (k6.trans k7)))))
    have s2 : w.heap.size ≤ w2.heap.size := (k1.trans k2).below.size
    have s3 : w.heap.size ≤ w3.heap.size := (k1.trans (k2.trans k3)).below.size
    go_wp2_with (fail)
    (go_at_call 18; refine Calls.mono (markIntA4S_any _ _ _ _ 1 _ (ho3.kept (k4.trans (k5.trans (k6.trans k7)))) hn (by decide) (by decide)) ?_; rintro e w8 ⟨rfl, _, g8⟩)
    have ho48 := (ho4.kept (k5.trans (k6.trans k7))).grown g8 n43
    have ho28 := (ho2.kept (k3.trans (k4.trans (k5.trans (k6.trans k7))))).grown g8 n23
    have K8 : Kept w w8 := K7.grown g8 fun k hk => Nat.le_trans s2 (ho3.lt k hk).1
    go_wp2_with (fail)
    (go_at_call 17; refine Calls.mono (eqL_any _ _ _ _ _ _ ho48 ho28 hll) ?_; rintro e w9 ⟨rfl, k9⟩)
    go_wp2_with (fail)
    (go_at_call 19; refine Calls.mono (markIntA3S_any _ _ _ _ 1 _ (ho48.kept k9) hll (by decide) (by decide)) ?_; rintro e w10 ⟨rfl, ho10, g10⟩)
    have K10 : Kept w w10 := (K8.trans k9).grown g10 fun k hk => Nat.le_trans s3 (ho4.lt k hk).1
    go_wp2_with (fail)
    (go_at_call 20; refine Calls.mono (heldIntA3S_any _ _ _ 1 _ ho10 hll (by decide) (by decide)) ?_; rintro e w11 ⟨rfl, k11⟩)
    have hx11 := hx.kept (K10.trans k11)
    go_wp2_with (fail)
    (go_at_call 11; refine Calls.mono (toIntA4S_any _ _ _ _ hx11 hn) ?_; rintro e w12 ⟨v12, rfl, ho12, k12⟩)
    obtain ⟨a12, c12, rfl, hx12, hc12⟩ := ho12.reads
    go_wp2_with (fail)
    (go_at_call 26; refine Calls.mono (hI _ _ _ hx12 hc12) ?_; rintro e w13 ⟨v13, rfl, ho13, k13⟩)
    have ho213 := (((ho28.kept k9).grown g10 n24).kept (k11.trans (k12.trans k13)))
    go_wp2_with (fail)
    (go_at_call 17; refine Calls.mono (eqL_any _ _ _ _ _ _ ho13 ho213 hll) ?_; rintro e w14 ⟨rfl, k14⟩)
    go_wp2_with (fail)
    (go_at_call 20; refine Calls.mono (heldIntA3S_any _ _ _ 1 _ (row_kept ho10 (k11.trans (k12.trans (k13.trans k14)))) hll (by decide) (by decide)) ?_; rintro e w15 ⟨rfl, k15⟩)
    go_wp2_with (fail)
    go_ret
    exact ⟨rfl, K10.trans (k11.trans (k12.trans (k13.trans (k14.trans k15))))⟩
  · go_enter Try.func7, Try.ntmps7
    go_wp2_with (first | (go_at_call 9; refine Calls.mono (szIntA4S_any _ _ _ hl' _) ?_; rintro e w' ⟨rfl, rfl⟩))
    go_ret
    exact ⟨rfl, (by (try simp only [ext_ext]); repeat (first | exact Kept.refl _ | apply Kept.alloc | apply Kept.drew | apply kept_add | apply Kept.ext))⟩
end Go.Proofs.Ythiamiilgdkclab
