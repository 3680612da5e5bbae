/- Walk: the law of ChanceStays. -/
import Derived.Test.YthiamiilgdkclabT23
import Derived.Test.YthiamiilgdkclabT14
import Derived.Test.YthiamiilgdkclabC2
namespace Go.Proofs.Ythiamiilgdkclab
open Go.RowKit
/-- Whether a line has one that is disjoint from it. -/
def hasFree (xs : List Card) (i m : Nat) : Bool := (List.range m).any fun j => decide (comI (lx (linesC xs) i) (lx (linesC xs) j) = 0)
theorem hasFree_next (xs : List Card) (i m : Nat) : hasFree xs i (m + 1) = (hasFree xs i m || decide (comI (lx (linesC xs) i) (lx (linesC xs) m) = 0)) := by simp [hasFree, List.range_succ]
theorem hasFree_yes {xs : List Card} {i m n : Nat} (h : m < n) (h0 : comI (lx (linesC xs) i) (lx (linesC xs) m) = 0) : hasFree xs i n = true := List.any_eq_true.2 ⟨m, List.mem_range.2 h, decide_eq_true h0⟩
def stN (xs : List Card) (n : Nat) : Int := rsum n fun i => if hasFree xs i (linesC xs).length = true then 1 else 0
theorem stN_next (xs : List Card) (n : Nat) : stN xs (n + 1) = stN xs n + if hasFree xs n (linesC xs).length = true then 1 else 0 := rfl
theorem stN_bd (xs : List Card) (n : Nat) : 0 ≤ stN xs n ∧ stN xs n ≤ n * 1 := rsum_bd fun i _ => by split <;> omega
def anyLine (xs : List Card) : Bool := isHand xs && decide (0 < (linesC xs).length)
abbrev chanceStays (xs : List Card) : Value := v2 (cutN (stN xs (linesC xs).length) (linesC xs).length) (cutD (stN xs (linesC xs).length) (linesC xs).length)
theorem sChanceStays_no (ao : Option Addr) (cap : Nat) (xs : List Card) (w : World) (hx : CardsAt w ao xs) (hl : xs.length ≤ 1048576) (h : anyLine xs = false) :
    Calls Try.prog 23 #[.slice ao xs.length cap] w fun e w' => e = .returned (.tuple #[v2 0 0, .bool false]) ∧ Kept w w' := by
  cases hh : isHand xs with
  | false =>
    go_enter Try.func23, Try.ntmps23
    go_wp2_with (first | (go_at_call 29; refine Calls.mono (l2Hand_any _ _ _ _ (by first | assumption | exact CardsAt.kept (by assumption) (by (try simp only [ext_ext]); repeat (first | exact Kept.refl _ | apply Kept.alloc | apply Kept.drew | apply kept_add | apply Kept.ext))) hl) ?_; rintro e w' ⟨rfl, y, rfl⟩))
    refine bodyPost_ret (v := .tuple #[v2 0 0, .bool false]) (by simp [results, Try.results23, go_sem]) rfl ⟨rfl, ?_⟩
    exact (by (try simp only [ext_ext]); repeat (first | exact Kept.refl _ | apply Kept.alloc | apply Kept.drew | apply kept_add | apply Kept.ext))
  | true =>
    have hn : ¬ 0 < (linesC xs).length := by simpa [anyLine, hh] using h
    have hn' : (linesC xs).length = 0 := by omega
    have hl27 := (isHand_of hh).1
    have hc := areC_hand hh
    clear hn h
    go_enter Try.func23, Try.ntmps23
    go_wp2_with (first | (go_at_call 29; refine Calls.mono (l2Hand_any _ _ _ _ (by first | assumption | exact CardsAt.kept (by assumption) (by (try simp only [ext_ext]); repeat (first | exact Kept.refl _ | apply Kept.alloc | apply Kept.drew | apply kept_add | apply Kept.ext))) hl) ?_; rintro e w' ⟨rfl, y, rfl⟩) | (go_at_call 39; refine Calls.mono (l2Lines_any _ _ _ _ (by first | assumption | exact CardsAt.kept (by assumption) (by (try simp only [ext_ext]); repeat (first | exact Kept.refl _ | apply Kept.alloc | apply Kept.drew | apply kept_add | apply Kept.ext))) (by omega) hc) ?_; rintro e w' ⟨v, rfl, ho, z, rfl⟩; obtain ⟨ao', cap', rfl, hx', hcap'⟩ := ho.reads; clear ho))
    refine bodyPost_ret (v := .tuple #[v2 0 0, .bool false]) (by simp [results, Try.results23, go_sem]) rfl ⟨rfl, ?_⟩
    exact (by (try simp only [ext_ext]); repeat (first | exact Kept.refl _ | apply Kept.alloc | apply Kept.drew | apply kept_add | apply Kept.ext))
theorem iChanceStays_no (ao : Option Addr) (cap : Nat) (xs : List Card) (w : World) (hx : CardsAt w ao xs) (hl : xs.length ≤ 1048576) (h : anyLine xs = false) :
    Calls Try.prog 24 #[.slice ao xs.length cap] w fun e w' => e = .returned (.tuple #[v2 0 0, .bool false]) ∧ Kept w w' := by
  cases hh : isHand xs with
  | false =>
    go_enter Try.func24, Try.ntmps24
    go_wp2_with (first | (go_at_call 33; refine Calls.mono (IsHand_any _ _ _ _ (by first | assumption | exact CardsAt.kept (by assumption) (by (try simp only [ext_ext]); repeat (first | exact Kept.refl _ | apply Kept.alloc | apply Kept.drew | apply kept_add | apply Kept.ext))) hl) ?_; rintro e w' ⟨rfl, y, rfl⟩))
    refine bodyPost_ret (v := .tuple #[v2 0 0, .bool false]) (by simp [results, Try.results24, go_sem]) rfl ⟨rfl, ?_⟩
    exact (by (try simp only [ext_ext]); repeat (first | exact Kept.refl _ | apply Kept.alloc | apply Kept.drew | apply kept_add | apply Kept.ext))
  | true =>
    have hn : ¬ 0 < (linesC xs).length := by simpa [anyLine, hh] using h
    have hn' : (linesC xs).length = 0 := by omega
    have hl27 := (isHand_of hh).1
    have hc := areC_hand hh
    clear hn h
    go_enter Try.func24, Try.ntmps24
    go_wp2_with (first | (go_at_call 33; refine Calls.mono (IsHand_any _ _ _ _ (by first | assumption | exact CardsAt.kept (by assumption) (by (try simp only [ext_ext]); repeat (first | exact Kept.refl _ | apply Kept.alloc | apply Kept.drew | apply kept_add | apply Kept.ext))) hl) ?_; rintro e w' ⟨rfl, y, rfl⟩) | (go_at_call 41; refine Calls.mono (linesIn_any _ _ _ _ (by first | assumption | exact CardsAt.kept (by assumption) (by (try simp only [ext_ext]); repeat (first | exact Kept.refl _ | apply Kept.alloc | apply Kept.drew | apply kept_add | apply Kept.ext))) (by omega) hc (distC_hand hh)) ?_; rintro e w' ⟨v, rfl, ho, z, rfl⟩; obtain ⟨ao', cap', rfl, hx', hcap'⟩ := ho.reads; clear ho))
    refine bodyPost_ret (v := .tuple #[v2 0 0, .bool false]) (by simp [results, Try.results24, go_sem]) rfl ⟨rfl, ?_⟩
    exact (by (try simp only [ext_ext]); repeat (first | exact Kept.refl _ | apply Kept.alloc | apply Kept.drew | apply kept_add | apply Kept.ext))
theorem sChanceStays_yes (ao : Option Addr) (cap : Nat) (xs : List Card) (w : World) (hx : CardsAt w ao xs) (h : anyLine xs = true) :
    Calls Try.prog 23 #[.slice ao xs.length cap] w fun e w' => e = .returned (.tuple #[chanceStays xs, .bool true]) ∧ Kept w w' := by
  have hh : isHand xs = true := by simp [anyLine] at h; exact h.1
  have h0 : 0 < (linesC xs).length := by simp [anyLine] at h; exact h.2
  have hl27 := (isHand_of hh).1
  have hc := areC_hand hh
  have hd := distC_hand hh
  have hll := linesC_len xs (by omega)
  clear h
  go_enter Try.func23, Try.ntmps23
  go_wp2_with (first | (go_at_call 29; refine Calls.mono (l2Hand_any _ _ _ _ (by first | assumption | exact CardsAt.kept (by assumption) (by (try simp only [ext_ext]); repeat (first | exact Kept.refl _ | apply Kept.alloc | apply Kept.drew | apply kept_add | apply Kept.ext))) (by omega)) ?_; rintro e w' ⟨rfl, y, rfl⟩) | (go_at_call 39; refine Calls.mono (l2Lines_any _ _ _ _ (by first | assumption | exact CardsAt.kept (by assumption) (by (try simp only [ext_ext]); repeat (first | exact Kept.refl _ | apply Kept.alloc | apply Kept.drew | apply kept_add | apply Kept.ext))) (by omega) hc) ?_; rintro e w' ⟨v, rfl, ho, z, rfl⟩; obtain ⟨ao', cap', rfl, hx', hcap'⟩ := ho.reads; clear ho))
  go_loopw [6, 5] (fun i s wr => ∃ n : Nat, n ≤ (linesC xs).length ∧ i = .int .i64 n ∧ s = .int .i64 (stN xs n) ∧ Kept (w.alloc (.cells #[.int .i64 0, .int .i64 0] 24)) wr ∧ LinesAt wr ao' (linesC xs)) (fun i _ _ => (linesC xs).length - (intOf i).toNat)
  case atStart => exact ⟨0, Nat.zero_le _, rfl, rfl, (by (try simp only [ext_ext]); repeat (first | exact Kept.refl _ | apply Kept.alloc | apply Kept.drew | apply kept_add | apply Kept.ext)), hx'.kept (by (try simp only [ext_ext]); repeat (first | exact Kept.refl _ | apply Kept.alloc | apply Kept.drew | apply kept_add | apply Kept.ext))⟩
  case round wr =>
    obtain ⟨n, hn, rfl, rfl, hkw, hxl⟩ := hrel
    have hb := stN_bd xs n
    have hnx := hid (stN_next xs n)
    by_cases hlt : n < (linesC xs).length
    · have hkwH := hid hkw
      clear hkw
      go_wp2
      go_loopw [7, 5] (fun j s wr => ∃ m : Nat, m ≤ (linesC xs).length ∧ j = .int .i64 m ∧ s = .int .i64 (stN xs n) ∧ hasFree xs n m = false ∧ Kept (w.alloc (.cells #[.int .i64 0, .int .i64 0] 24)) wr ∧ LinesAt wr ao' (linesC xs)) (fun j _ _ => (linesC xs).length - (intOf j).toNat)
      case atStart => exact ⟨0, Nat.zero_le _, rfl, rfl, rfl, hkwH.out.trans (by (try simp only [ext_ext]); repeat (first | exact Kept.refl _ | apply Kept.alloc | apply Kept.drew | apply kept_add | apply Kept.ext)), hxl.kept (by (try simp only [ext_ext]); repeat (first | exact Kept.refl _ | apply Kept.alloc | apply Kept.drew | apply kept_add | apply Kept.ext))⟩
      case round wr =>
        obtain ⟨m, hm, rfl, rfl, hf, hkw, hxl⟩ := hrel
        have hkwH := hid hkw
        have hfH := hid hf
        clear hkw hf
        by_cases hlt2 : m < (linesC xs).length
        · obtain ⟨gl, ol, rfl, hgl, q1, q2, q3⟩ := hxl n hlt
          obtain ⟨gl', ol', he, hgl', p1, p2, p3⟩ := hxl m hlt2
          cases he
          have hfn := hid (hasFree_next xs n m)
          have hcs := hid (comS_lines (a := lx (linesC xs) n) hlt2)
          have hfy := hid (fun h0 => hasFree_yes (xs := xs) (i := n) hlt2 h0)
          have hcom := hid (l7Common_any (lx (linesC xs) n) (lx (linesC xs) m))
          rw [hcs.out] at hcom
          go_wp2_with (first | (refine wp_region_ext (by kernel_rfl) (by kernel_rfl) ?_; (repeat (go_big_quiet_step (((go_at_call 46; first | exact ext_call (hcom.out _) | exact ext_call2 (hcom.out _)))))); refine wpQuiet_end fun z => ?_))
          · rename_i hcmp
            have h00 : comI (lx (linesC xs) n) (lx (linesC xs) m) = 0 := by simpa using hcmp
            have hy := hid (hfy.out h00)
            clear h00 hcmp
            go_roundw
            case rel => exact ⟨n + 1, hlt, by go_num, by rw [hnx.out, if_pos hy.out], hkwH.out.trans (by (try simp only [ext_ext]); repeat (first | exact Kept.refl _ | apply Kept.alloc | apply Kept.drew | apply kept_add | apply Kept.ext)), hxl.kept (by (try simp only [ext_ext]); repeat (first | exact Kept.refl _ | apply Kept.alloc | apply Kept.drew | apply kept_add | apply Kept.ext))⟩
            case measure => simp [intOf]; omega
          · rename_i hcmp
            go_roundw
            case rel => exact ⟨m + 1, hlt2, by go_num, rfl, by rw [hfn.out, hfH.out, decide_eq_false (by simpa using hcmp)]; rfl, hkwH.out.trans (by (try simp only [ext_ext]); repeat (first | exact Kept.refl _ | apply Kept.alloc | apply Kept.drew | apply kept_add | apply Kept.ext)), hxl.kept (by (try simp only [ext_ext]); repeat (first | exact Kept.refl _ | apply Kept.alloc | apply Kept.drew | apply kept_add | apply Kept.ext))⟩
            case measure => simp [intOf]; omega
        · obtain rfl : m = (linesC xs).length := by omega
          go_wp2
          go_roundw
          case rel => exact ⟨n + 1, hlt, by go_num, by rw [hnx.out, hfH.out]; simp, hkwH.out.trans (by (try simp only [ext_ext]); repeat (first | exact Kept.refl _ | apply Kept.alloc | apply Kept.drew | apply kept_add | apply Kept.ext)), hxl.kept (by (try simp only [ext_ext]); repeat (first | exact Kept.refl _ | apply Kept.alloc | apply Kept.drew | apply kept_add | apply Kept.ext))⟩
          case measure => simp [intOf]; omega
    · obtain rfl : n = (linesC xs).length := by omega
      obtain ⟨z, rfl⟩ := hkw
      clear hxl
      go_wp2_with (first | (go_at_call 30; refine Calls.mono (l9Cut_any _ _ hb.1 (by omega) (by omega) (by omega) _) ?_; rintro e w' ⟨rfl, y, rfl⟩))
      refine bodyPost_ret (v := .tuple #[chanceStays xs, .bool true]) (by simp [results, Try.results23, go_sem]) rfl ⟨rfl, ?_⟩
      exact (by (try simp only [ext_ext]); repeat (first | exact Kept.refl _ | apply Kept.alloc | apply Kept.drew | apply kept_add | apply Kept.ext))
theorem iChanceStays_yes (ao : Option Addr) (cap : Nat) (xs : List Card) (w : World) (hx : CardsAt w ao xs) (h : anyLine xs = true) :
    Calls Try.prog 24 #[.slice ao xs.length cap] w fun e w' => e = .returned (.tuple #[chanceStays xs, .bool true]) ∧ Kept w w' := by
  have hh : isHand xs = true := by simp [anyLine] at h; exact h.1
  have h0 : 0 < (linesC xs).length := by simp [anyLine] at h; exact h.2
  have hl27 := (isHand_of hh).1
  have hc := areC_hand hh
  have hd := distC_hand hh
  have hll := linesC_len xs (by omega)
  have hz : (((linesC xs).length : Int) == 0) = false := by simp only [ibeq]; exact decide_eq_false (by omega)
  clear h
  go_enter Try.func24, Try.ntmps24
  go_wp2_with (first | (go_at_call 33; refine Calls.mono (IsHand_any _ _ _ _ (by first | assumption | exact CardsAt.kept (by assumption) (by (try simp only [ext_ext]); repeat (first | exact Kept.refl _ | apply Kept.alloc | apply Kept.drew | apply kept_add | apply Kept.ext))) (by omega)) ?_; rintro e w' ⟨rfl, y, rfl⟩) | (go_at_call 41; refine Calls.mono (linesIn_any _ _ _ _ (by first | assumption | exact CardsAt.kept (by assumption) (by (try simp only [ext_ext]); repeat (first | exact Kept.refl _ | apply Kept.alloc | apply Kept.drew | apply kept_add | apply Kept.ext))) (by omega) hc hd) ?_; rintro e w' ⟨v, rfl, ho, z, rfl⟩; obtain ⟨ao', cap', rfl, hx', hcap'⟩ := ho.reads; clear ho))
  go_loopw [22, 5] (fun i s wr => ∃ n : Nat, n ≤ (linesC xs).length ∧ i = .int .i64 n ∧ s = .int .i64 (stN xs n) ∧ Kept (w.alloc (.cells #[.int .i64 0, .int .i64 0] 24)) wr ∧ LinesAt wr ao' (linesC xs)) (fun i _ _ => (linesC xs).length - (intOf i).toNat)
  case atStart => exact ⟨0, Nat.zero_le _, rfl, rfl, (by (try simp only [ext_ext]); repeat (first | exact Kept.refl _ | apply Kept.alloc | apply Kept.drew | apply kept_add | apply Kept.ext)), hx'.kept (by (try simp only [ext_ext]); repeat (first | exact Kept.refl _ | apply Kept.alloc | apply Kept.drew | apply kept_add | apply Kept.ext))⟩
  case round wr =>
    obtain ⟨n, hn, rfl, rfl, hkw, hxl⟩ := hrel
    have hb := stN_bd xs n
    have hnx := hid (stN_next xs n)
    by_cases hlt : n < (linesC xs).length
    · have hkwH := hid hkw
      clear hkw
      obtain ⟨gl, ol, rfl, hgl, q1, q2, q3⟩ := hxl n hlt
      go_wp2
      go_loopw [28, 5] (fun j s wr' => ∃ m : Nat, m ≤ (linesC xs).length ∧ j = .int .i64 m ∧ s = .int .i64 (stN xs n) ∧ hasFree xs n m = false ∧ Kept (wr.alloc (.cells #[.int .i64 (lx (linesC xs) n).a, .int .i64 (lx (linesC xs) n).b, .int .i64 (lx (linesC xs) n).c] 49)) wr') (fun j _ _ => (linesC xs).length - (intOf j).toNat)
      case atStart => exact ⟨0, Nat.zero_le _, rfl, rfl, rfl, (by (try simp only [ext_ext]); repeat (first | exact Kept.refl _ | apply Kept.alloc | apply Kept.drew | apply kept_add | apply Kept.ext))⟩
      case round =>
        obtain ⟨m, hm, rfl, rfl, hf, z, rfl⟩ := hrel
        have hfH := hid hf
        clear hf
        have g1 : gl < wr.heap.size + 1 := by omega
        have g2 : gl < wr.heap.size + 1 + z.os.length := by omega
        by_cases hlt2 : m < (linesC xs).length
        · obtain ⟨gl', ol', he, hgl', p1, p2, p3⟩ := hxl m hlt2
          cases he
          have hfn := hid (hasFree_next xs n m)
          have hfy := hid (fun h0 => hasFree_yes (xs := xs) (i := n) hlt2 h0)
          go_wp2_with (first | (go_at_call 47; refine Calls.mono (common_any _ _ _) ?_; rintro e w' ⟨rfl, y, rfl⟩))
          · rename_i hcmp
            have h00 : comI (lx (linesC xs) n) (lx (linesC xs) m) = 0 := by simpa using hcmp
            have hy := hid (hfy.out h00)
            clear h00 hcmp
            go_roundw
            case rel => exact ⟨n + 1, hlt, by go_num, by rw [hnx.out, if_pos hy.out], hkwH.out.trans (by (try simp only [ext_ext]); repeat (first | exact Kept.refl _ | apply Kept.alloc | apply Kept.drew | apply kept_add | apply Kept.ext)), hxl.kept (by (try simp only [ext_ext]); repeat (first | exact Kept.refl _ | apply Kept.alloc | apply Kept.drew | apply kept_add | apply Kept.ext))⟩
            case measure => simp [intOf]; omega
          · rename_i hcmp
            go_roundw
            case rel => exact ⟨m + 1, hlt2, by go_num, rfl, by rw [hfn.out, hfH.out, decide_eq_false (by simpa using hcmp)]; rfl, (by (try simp only [ext_ext]); repeat (first | exact Kept.refl _ | apply Kept.alloc | apply Kept.drew | apply kept_add | apply Kept.ext))⟩
            case measure => simp [intOf]; omega
        · obtain rfl : m = (linesC xs).length := by omega
          go_wp2
          go_roundw
          case rel => exact ⟨n + 1, hlt, by go_num, by rw [hnx.out, hfH.out]; simp, hkwH.out.trans (by (try simp only [ext_ext]); repeat (first | exact Kept.refl _ | apply Kept.alloc | apply Kept.drew | apply kept_add | apply Kept.ext)), hxl.kept (by (try simp only [ext_ext]); repeat (first | exact Kept.refl _ | apply Kept.alloc | apply Kept.drew | apply kept_add | apply Kept.ext))⟩
          case measure => simp [intOf]; omega
    · obtain rfl : n = (linesC xs).length := by omega
      obtain ⟨z, rfl⟩ := hkw
      clear hxl
      go_wp2_with (first | (go_at_call 34; refine Calls.mono (fraction_any _ _ hb.1 (by omega) (by omega) (by omega) _) ?_; rintro e w' ⟨rfl, y, rfl⟩))
      refine bodyPost_ret (v := .tuple #[chanceStays xs, .bool true]) (by simp [results, Try.results24, go_sem]) rfl ⟨rfl, ?_⟩
      exact (by (try simp only [ext_ext]); repeat (first | exact Kept.refl _ | apply Kept.alloc | apply Kept.drew | apply kept_add | apply Kept.ext))
theorem walk_FnExactChanceStays (ao : Option Addr) (xs : List Card) (cap : Nat) {w : World} (hx : CardsAt w ao xs) (hl : xs.length ≤ maxLen) (_ : World) :
    Calls Try.prog 6 #[.slice ao xs.length cap] w fun e w' => e = .returned (.bool true) ∧ Kept w w' := by
  have hl' : xs.length ≤ 9223372036854775807 := by unfold maxLen at hl; omega
  by_cases hn : xs.length ≤ 1048576
  · cases hg : anyLine xs with
    | false =>
      go_enter Try.func6, Try.ntmps6
      go_wp2_with (first | (go_at_call 9; refine Calls.mono (szIntA4S_any _ _ _ hl' _) ?_; rintro e w' ⟨rfl, rfl⟩) | (go_at_call 11; refine Calls.mono (toIntA4S_any _ _ _ _ (by first | assumption | exact CardsAt.kept (by assumption) (by (try simp only [ext_ext]); repeat (first | exact Kept.refl _ | apply Kept.alloc | apply Kept.drew | apply kept_add | apply Kept.ext))) hn) ?_; rintro e w' ⟨v, rfl, ho, z, rfl⟩; obtain ⟨ao', cap', rfl, hx', hcap'⟩ := ho.reads; clear ho) | (go_at_call 23; refine Calls.mono (sChanceStays_no _ _ _ _ (by first | assumption | exact CardsAt.kept (by assumption) (by (try simp only [ext_ext]); repeat (first | exact Kept.refl _ | apply Kept.alloc | apply Kept.drew | apply kept_add | apply Kept.ext))) hn hg) ?_; rintro e w' ⟨rfl, y, rfl⟩) | (go_at_call 24; refine Calls.mono (iChanceStays_no _ _ _ _ (by first | assumption | exact CardsAt.kept (by assumption) (by (try simp only [ext_ext]); repeat (first | exact Kept.refl _ | apply Kept.alloc | apply Kept.drew | apply kept_add | apply Kept.ext))) hn hg) ?_; rintro e w' ⟨rfl, y, rfl⟩) | (go_at_call 14; refine Calls.mono (eqIntA4S_any _ _ _ _ _ _ _ (by first | assumption | exact CardsAt.kept (by assumption) (by (try simp only [ext_ext]); repeat (first | exact Kept.refl _ | apply Kept.alloc | apply Kept.drew | apply kept_add | apply Kept.ext))) (by first | assumption | exact CardsAt.kept (by assumption) (by (try simp only [ext_ext]); repeat (first | exact Kept.refl _ | apply Kept.alloc | apply Kept.drew | apply kept_add | apply Kept.ext))) hn hn) ?_; rintro e w' ⟨rfl, y, rfl⟩) | (go_at_call 13; refine Calls.mono (eqIntA2_any _ _ _ _ _) ?_; rintro e w' ⟨rfl, y, rfl⟩))
      all_goals
        go_ret
        exact ⟨rfl, (by (try simp only [ext_ext]); repeat (first | exact Kept.refl _ | apply Kept.alloc | apply Kept.drew | apply kept_add | apply Kept.ext))⟩
    | true =>
      go_enter Try.func6, Try.ntmps6
      go_wp2_with (first | (go_at_call 9; refine Calls.mono (szIntA4S_any _ _ _ hl' _) ?_; rintro e w' ⟨rfl, rfl⟩) | (go_at_call 11; refine Calls.mono (toIntA4S_any _ _ _ _ (by first | assumption | exact CardsAt.kept (by assumption) (by (try simp only [ext_ext]); repeat (first | exact Kept.refl _ | apply Kept.alloc | apply Kept.drew | apply kept_add | apply Kept.ext))) hn) ?_; rintro e w' ⟨v, rfl, ho, z, rfl⟩; obtain ⟨ao', cap', rfl, hx', hcap'⟩ := ho.reads; clear ho) | (go_at_call 23; refine Calls.mono (sChanceStays_yes _ _ _ _ (by first | assumption | exact CardsAt.kept (by assumption) (by (try simp only [ext_ext]); repeat (first | exact Kept.refl _ | apply Kept.alloc | apply Kept.drew | apply kept_add | apply Kept.ext))) hg) ?_; rintro e w' ⟨rfl, y, rfl⟩) | (go_at_call 24; refine Calls.mono (iChanceStays_yes _ _ _ _ (by first | assumption | exact CardsAt.kept (by assumption) (by (try simp only [ext_ext]); repeat (first | exact Kept.refl _ | apply Kept.alloc | apply Kept.drew | apply kept_add | apply Kept.ext))) hg) ?_; rintro e w' ⟨rfl, y, rfl⟩) | (go_at_call 14; refine Calls.mono (eqIntA4S_any _ _ _ _ _ _ _ (by first | assumption | exact CardsAt.kept (by assumption) (by (try simp only [ext_ext]); repeat (first | exact Kept.refl _ | apply Kept.alloc | apply Kept.drew | apply kept_add | apply Kept.ext))) (by first | assumption | exact CardsAt.kept (by assumption) (by (try simp only [ext_ext]); repeat (first | exact Kept.refl _ | apply Kept.alloc | apply Kept.drew | apply kept_add | apply Kept.ext))) hn hn) ?_; rintro e w' ⟨rfl, y, rfl⟩) | (go_at_call 13; refine Calls.mono (eqIntA2_any _ _ _ _ _) ?_; rintro e w' ⟨rfl, y, rfl⟩))
      all_goals
        go_ret
        exact ⟨rfl, (by (try simp only [ext_ext]); repeat (first | exact Kept.refl _ | apply Kept.alloc | apply Kept.drew | apply kept_add | apply Kept.ext))⟩
  · go_enter Try.func6, Try.ntmps6
    go_wp2_with (first | (go_at_call 9; refine Calls.mono (szIntA4S_any _ _ _ hl' _) ?_; rintro e w' ⟨rfl, rfl⟩))
    go_ret
    exact ⟨rfl, (by (try simp only [ext_ext]); repeat (first | exact Kept.refl _ | apply Kept.alloc | apply Kept.drew | apply kept_add | apply Kept.ext))⟩
end Go.Proofs.Ythiamiilgdkclab
