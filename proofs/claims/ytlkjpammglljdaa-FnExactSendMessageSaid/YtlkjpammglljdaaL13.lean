/- Walk: the law of SendMessage. -/
import Derived.Test.YtlkjpammglljdaaC1
import Derived.Test.YtlkjpammglljdaaT16
import Derived.Test.YtlkjpammglljdaaT24
import Derived.Test.YtlkjpammglljdaaT28
import Derived.Test.YtlkjpammglljdaaR1
import Derived.Deep.AppendLies
import Derived.Deep.RegionLaw
namespace Go.Proofs.Ytlkjpammglljdaa
open Go.RowKit
def canSend (xs : List Int) : Bool := decide (xs.length ≤ 27) && xs.all fun n => inB n 0 8
def wordN (n : Int) : Card := wordC (n / 3) (n % 3)
theorem canSend_at {xs : List Int} (h : canSend xs = true) {j : Nat} (hj : j < xs.length) : 0 ≤ ix xs j ∧ ix xs j ≤ 8 := by
  simp only [canSend, Bool.and_eq_true, List.all_eq_true] at h
  rw [ix_get _ _ hj]
  exact inB_of (h.2 _ (List.getElem_mem hj))
theorem take_ix (xs : List Int) (k : Nat) (h : k < xs.length) : xs.take (k + 1) = xs.take k ++ [ix xs k] := by
  rw [List.take_succ_eq_append_getElem h, ix_get xs k h]
def words (xs : List Int) (k : Nat) : List Card := (xs.take k).map wordN
theorem words_next {xs : List Int} {k : Nat} (h : k < xs.length) : words xs (k + 1) = words xs k ++ [wordN (ix xs k)] := by
  unfold words; rw [take_ix xs k h, List.map_append]; rfl
theorem words_len (xs : List Int) (k : Nat) : (words xs k).length ≤ k := by
  unfold words; rw [List.length_map]; exact List.length_take_le _ _
theorem words_le {xs : List Int} (h : canSend xs = true) : (words xs xs.length).length ≤ 1048576 := by
  have h1 := words_len xs xs.length
  simp only [canSend, Bool.and_eq_true, decide_eq_true_eq] at h
  omega
def cpF (xs : List Int) (k : Nat) : Nat → Int := fun i => if i < k then ix xs i else 0
theorem own_tab2 {w : World} {B g n : Nat} {f : Nat → Int} (hB : B ≤ g) (hn : n ≤ maxLen) (h : w.heap[g]? = some (.cells (tab n f) 3)) : OwnI B w (.slice (some ⟨g, 0, none⟩) n n) (tl n f) := by
  have e : (tab n f).toList = vals1 (tl n f) := by simp [tab, tl]
  unfold OwnI
  rw [tl_len]
  exact ⟨by simp [tl], .inr ⟨g, n, tab n f, rfl, hB, h, Nat.le_refl _, hn, by rw [tab_size, Nat.mul_one], by rw [e, List.take_of_length_le (by simp [tl])]⟩⟩
theorem cpF_end (xs : List Int) : tl xs.length (cpF xs xs.length) = xs := by
  apply List.ext_getElem (by simp [tl])
  intro i h1 h2
  simp only [tl, List.getElem_map, List.getElem_range, cpF, if_pos h2, ix_get xs i h2]
theorem step_append_card {ops : Array Oper} {o : Oper} {a : Act} {K : Act → World → Prop} {Q : Exit → Act → World → Prop} {E : Prop} {w : World} (hgd : o.guard = none) (s x : Operand)
    (ho : o.op = .call { callee := .builtin .append, args := #[s, x], argTypes := #[23, 23] }) (W : World) (B : Nat) (v : Value) (cs : List Card) (hs : a.eval s = v) (hown : OwnC B w v cs) (hk : Kept W w) (hWB : W.heap.size ≤ B) (hBw : B ≤ w.heap.size)
    (g cap : Nat) (c : Card) (hx : a.eval x = .slice (some ⟨g, 0, none⟩) 1 cap) (hc : CardCells w g 0 c) (hl : cs.length ≤ 1048576)
    (h : ∀ v' w', OwnC B w' v' (cs ++ [c]) → Kept W w' → K (a.put o.dst v') w') : if Region.wanted o (yielded ops a.tmps) = true then Oper.wp Try.prog o a w K Q else E := by
  obtain ⟨i, hi, hz, hsz, hb⟩ := info_parts info_card
  obtain ⟨h0, h1, h2, h3⟩ := hc
  refine step_append_lies w hgd s x 23 ho B T4 i _ 4 32 Try.underlying23 hi hz hsz hb rfl (by decide) v cs.length (cells4 cs) hs hown ⟨g, 0, none⟩ 1 cap
    [.int .i64 c.a, .int .i64 c.b, .int .i64 c.c, .int .i64 c.d] hx rfl ?_ ?_ (by omega) (by unfold maxLen; omega) (by omega) hBw w.heap.size rfl ?_
  · intro j u hj
    match j, hj with
    | 0, hj => simp at hj; subst hj; exact h0
    | 1, hj => simp at hj; subst hj; exact h1
    | 2, hj => simp at hj; subst hj; exact h2
    | 3, hj => simp at hj; subst hj; exact h3
    | j + 4, hj => simp at hj
  · intro u hu
    simp at hu
    rcases hu with rfl | rfl | rfl | rfl <;> rfl
  · intro g' cap' w' hown' hg _ _
    refine h _ w' ?_ (hk.grown hg fun k hk => Nat.le_trans hWB (hown.lt k hk).1)
    have e : cells4 (cs ++ [c]) = cells4 cs ++ [.int .i64 c.a, .int .i64 c.b, .int .i64 c.c, .int .i64 c.d] := by simp [cells4]
    unfold OwnC
    rw [e, List.length_append]
    exact hown'
theorem toIntS_any (ao : Option Addr) (cap : Nat) (xs : List Int) (w : World) (hx : IntsAt w ao xs) (hl : xs.length ≤ 1048576) :
    Calls Try.prog 10 #[.slice ao xs.length cap] w (RetI w xs) := by
  have hmk : ∀ w : World, (Instr.makeSlice 22 (.int .i64 (xs.length : Int)) (.int .i64 (xs.length : Int))).run Try.prog w = .ok (.slice (some ⟨w.heap.size, 0, none⟩) xs.length xs.length) (w.alloc (.cells (tab xs.length (cpF xs 0)) 3)) := fun w => by
    obtain ⟨i, hi, hz, hs, hb⟩ := info_parts info_i64
    have := run_make (P := Try.prog) w 22 3 i _ Try.underlying22 hi hz .i64 .i64 (xs.length : Int) (xs.length : Int) (by omega) (Int.le_refl _) (by rw [hb]; omega) (by omega)
    rw [hs] at this
    have e : madeCells #[.int .i64 0] xs.length = tab xs.length (cpF xs 0) := by
      apply Array.ext_getElem?
      intro j
      by_cases hj : j < xs.length
      · rw [tab_get _ hj]
        simp [madeCells, hj, Nat.mod_one, cpF]
      · rw [Array.getElem?_eq_none (by rw [size_madeCells]; omega), Array.getElem?_eq_none (by rw [tab_size]; omega)]
    simpa [Value.cells, e] using this
  have hce := hid (cpF_end xs)
  go_enter Try.func10, Try.ntmps10
  go_wp2
  go_loopw [4] (fun i wr => ∃ k : Nat, k ≤ xs.length ∧ i = .int .i64 k ∧ Kept (w.alloc (.cells (tab xs.length (cpF xs k)) 3)) wr) (fun i _ => xs.length - (intOf i).toNat)
  case atStart => exact ⟨0, Nat.zero_le _, rfl, (by (try simp only [ext_ext]); repeat (first | exact Kept.refl _ | apply Kept.alloc | apply Kept.drew | apply kept_add | apply Kept.ext))⟩
  case round =>
    obtain ⟨k, hk, rfl, z, rfl⟩ := hrel
    by_cases hlt : k < xs.length
    · obtain ⟨g, off, rfl, hg, h1⟩ := hx k hlt
      have ht := tab_get (n := xs.length) (cpF xs k) hlt
      have g1 : g < w.heap.size + 1 := by omega
      have g2 : g < w.heap.size + 1 + z.os.length := by omega
      have hst : Hid (tab xs.length (upd (cpF xs k) k (ix xs k)) = tab xs.length (cpF xs (k + 1))) := hid (tab_congr fun i hi => by
        unfold upd cpF
        by_cases h1 : i = k
        · subst h1; simp
        · rw [if_neg h1]
          by_cases h2 : i < k
          · rw [if_pos h2, if_pos (by omega)]
          · rw [if_neg h2, if_neg (by omega)])
      go_wp2
      go_roundw
      case rel => exact ⟨k + 1, hlt, by go_num, by rw [tab_set, hst.out]; exact (by (try simp only [ext_ext]); repeat (first | exact Kept.refl _ | apply Kept.alloc | apply Kept.drew | apply kept_add | apply Kept.ext))⟩
      case measure => simp [intOf]; omega
    · obtain rfl : k = xs.length := by omega
      go_wp2
      go_ret
      refine ⟨_, rfl, ?_, (by (try simp only [ext_ext]); repeat (first | exact Kept.refl _ | apply Kept.alloc | apply Kept.drew | apply kept_add | apply Kept.ext))⟩
      have := own_tab2 (w := ext (w.alloc (.cells (tab xs.length (cpF xs xs.length)) 3)) z) (Nat.le_refl w.heap.size) (show xs.length ≤ maxLen by unfold maxLen; omega) ((ext_heap _ _ _ (by simp)).trans (heap_at rfl))
      rw [hce.out] at this
      exact this
theorem l11Message_any (ao : Option Addr) (cap : Nat) (xs : List Int) (w : World) (hx : IntsAt w ao xs) (hl : xs.length ≤ 1048576) :
    Calls Try.prog 32 #[.slice ao xs.length cap] w fun e w' => e = .returned (.bool (canSend xs)) ∧ Kept w w' := by
  go_enter Try.func32, Try.ntmps32
  go_wp2
  go_loopw [3] (fun i wr => ∃ k : Nat, k ≤ xs.length ∧ k ≤ 28 ∧ i = .int .i64 k ∧ (∀ j, j < k → inB (ix xs j) 0 8 = true) ∧ Kept w wr) (fun i _ => 28 - (intOf i).toNat)
  case atStart => exact ⟨0, Nat.zero_le _, by omega, rfl, fun j hj => absurd hj (Nat.not_lt_zero _), (by (try simp only [ext_ext]); repeat (first | exact Kept.refl _ | apply Kept.alloc | apply Kept.drew | apply kept_add | apply Kept.ext))⟩
  case round =>
    obtain ⟨k, hk, hk28, rfl, hn, z, rfl⟩ := hrel
    have hnH := hid hn
    clear hn
    by_cases hlt : k < xs.length
    · by_cases h27 : k ≤ 27
      · obtain ⟨g, off, rfl, hg, h1⟩ := hx k hlt
        cases hi : inB (ix xs k) 0 8
        · have hno : Hid (canSend xs = false) := hid (by
            cases hcs : canSend xs with
            | false => rfl
            | true => have := canSend_at hcs hlt; rw [inB_t this.1 this.2] at hi; cases hi)
          go_wp2_with (first | (go_at_call 54; refine Calls.mono (l1In_any _ _ _ _) ?_; rintro e w' ⟨rfl, rfl⟩))
          go_ret
          exact ⟨ret_of (by rw [hno.out]; rfl), (by (try simp only [ext_ext]); repeat (first | exact Kept.refl _ | apply Kept.alloc | apply Kept.drew | apply kept_add | apply Kept.ext))⟩
        · have hiH := hid hi
          go_wp2_with (first | (go_at_call 54; refine Calls.mono (l1In_any _ _ _ _) ?_; rintro e w' ⟨rfl, rfl⟩))
          go_roundw
          case rel =>
            refine ⟨k + 1, hlt, by omega, by go_num, fun j hj => ?_, (by (try simp only [ext_ext]); repeat (first | exact Kept.refl _ | apply Kept.alloc | apply Kept.drew | apply kept_add | apply Kept.ext))⟩
            rcases Nat.lt_or_eq_of_le (Nat.le_of_lt_succ hj) with h' | rfl
            · exact hnH.out j h'
            · exact hiH.out
          case measure => simp [intOf]; omega
      · have hno : Hid (canSend xs = false) := hid (by simp only [canSend]; rw [decide_eq_false (by omega)]; rfl)
        have hgt : ¬ xs.length ≤ 27 := by omega
        go_wp2
        go_ret
        exact ⟨ret_of (by rw [hno.out]; simp; omega), (by (try simp only [ext_ext]); repeat (first | exact Kept.refl _ | apply Kept.alloc | apply Kept.drew | apply kept_add | apply Kept.ext))⟩
    · obtain rfl : k = xs.length := by omega
      have hval : Hid (canSend xs = decide (xs.length ≤ 27)) := hid (by
        simp only [canSend]
        rw [show (xs.all fun n => inB n 0 8) = true from List.all_eq_true.2 fun x hx => by
          obtain ⟨j, hj, rfl⟩ := List.mem_iff_getElem.1 hx
          have := hnH.out j hj
          rwa [ix_get _ _ hj] at this, Bool.and_true])
      go_wp2
      go_ret
      exact ⟨ret_of (by rw [hval.out]; simp; try omega), (by (try simp only [ext_ext]); repeat (first | exact Kept.refl _ | apply Kept.alloc | apply Kept.drew | apply kept_add | apply Kept.ext))⟩
theorem sSendMessage_no (ao : Option Addr) (cap : Nat) (xs : List Int) (w : World) (hx : IntsAt w ao xs) (hl : xs.length ≤ 1048576) (h : canSend xs = false) :
    Calls Try.prog 9 #[.slice ao xs.length cap] w (RetCT w false []) := by
  go_enter Try.func9, Try.ntmps9
  go_wp2_with (first | (go_at_call 32; refine Calls.mono (l11Message_any _ _ _ _ (hx.kept (by (try simp only [ext_ext]); repeat (first | exact Kept.refl _ | apply Kept.alloc | apply Kept.drew | apply kept_add | apply Kept.ext))) hl) ?_; rintro e w' ⟨rfl, y, rfl⟩))
  refine bodyPost_ret (v := .tuple #[.slice (some ⟨w.heap.size, 0, none⟩) 0 0, .bool false]) (by simp [results, Try.results9, go_sem]) rfl ?_
  exact ⟨_, rfl, ownC_nil (Nat.le_refl _) ((ext_heap _ _ _ (by simp)).trans (heap_at rfl)), (by (try simp only [ext_ext]); repeat (first | exact Kept.refl _ | apply Kept.alloc | apply Kept.drew | apply kept_add | apply Kept.ext))⟩
theorem iSendMessage_no (ao : Option Addr) (cap : Nat) (xs : List Int) (w : World) (hx : IntsAt w ao xs) (hl : xs.length ≤ 1048576) (h : canSend xs = false) :
    Calls Try.prog 11 #[.slice ao xs.length cap] w (RetCT w false []) := by
  by_cases h27 : xs.length ≤ 27
  · have ha : (xs.all fun n => inB n 0 8) = false := by
      cases ha : xs.all fun n => inB n 0 8 with
      | false => rfl
      | true => simp [canSend, h27, ha] at h
    have hcl := hid (fun w' (hk : Kept w w') => allWithin_any 0 8 ao cap xs w' (hx.kept hk) hl)
    rw [ha] at hcl
    clear ha h
    go_enter Try.func11, Try.ntmps11
    go_wp2_with (first | (go_at_call 34; refine Calls.mono (hcl.out _ ((by (try simp only [ext_ext]); repeat (first | exact Kept.refl _ | apply Kept.alloc | apply Kept.drew | apply kept_add | apply Kept.ext)))) ?_; rintro e w' ⟨rfl, y, rfl⟩))
    refine bodyPost_ret (v := .tuple #[.slice none 0 0, .bool false]) (by simp [results, Try.results11, go_sem]) rfl ?_
    exact ⟨_, rfl, ownC_none _ _, (by (try simp only [ext_ext]); repeat (first | exact Kept.refl _ | apply Kept.alloc | apply Kept.drew | apply kept_add | apply Kept.ext))⟩
  · have h28 : 27 < xs.length := by omega
    go_enter Try.func11, Try.ntmps11
    go_wp2
    refine bodyPost_ret (v := .tuple #[.slice none 0 0, .bool false]) (by simp [results, Try.results11, go_sem]) rfl ?_
    exact ⟨_, rfl, ownC_none _ _, (by (try simp only [ext_ext]); repeat (first | exact Kept.refl _ | apply Kept.alloc | apply Kept.drew | apply kept_add | apply Kept.ext))⟩
set_option maxHeartbeats 4000000 in
theorem sSendMessage_yes (ao : Option Addr) (cap : Nat) (xs : List Int) (w : World) (hx : IntsAt w ao xs) (h : canSend xs = true) :
    Calls Try.prog 9 #[.slice ao xs.length cap] w (RetCT w true (words xs xs.length)) := by
  have h27 : xs.length ≤ 27 := by simp only [canSend, Bool.and_eq_true, decide_eq_true_eq] at h; exact h.1
  have hat := hid (fun j hj => canSend_at h (j := j) hj)
  go_enter Try.func9, Try.ntmps9
  go_wp2_with (first | (go_at_call 32; refine Calls.mono (l11Message_any _ _ _ _ (hx.kept (by (try simp only [ext_ext]); repeat (first | exact Kept.refl _ | apply Kept.alloc | apply Kept.drew | apply kept_add | apply Kept.ext))) (by omega)) ?_; rintro e w' ⟨rfl, y, rfl⟩))
  go_loopw [5, 4] (fun i v wr => ∃ k : Nat, k ≤ xs.length ∧ i = .int .i64 k ∧ OwnC w.heap.size wr v (words xs k) ∧ Kept w wr) (fun i _ _ => xs.length - (intOf i).toNat)
  case atStart => exact ⟨0, Nat.zero_le _, rfl, show OwnC _ _ _ [] from ownC_nil (Nat.le_refl _) ((ext_heap _ _ _ (by simp)).trans (heap_at rfl)), (by (try simp only [ext_ext]); repeat (first | exact Kept.refl _ | apply Kept.alloc | apply Kept.drew | apply kept_add | apply Kept.ext))⟩
  case round =>
    obtain ⟨k, hk, rfl, hown, z, rfl⟩ := hrel
    have hownH := hid hown
    have hlen := hid (words_len xs k)
    clear hown
    by_cases hlt : k < xs.length
    · obtain ⟨g, off, rfl, hg, h1⟩ := hx k hlt
      obtain ⟨c1, c2⟩ := hat.out k hlt
      have hnx := hid (words_next hlt)
      have hwq : IntKind.i64.wrap (ix xs k / 3) = ix xs k / 3 := IntWalk.i64_in _ (by omega)
      have hwd := hid (fun w' => l11Word_any (ix xs k / 3) (ix xs k % 3) (by omega) (by omega) (by omega) (by omega) w')
      have hwd2 := hid (fun (p q : Int) w' (hp : p = ix xs k / 3) (hq : q = ix xs k % 3) => show Calls Try.prog 33 #[.int .i64 p, .int .i64 q] w' fun e w'' => e = .returned (wordC (ix xs k / 3) (ix xs k % 3)).v ∧ Kept w' w'' from by rw [hp, hq]; exact hwd.out w')
      go_wp2_with (first | go_region_law (first | (refine step_append_card rfl _ _ rfl w w.heap.size _ _ rfl (hownH.out.kept (by (try simp only [ext_ext]); repeat (first | exact Kept.refl _ | apply Kept.alloc | apply Kept.drew | apply kept_add | apply Kept.ext))) (by (try simp only [ext_ext]); repeat (first | exact Kept.refl _ | apply Kept.alloc | apply Kept.drew | apply kept_add | apply Kept.ext)) (Nat.le_refl _) (by simp; omega) _ _ (wordN (ix xs k)) rfl (cardCells_new (wordN (ix xs k)) (by simp)) (by have := hlen.out; omega) ?_; intro v' w' hown' hkw') | (go_simp; go_at_call 33; refine Calls.mono (hwd2.out _ _ _ (by first | omega | (rw [Int.tdiv_eq_ediv_of_nonneg c1]; exact hwq)) (by first | omega | (rw [Int.tmod_eq_emod_of_nonneg c1]))) ?_; rintro e w' ⟨rfl, y, rfl⟩)))
      all_goals
        go_roundw
        case rel => exact ⟨k + 1, hlt, by go_num, by rw [hnx.out]; exact hown', hkw'⟩
        case measure => simp [intOf]; omega
    · obtain rfl : k = xs.length := by omega
      go_wp2
      refine bodyPost_ret (v := .tuple #[u4, .bool true]) (by simp [results, Try.results9, go_sem]) rfl ?_
      exact ⟨_, rfl, hownH.out.kept (by (try simp only [ext_ext]); repeat (first | exact Kept.refl _ | apply Kept.alloc | apply Kept.drew | apply kept_add | apply Kept.ext)), (by (try simp only [ext_ext]); repeat (first | exact Kept.refl _ | apply Kept.alloc | apply Kept.drew | apply kept_add | apply Kept.ext))⟩
theorem iSendMessage_yes (ao : Option Addr) (cap : Nat) (xs : List Int) (w : World) (hx : IntsAt w ao xs) (h : canSend xs = true) :
    Calls Try.prog 11 #[.slice ao xs.length cap] w (RetCT w true (words xs xs.length)) := by
  have h27 : xs.length ≤ 27 := by simp only [canSend, Bool.and_eq_true, decide_eq_true_eq] at h; exact h.1
  have hat := hid (fun j hj => canSend_at h (j := j) hj)
  have ha : (xs.all fun n => inB n 0 8) = true := by simp only [canSend, Bool.and_eq_true] at h; exact h.2
  have hcl := hid (fun w' (hk : Kept w w') => allWithin_any 0 8 ao cap xs w' (hx.kept hk) (by omega))
  rw [ha] at hcl
  clear ha h
  go_enter Try.func11, Try.ntmps11
  go_wp2_with (first | (go_at_call 34; refine Calls.mono (hcl.out _ ((by (try simp only [ext_ext]); repeat (first | exact Kept.refl _ | apply Kept.alloc | apply Kept.drew | apply kept_add | apply Kept.ext)))) ?_; rintro e w' ⟨rfl, y, rfl⟩))
  go_loopw [18, 4] (fun i v wr => ∃ k : Nat, k ≤ xs.length ∧ i = .int .i64 k ∧ OwnC w.heap.size wr v (words xs k) ∧ Kept w wr) (fun i _ _ => xs.length - (intOf i).toNat)
  case atStart => exact ⟨0, Nat.zero_le _, rfl, show OwnC _ _ _ [] from ownC_nil (Nat.le_add_right _ _) (heap_at (by simp)), (by (try simp only [ext_ext]); repeat (first | exact Kept.refl _ | apply Kept.alloc | apply Kept.drew | apply kept_add | apply Kept.ext))⟩
  case round =>
    obtain ⟨k, hk, rfl, hown, z, rfl⟩ := hrel
    have hownH := hid hown
    have hlen := hid (words_len xs k)
    clear hown
    by_cases hlt : k < xs.length
    · obtain ⟨g, off, rfl, hg, h1⟩ := hx k hlt
      obtain ⟨c1, c2⟩ := hat.out k hlt
      have hnx := hid (words_next hlt)
      have hwd := hid (fun w' => codeword_any (ix xs k / 3) (ix xs k % 3) (by omega) (by omega) (by omega) (by omega) w')
      go_wp2_with (first | (go_at_call 35; refine Calls.mono (hwd.out _) ?_; rintro e w' ⟨rfl, y, rfl⟩) | (at_builtin; refine wpList_append_card_at rfl _ _ rfl w w.heap.size _ _ rfl (hownH.out.kept (by (try simp only [ext_ext]); repeat (first | exact Kept.refl _ | apply Kept.alloc | apply Kept.drew | apply kept_add | apply Kept.ext))) (by (try simp only [ext_ext]); repeat (first | exact Kept.refl _ | apply Kept.alloc | apply Kept.drew | apply kept_add | apply Kept.ext)) (Nat.le_refl _) (by simp; omega) _ _ (wordN (ix xs k)) rfl ?_ (by have := hlen.out; omega) ?_; rotate_left; intro v' w' hown' hkw' hgr' hat'))
      case refine_1 => exact cardCells_new _ (by simp)
      go_roundw
      case rel => exact ⟨k + 1, hlt, by go_num, by rw [hnx.out]; exact hown', hkw'⟩
      case measure => simp [intOf]; omega
    · obtain rfl : k = xs.length := by omega
      go_wp2
      refine bodyPost_ret (v := .tuple #[u4, .bool true]) (by simp [results, Try.results11, go_sem]) rfl ?_
      exact ⟨_, rfl, hownH.out.kept (by (try simp only [ext_ext]); repeat (first | exact Kept.refl _ | apply Kept.alloc | apply Kept.drew | apply kept_add | apply Kept.ext)), (by (try simp only [ext_ext]); repeat (first | exact Kept.refl _ | apply Kept.alloc | apply Kept.drew | apply kept_add | apply Kept.ext))⟩
set_option maxHeartbeats 1000000 in
theorem walk_FnExactSendMessage (ao : Option Addr) (xs : List Int) (cap : Nat) {w : World} (hx : IntsAt w ao xs) (hl : xs.length ≤ maxLen) (_ : World) :
    Calls Try.prog 3 #[.slice ao xs.length cap] w fun e w' => e = .returned (.bool true) ∧ Kept w w' := by
  have hl' : xs.length ≤ 9223372036854775807 := by unfold maxLen at hl; omega
  by_cases hn : xs.length ≤ 1048576
  · obtain ⟨ok, ls, hS, hI, hll⟩ : ∃ ok ls, (∀ ao cap w, IntsAt w ao xs → Calls Try.prog 9 #[.slice ao xs.length cap] w (RetCT w ok ls)) ∧ (∀ ao cap w, IntsAt w ao xs → xs.length ≤ cap → Calls Try.prog 11 #[.slice ao xs.length cap] w (RetCT w ok ls)) ∧ ls.length ≤ 1048576 := by
      cases hg : canSend xs with
      | false => exact ⟨false, [], fun _ _ _ hx => sSendMessage_no _ _ _ _ hx hn hg, fun _ _ _ hx hc => iSendMessage_no _ _ _ _ hx hn hg, by simp⟩
      | true => exact ⟨true, words xs xs.length, fun _ _ _ hx => sSendMessage_yes _ _ _ _ hx hg, fun _ _ _ hx hc => iSendMessage_yes _ _ _ _ hx hg, (words_le hg)⟩
    have p1 : ¬ ((1 : Int) + (xs.length : Int) < 0) := by omega
    have p2 : ¬ ((1 : Int) + (ls.length : Int) * 4 < 0) := by omega
    go_enter Try.func3, Try.ntmps3
    go_wp2_with (fail)
    (go_at_call 10; refine Calls.mono (toIntS_any _ _ _ _ hx hn) ?_; rintro e w1 ⟨v1, rfl, ho1, k1⟩)
    obtain ⟨a1, c1, rfl, hx1, hc1⟩ := ho1.reads
    go_wp2_with (fail)
    (go_at_call 9; refine Calls.mono (hS _ _ _ hx1) ?_; rintro e w2 ⟨v2, rfl, ho2, k2⟩)
    have hx2 := hx.kept (k1.trans k2)
    go_wp2_with (fail)
    (go_at_call 10; refine Calls.mono (toIntS_any _ _ _ _ hx2 hn) ?_; rintro e w3 ⟨v3, rfl, ho3, k3⟩)
    obtain ⟨a3, c3, rfl, hx3, hc3⟩ := ho3.reads
    go_wp2_with (fail)
    (go_at_call 11; refine Calls.mono (hI _ _ _ hx3 hc3) ?_; rintro e w4 ⟨v4, rfl, ho4, k4⟩)
    have n43 : ∀ g, v4.ownBlock = some g → (Value.slice a3 xs.length c3).ownBlock ≠ some g := fun g h h' => by have := (ho4.lt g h).1; have := (ho3.lt g h').2; omega
    have n23 : ∀ g, v2.ownBlock = some g → (Value.slice a3 xs.length c3).ownBlock ≠ some g := fun g h h' => by have := (ho2.lt g h).2; have := (ho3.lt g h').1; omega
    have n24 : ∀ g, v2.ownBlock = some g → v4.ownBlock ≠ some g := fun g h h' => by have := (ho2.lt g h).2; have := (ho4.lt g h').1; have := k3.below.size; omega
    go_wp2_with (fail)
    (go_at_call 12; refine Calls.mono (eqC_any _ _ _ _ _ _ ho4 ((ho2.kept k3).kept k4) hll) ?_; rintro e w5 ⟨rfl, k5⟩)
    have hx5 := hx2.kept (k3.trans (k4.trans k5))
    go_wp2_with (fail)
    (go_at_call 10; refine Calls.mono (toIntS_any _ _ _ _ hx5 hn) ?_; rintro e w6 ⟨v6, rfl, ho6, k6⟩)
    obtain ⟨a6, c6, rfl, hx6, hc6⟩ := ho6.reads
    have hx36 := hx3.kept (k4.trans (k5.trans k6))
    go_wp2_with (fail)
    (go_at_call 13; refine Calls.mono (eqI_any _ _ _ _ _ _ (ho3.kept (k4.trans (k5.trans k6))) ho6 hn) ?_; rintro e w7 ⟨rfl, k7⟩)
    have K7 : Kept w w7 := k1.trans (k2.trans (k3.trans (k4.trans (k5.trans (k6.trans k7)))))
    have s2 : w.heap.size ≤ w2.heap.size := (k1.trans k2).below.size
    have s3 : w.heap.size ≤ w3.heap.size := (k1.trans (k2.trans k3)).below.size
    go_wp2_with (fail)
    (go_at_call 14; refine Calls.mono (markIntS_any _ _ _ _ 1 _ (ho3.kept (k4.trans (k5.trans (k6.trans k7)))) hn (by decide) (by decide)) ?_; rintro e w8 ⟨rfl, _, g8⟩)
    have ho48 := (ho4.kept (k5.trans (k6.trans k7))).grown g8 n43
    have ho28 := (ho2.kept (k3.trans (k4.trans (k5.trans (k6.trans k7))))).grown g8 n23
    have K8 : Kept w w8 := K7.grown g8 fun k hk => Nat.le_trans s2 (ho3.lt k hk).1
    go_wp2_with (fail)
    (go_at_call 12; refine Calls.mono (eqC_any _ _ _ _ _ _ ho48 ho28 hll) ?_; rintro e w9 ⟨rfl, k9⟩)
    go_wp2_with (fail)
    (go_at_call 15; refine Calls.mono (markIntA4S_any _ _ _ _ 1 _ (ho48.kept k9) hll (by decide) (by decide)) ?_; rintro e w10 ⟨rfl, ho10, g10⟩)
    have K10 : Kept w w10 := (K8.trans k9).grown g10 fun k hk => Nat.le_trans s3 (ho4.lt k hk).1
    go_wp2_with (fail)
    (go_at_call 16; refine Calls.mono (heldIntA4S_any _ _ _ 1 _ ho10 hll (by decide) (by decide)) ?_; rintro e w11 ⟨rfl, k11⟩)
    have hx11 := hx.kept (K10.trans k11)
    go_wp2_with (fail)
    (go_at_call 10; refine Calls.mono (toIntS_any _ _ _ _ hx11 hn) ?_; rintro e w12 ⟨v12, rfl, ho12, k12⟩)
    obtain ⟨a12, c12, rfl, hx12, hc12⟩ := ho12.reads
    go_wp2_with (fail)
    (go_at_call 11; refine Calls.mono (hI _ _ _ hx12 hc12) ?_; rintro e w13 ⟨v13, rfl, ho13, k13⟩)
    have ho213 := (((ho28.kept k9).grown g10 n24).kept (k11.trans (k12.trans k13)))
    go_wp2_with (fail)
    (go_at_call 12; refine Calls.mono (eqC_any _ _ _ _ _ _ ho13 ho213 hll) ?_; rintro e w14 ⟨rfl, k14⟩)
    go_wp2_with (fail)
    (go_at_call 16; refine Calls.mono (heldIntA4S_any _ _ _ 1 _ (row_kept ho10 (k11.trans (k12.trans (k13.trans k14)))) hll (by decide) (by decide)) ?_; rintro e w15 ⟨rfl, k15⟩)
    go_wp2_with (fail)
    go_ret
    exact ⟨rfl, K10.trans (k11.trans (k12.trans (k13.trans (k14.trans k15))))⟩
  · go_enter Try.func3, Try.ntmps3
    go_wp2_with (fail)
    go_ret
    exact ⟨rfl, (by (try simp only [ext_ext]); repeat (first | exact Kept.refl _ | apply Kept.alloc | apply Kept.drew | apply kept_add | apply Kept.ext))⟩
end Go.Proofs.Ytlkjpammglljdaa
