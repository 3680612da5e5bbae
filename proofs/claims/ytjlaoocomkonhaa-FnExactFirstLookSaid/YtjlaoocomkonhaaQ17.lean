/- Contracts: few cards; the order of rows of cards; copies of rows of cards. Rows of rows of numbers of the call's own (as in T65, for seats without choices). Contracts: a copy of a row of numbers. -/
import Derived.Test.YtjlaoocomkonhaaQ16
import Derived.Test.YtjlaoocomkonhaaQ12
import Derived.Test.YtjlaoocomkonhaaQ08
namespace Go.Proofs.Ytjlaoocomkonhaa
open Go.RowKit
def fewB (xs : List Card) : Bool := isHand xs && decide (xs.length ≤ 6)
theorem fewB_of {xs : List Card} (h : fewB xs = true) : isHand xs = true ∧ xs.length ≤ 6 := by simpa [fewB] using h
theorem l5Few_any (ao : Option Addr) (cap : Nat) (xs : List Card) (w : World) (hx : CardsAt w ao xs) (hl : xs.length ≤ 1048576) :
    Calls Try.prog 25 #[.slice ao xs.length cap] w fun e w' => e = .returned (.bool (fewB xs)) ∧ Kept w w' := by
  have hH := hid (fun w' (hk : Kept w w') => l2Hand_any ao cap xs w' (hx.kept hk) hl)
  cases hh : isHand xs with
  | false =>
    rw [hh] at hH
    go_enter Try.func25, Try.ntmps25
    go_wp2_with (first | (go_at_call 39; refine Calls.mono (hH.out _ ((by (try simp only [ext_ext]); repeat (first | exact Kept.refl _ | apply Kept.alloc | apply Kept.drew | apply kept_add | apply Kept.ext)))) ?_; rintro e w' ⟨rfl, y, rfl⟩))
    go_ret
    exact ⟨ret_of (by simp [fewB, hh]), (by (try simp only [ext_ext]); repeat (first | exact Kept.refl _ | apply Kept.alloc | apply Kept.drew | apply kept_add | apply Kept.ext))⟩
  | true =>
    rw [hh] at hH
    by_cases h6 : xs.length ≤ 6
    · have h6i : (xs.length : Int) ≤ 6 := by omega
      go_enter Try.func25, Try.ntmps25
      go_wp2_with (first | (go_at_call 39; refine Calls.mono (hH.out _ ((by (try simp only [ext_ext]); repeat (first | exact Kept.refl _ | apply Kept.alloc | apply Kept.drew | apply kept_add | apply Kept.ext)))) ?_; rintro e w' ⟨rfl, y, rfl⟩))
      go_ret
      exact ⟨ret_of (by simp [fewB, hh, h6]), (by (try simp only [ext_ext]); repeat (first | exact Kept.refl _ | apply Kept.alloc | apply Kept.drew | apply kept_add | apply Kept.ext))⟩
    · have h6i : ¬ (xs.length : Int) ≤ 6 := by omega
      go_enter Try.func25, Try.ntmps25
      go_wp2_with (first | (go_at_call 39; refine Calls.mono (hH.out _ ((by (try simp only [ext_ext]); repeat (first | exact Kept.refl _ | apply Kept.alloc | apply Kept.drew | apply kept_add | apply Kept.ext)))) ?_; rintro e w' ⟨rfl, y, rfl⟩))
      go_ret
      exact ⟨ret_of (by simp [fewB, hh, h6]; omega), (by (try simp only [ext_ext]); repeat (first | exact Kept.refl _ | apply Kept.alloc | apply Kept.drew | apply kept_add | apply Kept.ext))⟩
theorem isFew_any (ao : Option Addr) (cap : Nat) (xs : List Card) (w : World) (hx : CardsAt w ao xs) (hl : xs.length ≤ 1048576) :
    Calls Try.prog 30 #[.slice ao xs.length cap] w fun e w' => e = .returned (.bool (fewB xs)) ∧ Kept w w' := by
  have hH := hid (fun w' (hk : Kept w w') => IsHand_any ao cap xs w' (hx.kept hk) hl)
  cases hh : isHand xs with
  | false =>
    rw [hh] at hH
    go_enter Try.func30, Try.ntmps30
    go_wp2_with (first | (go_at_call 42; refine Calls.mono (hH.out _ ((by (try simp only [ext_ext]); repeat (first | exact Kept.refl _ | apply Kept.alloc | apply Kept.drew | apply kept_add | apply Kept.ext)))) ?_; rintro e w' ⟨rfl, y, rfl⟩))
    go_ret
    exact ⟨ret_of (by simp [fewB, hh]), (by (try simp only [ext_ext]); repeat (first | exact Kept.refl _ | apply Kept.alloc | apply Kept.drew | apply kept_add | apply Kept.ext))⟩
  | true =>
    rw [hh] at hH
    by_cases h6 : xs.length ≤ 6
    · have h6i : (xs.length : Int) ≤ 6 := by omega
      go_enter Try.func30, Try.ntmps30
      go_wp2_with (first | (go_at_call 42; refine Calls.mono (hH.out _ ((by (try simp only [ext_ext]); repeat (first | exact Kept.refl _ | apply Kept.alloc | apply Kept.drew | apply kept_add | apply Kept.ext)))) ?_; rintro e w' ⟨rfl, y, rfl⟩))
      go_ret
      exact ⟨ret_of (by simp [fewB, hh, h6]), (by (try simp only [ext_ext]); repeat (first | exact Kept.refl _ | apply Kept.alloc | apply Kept.drew | apply kept_add | apply Kept.ext))⟩
    · have h6i : ¬ (xs.length : Int) ≤ 6 := by omega
      go_enter Try.func30, Try.ntmps30
      go_wp2_with (first | (go_at_call 42; refine Calls.mono (hH.out _ ((by (try simp only [ext_ext]); repeat (first | exact Kept.refl _ | apply Kept.alloc | apply Kept.drew | apply kept_add | apply Kept.ext)))) ?_; rintro e w' ⟨rfl, y, rfl⟩))
      go_ret
      exact ⟨ret_of (by simp [fewB, hh, h6]; omega), (by (try simp only [ext_ext]); repeat (first | exact Kept.refl _ | apply Kept.alloc | apply Kept.drew | apply kept_add | apply Kept.ext))⟩
/-- The order of rows of cards: the first difference of their numbers. -/
def lexC : List Card → List Card → Int
  | a :: xs, b :: ys => if numC a = numC b then lexC xs ys else numC a - numC b
  | _, _ => 0
theorem lexC_at {xs ys : List Card} {k : Nat} (hx : k < xs.length) (hy : k < ys.length) : lexC (xs.drop k) (ys.drop k) = if numC (cx xs k) = numC (cx ys k) then lexC (xs.drop (k + 1)) (ys.drop (k + 1)) else numC (cx xs k) - numC (cx ys k) := by
  rw [List.drop_eq_getElem_cons hx, List.drop_eq_getElem_cons hy, cx_get _ _ hx, cx_get _ _ hy]; rfl
theorem lexC_end {xs ys : List Card} {k : Nat} (hx : xs.length ≤ k) : lexC (xs.drop k) (ys.drop k) = 0 := by
  rw [List.drop_eq_nil_of_le hx]; cases ys.drop k <;> rfl
theorem numC_eq {a b : Card} (ha : isCard a = true) (hb : isCard b = true) (e : numC a = numC b) : a = b := by rw [← cardN_numC ha, ← cardN_numC hb, e]
theorem compareK_any (x y : Card) (hx : isCard x = true) (hy : isCard y = true) (w : World) : Calls Try.prog 36 #[x.v, y.v] w fun e w' => e = .returned (.int .i64 (numC x - numC y)) ∧ Kept w w' := by
  have b1 := numC_bd hx
  have b2 := numC_bd hy
  have hwr : IntKind.i64.wrap (numC x - numC y) = numC x - numC y := Go.IntWalk.i64_in _ ⟨by omega, by omega⟩
  go_enter Try.func36, Try.ntmps36
  go_wp2_with (first | (refine wp_region_ext (by kernel_rfl) (by kernel_rfl) ?_; (repeat (go_big_quiet_step (((go_at_call 58; first | exact ext_call (number_any _ (by assumption) _) | exact ext_call2 (number_any _ (by assumption) _)))))); refine wpQuiet_end fun z => ?_))
  go_ret
  exact ⟨rfl, (by (try simp only [ext_ext]); repeat (first | exact Kept.refl _ | apply Kept.alloc | apply Kept.drew | apply kept_add | apply Kept.ext))⟩
theorem l5Less_any (ao bo : Option Addr) (cap cap' n : Nat) (xs ys : List Card) (w : World) (hx : CardsAt w ao xs) (hy : CardsAt w bo ys) (hn : xs.length = n) (hm : ys.length = n) (hl : n ≤ 1048576) (hcx : ∀ c ∈ xs, isCard c = true) (hcy : ∀ c ∈ ys, isCard c = true) :
    Calls Try.prog 28 #[.slice ao n cap, .slice bo n cap'] w fun e w' => e = .returned (.bool (decide (lexC xs ys < 0))) ∧ Kept w w' := by
  have hxH := hid hx
  have hyH := hid hy
  have hnH := hid hn
  have hmH := hid hm
  have hcxH := hid hcx
  have hcyH := hid hcy
  obtain ⟨R, hR⟩ : ∃ R, R = lexC xs ys := ⟨_, rfl⟩
  rw [← hR]
  have hRH := hid hR
  clear hx hy hn hm hcx hcy hR
  go_enter Try.func28, Try.ntmps28
  go_wp2
  go_loopw [5] (fun s5 wr => ∃ k : Nat, k ≤ n ∧ s5 = .int .i64 (k : Int) ∧ lexC (xs.drop k) (ys.drop k) = R ∧ Kept w wr) (fun s5 _ => n - (intOf s5).toNat)
  case atStart => exact ⟨0, by omega, rfl, by rw [hRH.out]; rfl, (by (try simp only [ext_ext]); repeat (first | exact Kept.refl _ | apply Kept.alloc | apply Kept.drew | apply kept_add | apply Kept.ext))⟩
  case round =>
    obtain ⟨w0, hw0⟩ : ∃ w0, w0 = wr := ⟨_, rfl⟩
    subst hw0
    obtain ⟨k, hk, rfl, hlex, hkw⟩ := hrel
    have hkwH := hid hkw
    have hlexH := hid hlex
    by_cases hlt : k < n
    · have hk1 : k < xs.length := by rw [hnH.out]; exact hlt
      have hk2 : k < ys.length := by rw [hmH.out]; exact hlt
      obtain ⟨g, off, rfl, hg, a1, a2, a3, a4⟩ := (hxH.out.kept hkw) k hk1
      obtain ⟨g', off', rfl, hg', b1, b2, b3, b4⟩ := (hyH.out.kept hkw) k hk2
      have hca := hcxH.out _ (cx_mem hk1)
      have hcb := hcyH.out _ (cx_mem hk2)
      have hstep := hid (lexC_at hk1 hk2)
      obtain ⟨x, hx⟩ : ∃ x, x = cx xs k := ⟨_, rfl⟩
      obtain ⟨y, hy⟩ : ∃ y, y = cx ys k := ⟨_, rfl⟩
      rw [← hx] at a1 a2 a3 a4 hca hstep
      rw [← hy] at b1 b2 b3 b4 hcb hstep
      have hL := hid (fun w' => l2Less_any x y hca hcb w')
      clear hx hy hkw hlex
      cases hd : decide (x = y) with
      | true =>
        have e := of_decide_eq_true hd
        have hnx := hid (show lexC (xs.drop (k + 1)) (ys.drop (k + 1)) = R by rw [← hlexH.out, hstep.out, e, if_pos rfl])
        go_wp2_with (first | (refine wp_region_ext (by kernel_rfl) (by kernel_rfl) ?_; (repeat (go_big_quiet_step (((go_at_call 53; first | exact ext_call (hL.out _) | exact ext_call2 (hL.out _)))))); refine wpQuiet_end fun z => ?_))
        go_roundw
        case rel => exact ⟨k + 1, by omega, by go_num, hnx.out, hkwH.out.trans (by (try simp only [ext_ext]); repeat (first | exact Kept.refl _ | apply Kept.alloc | apply Kept.drew | apply kept_add | apply Kept.ext))⟩
        case measure => simp [intOf]; omega
      | false =>
        have e := of_decide_eq_false hd
        have hnx := hid (show R = numC x - numC y by rw [← hlexH.out, hstep.out, if_neg (fun e2 => e (numC_eq hca hcb e2))])
        go_wp2_with (first | (refine wp_region_ext (by kernel_rfl) (by kernel_rfl) ?_; (repeat (go_big_quiet_step (((go_at_call 53; first | exact ext_call (hL.out _) | exact ext_call2 (hL.out _)))))); refine wpQuiet_end fun z => ?_))
        go_ret
        exact ⟨ret_of (congrArg Value.bool (show decide (numC x < numC y) = decide (R < 0) by rw [hnx.out, decide_eq_decide]; omega)), hkwH.out.trans (by (try simp only [ext_ext]); repeat (first | exact Kept.refl _ | apply Kept.alloc | apply Kept.drew | apply kept_add | apply Kept.ext))⟩
    · obtain rfl : k = n := by omega
      have h0 : R = 0 := by rw [← hlexH.out]; exact lexC_end (by rw [hnH.out]; omega)
      go_wp2
      go_ret
      exact ⟨ret_of (congrArg Value.bool (show false = decide (R < 0) by rw [h0]; rfl)), hkwH.out.trans (by (try simp only [ext_ext]); repeat (first | exact Kept.refl _ | apply Kept.alloc | apply Kept.drew | apply kept_add | apply Kept.ext))⟩
theorem cmpF_any (ao bo : Option Addr) (cap cap' n : Nat) (xs ys : List Card) (w : World) (hx : CardsAt w ao xs) (hy : CardsAt w bo ys) (hn : xs.length = n) (hm : ys.length = n) (hl : n ≤ 1048576) (hcx : ∀ c ∈ xs, isCard c = true) (hcy : ∀ c ∈ ys, isCard c = true) :
    Calls Try.prog 35 #[.slice ao n cap, .slice bo n cap', .func (.func 36) #[] #[]] w fun e w' => e = .returned (.int .i64 (lexC xs ys)) ∧ Kept w w' := by
  have hxH := hid hx
  have hyH := hid hy
  have hnH := hid hn
  have hmH := hid hm
  have hcxH := hid hcx
  have hcyH := hid hcy
  obtain ⟨R, hR⟩ : ∃ R, R = lexC xs ys := ⟨_, rfl⟩
  rw [← hR]
  have hRH := hid hR
  clear hx hy hn hm hcx hcy hR
  go_enter Try.func35, Try.ntmps35
  go_wp2
  go_loopw [13] (fun s13 wr => ∃ k : Nat, k ≤ n ∧ s13 = .int .i64 (k : Int) ∧ lexC (xs.drop k) (ys.drop k) = R ∧ Kept w wr) (fun s13 _ => n - (intOf s13).toNat)
  case atStart => exact ⟨0, by omega, rfl, by rw [hRH.out]; rfl, (by (try simp only [ext_ext]); repeat (first | exact Kept.refl _ | apply Kept.alloc | apply Kept.drew | apply kept_add | apply Kept.ext))⟩
  case round =>
    obtain ⟨w0, hw0⟩ : ∃ w0, w0 = wr := ⟨_, rfl⟩
    subst hw0
    obtain ⟨k, hk, rfl, hlex, hkw⟩ := hrel
    have hkwH := hid hkw
    have hlexH := hid hlex
    by_cases hlt : k < n
    · have hk1 : k < xs.length := by rw [hnH.out]; exact hlt
      have hk2 : k < ys.length := by rw [hmH.out]; exact hlt
      obtain ⟨g, off, rfl, hg, a1, a2, a3, a4⟩ := (hxH.out.kept hkw) k hk1
      obtain ⟨g', off', rfl, hg', b1, b2, b3, b4⟩ := (hyH.out.kept hkw) k hk2
      have hca := hcxH.out _ (cx_mem hk1)
      have hcb := hcyH.out _ (cx_mem hk2)
      have hstep := hid (lexC_at hk1 hk2)
      have hge : ¬ (n : Int) ≤ (k : Int) := by omega
      obtain ⟨x, hx⟩ : ∃ x, x = cx xs k := ⟨_, rfl⟩
      obtain ⟨y, hy⟩ : ∃ y, y = cx ys k := ⟨_, rfl⟩
      rw [← hx] at a1 a2 a3 a4 hca hstep
      rw [← hy] at b1 b2 b3 b4 hcb hstep
      have hL0 := hid (fun w' => compareK_any x y hca hcb w')
      obtain ⟨D, hD⟩ : ∃ D, D = numC x - numC y := ⟨_, rfl⟩
      rw [← hD] at hL0
      have hL := hid hL0.out
      clear hx hy hkw hlex hL0
      by_cases e : D = 0
      · have hnx := hid (show lexC (xs.drop (k + 1)) (ys.drop (k + 1)) = R by rw [← hlexH.out, hstep.out, if_pos (by omega)])
        subst e
        clear hD
        go_wp2_with (first | (go_at_call 36; refine Calls.mono (hL.out _) ?_; rintro e w' ⟨rfl, y, rfl⟩))
        go_roundw
        case rel => exact ⟨k + 1, by omega, by go_num, hnx.out, hkwH.out.trans (by (try simp only [ext_ext]); repeat (first | exact Kept.refl _ | apply Kept.alloc | apply Kept.drew | apply kept_add | apply Kept.ext))⟩
        case measure => simp [intOf]; omega
      · have hnx := hid (show R = D by rw [← hlexH.out, hstep.out, if_neg (by omega), hD])
        have he : (D == 0) = false := by simp [e]
        clear hD
        go_wp2_with (first | (go_at_call 36; refine Calls.mono (hL.out _) ?_; rintro e w' ⟨rfl, y, rfl⟩))
        go_ret
        exact ⟨ret_of (congrArg (Value.int .i64) (show D = R by rw [hnx.out])), hkwH.out.trans (by (try simp only [ext_ext]); repeat (first | exact Kept.refl _ | apply Kept.alloc | apply Kept.drew | apply kept_add | apply Kept.ext))⟩
    · obtain rfl : k = n := by omega
      have h0 : R = 0 := by rw [← hlexH.out]; exact lexC_end (by rw [hnH.out]; omega)
      go_wp2
      go_ret
      exact ⟨ret_of (congrArg (Value.int .i64) (show (0 : Int) = R by rw [h0])), hkwH.out.trans (by (try simp only [ext_ext]); repeat (first | exact Kept.refl _ | apply Kept.alloc | apply Kept.drew | apply kept_add | apply Kept.ext))⟩
theorem l2OwnC_any (ao : Option Addr) (cap n : Nat) (xs : List Card) (w : World) (hx : CardsAt w ao xs) (hn : xs.length = n) (hl : n ≤ 1048576) (hcap : n ≤ cap) (hao : ao = none → cap = 0) :
    Calls Try.prog 29 #[.slice ao n cap] w (RetC w xs) := by
  by_cases h0 : n = 0
  · subst h0
    have hxs : xs = [] := List.eq_nil_of_length_eq_zero hn
    subst hxs
    clear hx hn hl hcap
    cases ao with
    | none =>
      obtain rfl := hao rfl
      clear hao
      go_enter Try.func29, Try.ntmps29
      go_wp2
      refine bodyPost_ret (v := .slice (some ⟨w.heap.size, 0, none⟩) 0 0) (by simp [results, Try.results29, go_sem]) rfl ?_
      exact ⟨_, rfl, ownC_nil (Nat.le_refl _) (heap_at rfl), (by (try simp only [ext_ext]); repeat (first | exact Kept.refl _ | apply Kept.alloc | apply Kept.drew | apply kept_add | apply Kept.ext))⟩
    | some ad =>
      clear hao
      go_enter Try.func29, Try.ntmps29
      go_wp2
      refine bodyPost_ret (v := .slice (some ⟨w.heap.size, 0, none⟩) 0 0) (by simp [results, Try.results29, go_sem]) rfl ?_
      exact ⟨_, rfl, ownC_nil (Nat.le_refl _) (heap_at rfl), (by (try simp only [ext_ext]); repeat (first | exact Kept.refl _ | apply Kept.alloc | apply Kept.drew | apply kept_add | apply Kept.ext))⟩
  · obtain ⟨g, off, rfl, _⟩ := hx 0 (by omega)
    exact l2Own_any g off cap n xs w hx hn (by omega) hl hcap
theorem cloneF_any (ao : Option Addr) (cap n : Nat) (xs : List Card) (w : World) (hx : CardsAt w ao xs) (hn : xs.length = n) (hl : n ≤ 1048576) (hcap : n ≤ cap) (hao : ao = none → cap = 0) :
    Calls Try.prog 31 #[.slice ao n cap] w (RetC w xs) := by
  have qT : ∀ (w : World) (a : Option Addr) (n c : Nat), (binOp .eql 22 (.slice a n c) (.slice none 0 0)).run Try.prog w = .ok (.bool a.isNone) w := fun w a n c => Lib.run_eql_slice_nil w _ _ a n c 0 0 Try.underlying22
  by_cases h0 : n = 0
  · subst h0
    have hxs : xs = [] := List.eq_nil_of_length_eq_zero hn
    subst hxs
    clear hx hn hl hcap
    cases ao with
    | none =>
      obtain rfl := hao rfl
      clear hao
      go_enter Try.func31, Try.ntmps31
      go_wp2
      refine bodyPost_ret (v := .slice none 0 0) (by simp [results, Try.results31, go_sem]) rfl ?_
      exact ⟨_, rfl, ownC_none _ _, (by (try simp only [ext_ext]); repeat (first | exact Kept.refl _ | apply Kept.alloc | apply Kept.drew | apply kept_add | apply Kept.ext))⟩
    | some ad =>
      clear hao
      go_enter Try.func31, Try.ntmps31
      go_wp2
      refine bodyPost_ret (v := .slice (some ⟨w.heap.size, 0, none⟩) 0 0) (by simp [results, Try.results31, go_sem]) rfl ?_
      exact ⟨_, rfl, ownC_nil (Nat.le_refl _) (heap_at rfl), (by (try simp only [ext_ext]); repeat (first | exact Kept.refl _ | apply Kept.alloc | apply Kept.drew | apply kept_add | apply Kept.ext))⟩
  · obtain ⟨g, off, rfl, _⟩ := hx 0 (by omega)
    have hxH := hid hx
    obtain ⟨i, hi, hz, hsz, hb⟩ := info_parts info_card
    have hl4 := hid (show (cells4 xs).length = n * 4 by rw [cells4_length, hn])
    have hnH := hid hn
    have h1c := cells4_one xs
    clear hx hn hao
    go_enter Try.func31, Try.ntmps31
    go_wp2_with (first | (at_builtin; refine wpList_append_grows _ rfl _ _ 22 rfl T4 i _ 4 32 Try.underlying22 hi hz hsz hb rfl (by decide) (some ⟨w.heap.size, 0, none⟩) 0 0 [] rfl (fun e => by cases e) rfl (fun bb e j u hj => by simp at hj) ⟨g, off, none⟩ n cap (cells4 xs) rfl hl4.out (fun j u hj => by rw [Addr.add_lit]; exact cards_cells (hxH.out.kept (by (try simp only [ext_ext]); repeat (first | exact Kept.refl _ | apply Kept.alloc | apply Kept.drew | apply kept_add | apply Kept.ext))) hj) h1c (by omega) (by unfold maxLen; omega) (by omega) ?_; intro v' w' hown hg'))
    refine bodyPost_ret (v := v') (by simp [results, Try.results31, go_sem]) rfl ?_
    refine ⟨_, rfl, OwnC.mono (B := w.heap.size + 1) ?_ (by omega), Kept.trans (show Kept w _ from (by (try simp only [ext_ext]); repeat (first | exact Kept.refl _ | apply Kept.alloc | apply Kept.drew | apply kept_add | apply Kept.ext))) ((Kept.refl _).grown hg' fun k hk => by cases hk)⟩
    unfold OwnC
    rw [hnH.out]
    simpa using hown
end Go.Proofs.Ytjlaoocomkonhaa
namespace Go.Proofs.Ytjlaoocomkonhaa
open Go.RowKit
theorem info_li : (Try.prog.info? 38).map (fun i => (i.zero, i.size, i.bytes)) = some (some (.slice none 0 0), 1, 24) := by kernel_rfl
/-- A slice of numbers that lies in a block of its own kind. -/
def EI (w : World) (v : Value) (l : List Int) : Prop := ∃ g cap cur, v = .slice (some ⟨g, 0, none⟩) l.length cap ∧ w.heap[g]? = some (.cells cur 3 (0, 0)) ∧ cur.toList.take l.length = vals1 l ∧ l.length ≤ cap
theorem EI.kept {w w' : World} {v : Value} {l : List Int} (h : EI w v l) (hk : Kept w w') : EI w' v l := by
  obtain ⟨g, cap, cur, h1, h2, h3⟩ := h
  exact ⟨g, cap, cur, h1, (hk.below.block g (Array.getElem?_eq_some_iff.1 h2).1).trans h2, h3⟩
theorem EI.grown {w w' : World} {v : Value} {l : List Int} {r : Option Nat} (h : EI w v l) (hg : w.grownBy w' r) (hr : ∀ g, r = some g → ∃ cur, w.heap[g]? = some (.cells cur 38 (0, 0))) : EI w' v l := by
  obtain ⟨g, cap, cur, h1, h2, h3⟩ := h
  refine ⟨g, cap, cur, h1, (hg.block g (Array.getElem?_eq_some_iff.1 h2).1 fun e => ?_).trans h2, h3⟩
  obtain ⟨cur', h4⟩ := hr g e.symm
  rw [h2] at h4
  simp at h4
theorem EI.ints {w : World} {v : Value} {l : List Int} (h : EI w v l) : ∃ g cap, v = .slice (some ⟨g, 0, none⟩) l.length cap ∧ g < w.heap.size ∧ IntsAt w (some ⟨g, 0, none⟩) l := by
  obtain ⟨g, cap, cur, h1, h2, h3, _⟩ := h
  refine ⟨g, cap, h1, (Array.getElem?_eq_some_iff.1 h2).1, fun i hi => ⟨g, 0, rfl, (Array.getElem?_eq_some_iff.1 h2).1, ?_⟩⟩
  rw [Nat.zero_add, cell_of_row w g i _ _ (0, 0) h2]
  have h4 : (vals1 l)[i]? = some (.int .i64 (ix l i)) := by simp [vals1, ix, hi]
  rw [← h3] at h4
  rw [List.getElem?_take, if_pos hi] at h4
  simpa using h4
theorem OwnI.ei {B : Nat} {w : World} {v : Value} {l : List Int} (h : OwnI B w v l) (hn : v ≠ .slice none 0 0) : EI w v l := by
  rcases h.2 with ⟨e, _⟩ | ⟨g, cap, cur, e, hb, hg, hc, hm, hs, ht⟩
  · exact absurd e hn
  · exact ⟨g, cap, cur, e, hg, by simpa using ht, hc⟩
def lz (ll : List (List Int)) (i : Nat) : List Int := ll.getD i []
/-- A slice of the call's own that holds slices of numbers. -/
def OwnR (B : Nat) (w : World) (v : Value) (ll : List (List Int)) : Prop := ∃ vs : List Value, w.ownsRow B 38 1 v ll.length vs ∧ vs.length = ll.length ∧ ∀ i, i < ll.length → ∃ u, vs[i]? = some u ∧ EI w u (lz ll i)
theorem OwnR.kept {B : Nat} {w w' : World} {v : Value} {ll : List (List Int)} (h : OwnR B w v ll) (hk : Kept w w') : OwnR B w' v ll := by
  obtain ⟨vs, h1, h2, h3⟩ := h
  refine ⟨vs, row_kept h1 hk, h2, fun i hi => ?_⟩
  obtain ⟨u, hu, he⟩ := h3 i hi
  exact ⟨u, hu, he.kept hk⟩
theorem OwnR.mono {B B' : Nat} {w : World} {v : Value} {ll : List (List Int)} (h : OwnR B w v ll) (hB : B' ≤ B) : OwnR B' w v ll := by
  obtain ⟨vs, h, h2⟩ := h
  rcases h.2 with h0 | ⟨g, cap, cur, h1, hb, h3⟩
  · exact ⟨vs, ⟨h.1, .inl h0⟩, h2⟩
  · exact ⟨vs, ⟨h.1, .inr ⟨g, cap, cur, h1, by omega, h3⟩⟩, h2⟩
theorem OwnR.lt {B : Nat} {w : World} {v : Value} {ll : List (List Int)} (h : OwnR B w v ll) (g : Nat) (hg : v.ownBlock = some g) : B ≤ g ∧ g < w.heap.size := by
  obtain ⟨vs, h1, _⟩ := h
  exact h1.lt g hg
theorem OwnR.row {B : Nat} {w : World} {v : Value} {ll : List (List Int)} (h : OwnR B w v ll) (g : Nat) (hg : v.ownBlock = some g) : ∃ cur, w.heap[g]? = some (.cells cur 38 (0, 0)) := by
  obtain ⟨vs, h1, _⟩ := h
  rcases h1.2 with ⟨e, _⟩ | ⟨g', cap, cur, e, hb, hh, _⟩
  · rw [e] at hg; cases hg
  · rw [e] at hg
    cases hg
    exact ⟨cur, hh⟩
theorem OwnR.reads {B : Nat} {w : World} {v : Value} {ll : List (List Int)} (h : OwnR B w v ll) : ∃ ao cap, v = .slice ao ll.length cap ∧ ll.length ≤ cap ∧ ∀ i, i < ll.length → ∃ g u, ao = some ⟨g, 0, none⟩ ∧ g < w.heap.size ∧ w.cell? ⟨g, i, none⟩ = some u ∧ EI w u (lz ll i) := by
  obtain ⟨vs, h1, h2, h3⟩ := h
  rcases h1.2 with ⟨rfl, h0⟩ | ⟨g, cap, cur, rfl, hb, hg, hn, hm, hs, ht⟩
  · exact ⟨none, 0, by rw [h0], by omega, fun i hi => by omega⟩
  · refine ⟨_, cap, rfl, hn, fun i hi => ?_⟩
    obtain ⟨u, hu, he⟩ := h3 i hi
    have := World.ownsRow.cells h1 (g := g) rfl i u hu
    rw [Addr.add_lit, Nat.zero_add] at this
    exact ⟨g, u, rfl, (Array.getElem?_eq_some_iff.1 hg).1, this, he⟩
theorem ownR_nil {B g : Nat} {w : World} (hB : B ≤ g) (h : w.heap[g]? = some (.cells #[] 38 (0, 0))) : OwnR B w (.slice (some ⟨g, 0, none⟩) 0 0) [] :=
  ⟨[], ⟨rfl, .inr ⟨g, 0, #[], rfl, hB, h, Nat.le_refl _, by unfold maxLen; omega, rfl, by simp⟩⟩, rfl, fun i hi => by simp at hi⟩
theorem ownR_one {B g : Nat} {w : World} {u : Value} {l : List Int} (hB : B ≤ g) (h : w.heap[g]? = some (.cells #[u] 38 (0, 0))) (he : EI w u l) : OwnR B w (.slice (some ⟨g, 0, none⟩) 1 1) [l] :=
  ⟨[u], ⟨rfl, .inr ⟨g, 1, #[u], rfl, hB, h, Nat.le_refl _, by unfold maxLen; omega, rfl, by simp⟩⟩, rfl, fun i hi => by
    obtain rfl : i = 0 := by simp at hi; omega
    exact ⟨u, rfl, he⟩⟩
def RetR (W : World) (ll : List (List Int)) (e : Ending) (w' : World) : Prop := ∃ v, e = .returned v ∧ OwnR W.heap.size w' v ll ∧ v ≠ .slice none 0 0 ∧ Kept W w'
theorem wpList_append_rows {ops : Array Oper} {rest : List Oper} {o : Oper} {a : Act} {Q : Exit → Act → World → Prop} {w : World} (hgd : o.guard = none) (s x : Operand)
    (ho : o.op = .call { callee := .builtin .append, args := #[s, x], argTypes := #[61, 61] }) (W : World) (B : Nat) (v : Value) (ll : List (List Int)) (hs : a.eval s = v) (hown : OwnR B w v ll) (hk : Kept W w) (hWB : W.heap.size ≤ B) (hBw : B ≤ w.heap.size)
    (B' : Nat) (v2 : Value) (l2 : List (List Int)) (hx : a.eval x = v2) (hown2 : OwnR B' w v2 l2) (hnn : v2 ≠ .slice none 0 0) (hv : v ≠ .slice none 0 0) (hl : ll.length + l2.length ≤ 1048576)
    (h : ∀ v' w', OwnR B w' v' (ll ++ l2) → v' ≠ .slice none 0 0 → Kept W w' → wpList Try.prog ops Q rest (a.put o.dst v') w') : wpList Try.prog ops Q (o :: rest) a w := by
  obtain ⟨i, hi, hz, hsz, hb⟩ := info_parts info_li
  have hrow := fun g hg => hown.row g hg
  obtain ⟨vs, h1, h2, h3⟩ := hown
  obtain ⟨us, q1, q2, q3⟩ := hown2
  obtain ⟨g2, cap2, rfl⟩ : ∃ g2 cap2, v2 = .slice (some ⟨g2, 0, none⟩) l2.length cap2 := by
    rcases q1.2 with ⟨e, _⟩ | ⟨g', cap, cur, e, _⟩
    · exact absurd e hnn
    · exact ⟨g', cap, e⟩
  refine wpList_append_own_at w hgd s x 61 ho B 38 i _ 1 24 Try.underlying61 hi hz hsz hb rfl (by decide) v ll.length vs hs h1 ⟨g2, 0, none⟩ l2.length cap2
    us hx (by rw [q2, Nat.mul_one]) (fun j u hj => World.ownsRow.cells q1 (g := g2) rfl j u hj) ?_ (by unfold maxLen; omega) (by omega) hBw ?_
  · intro u hu
    obtain ⟨j, hj, rfl⟩ := List.getElem_of_mem hu
    obtain ⟨u', hu', g, cap, cur, e, _⟩ := q3 j (by omega)
    rw [List.getElem?_eq_getElem hj] at hu'
    rw [Option.some.inj hu', e]
    rfl
  · intro v' w' hown' hg hnil _
    refine h v' w' ⟨vs ++ us, by rw [List.length_append]; exact hown', by rw [List.length_append, List.length_append, h2, q2], fun j hj => ?_⟩ (fun e => hv (hnil.1 e).1) (hk.grown hg fun k hk => Nat.le_trans hWB (h1.lt k hk).1)
    by_cases hlt : j < ll.length
    · obtain ⟨u, hu, he⟩ := h3 j hlt
      refine ⟨u, by rw [List.getElem?_append_left (by omega)]; exact hu, ?_⟩
      have e : lz (ll ++ l2) j = lz ll j := by simp [lz, List.getD, List.getElem?_append_left hlt]
      rw [e]; exact he.grown hg hrow
    · rw [List.length_append] at hj
      obtain ⟨u, hu, he⟩ := q3 (j - ll.length) (by omega)
      refine ⟨u, by rw [List.getElem?_append_right (by omega), h2]; exact hu, ?_⟩
      have e : lz (ll ++ l2) j = lz l2 (j - ll.length) := by simp [lz, List.getD, List.getElem?_append_right (Nat.le_of_not_lt hlt)]
      rw [e]; exact he.grown hg hrow
end Go.Proofs.Ytjlaoocomkonhaa
namespace Go.Proofs.Ytjlaoocomkonhaa
open Go.RowKit
theorem ints_cells {w : World} {g off : Nat} {xs : List Int} (h : IntsAt w (some ⟨g, off, none⟩) xs) {j : Nat} {u : Value} (hj : (vals1 xs)[j]? = some u) : w.cell? ⟨g, off + j, none⟩ = some u := by
  obtain ⟨hlt, e⟩ := List.getElem?_eq_some_iff.1 hj
  have hl : j < xs.length := by simpa using hlt
  obtain ⟨_, _, he, _, h1⟩ := h j hl
  cases he
  rw [h1, ← e, ix_get _ _ hl]
  simp
theorem vals1_one (xs : List Int) : ∀ u ∈ vals1 xs, u.oneCell' = true := fun u hu => by
  obtain ⟨z, _, rfl⟩ := List.mem_map.1 hu
  rfl
theorem l1OwnI_any (g off cap n : Nat) (xs : List Int) (w : World) (hx : IntsAt w (some ⟨g, off, none⟩) xs) (hn : xs.length = n) (hl : n ≤ 1048576) :
    Calls Try.prog 66 #[.slice (some ⟨g, off, none⟩) n cap] w (RetI w xs) := by
  by_cases h0 : n = 0
  · subst h0
    have hxs : xs = [] := List.eq_nil_of_length_eq_zero hn
    subst hxs
    clear hx hn hl
    go_enter Try.func66, Try.ntmps66
    go_wp2
    refine bodyPost_ret (v := .slice (some ⟨w.heap.size, 0, none⟩) 0 0) (by simp [results, Try.results66, go_sem]) rfl ?_
    exact ⟨_, rfl, ownI_nil (Nat.le_refl _) (heap_at rfl), (by (try simp only [ext_ext]); repeat (first | exact Kept.refl _ | apply Kept.alloc | apply Kept.drew | apply kept_add | apply Kept.ext))⟩
  · have hxH := hid hx
    obtain ⟨i, hi, hz, hsz, hb⟩ := info_parts info_i64
    have hl4 := hid (show (vals1 xs).length = n * 1 by rw [List.length_map, hn, Nat.mul_one])
    have hnH := hid hn
    have h1c := vals1_one xs
    clear hx hn
    go_enter Try.func66, Try.ntmps66
    go_wp2_with (first | (at_builtin; refine wpList_append_grows _ rfl _ _ 38 rfl 3 i _ 1 8 Try.underlying38 hi hz hsz hb rfl (by decide) (some ⟨w.heap.size, 0, none⟩) 0 0 [] rfl (fun e => by cases e) rfl (fun bb e j u hj => by simp at hj) ⟨g, off, none⟩ n cap (vals1 xs) rfl hl4.out (fun j u hj => by rw [Addr.add_lit]; exact ints_cells (hxH.out.kept (by (try simp only [ext_ext]); repeat (first | exact Kept.refl _ | apply Kept.alloc | apply Kept.drew | apply kept_add | apply Kept.ext))) hj) h1c (by omega) (by unfold maxLen; omega) (by omega) ?_; intro v' w' hown hg'))
    refine bodyPost_ret (v := v') (by simp [results, Try.results66, go_sem]) rfl ?_
    refine ⟨_, rfl, OwnI.mono (B := w.heap.size + 1) ?_ (by omega), Kept.trans (show Kept w _ from (by (try simp only [ext_ext]); repeat (first | exact Kept.refl _ | apply Kept.alloc | apply Kept.drew | apply kept_add | apply Kept.ext))) ((Kept.refl _).grown hg' fun k hk => by cases hk)⟩
    unfold OwnI
    rw [hnH.out]
    simpa using hown
end Go.Proofs.Ytjlaoocomkonhaa
