/- Contracts: a claim; three places of a deal that are a line. -/
import Derived.Test.YtifkjbihmmdnbabT37
import Derived.Test.YtifkjbihmmdnbabT40
import Derived.Test.YtifkjbihmmdnbabT39
import Derived.Test.YtifkjbihmmdnbabC7
import Derived.Test.YtifkjbihmmdnbabT30
namespace Go.Proofs.Ytifkjbihmmdnbab
open Go.RowKit
abbrev cv (pl : Int) (l : Ln) : Value := .agg #[.int .i64 pl, .int .i64 l.a, .int .i64 l.b, .int .i64 l.c]
/-- Three rising places of a list. -/
def placesB (l : Ln) (n : Nat) : Bool := inB l.a 0 ((n : Int) - 1) && inB l.b 0 ((n : Int) - 1) && !decide (l.b ≤ l.a) && inB l.c 0 ((n : Int) - 1) && !decide (l.c ≤ l.b)
def lineB (laid : List Card) (l : Ln) : Bool := placesB l laid.length && lineC (cx laid l.a.toNat) (cx laid l.b.toNat) (cx laid l.c.toNat)
theorem placesB_of {l : Ln} {n : Nat} (h : placesB l n = true) : (inB l.a 0 ((n : Int) - 1) = true ∧ inB l.b 0 ((n : Int) - 1) = true ∧ inB l.c 0 ((n : Int) - 1) = true) ∧ ∃ i j k : Nat, l = ⟨i, j, k⟩ ∧ i < j ∧ j < k ∧ k < n := by
  simp only [placesB, Bool.and_eq_true, Bool.not_eq_true', decide_eq_false_iff_not] at h
  obtain ⟨⟨⟨⟨h1, h2⟩, h3⟩, h4⟩, h5⟩ := h
  have a1 := inB_of h1
  have a2 := inB_of h2
  have a4 := inB_of h4
  obtain ⟨a, b, c⟩ := l
  simp only at h3 h5 a1 a2 a4
  exact ⟨⟨h1, h2, h4⟩, a.toNat, b.toNat, c.toNat, by simp; omega, by omega, by omega, by omega⟩
theorem toClaim_any (pl : Int) (l : Ln) (w : World) : Calls Try.prog 25 #[cv pl l] w fun e w' => e = .returned (cv pl l) ∧ Kept w w' := by
  go_enter Try.func25, Try.ntmps25
  go_wp2_with (first | (go_at_call 47; refine Calls.mono (toIntA3_any l _) ?_; rintro e w' ⟨rfl, y, rfl⟩))
  refine bodyPost_ret (v := cv pl l) (by simp [results, Try.results25, go_sem]) rfl ⟨rfl, ?_⟩
  exact (by (try simp only [ext_ext]); repeat (first | exact Kept.refl _ | apply Kept.alloc | apply Kept.drew | apply kept_add | apply Kept.ext))
theorem l4Line_no (s n : Int) (lo : Option Addr) (lc : Nat) (laid : List Card) (l : Ln) (w : World) (hl : laid.length ≤ 1048576) (h : placesB l laid.length = false) :
    Calls Try.prog 61 #[dv s n (.slice lo laid.length lc), l.v] w fun e w' => e = .returned (.bool false) ∧ Kept w w' := by
  cases h1 : inB l.a 0 ((laid.length : Int) - 1)
  · go_enter Try.func61, Try.ntmps61
    go_wp2
    refine wp_loop_rounds 4 ?_
    rw [rounds_succ]
    go_wp2_with (first | (refine wp_region_ext (by kernel_rfl) (by kernel_rfl) ?_; (repeat (go_big_quiet_step (first | (go_at_call 40; first | exact ext_call_same (l1In_any _ _ _ _) | exact ext_call_same2 (l1In_any _ _ _ _))))); refine wpQuiet_end fun z => ?_))
    go_ret
    exact ⟨rfl, (by (try simp only [ext_ext]); repeat (first | exact Kept.refl _ | apply Kept.alloc | apply Kept.drew | apply kept_add | apply Kept.ext))⟩
  cases h2 : inB l.b 0 ((laid.length : Int) - 1)
  · go_enter Try.func61, Try.ntmps61
    go_wp2
    refine wp_loop_rounds 4 ?_
    iterate 2
      rw [rounds_succ]
      go_wp2_with (first | (refine wp_region_ext (by kernel_rfl) (by kernel_rfl) ?_; (repeat (go_big_quiet_step (first | (go_at_call 40; first | exact ext_call_same (l1In_any _ _ _ _) | exact ext_call_same2 (l1In_any _ _ _ _))))); refine wpQuiet_end fun z => ?_))
    go_ret
    exact ⟨rfl, (by (try simp only [ext_ext]); repeat (first | exact Kept.refl _ | apply Kept.alloc | apply Kept.drew | apply kept_add | apply Kept.ext))⟩
  by_cases h3 : l.b ≤ l.a
  · go_enter Try.func61, Try.ntmps61
    go_wp2
    refine wp_loop_rounds 4 ?_
    iterate 2
      rw [rounds_succ]
      go_wp2_with (first | (refine wp_region_ext (by kernel_rfl) (by kernel_rfl) ?_; (repeat (go_big_quiet_step (first | (go_at_call 40; first | exact ext_call_same (l1In_any _ _ _ _) | exact ext_call_same2 (l1In_any _ _ _ _))))); refine wpQuiet_end fun z => ?_))
    go_ret
    exact ⟨rfl, (by (try simp only [ext_ext]); repeat (first | exact Kept.refl _ | apply Kept.alloc | apply Kept.drew | apply kept_add | apply Kept.ext))⟩
  cases h4 : inB l.c 0 ((laid.length : Int) - 1)
  · go_enter Try.func61, Try.ntmps61
    go_wp2
    refine wp_loop_rounds 4 ?_
    iterate 3
      rw [rounds_succ]
      go_wp2_with (first | (refine wp_region_ext (by kernel_rfl) (by kernel_rfl) ?_; (repeat (go_big_quiet_step (first | (go_at_call 40; first | exact ext_call_same (l1In_any _ _ _ _) | exact ext_call_same2 (l1In_any _ _ _ _))))); refine wpQuiet_end fun z => ?_))
    go_ret
    exact ⟨rfl, (by (try simp only [ext_ext]); repeat (first | exact Kept.refl _ | apply Kept.alloc | apply Kept.drew | apply kept_add | apply Kept.ext))⟩
  by_cases h5 : l.c ≤ l.b
  · go_enter Try.func61, Try.ntmps61
    go_wp2
    refine wp_loop_rounds 4 ?_
    iterate 3
      rw [rounds_succ]
      go_wp2_with (first | (refine wp_region_ext (by kernel_rfl) (by kernel_rfl) ?_; (repeat (go_big_quiet_step (first | (go_at_call 40; first | exact ext_call_same (l1In_any _ _ _ _) | exact ext_call_same2 (l1In_any _ _ _ _))))); refine wpQuiet_end fun z => ?_))
    go_ret
    exact ⟨rfl, (by (try simp only [ext_ext]); repeat (first | exact Kept.refl _ | apply Kept.alloc | apply Kept.drew | apply kept_add | apply Kept.ext))⟩
  · simp [placesB, h1, h2, h3, h4, h5] at h
theorem l4Line_yes (s n : Int) (lo : Option Addr) (lc : Nat) (laid : List Card) (l : Ln) (w : World) (hx : CardsAt w lo laid) (hl : laid.length ≤ 1048576) (hc : ∀ i, i < laid.length → isCard (cx laid i) = true) (h : placesB l laid.length = true) :
    Calls Try.prog 61 #[dv s n (.slice lo laid.length lc), l.v] w fun e w' => e = .returned (.bool (lineC (cx laid l.a.toNat) (cx laid l.b.toNat) (cx laid l.c.toNat))) ∧ Kept w w' := by
  obtain ⟨⟨h1, h2, h3⟩, i, j, k, rfl, h4, h5, h6⟩ := placesB_of h
  obtain ⟨g, off, rfl, hg, p1, p2, p3, p4⟩ := hx i (by omega)
  obtain ⟨_, _, he, _, q1, q2, q3, q4⟩ := hx j (by omega)
  cases he
  obtain ⟨_, _, he, _, r1, r2, r3, r4⟩ := hx k (by omega)
  cases he
  have hL := hid (l2Line_any (cx laid i) (cx laid j) (cx laid k) (hc i (by omega)) (hc j (by omega)))
  have hij : ¬ ((j : Int) ≤ (i : Int)) := by omega
  have hjk : ¬ ((k : Int) ≤ (j : Int)) := by omega
  have hi2 : (i : Int) < (laid.length : Int) := by omega
  have hj2 : (j : Int) < (laid.length : Int) := by omega
  have hk2 : (k : Int) < (laid.length : Int) := by omega
  simp only at h1 h2 h3
  clear hx hc h
  go_enter Try.func61, Try.ntmps61
  go_wp2
  refine wp_loop_rounds 4 ?_
  iterate 4
    rw [rounds_succ]
    go_wp2_with (first | (refine wp_region_ext (by kernel_rfl) (by kernel_rfl) ?_; (repeat (go_big_quiet_step (first | (go_at_call 40; first | exact ext_call_same (l1In_any _ _ _ _) | exact ext_call_same2 (l1In_any _ _ _ _)) | (go_at_call 72; first | exact ext_call (hL.out _) | exact ext_call2 (hL.out _))))); refine wpQuiet_end fun z => ?_))
  go_ret
  exact ⟨rfl, (by (try simp only [ext_ext]); repeat (first | exact Kept.refl _ | apply Kept.alloc | apply Kept.drew | apply kept_add | apply Kept.ext))⟩
theorem l8Kind_p (s n : Int) (lo so wo : Option Addr) (lc ls sc lw wc : Nat) (laid : List Card) (pl : Int) (l : Ln) (w : World) (hl : laid.length ≤ 1048576) (hs : ls ≤ 1048576) (h : inB pl 0 ((ls : Int) - 1) = false) :
    Calls Try.prog 46 #[gv s n (.slice lo laid.length lc) (.slice so ls sc) (.slice wo lw wc), cv pl l] w fun e w' => e = .returned (.int .i64 3) ∧ Kept w w' := by
  go_enter Try.func46, Try.ntmps46
  go_wp2_with (first | (go_at_call 40; refine Calls.mono (l1In_any _ _ _ _) ?_; rintro e w' ⟨rfl, rfl⟩))
  go_ret
  exact ⟨rfl, (by (try simp only [ext_ext]); repeat (first | exact Kept.refl _ | apply Kept.alloc | apply Kept.drew | apply kept_add | apply Kept.ext))⟩
theorem l8Kind_no (s n : Int) (lo so wo : Option Addr) (lc ls sc lw wc : Nat) (laid : List Card) (pl : Int) (l : Ln) (w : World) (hl : laid.length ≤ 1048576) (hs : ls ≤ 1048576) (hp : inB pl 0 ((ls : Int) - 1) = true) (h : placesB l laid.length = false) :
    Calls Try.prog 46 #[gv s n (.slice lo laid.length lc) (.slice so ls sc) (.slice wo lw wc), cv pl l] w fun e w' => e = .returned (.int .i64 3) ∧ Kept w w' := by
  have hN := hid (fun w' => l4Line_no s n lo lc laid l w' hl h)
  cases h1 : inB l.a 0 ((laid.length : Int) - 1)
  · go_enter Try.func46, Try.ntmps46
    go_wp2_with (first | (go_at_call 40; refine Calls.mono (l1In_any _ _ _ _) ?_; rintro e w' ⟨rfl, rfl⟩) | (go_at_call 61; refine Calls.mono (hN.out _) ?_; rintro e w' ⟨rfl, y, rfl⟩))
    refine wp_loop_rounds 4 ?_
    iterate 1
      rw [rounds_succ]
      go_wp2_with (first | (refine wp_region_ext (by kernel_rfl) (by kernel_rfl) ?_; (repeat (go_big_quiet_step (first | (go_at_call 40; first | exact ext_call_same (l1In_any _ _ _ _) | exact ext_call_same2 (l1In_any _ _ _ _))))); refine wpQuiet_end fun z => ?_))
    go_ret
    exact ⟨rfl, (by (try simp only [ext_ext]); repeat (first | exact Kept.refl _ | apply Kept.alloc | apply Kept.drew | apply kept_add | apply Kept.ext))⟩
  cases h2 : inB l.b 0 ((laid.length : Int) - 1)
  · go_enter Try.func46, Try.ntmps46
    go_wp2_with (first | (go_at_call 40; refine Calls.mono (l1In_any _ _ _ _) ?_; rintro e w' ⟨rfl, rfl⟩) | (go_at_call 61; refine Calls.mono (hN.out _) ?_; rintro e w' ⟨rfl, y, rfl⟩))
    refine wp_loop_rounds 4 ?_
    iterate 2
      rw [rounds_succ]
      go_wp2_with (first | (refine wp_region_ext (by kernel_rfl) (by kernel_rfl) ?_; (repeat (go_big_quiet_step (first | (go_at_call 40; first | exact ext_call_same (l1In_any _ _ _ _) | exact ext_call_same2 (l1In_any _ _ _ _))))); refine wpQuiet_end fun z => ?_))
    go_ret
    exact ⟨rfl, (by (try simp only [ext_ext]); repeat (first | exact Kept.refl _ | apply Kept.alloc | apply Kept.drew | apply kept_add | apply Kept.ext))⟩
  by_cases h3 : l.b ≤ l.a
  · go_enter Try.func46, Try.ntmps46
    go_wp2_with (first | (go_at_call 40; refine Calls.mono (l1In_any _ _ _ _) ?_; rintro e w' ⟨rfl, rfl⟩) | (go_at_call 61; refine Calls.mono (hN.out _) ?_; rintro e w' ⟨rfl, y, rfl⟩))
    refine wp_loop_rounds 4 ?_
    iterate 2
      rw [rounds_succ]
      go_wp2_with (first | (refine wp_region_ext (by kernel_rfl) (by kernel_rfl) ?_; (repeat (go_big_quiet_step (first | (go_at_call 40; first | exact ext_call_same (l1In_any _ _ _ _) | exact ext_call_same2 (l1In_any _ _ _ _))))); refine wpQuiet_end fun z => ?_))
    go_ret
    exact ⟨rfl, (by (try simp only [ext_ext]); repeat (first | exact Kept.refl _ | apply Kept.alloc | apply Kept.drew | apply kept_add | apply Kept.ext))⟩
  cases h4 : inB l.c 0 ((laid.length : Int) - 1)
  · go_enter Try.func46, Try.ntmps46
    go_wp2_with (first | (go_at_call 40; refine Calls.mono (l1In_any _ _ _ _) ?_; rintro e w' ⟨rfl, rfl⟩) | (go_at_call 61; refine Calls.mono (hN.out _) ?_; rintro e w' ⟨rfl, y, rfl⟩))
    refine wp_loop_rounds 4 ?_
    iterate 3
      rw [rounds_succ]
      go_wp2_with (first | (refine wp_region_ext (by kernel_rfl) (by kernel_rfl) ?_; (repeat (go_big_quiet_step (first | (go_at_call 40; first | exact ext_call_same (l1In_any _ _ _ _) | exact ext_call_same2 (l1In_any _ _ _ _))))); refine wpQuiet_end fun z => ?_))
    go_ret
    exact ⟨rfl, (by (try simp only [ext_ext]); repeat (first | exact Kept.refl _ | apply Kept.alloc | apply Kept.drew | apply kept_add | apply Kept.ext))⟩
  by_cases h5 : l.c ≤ l.b
  · go_enter Try.func46, Try.ntmps46
    go_wp2_with (first | (go_at_call 40; refine Calls.mono (l1In_any _ _ _ _) ?_; rintro e w' ⟨rfl, rfl⟩) | (go_at_call 61; refine Calls.mono (hN.out _) ?_; rintro e w' ⟨rfl, y, rfl⟩))
    refine wp_loop_rounds 4 ?_
    iterate 3
      rw [rounds_succ]
      go_wp2_with (first | (refine wp_region_ext (by kernel_rfl) (by kernel_rfl) ?_; (repeat (go_big_quiet_step (first | (go_at_call 40; first | exact ext_call_same (l1In_any _ _ _ _) | exact ext_call_same2 (l1In_any _ _ _ _))))); refine wpQuiet_end fun z => ?_))
    go_ret
    exact ⟨rfl, (by (try simp only [ext_ext]); repeat (first | exact Kept.refl _ | apply Kept.alloc | apply Kept.drew | apply kept_add | apply Kept.ext))⟩
  · simp [placesB, h1, h2, h3, h4, h5] at h
theorem l8Kind_yes (s n : Int) (lo so wo : Option Addr) (lc ls sc lw wc : Nat) (laid : List Card) (pl : Int) (l : Ln) (w : World) (hl : laid.length ≤ 1048576) (hs : ls ≤ 1048576) (hx : CardsAt w lo laid) (hc : ∀ i, i < laid.length → isCard (cx laid i) = true) (hp : inB pl 0 ((ls : Int) - 1) = true) (h : placesB l laid.length = true) :
    Calls Try.prog 46 #[gv s n (.slice lo laid.length lc) (.slice so ls sc) (.slice wo lw wc), cv pl l] w fun e w' => e = .returned (.int .i64 (if lineC (cx laid l.a.toNat) (cx laid l.b.toNat) (cx laid l.c.toNat) = true then 1 else 2)) ∧ Kept w w' := by
  have hN0 := fun w' (hk : Kept w w') => l4Line_yes s n lo lc laid l w' (hx.kept hk) hl hc h
  obtain ⟨⟨h1, h2, h3⟩, i, j, k, rfl, h4, h5, h6⟩ := placesB_of h
  simp only at h1 h2 h3
  have hij : ¬ ((j : Int) ≤ (i : Int)) := by omega
  have hjk : ¬ ((k : Int) ≤ (j : Int)) := by omega
  generalize lineC (cx laid (⟨(i : Int), (j : Int), (k : Int)⟩ : Ln).a.toNat) (cx laid (⟨(i : Int), (j : Int), (k : Int)⟩ : Ln).b.toNat) (cx laid (⟨(i : Int), (j : Int), (k : Int)⟩ : Ln).c.toNat) = b at hN0 ⊢
  have hN := hid hN0
  clear hN0 hx hc h
  cases b
  · go_enter Try.func46, Try.ntmps46
    go_wp2_with (first | (go_at_call 40; refine Calls.mono (l1In_any _ _ _ _) ?_; rintro e w' ⟨rfl, rfl⟩) | (go_at_call 61; refine Calls.mono (hN.out _ ((by (try simp only [ext_ext]); repeat (first | exact Kept.refl _ | apply Kept.alloc | apply Kept.drew | apply kept_add | apply Kept.ext)))) ?_; rintro e w' ⟨rfl, y, rfl⟩))
    refine wp_loop_rounds 4 ?_
    iterate 4
      rw [rounds_succ]
      go_wp2_with (first | (refine wp_region_ext (by kernel_rfl) (by kernel_rfl) ?_; (repeat (go_big_quiet_step (first | (go_at_call 40; first | exact ext_call_same (l1In_any _ _ _ _) | exact ext_call_same2 (l1In_any _ _ _ _))))); refine wpQuiet_end fun z => ?_))
    go_ret
    exact ⟨rfl, (by (try simp only [ext_ext]); repeat (first | exact Kept.refl _ | apply Kept.alloc | apply Kept.drew | apply kept_add | apply Kept.ext))⟩
  · go_enter Try.func46, Try.ntmps46
    go_wp2_with (first | (go_at_call 40; refine Calls.mono (l1In_any _ _ _ _) ?_; rintro e w' ⟨rfl, rfl⟩) | (go_at_call 61; refine Calls.mono (hN.out _ ((by (try simp only [ext_ext]); repeat (first | exact Kept.refl _ | apply Kept.alloc | apply Kept.drew | apply kept_add | apply Kept.ext)))) ?_; rintro e w' ⟨rfl, y, rfl⟩))
    go_ret
    exact ⟨rfl, (by (try simp only [ext_ext]); repeat (first | exact Kept.refl _ | apply Kept.alloc | apply Kept.drew | apply kept_add | apply Kept.ext))⟩
theorem kind_no (s n : Int) (lo so wo : Option Addr) (lc ls sc lw wc : Nat) (laid : List Card) (pl : Int) (l : Ln) (w : World) (hl : laid.length ≤ 1048576) (hs : ls ≤ 1048576) (h : (inB pl 0 ((ls : Int) - 1) && placesB l laid.length) = false) :
    Calls Try.prog 48 #[gv s n (.slice lo laid.length lc) (.slice so ls sc) (.slice wo lw wc), cv pl l] w fun e w' => e = .returned (.int .i64 3) ∧ Kept w w' := by
  cases hp : inB pl 0 ((ls : Int) - 1)
  · go_enter Try.func48, Try.ntmps48
    go_wp2
    go_region
    all_goals
      go_wp2_with (first | (go_at_call 43; refine Calls.mono (isPlayer_any _ _ _ _ _ _ _ _ _ _ _ _ _ (by omega)) ?_; rintro e w' ⟨rfl, y, rfl⟩))
      go_ret
      exact ⟨rfl, (by (try simp only [ext_ext]); repeat (first | exact Kept.refl _ | apply Kept.alloc | apply Kept.drew | apply kept_add | apply Kept.ext))⟩
  by_cases h1 : l.a < 0
  · go_enter Try.func48, Try.ntmps48
    go_wp2
    go_region
    all_goals
      go_wp2_with (first | (go_at_call 43; refine Calls.mono (isPlayer_any _ _ _ _ _ _ _ _ _ _ _ _ _ (by omega)) ?_; rintro e w' ⟨rfl, y, rfl⟩))
      go_ret
      exact ⟨rfl, (by (try simp only [ext_ext]); repeat (first | exact Kept.refl _ | apply Kept.alloc | apply Kept.drew | apply kept_add | apply Kept.ext))⟩
  by_cases h2 : l.b ≤ l.a
  · go_enter Try.func48, Try.ntmps48
    go_wp2
    go_region
    all_goals
      go_wp2_with (first | (go_at_call 43; refine Calls.mono (isPlayer_any _ _ _ _ _ _ _ _ _ _ _ _ _ (by omega)) ?_; rintro e w' ⟨rfl, y, rfl⟩))
      go_ret
      exact ⟨rfl, (by (try simp only [ext_ext]); repeat (first | exact Kept.refl _ | apply Kept.alloc | apply Kept.drew | apply kept_add | apply Kept.ext))⟩
  by_cases h3 : l.c ≤ l.b
  · go_enter Try.func48, Try.ntmps48
    go_wp2
    go_region
    all_goals
      go_wp2_with (first | (go_at_call 43; refine Calls.mono (isPlayer_any _ _ _ _ _ _ _ _ _ _ _ _ _ (by omega)) ?_; rintro e w' ⟨rfl, y, rfl⟩))
      go_ret
      exact ⟨rfl, (by (try simp only [ext_ext]); repeat (first | exact Kept.refl _ | apply Kept.alloc | apply Kept.drew | apply kept_add | apply Kept.ext))⟩
  by_cases h4 : (laid.length : Int) ≤ l.c
  · go_enter Try.func48, Try.ntmps48
    go_wp2
    go_region
    all_goals
      go_wp2_with (first | (go_at_call 43; refine Calls.mono (isPlayer_any _ _ _ _ _ _ _ _ _ _ _ _ _ (by omega)) ?_; rintro e w' ⟨rfl, y, rfl⟩))
      go_ret
      exact ⟨rfl, (by (try simp only [ext_ext]); repeat (first | exact Kept.refl _ | apply Kept.alloc | apply Kept.drew | apply kept_add | apply Kept.ext))⟩
  · exfalso
    rw [hp, Bool.true_and] at h
    have : placesB l laid.length = true := by
      simp only [placesB, Bool.and_eq_true, Bool.not_eq_true', decide_eq_false_iff_not]
      exact ⟨⟨⟨⟨inB_t (by omega) (by omega), inB_t (by omega) (by omega)⟩, h2⟩, inB_t (by omega) (by omega)⟩, h3⟩
    rw [this] at h
    cases h
theorem kind_yes (s n : Int) (lo so wo : Option Addr) (lc ls sc lw wc : Nat) (laid : List Card) (pl : Int) (l : Ln) (w : World) (hl : laid.length ≤ 1048576) (hs : ls ≤ 1048576) (hx : CardsAt w lo laid) (hc : ∀ i, i < laid.length → isCard (cx laid i) = true) (hp : inB pl 0 ((ls : Int) - 1) = true) (h : placesB l laid.length = true) :
    Calls Try.prog 48 #[gv s n (.slice lo laid.length lc) (.slice so ls sc) (.slice wo lw wc), cv pl l] w fun e w' => e = .returned (.int .i64 (if lineC (cx laid l.a.toNat) (cx laid l.b.toNat) (cx laid l.c.toNat) = true then 1 else 2)) ∧ Kept w w' := by
  obtain ⟨⟨_, _, _⟩, i, j, k, rfl, h4, h5, h6⟩ := placesB_of h
  obtain ⟨g, off, rfl, hg, p1, p2, p3, p4⟩ := hx i (by omega)
  obtain ⟨_, _, he, _, q1, q2, q3, q4⟩ := hx j (by omega)
  cases he
  obtain ⟨_, _, he, _, r1, r2, r3, r4⟩ := hx k (by omega)
  cases he
  have hL0 := isLine_any (cx laid i) (cx laid j) (cx laid k) (hc i (by omega)) (hc j (by omega))
  have hi0 : ¬ ((i : Int) < 0) := by omega
  have hij : ¬ ((j : Int) ≤ (i : Int)) := by omega
  have hjk : ¬ ((k : Int) ≤ (j : Int)) := by omega
  have hi2 : (i : Int) < (laid.length : Int) := by omega
  have hj2 : (j : Int) < (laid.length : Int) := by omega
  have hk2 : (k : Int) < (laid.length : Int) := by omega
  have hk3 : ¬ ((laid.length : Int) ≤ (k : Int)) := by omega
  have hb : Hid (lineC (cx laid (⟨(i : Int), (j : Int), (k : Int)⟩ : Ln).a.toNat) (cx laid (⟨(i : Int), (j : Int), (k : Int)⟩ : Ln).b.toNat) (cx laid (⟨(i : Int), (j : Int), (k : Int)⟩ : Ln).c.toNat) = lineC (cx laid i) (cx laid j) (cx laid k)) := hid (by simp)
  rw [hb.out]
  generalize lineC (cx laid i) (cx laid j) (cx laid k) = b at hL0 ⊢
  have hL := hid hL0
  clear hL0 hx hc h hb
  cases b
  all_goals
    go_enter Try.func48, Try.ntmps48
    go_wp2
    go_region
    all_goals
      go_wp2_with (first | (go_at_call 43; refine Calls.mono (isPlayer_any _ _ _ _ _ _ _ _ _ _ _ _ _ (by omega)) ?_; rintro e w' ⟨rfl, y, rfl⟩) | (refine wp_region_ext (by kernel_rfl) (by kernel_rfl) ?_; (repeat (go_big_quiet_step (first | (go_at_call 62; first | exact ext_call (hL.out _) | exact ext_call2 (hL.out _))))); refine wpQuiet_end fun z => ?_))
      go_ret
      exact ⟨rfl, (by (try simp only [ext_ext]); repeat (first | exact Kept.refl _ | apply Kept.alloc | apply Kept.drew | apply kept_add | apply Kept.ext))⟩
end Go.Proofs.Ytifkjbihmmdnbab
