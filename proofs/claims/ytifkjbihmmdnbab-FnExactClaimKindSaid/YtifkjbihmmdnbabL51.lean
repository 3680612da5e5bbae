/- Walk: the law of ClaimKind. -/
import Derived.Test.YtifkjbihmmdnbabT41
import Derived.Test.YtifkjbihmmdnbabR4
import Derived.Deep.Cut
namespace Go.Proofs.Ytifkjbihmmdnbab
open Go.RowKit
theorem mem_cswap {cs : List Card} {i k : Nat} {x : Card} (hi : i < cs.length) (hk : k < cs.length) (h : x ∈ cswap cs i k) : x ∈ cs := by
  unfold cswap at h
  rcases List.mem_or_eq_of_mem_set h with h | h
  · rcases List.mem_or_eq_of_mem_set h with h | h
    · exact h
    · rw [h]; exact cx_mem hk
  · rw [h]; exact cx_mem hi
theorem mem_pileR : ∀ (i : Nat) (s : Int) (cs : List Card) (x : Card), i < cs.length → x ∈ pileR s cs i → x ∈ cs
  | 0, s, cs, x, _, h => by rw [pileR_zero] at h; exact h
  | i + 1, s, cs, x, hi, h => by
    rw [pileR_next s cs (by omega)] at h
    have := placeI_lt (behI s) (i + 1)
    exact mem_cswap hi (by omega) (mem_pileR i _ _ x (by rw [cswap_len]; omega) h)
theorem isCard_pile {s : Int} {x : Card} (h : x ∈ pileC s) : isCard x = true := by
  have h1 := mem_pileR 80 s (deckN 81) x (by rw [deckN_len]; omega) h
  unfold deckN at h1
  obtain ⟨i, hi, rfl⟩ := List.mem_map.1 h1
  have := List.mem_range.1 hi
  exact isCard_cardN (by omega) (by omega)
theorem areC_deal {s n : Int} {laid : List Card} (h : dealB s n laid = true) : ∀ i, i < laid.length → isCard (cx laid i) = true := fun i hi => by
  simp only [dealB, Bool.and_eq_true] at h
  have h1 := List.all_eq_true.1 h.2 i (List.mem_range.2 hi)
  simp only [layAt, Bool.and_eq_true, hasC_mem, decide_eq_true_eq] at h1
  exact isCard_pile (List.mem_of_mem_take h1.1)
def kindI (laid : List Card) (ns : Nat) (pl : Int) (l : Ln) : Int := if inB pl 0 ((ns : Int) - 1) && placesB l laid.length then (if lineC (cx laid l.a.toNat) (cx laid l.b.toNat) (cx laid l.c.toNat) = true then 1 else 2) else 3
theorem l8Kind_any (s n : Int) (lo so wo : Option Addr) (lc ls sc lw wc : Nat) (laid : List Card) (pl : Int) (l : Ln) (w : World) (hl : laid.length ≤ 1048576) (hs : ls ≤ 1048576) (hx : CardsAt w lo laid) (hc : ∀ i, i < laid.length → isCard (cx laid i) = true) :
    Calls Try.prog 46 #[gv s n (.slice lo laid.length lc) (.slice so ls sc) (.slice wo lw wc), cv pl l] w fun e w' => e = .returned (.int .i64 (kindI laid ls pl l)) ∧ Kept w w' := by
  unfold kindI
  cases hp : inB pl 0 ((ls : Int) - 1)
  · exact l8Kind_p s n lo so wo lc ls sc lw wc laid pl l w hl hs hp
  · cases h : placesB l laid.length
    · exact l8Kind_no s n lo so wo lc ls sc lw wc laid pl l w hl hs hp h
    · exact l8Kind_yes s n lo so wo lc ls sc lw wc laid pl l w hl hs hx hc hp h
theorem kind_any (s n : Int) (lo so wo : Option Addr) (lc ls sc lw wc : Nat) (laid : List Card) (pl : Int) (l : Ln) (w : World) (hl : laid.length ≤ 1048576) (hs : ls ≤ 1048576) (hx : CardsAt w lo laid) (hc : ∀ i, i < laid.length → isCard (cx laid i) = true) :
    Calls Try.prog 48 #[gv s n (.slice lo laid.length lc) (.slice so ls sc) (.slice wo lw wc), cv pl l] w fun e w' => e = .returned (.int .i64 (kindI laid ls pl l)) ∧ Kept w w' := by
  unfold kindI
  cases hp : inB pl 0 ((ls : Int) - 1) && placesB l laid.length
  · exact kind_no s n lo so wo lc ls sc lw wc laid pl l w hl hs hp
  · simp only [Bool.and_eq_true] at hp
    exact kind_yes s n lo so wo lc ls sc lw wc laid pl l w hl hs hx hc hp.1 hp.2
theorem sClaimKind_no (s n : Int) (lo so wo : Option Addr) (lc sc wc : Nat) (laid : List Card) (scores wrong : List Int) (pl : Int) (l : Ln) (w : World) (hx : CardsAt w lo laid) (hy : IntsAt w so scores) (hz : IntsAt w wo wrong) (hl : laid.length ≤ 1048576) (hl2 : scores.length ≤ 1048576) (hl3 : wrong.length ≤ 1048576) (hlc : laid.length ≤ lc) (hg : gameB s n laid scores wrong = false) :
    Calls Try.prog 24 #[gv s n (.slice lo laid.length lc) (.slice so scores.length sc) (.slice wo wrong.length wc), cv pl l] w fun e w' => e = .returned (.tuple #[.int .i64 0, .bool false]) ∧ Kept w w' := by
  have hG0 := fun w' (hk : Kept w w') => l8Game_any s n lo so wo lc sc wc laid scores wrong w' (hx.kept hk) (hy.kept hk) (hz.kept hk) hl hl2 hl3 hlc
  rw [hg] at hG0
  have hG := hid hG0
  clear hG0
  go_enter Try.func24, Try.ntmps24
  go_wp2_with (first | (go_at_call 31; refine Calls.mono (hG.out _ ((by (try simp only [ext_ext]); repeat (first | exact Kept.refl _ | apply Kept.alloc | apply Kept.drew | apply kept_add | apply Kept.ext)))) ?_; rintro e w' ⟨rfl, y, rfl⟩))
  refine bodyPost_ret (v := .tuple #[.int .i64 0, .bool false]) (by simp [results, Try.results24, go_sem]) rfl ⟨rfl, ?_⟩
  exact (by (try simp only [ext_ext]); repeat (first | exact Kept.refl _ | apply Kept.alloc | apply Kept.drew | apply kept_add | apply Kept.ext))
theorem sClaimKind_yes (s n : Int) (lo so wo : Option Addr) (lc sc wc : Nat) (laid : List Card) (scores wrong : List Int) (pl : Int) (l : Ln) (w : World) (hx : CardsAt w lo laid) (hy : IntsAt w so scores) (hz : IntsAt w wo wrong) (hl : laid.length ≤ 1048576) (hl2 : scores.length ≤ 1048576) (hl3 : wrong.length ≤ 1048576) (hlc : laid.length ≤ lc) (hg : gameB s n laid scores wrong = true) :
    Calls Try.prog 24 #[gv s n (.slice lo laid.length lc) (.slice so scores.length sc) (.slice wo wrong.length wc), cv pl l] w fun e w' => e = .returned (.tuple #[.int .i64 (kindI laid scores.length pl l), .bool true]) ∧ Kept w w' := by
  have hG0 := fun w' (hk : Kept w w') => l8Game_any s n lo so wo lc sc wc laid scores wrong w' (hx.kept hk) (hy.kept hk) (hz.kept hk) hl hl2 hl3 hlc
  rw [hg] at hG0
  have hG := hid hG0
  have hc : dealB s n laid = true := by simp only [gameB, Bool.and_eq_true] at hg; exact hg.2
  have hK0 := fun w' (hk : Kept w w') => l8Kind_any s n lo so wo lc scores.length sc wrong.length wc laid pl l w' hl hl2 (hx.kept hk) (areC_deal hc)
  generalize kindI laid scores.length pl l = q at hK0 ⊢
  have hK := hid hK0
  clear hG0 hK0
  go_enter Try.func24, Try.ntmps24
  go_wp2_with (first | (go_at_call 31; refine Calls.mono (hG.out _ ((by (try simp only [ext_ext]); repeat (first | exact Kept.refl _ | apply Kept.alloc | apply Kept.drew | apply kept_add | apply Kept.ext)))) ?_; rintro e w' ⟨rfl, y, rfl⟩) | (go_at_call 46; refine Calls.mono (hK.out _ ((by (try simp only [ext_ext]); repeat (first | exact Kept.refl _ | apply Kept.alloc | apply Kept.drew | apply kept_add | apply Kept.ext)))) ?_; rintro e w' ⟨rfl, y, rfl⟩))
  refine bodyPost_ret (v := .tuple #[.int .i64 q, .bool true]) (by simp [results, Try.results24, go_sem]) rfl ⟨rfl, ?_⟩
  exact (by (try simp only [ext_ext]); repeat (first | exact Kept.refl _ | apply Kept.alloc | apply Kept.drew | apply kept_add | apply Kept.ext))
theorem iClaimKind_no (s n : Int) (lo so wo : Option Addr) (lc sc wc : Nat) (laid : List Card) (scores wrong : List Int) (pl : Int) (l : Ln) (w : World) (hx : CardsAt w lo laid) (hy : IntsAt w so scores) (hz : IntsAt w wo wrong) (hl : laid.length ≤ 1048576) (hl2 : scores.length ≤ 1048576) (hl3 : wrong.length ≤ 1048576) (hlc : laid.length ≤ lc) (hg : gameB s n laid scores wrong = false) :
    Calls Try.prog 26 #[gv s n (.slice lo laid.length lc) (.slice so scores.length sc) (.slice wo wrong.length wc), cv pl l] w fun e w' => e = .returned (.tuple #[.int .i64 0, .bool false]) ∧ Kept w w' := by
  have hG0 := fun w' (hk : Kept w w') => IsGame_any s n lo so wo lc sc wc laid scores wrong w' (hx.kept hk) (hy.kept hk) (hz.kept hk) hl hl2 hl3 hlc
  rw [hg] at hG0
  have hG := hid hG0
  clear hG0
  go_enter Try.func26, Try.ntmps26
  go_wp2_with (first | (go_at_call 12; refine Calls.mono (hG.out _ ((by (try simp only [ext_ext]); repeat (first | exact Kept.refl _ | apply Kept.alloc | apply Kept.drew | apply kept_add | apply Kept.ext)))) ?_; rintro e w' ⟨rfl, y, rfl⟩))
  refine bodyPost_ret (v := .tuple #[.int .i64 0, .bool false]) (by simp [results, Try.results26, go_sem]) rfl ⟨rfl, ?_⟩
  exact (by (try simp only [ext_ext]); repeat (first | exact Kept.refl _ | apply Kept.alloc | apply Kept.drew | apply kept_add | apply Kept.ext))
theorem iClaimKind_yes (s n : Int) (lo so wo : Option Addr) (lc sc wc : Nat) (laid : List Card) (scores wrong : List Int) (pl : Int) (l : Ln) (w : World) (hx : CardsAt w lo laid) (hy : IntsAt w so scores) (hz : IntsAt w wo wrong) (hl : laid.length ≤ 1048576) (hl2 : scores.length ≤ 1048576) (hl3 : wrong.length ≤ 1048576) (hlc : laid.length ≤ lc) (hg : gameB s n laid scores wrong = true) :
    Calls Try.prog 26 #[gv s n (.slice lo laid.length lc) (.slice so scores.length sc) (.slice wo wrong.length wc), cv pl l] w fun e w' => e = .returned (.tuple #[.int .i64 (kindI laid scores.length pl l), .bool true]) ∧ Kept w w' := by
  have hG0 := fun w' (hk : Kept w w') => IsGame_any s n lo so wo lc sc wc laid scores wrong w' (hx.kept hk) (hy.kept hk) (hz.kept hk) hl hl2 hl3 hlc
  rw [hg] at hG0
  have hG := hid hG0
  have hc : dealB s n laid = true := by simp only [gameB, Bool.and_eq_true] at hg; exact hg.2
  have hK0 := fun w' (hk : Kept w w') => kind_any s n lo so wo lc scores.length sc wrong.length wc laid pl l w' hl hl2 (hx.kept hk) (areC_deal hc)
  generalize kindI laid scores.length pl l = q at hK0 ⊢
  have hK := hid hK0
  clear hG0 hK0
  go_enter Try.func26, Try.ntmps26
  go_wp2_with (first | (go_at_call 12; refine Calls.mono (hG.out _ ((by (try simp only [ext_ext]); repeat (first | exact Kept.refl _ | apply Kept.alloc | apply Kept.drew | apply kept_add | apply Kept.ext)))) ?_; rintro e w' ⟨rfl, y, rfl⟩) | (go_at_call 48; refine Calls.mono (hK.out _ ((by (try simp only [ext_ext]); repeat (first | exact Kept.refl _ | apply Kept.alloc | apply Kept.drew | apply kept_add | apply Kept.ext)))) ?_; rintro e w' ⟨rfl, y, rfl⟩))
  refine bodyPost_ret (v := .tuple #[.int .i64 q, .bool true]) (by simp [results, Try.results26, go_sem]) rfl ⟨rfl, ?_⟩
  exact (by (try simp only [ext_ext]); repeat (first | exact Kept.refl _ | apply Kept.alloc | apply Kept.drew | apply kept_add | apply Kept.ext))
theorem twoClaimKind (s n : Int) (laid : List Card) (scores wrong : List Int) (pl : Int) (l : Ln) (hl : laid.length ≤ 1048576) (hl2 : scores.length ≤ 1048576) (hl3 : wrong.length ≤ 1048576) :
    ∃ q ok, (∀ (lo so wo : Option Addr) (lc sc wc : Nat) (w : World), CardsAt w lo laid → IntsAt w so scores → IntsAt w wo wrong → laid.length ≤ lc → Calls Try.prog 24 #[gv s n (.slice lo laid.length lc) (.slice so scores.length sc) (.slice wo wrong.length wc), cv pl l] w fun e w' => e = .returned (.tuple #[.int .i64 q, .bool ok]) ∧ Kept w w') ∧ (∀ (lo so wo : Option Addr) (lc sc wc : Nat) (w : World), CardsAt w lo laid → IntsAt w so scores → IntsAt w wo wrong → laid.length ≤ lc → Calls Try.prog 26 #[gv s n (.slice lo laid.length lc) (.slice so scores.length sc) (.slice wo wrong.length wc), cv pl l] w fun e w' => e = .returned (.tuple #[.int .i64 q, .bool ok]) ∧ Kept w w') := by
  cases hv : gameB s n laid scores wrong with
  | false => exact ⟨0, false, fun _ _ _ _ _ _ _ hx hy hz hc => sClaimKind_no _ _ _ _ _ _ _ _ _ _ _ _ _ _ hx hy hz hl hl2 hl3 hc hv, fun _ _ _ _ _ _ _ hx hy hz hc => iClaimKind_no _ _ _ _ _ _ _ _ _ _ _ _ _ _ hx hy hz hl hl2 hl3 hc hv⟩
  | true => exact ⟨_, true, fun _ _ _ _ _ _ _ hx hy hz hc => sClaimKind_yes _ _ _ _ _ _ _ _ _ _ _ _ _ _ hx hy hz hl hl2 hl3 hc hv, fun _ _ _ _ _ _ _ hx hy hz hc => iClaimKind_yes _ _ _ _ _ _ _ _ _ _ _ _ _ _ hx hy hz hl hl2 hl3 hc hv⟩
set_option maxHeartbeats 4000000 in
theorem walk_FnExactClaimKind (s n : Int) (lo so wo : Option Addr) (lc sc wc : Nat) (laid : List Card) (scores wrong : List Int) {w : World} (hx : CardsAt w lo laid) (hy : IntsAt w so scores) (hz : IntsAt w wo wrong) (hl : laid.length ≤ maxLen) (hl2 : scores.length ≤ maxLen) (hl3 : wrong.length ≤ maxLen) (pl : Int) (l : Ln) (_ : World) :
    Calls Try.prog 7 #[gv s n (.slice lo laid.length lc) (.slice so scores.length sc) (.slice wo wrong.length wc), cv pl l] w fun e w' => e = .returned (.bool true) ∧ Kept w w' := by
  have b1 : laid.length ≤ 9223372036854775807 := by unfold maxLen at hl; omega
  have b2 : scores.length ≤ 9223372036854775807 := by unfold maxLen at hl2; omega
  have b3 : wrong.length ≤ 9223372036854775807 := by unfold maxLen at hl3; omega
  have hsz := hid (szGame_any s n lo so wo laid.length lc scores.length sc wrong.length wc b1 b2 b3)
  by_cases hn : laid.length + scores.length + wrong.length ≤ 1048576
  · have m1 : laid.length ≤ 1048576 := by omega
    have m2 : scores.length ≤ 1048576 := by omega
    have m3 : wrong.length ≤ 1048576 := by omega
    have hlo : ¬ ((1048576 : Int) - (laid.length : Int) - (scores.length : Int) - (wrong.length : Int) < 0) := by omega
    obtain ⟨q, ok, hS, hI⟩ : ∃ q ok, (∀ (lo so wo : Option Addr) (lc sc wc : Nat) (w : World), CardsAt w lo laid → IntsAt w so scores → IntsAt w wo wrong → laid.length ≤ lc → Calls Try.prog 24 #[gv s n (.slice lo laid.length lc) (.slice so scores.length sc) (.slice wo wrong.length wc), cv pl l] w fun e w' => e = .returned (.tuple #[.int .i64 q, .bool ok]) ∧ Kept w w') ∧ (∀ (lo so wo : Option Addr) (lc sc wc : Nat) (w : World), CardsAt w lo laid → IntsAt w so scores → IntsAt w wo wrong → laid.length ≤ lc → Calls Try.prog 26 #[gv s n (.slice lo laid.length lc) (.slice so scores.length sc) (.slice wo wrong.length wc), cv pl l] w fun e w' => e = .returned (.tuple #[.int .i64 q, .bool ok]) ∧ Kept w w') := twoClaimKind s n laid scores wrong pl l m1 m2 m3
    have hSH := hid hS
    have hIH := hid hI
    have hC := hid (toClaim_any pl l)
    clear hS hI
    go_enter Try.func7, Try.ntmps7
    go_wp2_with (first | (go_at_call 9; refine Calls.mono (hsz.out _) ?_; rintro e w' ⟨rfl, y, rfl⟩))
    go_upto_region 5 with (fail)
    go_cut [6, 7] from 11 (fun s6 s7 wx => s6 = .int .i64 q ∧ s7 = .bool ok ∧ Kept ((w.alloc (.cells #[.int .i64 s, .int .i64 n, .slice lo laid.length lc, .slice so scores.length sc, .slice wo wrong.length wc] 27)).alloc (.cells #[.int .i64 pl, .int .i64 l.a, .int .i64 l.b, .int .i64 l.c] 48)) wx)
    case first =>
      go_region_with (first | (go_at_call 11; refine Calls.mono (toGame_any s n _ _ _ _ _ _ laid scores wrong _ (hx.kept (by (try simp only [ext_ext]); repeat (first | exact Kept.refl _ | apply Kept.alloc | apply Kept.drew | apply kept_add | apply Kept.ext))) (hy.kept (by (try simp only [ext_ext]); repeat (first | exact Kept.refl _ | apply Kept.alloc | apply Kept.drew | apply kept_add | apply Kept.ext))) (hz.kept (by (try simp only [ext_ext]); repeat (first | exact Kept.refl _ | apply Kept.alloc | apply Kept.drew | apply kept_add | apply Kept.ext))) m1 m2 m3) ?_; rintro e w' ⟨lo1, lc1, so1, sc1, wo1, wc1, rfl, p1, p2, p3, _, _, _, z1, rfl⟩; obtain ⟨_, _, hv1, x1, k1⟩ := p1.reads; cases hv1; obtain ⟨_, _, hv1, x2, _⟩ := p2.reads; cases hv1; obtain ⟨_, _, hv1, x3, _⟩ := p3.reads; cases hv1; try simp only [ext_ext] at p1 p2 p3 x1 x2 x3) | (go_at_call 25; refine Calls.mono (hC.out _) ?_; rintro e w' ⟨rfl, y, rfl⟩) | (go_at_call 24; refine Calls.mono (hSH.out _ _ _ _ _ _ _ (x1.kept (by (try simp only [ext_ext]); repeat (first | exact Kept.refl _ | apply Kept.alloc | apply Kept.drew | apply kept_add | apply Kept.ext))) (x2.kept (by (try simp only [ext_ext]); repeat (first | exact Kept.refl _ | apply Kept.alloc | apply Kept.drew | apply kept_add | apply Kept.ext))) (x3.kept (by (try simp only [ext_ext]); repeat (first | exact Kept.refl _ | apply Kept.alloc | apply Kept.drew | apply kept_add | apply Kept.ext))) k1) ?_; rintro e w' ⟨rfl, y1, rfl⟩))
      all_goals
        go_wp2_with (fail)
        go_meet
        exact ⟨rfl, rfl, (by (try simp only [ext_ext]); repeat (first | exact Kept.refl _ | apply Kept.alloc | apply Kept.drew | apply kept_add | apply Kept.ext))⟩
    case rest =>
      obtain ⟨rfl, rfl, z0, rfl⟩ := hcut
      go_wp2_with (fail)
      (go_at_call 11; refine Calls.mono (toGame_any s n _ _ _ _ _ _ laid scores wrong _ (hx.kept (by (try simp only [ext_ext]); repeat (first | exact Kept.refl _ | apply Kept.alloc | apply Kept.drew | apply kept_add | apply Kept.ext))) (hy.kept (by (try simp only [ext_ext]); repeat (first | exact Kept.refl _ | apply Kept.alloc | apply Kept.drew | apply kept_add | apply Kept.ext))) (hz.kept (by (try simp only [ext_ext]); repeat (first | exact Kept.refl _ | apply Kept.alloc | apply Kept.drew | apply kept_add | apply Kept.ext))) m1 m2 m3) ?_; rintro e w' ⟨lo1, lc1, so1, sc1, wo1, wc1, rfl, p1, p2, p3, _, _, _, z1, rfl⟩; obtain ⟨_, _, hv1, x1, k1⟩ := p1.reads; cases hv1; obtain ⟨_, _, hv1, x2, _⟩ := p2.reads; cases hv1; obtain ⟨_, _, hv1, x3, _⟩ := p3.reads; cases hv1; try simp only [ext_ext] at p1 p2 p3 x1 x2 x3)
      have c1 := hid p1
      have c2 := hid p2
      have c3 := hid p3
      clear p1 p2 p3
      go_wp2_with (first | (refine wp_region_ext (by kernel_rfl) (by kernel_rfl) ?_; (repeat (go_big_quiet_step (first | (go_at_call 25; first | exact ext_call (hC.out _) | exact ext_call2 (hC.out _)) | (go_at_call 26; first | exact ext_call (hIH.out _ _ _ _ _ _ _ (x1.kept (by (try simp only [ext_ext]); repeat (first | exact Kept.refl _ | apply Kept.alloc | apply Kept.drew | apply kept_add | apply Kept.ext))) (x2.kept (by (try simp only [ext_ext]); repeat (first | exact Kept.refl _ | apply Kept.alloc | apply Kept.drew | apply kept_add | apply Kept.ext))) (x3.kept (by (try simp only [ext_ext]); repeat (first | exact Kept.refl _ | apply Kept.alloc | apply Kept.drew | apply kept_add | apply Kept.ext))) k1) | exact ext_call2 (hIH.out _ _ _ _ _ _ _ (x1.kept (by (try simp only [ext_ext]); repeat (first | exact Kept.refl _ | apply Kept.alloc | apply Kept.drew | apply kept_add | apply Kept.ext))) (x2.kept (by (try simp only [ext_ext]); repeat (first | exact Kept.refl _ | apply Kept.alloc | apply Kept.drew | apply kept_add | apply Kept.ext))) (x3.kept (by (try simp only [ext_ext]); repeat (first | exact Kept.refl _ | apply Kept.alloc | apply Kept.drew | apply kept_add | apply Kept.ext))) k1))))); refine wpQuiet_end fun z => ?_))
      clear x1 x2 x3 hSH hIH hsz
      go_region_with (first | (go_at_call 11; refine Calls.mono (toGame_any s n _ _ _ _ _ _ laid scores wrong _ (hx.kept (by (try simp only [ext_ext]); repeat (first | exact Kept.refl _ | apply Kept.alloc | apply Kept.drew | apply kept_add | apply Kept.ext))) (hy.kept (by (try simp only [ext_ext]); repeat (first | exact Kept.refl _ | apply Kept.alloc | apply Kept.drew | apply kept_add | apply Kept.ext))) (hz.kept (by (try simp only [ext_ext]); repeat (first | exact Kept.refl _ | apply Kept.alloc | apply Kept.drew | apply kept_add | apply Kept.ext))) m1 m2 m3) ?_; rintro e w' ⟨lo3, lc3, so3, sc3, wo3, wc3, rfl, p4, p5, p6, _, _, _, z3, rfl⟩; try simp only [ext_ext] at p4 p5 p6) | (go_at_call 13; refine Calls.mono (eqGame_any s n _ _ _ _ _ _ _ _ _ _ _ _ _ _ laid scores wrong _ (c1.out.kept (by (try simp only [ext_ext]); repeat (first | exact Kept.refl _ | apply Kept.alloc | apply Kept.drew | apply kept_add | apply Kept.ext))) (p4.kept (by (try simp only [ext_ext]); repeat (first | exact Kept.refl _ | apply Kept.alloc | apply Kept.drew | apply kept_add | apply Kept.ext))) (c2.out.kept (by (try simp only [ext_ext]); repeat (first | exact Kept.refl _ | apply Kept.alloc | apply Kept.drew | apply kept_add | apply Kept.ext))) (p5.kept (by (try simp only [ext_ext]); repeat (first | exact Kept.refl _ | apply Kept.alloc | apply Kept.drew | apply kept_add | apply Kept.ext))) (c3.out.kept (by (try simp only [ext_ext]); repeat (first | exact Kept.refl _ | apply Kept.alloc | apply Kept.drew | apply kept_add | apply Kept.ext))) (p6.kept (by (try simp only [ext_ext]); repeat (first | exact Kept.refl _ | apply Kept.alloc | apply Kept.drew | apply kept_add | apply Kept.ext))) m1 m2 m3) ?_; rintro e w' ⟨rfl, y3, rfl⟩))
      all_goals
        go_wp2
        go_ret
        exact ⟨rfl, (by (try simp only [ext_ext]); repeat (first | exact Kept.refl _ | apply Kept.alloc | apply Kept.drew | apply kept_add | apply Kept.ext))⟩
  · go_enter Try.func7, Try.ntmps7
    go_wp2_with (first | (go_at_call 9; refine Calls.mono (hsz.out _) ?_; rintro e w' ⟨rfl, y, rfl⟩))
    go_ret
    exact ⟨rfl, (by (try simp only [ext_ext]); repeat (first | exact Kept.refl _ | apply Kept.alloc | apply Kept.drew | apply kept_add | apply Kept.ext))⟩
end Go.Proofs.Ytifkjbihmmdnbab
