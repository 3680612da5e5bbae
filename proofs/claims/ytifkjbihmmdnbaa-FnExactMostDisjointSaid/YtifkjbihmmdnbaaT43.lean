/- Contracts: the search for pickings that counts. -/
import Derived.Test.YtifkjbihmmdnbaaT42
import Derived.Test.YtifkjbihmmdnbaaT26
namespace Go.Proofs.Ytifkjbihmmdnbaa
open Go.RowKit
theorem pickings_CP_step (c : Nat) (q0 q1 : Value) (tot : List (List Ln)) (Inv : List (List Ln) → World → Prop) (hkeep : ∀ h w w', Inv h w → Kept w w' → Inv h w') (hin : ∀ h w, Inv h w → c < w.heap.size)
    (hvis : ∀ h p w u, h ++ [p] <+: tot → Inv h w → PickAt c w u p → Calls Try.prog 57 #[u, q0, q1] w fun e w' => e = .returned (.tuple #[]) ∧ Inv (h ++ [p]) w' ∧ w.grownBy w' (some c))
    (N : Nat) (ih : ∀ ls b h rest w u v, ls.length < N → b.length + ls.length ≤ 1048576 → h ++ visL ls b ++ rest = tot → Inv h w → PickAt c w u ls → PickAt c w v b → Calls Try.prog 55 #[u, v, .func (.func 57) #[] #[q0, q1]] w fun e w' => e = .returned (.tuple #[]) ∧ Inv (h ++ visL ls b) w' ∧ w.grownBy w' (some c))
    (ls b : List Ln) (h : List (List Ln)) (rest : List (List Ln)) (w : World) (u v : Value) (hN : ls.length = N) (hl : b.length + ls.length ≤ 1048576) (htot : h ++ visL ls b ++ rest = tot) (hI : Inv h w) (hu : PickAt c w u ls) (hv : PickAt c w v b) :
    Calls Try.prog 55 #[u, v, .func (.func 57) #[] #[q0, q1]] w fun e w' => e = .returned (.tuple #[]) ∧ Inv (h ++ visL ls b) w' ∧ w.grownBy w' (some c) := by
  have h1 := hid (hvis h b)
  have hpre := hid (show h ++ [b] <+: tot from ⟨visT ls b ++ rest, by rw [← htot]; simp [visL]⟩)
  have htotH := hid htot
  have ihH := hid ih
  have hkH := hid hkeep
  have hinH := hid hin
  have hIH := hid hI
  have huH := hid hu
  have hvH := hid hv
  obtain ⟨ao, n, cap, rfl⟩ : ∃ ao n cap, u = .slice ao n cap := by rcases hu with ⟨rfl, _⟩ | ⟨g, off, cap, rfl, _⟩ <;> exact ⟨_, _, _, rfl⟩
  obtain ⟨bo, m, bcap, rfl⟩ : ∃ bo m bcap, v = .slice bo m bcap := by rcases hv with ⟨rfl, _⟩ | ⟨g, off, cap, rfl, _⟩ <;> exact ⟨_, _, _, rfl⟩
  have hn : ls.length = n := by rcases hu with ⟨e, e2⟩ | ⟨g, off, cap', e, _⟩ <;> cases e <;> first | rfl | (rw [e2]; rfl)
  have hm : b.length = m := by rcases hv with ⟨e, e2⟩ | ⟨g, off, cap', e, _⟩ <;> cases e <;> first | rfl | (rw [e2]; rfl)
  have hnc : n ≤ cap := by rcases hu with ⟨e, e2⟩ | ⟨g, off, cap', e, _, _, _, h4⟩ <;> cases e <;> omega
  have hmc : m ≤ bcap := by rcases hv with ⟨e, e2⟩ | ⟨g, off, cap', e, _, _, _, h4⟩ <;> cases e <;> omega
  have hnH := hid hn
  have hmH := hid hm
  have hl2 : n ≤ 1048576 := by omega
  have hl3 : m ≤ 1048576 := by omega
  clear hvis htot ih hkeep hin hI hu hv hn hm
  go_enter Try.func55, Try.ntmps55
  go_wp2_with (fail)
  (go_at_call 57; refine Calls.mono (h1.out _ _ hpre.out hIH.out hvH.out) ?_; rintro e w1 ⟨rfl, hI1, hg1⟩)
  have hI1H := hid hI1
  have hg1H := hid hg1
  clear hI1 hg1
  go_wp2_with (fail)
  go_loopw [13] (fun i wr => ∃ k : Nat, k ≤ n ∧ i = .int .i64 k ∧ ∃ h', h' ++ visT (ls.drop k) b = h ++ visL ls b ∧ Inv h' wr ∧ w.grownBy wr (some c)) (fun i _ => n - (intOf i).toNat)
  case atStart => exact ⟨0, Nat.zero_le _, rfl, h ++ [b], by simp [visL], hI1H.out, hg1H.out⟩
  case round wr =>
    obtain ⟨k, hk, rfl, h', hh, hI, hg⟩ := hrel
    have hhH := hid hh
    have hIH' := hid hI
    have hgH := hid hg
    clear hh hI hg
    by_cases hlt : k < n
    · have hd := hid (drop_lx ls k (by rw [hnH.out]; exact hlt))
      have hur := huH.out.grown hgH.out
      obtain ⟨g, off, rfl, hgc, hgs, hL⟩ : ∃ g off, ao = some ⟨g, off, none⟩ ∧ g ≠ c ∧ g < wr.heap.size ∧ LinesAt wr (some ⟨g, off, none⟩) ls := by
        rcases hur with ⟨e, e2⟩ | ⟨g, off, cap', e, a1, a2, a3, _⟩
        · cases e; omega
        · cases e; exact ⟨_, _, rfl, a1, a2, a3⟩
      obtain ⟨_, _, he, _, q1, q2, q3⟩ := hL k (by rw [hnH.out]; exact hlt)
      cases he
      have hcr := hinH.out _ _ hIH'.out
      have hvr := hvH.out.grown hgH.out
      have hvrH := hid hvr
      have hurH := hid hur
      have hbL := hvr.lines
      have hS := hid (fun w' (hk : (wr.alloc (.cells #[.int .i64 (lx ls k).a, .int .i64 (lx ls k).b, .int .i64 (lx ls k).c] 50)).grownBy w' (some c)) => lnCells_grown (lnCells_new (t := 50) (lx ls k) (rfl : wr.heap.size = wr.heap.size)) hk (by simp) (by intro e; cases e; omega))
      have hcon0 := fun w' (hk : Kept (wr.alloc (.cells #[.int .i64 (lx ls k).a, .int .i64 (lx ls k).b, .int .i64 (lx ls k).c] 50)) w') => containsPick_any wr.heap.size (lx ls k) bo bcap b w' (by have := hk.below.size; simp at this; omega) (hS.out _ (kept_grown hk)) (hbL.kept (Kept.trans (by (try simp only [ext_ext]); repeat (first | exact Kept.refl _ | apply Kept.alloc | apply Kept.drew | apply kept_add | apply Kept.ext)) hk)) (by rw [hmH.out]; exact hl3)
      rw [hmH.out] at hcon0
      have hkn : (0 : Int) ≤ (k : Int) := Int.natCast_nonneg _
      have hkn2 : (k : Int) < (n : Int) := by omega
      have hkn3 : (k : Int) + 1 ≤ (n : Int) := by omega
      have hkn4 : (0 : Int) ≤ (k : Int) + 1 := by omega
      have hkn5 : (n : Int) ≤ (cap : Int) := by omega
      have hkn6 : (m : Int) ≤ (bcap : Int) := by omega
      have hkn7 : (0 : Int) ≤ (m : Int) := by omega
      have hkn8 : k + 1 ≤ n := by omega
      have hkn9 : (k : Int) + 1 ≤ (cap : Int) := by omega
      have hwr1 : IntKind.i64.wrap ((k : Int) + 1) = (k : Int) + 1 := Go.IntWalk.i64_in _ ⟨by omega, by omega⟩
      have hnat : ((k : Int) + 1).toNat = k + 1 := by omega
      clear hur hL hvr hbL
      cases hhit : hitL b (lx ls k)
      · rw [hhit] at hcon0
        have hcon := hid hcon0
        clear hcon0
        have hvt := hid (visT_free (ls := ls.drop (k + 1)) hhit)
        have hT := hid (show h' ++ visL (ls.drop (k + 1)) (b ++ [lx ls k]) ++ (visT (ls.drop (k + 1)) b ++ rest) = tot by
          rw [← htotH.out, ← hhH.out, hd.out, hvt.out]; simp [List.append_assoc])
        have hN2 := hid (show (ls.drop (k + 1)).length < N by rw [List.length_drop]; have := hnH.out; omega)
        have hl4 := hid (show (b ++ [lx ls k]).length + (ls.drop (k + 1)).length ≤ 1048576 by rw [List.length_append, List.length_drop, List.length_singleton]; have := hnH.out; omega)
        go_wp2_with (first | (go_at_call 49; refine Calls.mono (hcon.out _ (by (try simp only [ext_ext]); repeat (first | exact Kept.refl _ | apply Kept.alloc | apply Kept.drew | apply kept_add | apply Kept.ext)) ) ?_; rintro e w' ⟨rfl, y, rfl⟩))
        go_region_held3 (fun w' => w'.cell? ⟨wr.heap.size, 0, none⟩ = some (.int .i64 (lx ls k).a) ∧ w'.cell? ⟨wr.heap.size, 1, none⟩ = some (.int .i64 (lx ls k).b) ∧ w'.cell? ⟨wr.heap.size, 2, none⟩ = some (.int .i64 (lx ls k).c))
          (first | exact hS.out _ (World.grownBy.trans (kept_grown (Kept.trans (by (try simp only [ext_ext]); repeat (first | exact Kept.refl _ | apply Kept.alloc | apply Kept.drew | apply kept_add | apply Kept.ext)) hk2)) hg2) | exact hS.out _ (kept_grown (Kept.trans (by (try simp only [ext_ext]); repeat (first | exact Kept.refl _ | apply Kept.alloc | apply Kept.drew | apply kept_add | apply Kept.ext)) hk2)) | exact hS.out _ (kept_grown (by (try simp only [ext_ext]); repeat (first | exact Kept.refl _ | apply Kept.alloc | apply Kept.drew | apply kept_add | apply Kept.ext))))
          (first | (refine step_append_lnF rfl _ _ rfl b m hmH.out c bcap bo (hvrH.out.kept (by (try simp only [ext_ext]); repeat (first | exact Kept.refl _ | apply Kept.alloc | apply Kept.drew | apply kept_add | apply Kept.ext))) rfl _ _ (lx ls k) rfl (lnCells_new (lx ls k) (by simp)) (by rw [hmH.out]; exact hl3) ?_; intro v' w' hown' hk2) | (go_at_call 55; refine Calls.mono (ihH.out (ls.drop (k + 1)) (b ++ [lx ls k]) h' (visT (ls.drop (k + 1)) b ++ rest) _ _ _ hN2.out hl4.out hT.out (hkH.out _ _ _ hIH'.out (Kept.trans (by (try simp only [ext_ext]); repeat (first | exact Kept.refl _ | apply Kept.alloc | apply Kept.drew | apply kept_add | apply Kept.ext)) hk2)) ((hurH.out.drop hkn8).kept (Kept.trans (by (try simp only [ext_ext]); repeat (first | exact Kept.refl _ | apply Kept.alloc | apply Kept.drew | apply kept_add | apply Kept.ext)) hk2)) (hown'.pick (by simp; omega))) ?_; rintro e w2 ⟨rfl, hI2, hg2⟩; dsimp only))
        generalize (if cap = k + 1 then some (⟨g, off, none⟩ : Addr) else some ⟨g, off + (k + 1) * 3, none⟩) = ax
        go_wp2_with (fail)
        go_roundw
        case rel => exact ⟨k + 1, hlt, by go_num, _, by rw [← hhH.out, hd.out, hvt.out, List.append_assoc], hI2, hgH.out.trans (World.grownBy.trans (kept_grown (Kept.trans (by (try simp only [ext_ext]); repeat (first | exact Kept.refl _ | apply Kept.alloc | apply Kept.drew | apply kept_add | apply Kept.ext)) hk2)) hg2)⟩
        case measure => simp [intOf]; omega
      · rw [hhit] at hcon0
        have hcon := hid hcon0
        clear hcon0
        have hvt := hid (visT_hit (ls := ls.drop (k + 1)) hhit)
        go_wp2_with (first | (go_at_call 49; refine Calls.mono (hcon.out _ (by (try simp only [ext_ext]); repeat (first | exact Kept.refl _ | apply Kept.alloc | apply Kept.drew | apply kept_add | apply Kept.ext)) ) ?_; rintro e w' ⟨rfl, y, rfl⟩))
        go_roundw
        case rel => exact ⟨k + 1, hlt, by go_num, h', by rw [← hhH.out, hd.out, hvt.out], hkH.out _ _ _ hIH'.out (by (try simp only [ext_ext]); repeat (first | exact Kept.refl _ | apply Kept.alloc | apply Kept.drew | apply kept_add | apply Kept.ext)), hgH.out.trans (kept_grown (by (try simp only [ext_ext]); repeat (first | exact Kept.refl _ | apply Kept.alloc | apply Kept.drew | apply kept_add | apply Kept.ext)))⟩
        case measure => simp [intOf]; omega
    · obtain rfl : k = n := by omega
      have he : Hid (h' = h ++ visL ls b) := hid (by
        rw [← hhH.out, ← hnH.out]; simp [visT])
      go_wp2
      go_end0
      exact ⟨rfl, he.out ▸ hIH'.out, hgH.out⟩

theorem pickings_CP (c : Nat) (q0 q1 : Value) (tot : List (List Ln)) (Inv : List (List Ln) → World → Prop) (hkeep : ∀ h w w', Inv h w → Kept w w' → Inv h w') (hin : ∀ h w, Inv h w → c < w.heap.size)
    (hvis : ∀ h p w u, h ++ [p] <+: tot → Inv h w → PickAt c w u p → Calls Try.prog 57 #[u, q0, q1] w fun e w' => e = .returned (.tuple #[]) ∧ Inv (h ++ [p]) w' ∧ w.grownBy w' (some c)) :
    ∀ (N : Nat) (ls b : List Ln) (h rest : List (List Ln)) (w : World) (u v : Value), ls.length ≤ N → b.length + ls.length ≤ 1048576 → h ++ visL ls b ++ rest = tot → Inv h w → PickAt c w u ls → PickAt c w v b →
      Calls Try.prog 55 #[u, v, .func (.func 57) #[] #[q0, q1]] w fun e w' => e = .returned (.tuple #[]) ∧ Inv (h ++ visL ls b) w' ∧ w.grownBy w' (some c) := by
  intro N
  induction N with
  | zero => exact fun ls b h rest w u v hN hl ht hI hu hv => pickings_CP_step c q0 q1 tot Inv hkeep hin hvis 0 (fun ls _ _ _ _ _ _ h => absurd h (Nat.not_lt_zero _)) ls b h rest w u v (by omega) hl ht hI hu hv
  | succ N ih => exact fun ls b h rest w u v hN hl ht hI hu hv => pickings_CP_step c q0 q1 tot Inv hkeep hin hvis ls.length (fun ls' b' h' rest' w' u' v' hlt => ih ls' b' h' rest' w' u' v' (by omega)) ls b h rest w u v rfl hl ht hI hu hv

theorem low_le {f : Nat → Nat → Int} (h : ∀ i k, f i k ≤ 1) : ∀ n : Nat, 2 * lowP n f ≤ (n : Int) * ((n : Int) - 1)
  | 0 => by simp [lowP, rsum]
  | n + 1 => by
    have ih := low_le h n
    have h1 : ∀ m : Nat, rsum m (fun k => f k n) ≤ m := fun m => by
      induction m with
      | zero => simp [rsum]
      | succ m ihm => have := h m n; simp only [rsum]; omega
    have h2 := h1 n
    have e : lowP (n + 1) f = lowP n f + rsum n (fun k => f k n) := rfl
    rw [e]
    have e2 : ((n + 1 : Nat) : Int) * (((n + 1 : Nat) : Int) - 1) = (n : Int) * ((n : Int) - 1) + 2 * (n : Int) := by
      rw [Int.natCast_add]
      simp only [Int.natCast_one, Int.add_sub_cancel, Int.add_mul, Int.mul_sub]
      omega
    omega
theorem lines35 {xs : List Card} (hc : areC xs) (hd : distC xs) (hl : xs.length ≤ 15) : (linesC xs).length ≤ 35 := by
  have h1 := pairs_lines hc hd
  have h2 := low_le (f := fun i k => has01 xs i k) (fun i k => by unfold has01; split <;> omega) xs.length
  have h3 : (xs.length : Int) * ((xs.length : Int) - 1) ≤ 15 * 14 := by
    have a : (xs.length : Int) ≤ 15 := by omega
    by_cases h0 : xs.length = 0
    · rw [h0]; decide
    · exact Int.mul_le_mul a (by omega) (by omega) (by omega)
  omega
theorem vis_len {xs : List Card} (hc : areC xs) (hd : distC xs) (hl : xs.length ≤ 15) (b : List Ln) : (visL (linesC xs) b).length ≤ 34359738368 := by
  have h1 := lines35 hc hd hl
  have h2 := visT_len (linesC xs) b
  have h3 : 2 ^ (linesC xs).length ≤ 2 ^ 35 := Nat.pow_le_pow_right (by omega) h1
  simp only [visL, List.length_cons]
  have : (2 : Nat) ^ 35 = 34359738368 := by decide
  omega
/-- How many of the lists have so many rows. -/
def cntP (h : List (List Ln)) (n : Int) : Nat := (h.filter fun p => decide ((p.length : Int) = n)).length
theorem cntP_yes (h : List (List Ln)) {p : List Ln} {n : Int} (e : (p.length : Int) = n) : cntP (h ++ [p]) n = cntP h n + 1 := by simp [cntP, e]
theorem cntP_no (h : List (List Ln)) {p : List Ln} {n : Int} (e : ¬ (p.length : Int) = n) : cntP (h ++ [p]) n = cntP h n := by simp [cntP, e]
theorem cntP_le (h : List (List Ln)) (n : Int) : cntP h n ≤ h.length := List.length_filter_le _ _
def CntI (c B : Nat) (n : Int) (h : List (List Ln)) (w : World) : Prop := c ≠ B ∧ B < w.heap.size ∧ w.cell? ⟨B, 0, none⟩ = some (.int .i64 n) ∧ w.heap[c]? = some (.cells #[.int .i64 (cntP h n : Nat)] 3)
theorem CntI.kept {c B : Nat} {n : Int} {h : List (List Ln)} {w w' : World} (H : CntI c B n h w) (hk : Kept w w') : CntI c B n h w' := by
  obtain ⟨h0, h1, h2, h3⟩ := H
  exact ⟨h0, Nat.lt_of_lt_of_le h1 hk.below.size, (hk.below.cell (p := ⟨_, _, none⟩) h1).trans h2, (hk.below.block c (Array.getElem?_eq_some_iff.1 h3).1).trans h3⟩
theorem CntI.lt {c B : Nat} {n : Int} {h : List (List Ln)} {w : World} (H : CntI c B n h w) : c < w.heap.size := (Array.getElem?_eq_some_iff.1 H.2.2.2).1
theorem countPick1_any (c B : Nat) (n : Int) (h : List (List Ln)) (p : List Ln) (w : World) (u : Value) (hl : h.length ≤ 34359738368) (hI : CntI c B n h w) (hu : PickAt c w u p) (hp : p.length ≤ 1048576) :
    Calls Try.prog 57 #[u, .pointer (some ⟨B, 0, none⟩), .pointer (some ⟨c, 0, none⟩)] w fun e w' => e = .returned (.tuple #[]) ∧ CntI c B n (h ++ [p]) w' ∧ w.grownBy w' (some c) := by
  obtain ⟨ao, cap, rfl⟩ : ∃ ao cap, u = .slice ao p.length cap := by
    rcases hu with ⟨rfl, h2⟩ | ⟨g, off, cap, rfl, _⟩
    · exact ⟨none, 0, by rw [h2]; rfl⟩
    · exact ⟨_, _, rfl⟩
  have hlt := hI.lt
  obtain ⟨h0, h1, h2, h3⟩ := hI
  have hle := cntP_le h n
  have hc := cell_of_row w c 0 _ _ (0, 0) h3
  have hf := frozen_of_row w c 0 _ _ h3
  by_cases e : (p.length : Int) = n
  · have hy := hid (cntP_yes h e)
    have heq : ((p.length : Int) == n) = true := by simp [e]
    have h3H := hid h3
    have h2H := hid h2
    have h0H := hid h0
    clear h3 e h0
    simp only [List.getElem?_toArray, List.getElem?_cons_zero] at hc
    go_enter Try.func57, Try.ntmps57
    go_wp2
    go_end0
    refine ⟨rfl, ⟨h0H.out, by simpa using h1, ?_, ?_⟩, grown_setCell (grown_refl _ _) (p := ⟨c, 0, none⟩) rfl _⟩
    · exact (cell_block (heap_setCell_other _ _ _ _ h0H.out.symm) _).trans h2
    · rw [heap_setCell_same _ _ _ _ _ _ h3H.out, hy.out]
      rfl
  · have hy := hid (cntP_no h e)
    have heq : ((p.length : Int) == n) = false := by simp [e]
    have h3H := hid h3
    have h0H := hid h0
    clear h3 e
    go_enter Try.func57, Try.ntmps57
    go_wp2
    go_end0
    exact ⟨rfl, ⟨h0H.out, h1, h2, by rw [hy.out]; exact h3H.out⟩, grown_refl _ _⟩
theorem vis_mem_len {ls : List Ln} : ∀ {b p : List Ln}, p ∈ visL ls b → p.length ≤ b.length + ls.length := by
  induction ls with
  | nil => intro b p h; simp [visL, visT] at h; rw [h]; simp
  | cons a ls ih =>
    intro b p h
    cases hh : hitL b a
    · simp only [visL, visT_free hh, List.mem_cons, List.mem_append] at h
      rcases h with rfl | h | h
      · omega
      · have := ih (b := b ++ [a]) (p := p) (by simp only [visL, List.mem_cons]; exact h)
        simp at this ⊢; omega
      · have := ih (b := b) (p := p) (by simp only [visL, List.mem_cons]; exact .inr h)
        simp; omega
    · simp only [visL, visT_hit hh, List.mem_cons] at h
      have := ih (b := b) (p := p) (by simp only [visL, List.mem_cons]; exact h)
      simp; omega
theorem prefix_mem {α : Type} {h t : List α} {p : α} (hp : h ++ [p] <+: t) : p ∈ t := by
  obtain ⟨s, rfl⟩ := hp; simp
theorem prefix_len {α : Type} {h t : List α} {p : α} (hp : h ++ [p] <+: t) : h.length < t.length := by
  obtain ⟨s, rfl⟩ := hp; simp
theorem countPickings_any (ao : Option Addr) (cap : Nat) (xs : List Card) (n : Int) (w : World) (hx : CardsAt w ao xs) (hh : isHand xs = true) (h15 : xs.length ≤ 15) :
    Calls Try.prog 38 #[.slice ao xs.length cap, .int .i64 n] w fun e w' => e = .returned (.int .i64 (cntP (visL (linesC xs) []) n : Nat)) ∧ Kept w w' := by
  have hc := areC_hand hh
  have hd := distC_hand hh
  have hvl := vis_len hc hd h15 []
  have h35 := lines35 hc hd h15
  have hL := hid (fun w' (hk : Kept w w') => linesIn_any ao cap xs w' (hx.kept hk) (by omega) hc hd)
  clear hx hc hd
  go_enter Try.func38, Try.ntmps38
  go_wp2_with (fail)
  (go_at_call 56; refine Calls.mono (hL.out _ (by (try simp only [ext_ext]); repeat (first | exact Kept.refl _ | apply Kept.alloc | apply Kept.drew | apply kept_add | apply Kept.ext))) ?_; rintro e w1 ⟨v, rfl, ho, k1⟩)
  have K1 : Kept w w1 := Kept.trans (by (try simp only [ext_ext]); repeat (first | exact Kept.refl _ | apply Kept.alloc | apply Kept.drew | apply kept_add | apply Kept.ext)) k1
  have hsz : w.heap.size + 1 < w1.heap.size := by have := k1.below.size; simp at this; omega
  have hsz2 : w.heap.size + 2 ≤ w1.heap.size := by have := k1.below.size; simp at this; omega
  have hI : CntI (w.heap.size + 1) w.heap.size n [] w1 := by
    refine CntI.kept ⟨by omega, by simp; omega, ?_, ?_⟩ k1
    · simp [go_sem]
    · exact heap_at (by simp)
  go_wp2_with (fail)
  (go_at_call 55; refine Calls.mono (pickings_CP (w.heap.size + 1) _ _ (visL (linesC xs) []) (CntI (w.heap.size + 1) w.heap.size n) (fun h w w' H hk => H.kept hk) (fun h w H => H.lt) (fun h p w u hp H hu => countPick1_any _ _ n h p w u (by have := prefix_len hp; omega) H hu (by have := vis_mem_len (prefix_mem hp); simp at this; omega)) (linesC xs).length (linesC xs) [] [] [] _ _ _ (Nat.le_refl _) (by simp; omega) (by simp) hI (ho.pick (by simp)) (.inl ⟨rfl, rfl⟩)) ?_; rintro e w2 ⟨rfl, hI2, hg2⟩)
  obtain ⟨_, _, _, h3⟩ := hI2
  have hcell := cell_of_row w2 (w.heap.size + 1) 0 _ _ (0, 0) h3
  simp only [List.nil_append] at hcell
  go_wp2_with (fail)
  go_ret
  exact ⟨rfl, K1.grown hg2 fun k hk => by cases hk; omega⟩
end Go.Proofs.Ytifkjbihmmdnbaa
