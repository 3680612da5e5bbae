/- Contracts: the search for pickings that keeps the first greatest one. -/
import Derived.Test.YtifkjbihmmdnbaaT43
import Derived.Test.YtifkjbihmmdnbaaT44
import Derived.Lib.SliceRun
namespace Go.Proofs.Ytifkjbihmmdnbaa
open Go.RowKit
theorem pickings_FP_step (c : Nat) (q0 : Value) (tot : List (List Ln)) (Inv : List (List Ln) → World → Prop) (hkeep : ∀ h w w', Inv h w → Kept w w' → Inv h w') (hin : ∀ h w, Inv h w → c < w.heap.size)
    (hvis : ∀ h p w u, h ++ [p] <+: tot → Inv h w → PickAt c w u p → Calls Try.prog 58 #[u, q0] w fun e w' => e = .returned (.tuple #[]) ∧ Inv (h ++ [p]) w' ∧ w.grownBy w' (some c))
    (N : Nat) (ih : ∀ ls b h rest w u v, ls.length < N → b.length + ls.length ≤ 1048576 → h ++ visL ls b ++ rest = tot → Inv h w → PickAt c w u ls → PickAt c w v b → Calls Try.prog 55 #[u, v, .func (.func 58) #[] #[q0]] w fun e w' => e = .returned (.tuple #[]) ∧ Inv (h ++ visL ls b) w' ∧ w.grownBy w' (some c))
    (ls b : List Ln) (h : List (List Ln)) (rest : List (List Ln)) (w : World) (u v : Value) (hN : ls.length = N) (hl : b.length + ls.length ≤ 1048576) (htot : h ++ visL ls b ++ rest = tot) (hI : Inv h w) (hu : PickAt c w u ls) (hv : PickAt c w v b) :
    Calls Try.prog 55 #[u, v, .func (.func 58) #[] #[q0]] w fun e w' => e = .returned (.tuple #[]) ∧ Inv (h ++ visL ls b) w' ∧ w.grownBy w' (some c) := by
  have h1 := hid (hvis h b)
  have hpre := hid (show h ++ [b] <+: tot from ⟨visT ls b ++ rest, by rw [← htot]; simp [visL]⟩)
  have htotH := hid htot
  have ihH := hid ih
  have hkH := hid hkeep
  have hinH := hid hin
  have hIH := hid hI
  have huH := hid hu
  have hvH := hid hv
  obtain ⟨ao, n, cap, rfl⟩ : ∃ ao n cap, u = .slice ao n cap := by rcases hu with ⟨rfl, _⟩ | ⟨g, off, cap, rfl, _⟩ <;> exact ⟨_, _, _, rfl⟩
  obtain ⟨bo, m, bcap, rfl⟩ : ∃ bo m bcap, v = .slice bo m bcap := by rcases hv with ⟨rfl, _⟩ | ⟨g, off, cap, rfl, _⟩ <;> exact ⟨_, _, _, rfl⟩
  have hn : ls.length = n := by rcases hu with ⟨e, e2⟩ | ⟨g, off, cap', e, _⟩ <;> cases e <;> first | rfl | (rw [e2]; rfl)
  have hm : b.length = m := by rcases hv with ⟨e, e2⟩ | ⟨g, off, cap', e, _⟩ <;> cases e <;> first | rfl | (rw [e2]; rfl)
  have hnc : n ≤ cap := by rcases hu with ⟨e, e2⟩ | ⟨g, off, cap', e, _, _, _, h4⟩ <;> cases e <;> omega
  have hmc : m ≤ bcap := by rcases hv with ⟨e, e2⟩ | ⟨g, off, cap', e, _, _, _, h4⟩ <;> cases e <;> omega
  have hnH := hid hn
  have hmH := hid hm
  have hl2 : n ≤ 1048576 := by omega
  have hl3 : m ≤ 1048576 := by omega
  clear hvis htot ih hkeep hin hI hu hv hn hm
  go_enter Try.func55, Try.ntmps55
  go_wp2_with (fail)
  (go_at_call 58; refine Calls.mono (h1.out _ _ hpre.out hIH.out hvH.out) ?_; rintro e w1 ⟨rfl, hI1, hg1⟩)
  have hI1H := hid hI1
  have hg1H := hid hg1
  clear hI1 hg1
  go_wp2_with (fail)
  go_loopw [13] (fun i wr => ∃ k : Nat, k ≤ n ∧ i = .int .i64 k ∧ ∃ h', h' ++ visT (ls.drop k) b = h ++ visL ls b ∧ Inv h' wr ∧ w.grownBy wr (some c)) (fun i _ => n - (intOf i).toNat)
  case atStart => exact ⟨0, Nat.zero_le _, rfl, h ++ [b], by simp [visL], hI1H.out, hg1H.out⟩
  case round wr =>
    obtain ⟨k, hk, rfl, h', hh, hI, hg⟩ := hrel
    have hhH := hid hh
    have hIH' := hid hI
    have hgH := hid hg
    clear hh hI hg
    by_cases hlt : k < n
    · have hd := hid (drop_lx ls k (by rw [hnH.out]; exact hlt))
      have hur := huH.out.grown hgH.out
      obtain ⟨g, off, rfl, hgc, hgs, hL⟩ : ∃ g off, ao = some ⟨g, off, none⟩ ∧ g ≠ c ∧ g < wr.heap.size ∧ LinesAt wr (some ⟨g, off, none⟩) ls := by
        rcases hur with ⟨e, e2⟩ | ⟨g, off, cap', e, a1, a2, a3, _⟩
        · cases e; omega
        · cases e; exact ⟨_, _, rfl, a1, a2, a3⟩
      obtain ⟨_, _, he, _, q1, q2, q3⟩ := hL k (by rw [hnH.out]; exact hlt)
      cases he
      have hcr := hinH.out _ _ hIH'.out
      have hvr := hvH.out.grown hgH.out
      have hvrH := hid hvr
      have hurH := hid hur
      have hbL := hvr.lines
      have hS := hid (fun w' (hk : (wr.alloc (.cells #[.int .i64 (lx ls k).a, .int .i64 (lx ls k).b, .int .i64 (lx ls k).c] 50)).grownBy w' (some c)) => lnCells_grown (lnCells_new (t := 50) (lx ls k) (rfl : wr.heap.size = wr.heap.size)) hk (by simp) (by intro e; cases e; omega))
      have hcon0 := fun w' (hk : Kept (wr.alloc (.cells #[.int .i64 (lx ls k).a, .int .i64 (lx ls k).b, .int .i64 (lx ls k).c] 50)) w') => containsPick_any wr.heap.size (lx ls k) bo bcap b w' (by have := hk.below.size; simp at this; omega) (hS.out _ (kept_grown hk)) (hbL.kept (Kept.trans (by (try simp only [ext_ext]); repeat (first | exact Kept.refl _ | apply Kept.alloc | apply Kept.drew | apply kept_add | apply Kept.ext)) hk)) (by rw [hmH.out]; exact hl3)
      rw [hmH.out] at hcon0
      have hkn : (0 : Int) ≤ (k : Int) := Int.natCast_nonneg _
      have hkn2 : (k : Int) < (n : Int) := by omega
      have hkn3 : (k : Int) + 1 ≤ (n : Int) := by omega
      have hkn4 : (0 : Int) ≤ (k : Int) + 1 := by omega
      have hkn5 : (n : Int) ≤ (cap : Int) := by omega
      have hkn6 : (m : Int) ≤ (bcap : Int) := by omega
      have hkn7 : (0 : Int) ≤ (m : Int) := by omega
      have hkn8 : k + 1 ≤ n := by omega
      have hkn9 : (k : Int) + 1 ≤ (cap : Int) := by omega
      have hwr1 : IntKind.i64.wrap ((k : Int) + 1) = (k : Int) + 1 := Go.IntWalk.i64_in _ ⟨by omega, by omega⟩
      have hnat : ((k : Int) + 1).toNat = k + 1 := by omega
      clear hur hL hvr hbL
      cases hhit : hitL b (lx ls k)
      · rw [hhit] at hcon0
        have hcon := hid hcon0
        clear hcon0
        have hvt := hid (visT_free (ls := ls.drop (k + 1)) hhit)
        have hT := hid (show h' ++ visL (ls.drop (k + 1)) (b ++ [lx ls k]) ++ (visT (ls.drop (k + 1)) b ++ rest) = tot by
          rw [← htotH.out, ← hhH.out, hd.out, hvt.out]; simp [List.append_assoc])
        have hN2 := hid (show (ls.drop (k + 1)).length < N by rw [List.length_drop]; have := hnH.out; omega)
        have hl4 := hid (show (b ++ [lx ls k]).length + (ls.drop (k + 1)).length ≤ 1048576 by rw [List.length_append, List.length_drop, List.length_singleton]; have := hnH.out; omega)
        go_wp2_with (first | (go_at_call 49; refine Calls.mono (hcon.out _ (by (try simp only [ext_ext]); repeat (first | exact Kept.refl _ | apply Kept.alloc | apply Kept.drew | apply kept_add | apply Kept.ext)) ) ?_; rintro e w' ⟨rfl, y, rfl⟩))
        go_region_held3 (fun w' => w'.cell? ⟨wr.heap.size, 0, none⟩ = some (.int .i64 (lx ls k).a) ∧ w'.cell? ⟨wr.heap.size, 1, none⟩ = some (.int .i64 (lx ls k).b) ∧ w'.cell? ⟨wr.heap.size, 2, none⟩ = some (.int .i64 (lx ls k).c))
          (first | exact hS.out _ (World.grownBy.trans (kept_grown (Kept.trans (by (try simp only [ext_ext]); repeat (first | exact Kept.refl _ | apply Kept.alloc | apply Kept.drew | apply kept_add | apply Kept.ext)) hk2)) hg2) | exact hS.out _ (kept_grown (Kept.trans (by (try simp only [ext_ext]); repeat (first | exact Kept.refl _ | apply Kept.alloc | apply Kept.drew | apply kept_add | apply Kept.ext)) hk2)) | exact hS.out _ (kept_grown (by (try simp only [ext_ext]); repeat (first | exact Kept.refl _ | apply Kept.alloc | apply Kept.drew | apply kept_add | apply Kept.ext))))
          (first | (refine step_append_lnF rfl _ _ rfl b m hmH.out c bcap bo (hvrH.out.kept (by (try simp only [ext_ext]); repeat (first | exact Kept.refl _ | apply Kept.alloc | apply Kept.drew | apply kept_add | apply Kept.ext))) rfl _ _ (lx ls k) rfl (lnCells_new (lx ls k) (by simp)) (by rw [hmH.out]; exact hl3) ?_; intro v' w' hown' hk2) | (go_at_call 55; refine Calls.mono (ihH.out (ls.drop (k + 1)) (b ++ [lx ls k]) h' (visT (ls.drop (k + 1)) b ++ rest) _ _ _ hN2.out hl4.out hT.out (hkH.out _ _ _ hIH'.out (Kept.trans (by (try simp only [ext_ext]); repeat (first | exact Kept.refl _ | apply Kept.alloc | apply Kept.drew | apply kept_add | apply Kept.ext)) hk2)) ((hurH.out.drop hkn8).kept (Kept.trans (by (try simp only [ext_ext]); repeat (first | exact Kept.refl _ | apply Kept.alloc | apply Kept.drew | apply kept_add | apply Kept.ext)) hk2)) (hown'.pick (by simp; omega))) ?_; rintro e w2 ⟨rfl, hI2, hg2⟩; dsimp only))
        generalize (if cap = k + 1 then some (⟨g, off, none⟩ : Addr) else some ⟨g, off + (k + 1) * 3, none⟩) = ax
        go_wp2_with (fail)
        go_roundw
        case rel => exact ⟨k + 1, hlt, by go_num, _, by rw [← hhH.out, hd.out, hvt.out, List.append_assoc], hI2, hgH.out.trans (World.grownBy.trans (kept_grown (Kept.trans (by (try simp only [ext_ext]); repeat (first | exact Kept.refl _ | apply Kept.alloc | apply Kept.drew | apply kept_add | apply Kept.ext)) hk2)) hg2)⟩
        case measure => simp [intOf]; omega
      · rw [hhit] at hcon0
        have hcon := hid hcon0
        clear hcon0
        have hvt := hid (visT_hit (ls := ls.drop (k + 1)) hhit)
        go_wp2_with (first | (go_at_call 49; refine Calls.mono (hcon.out _ (by (try simp only [ext_ext]); repeat (first | exact Kept.refl _ | apply Kept.alloc | apply Kept.drew | apply kept_add | apply Kept.ext)) ) ?_; rintro e w' ⟨rfl, y, rfl⟩))
        go_roundw
        case rel => exact ⟨k + 1, hlt, by go_num, h', by rw [← hhH.out, hd.out, hvt.out], hkH.out _ _ _ hIH'.out (by (try simp only [ext_ext]); repeat (first | exact Kept.refl _ | apply Kept.alloc | apply Kept.drew | apply kept_add | apply Kept.ext)), hgH.out.trans (kept_grown (by (try simp only [ext_ext]); repeat (first | exact Kept.refl _ | apply Kept.alloc | apply Kept.drew | apply kept_add | apply Kept.ext)))⟩
        case measure => simp [intOf]; omega
    · obtain rfl : k = n := by omega
      have he : Hid (h' = h ++ visL ls b) := hid (by
        rw [← hhH.out, ← hnH.out]; simp [visT])
      go_wp2
      go_end0
      exact ⟨rfl, he.out ▸ hIH'.out, hgH.out⟩

theorem pickings_FP (c : Nat) (q0 : Value) (tot : List (List Ln)) (Inv : List (List Ln) → World → Prop) (hkeep : ∀ h w w', Inv h w → Kept w w' → Inv h w') (hin : ∀ h w, Inv h w → c < w.heap.size)
    (hvis : ∀ h p w u, h ++ [p] <+: tot → Inv h w → PickAt c w u p → Calls Try.prog 58 #[u, q0] w fun e w' => e = .returned (.tuple #[]) ∧ Inv (h ++ [p]) w' ∧ w.grownBy w' (some c)) :
    ∀ (N : Nat) (ls b : List Ln) (h rest : List (List Ln)) (w : World) (u v : Value), ls.length ≤ N → b.length + ls.length ≤ 1048576 → h ++ visL ls b ++ rest = tot → Inv h w → PickAt c w u ls → PickAt c w v b →
      Calls Try.prog 55 #[u, v, .func (.func 58) #[] #[q0]] w fun e w' => e = .returned (.tuple #[]) ∧ Inv (h ++ visL ls b) w' ∧ w.grownBy w' (some c) := by
  intro N
  induction N with
  | zero => exact fun ls b h rest w u v hN hl ht hI hu hv => pickings_FP_step c q0 tot Inv hkeep hin hvis 0 (fun ls _ _ _ _ _ _ h => absurd h (Nat.not_lt_zero _)) ls b h rest w u v (by omega) hl ht hI hu hv
  | succ N ih => exact fun ls b h rest w u v hN hl ht hI hu hv => pickings_FP_step c q0 tot Inv hkeep hin hvis ls.length (fun ls' b' h' rest' w' u' v' hlt => ih ls' b' h' rest' w' u' v' (by omega)) ls b h rest w u v rfl hl ht hI hu hv

theorem cloneL_any (c : Nat) (u : Value) (p : List Ln) (w : World) (hu : PickAt c w u p) (hp : p ≠ []) (hl : p.length ≤ 1048576) :
    Calls Try.prog 59 #[u] w (RetL w p) := by
  rcases hu with ⟨_, e⟩ | ⟨g, off, cap, rfl, _, hg, hL, hcap⟩
  · exact absurd e hp
  have hLH := hid hL
  have hpl : 0 < p.length := List.length_pos_iff.2 hp
  have h1c : ∀ u ∈ cells3 p, u.oneCell' = true := fun u hu => by
    simp only [cells3, List.mem_flatMap] at hu
    obtain ⟨z, _, hz⟩ := hu
    simp at hz
    rcases hz with rfl | rfl | rfl <;> rfl
  obtain ⟨i, hi, hz, hsz, hb⟩ := info_parts info_ln
  have qT : ∀ (w : World) (a : Option Addr) (n c : Nat), (binOp .eql 31 (.slice a n c) (.slice none 0 0)).run Try.prog w = .ok (.bool a.isNone) w := fun w a n c => Lib.run_eql_slice_nil w _ _ a n c 0 0 Try.underlying31
  clear hL
  go_enter Try.func59, Try.ntmps59
  go_wp2_with (first | (at_builtin; refine wpList_append_grows _ rfl _ _ 31 rfl T3 i _ 3 24 Try.underlying31 hi hz hsz hb rfl (by decide) (some ⟨w.heap.size, 0, none⟩) 0 0 [] rfl (fun e => by cases e) rfl (fun bb e j u hj => by simp at hj) ⟨g, off, none⟩ p.length cap (cells3 p) rfl (cells3_length _) (fun j u hj => by rw [Addr.add_lit]; exact lines_cells (hLH.out.kept (by (try simp only [ext_ext]); repeat (first | exact Kept.refl _ | apply Kept.alloc | apply Kept.drew | apply kept_add | apply Kept.ext))) hj) h1c (by omega) (by unfold maxLen; omega) (by omega) ?_; intro v' w' hown hg'))
  refine bodyPost_ret (v := v') (by simp [results, Try.results59, go_sem]) rfl ?_
  refine ⟨_, rfl, OwnL.mono (B := w.heap.size + 1) ?_ (by omega), Kept.trans (show Kept w _ from (by (try simp only [ext_ext]); repeat (first | exact Kept.refl _ | apply Kept.alloc | apply Kept.drew | apply kept_add | apply Kept.ext))) ((Kept.refl _).grown hg' fun k hk => by cases hk)⟩
  unfold OwnL
  simpa using hown
def BestI (c B : Nat) (h : List (List Ln)) (w : World) : Prop := B ≤ w.heap.size ∧ ∃ v, w.heap[c]? = some (.cells #[v] 31) ∧ OwnL B w v (h.foldl bestF []) ∧ v.ownBlock ≠ some c
theorem BestI.lt {c B : Nat} {h : List (List Ln)} {w : World} (H : BestI c B h w) : c < w.heap.size := by
  obtain ⟨_, v, h1, _⟩ := H; exact (Array.getElem?_eq_some_iff.1 h1).1
theorem BestI.kept {c B : Nat} {h : List (List Ln)} {w w' : World} (H : BestI c B h w) (hk : Kept w w') : BestI c B h w' := by
  have hl := H.lt
  obtain ⟨h0, v, h1, h2, h3⟩ := H
  exact ⟨Nat.le_trans h0 hk.below.size, v, (hk.below.block c hl).trans h1, h2.kept hk, h3⟩
theorem fold_next (h : List (List Ln)) (p : List Ln) : (h ++ [p]).foldl bestF [] = bestF (h.foldl bestF []) p := by simp
theorem firstPick1_any (c B : Nat) (h : List (List Ln)) (p : List Ln) (w : World) (u : Value) (hI : BestI c B h w) (hu : PickAt c w u p) (hp : p.length ≤ 1048576) (hm : (h.foldl bestF []).length ≤ 1048576) :
    Calls Try.prog 58 #[u, .pointer (some ⟨c, 0, none⟩)] w fun e w' => e = .returned (.tuple #[]) ∧ BestI c B (h ++ [p]) w' ∧ w.grownBy w' (some c) := by
  have hlt := hI.lt
  obtain ⟨h0, v, h1, h2, h3⟩ := hI
  have huH := hid hu
  obtain ⟨ao, cap, rfl⟩ : ∃ ao cap, u = .slice ao p.length cap := by
    rcases hu with ⟨rfl, h2⟩ | ⟨g, off, cap, rfl, _⟩
    · exact ⟨none, 0, by rw [h2]; rfl⟩
    · exact ⟨_, _, rfl⟩
  obtain ⟨bo, bcap, rfl, _, _⟩ := h2.reads
  have hc := cell_of_row w c 0 _ _ (0, 0) h1
  have hf := frozen_of_row w c 0 _ _ h1
  simp only [List.getElem?_toArray, List.getElem?_cons_zero] at hc
  have hn := hid (fold_next h p)
  by_cases e : (h.foldl bestF []).length < p.length
  · have hv : Hid (bestF (h.foldl bestF []) p = p) := hid (if_pos e)
    have hlt2 : ((h.foldl bestF []).length : Int) < (p.length : Int) := by omega
    have hcl := hid (fun w' (hk : Kept w w') => cloneL_any c (.slice ao p.length cap) p w' (huH.out.kept hk) (by intro e0; rw [e0] at e; simp at e) hp)
    have h1H := hid h1
    have h0H := hid h0
    clear h1 h2 h3 e hu hn
    go_enter Try.func58, Try.ntmps58
    go_wp2_with (fail)
    (go_at_call 59; refine Calls.mono (hcl.out _ (by (try simp only [ext_ext]); repeat (first | exact Kept.refl _ | apply Kept.alloc | apply Kept.drew | apply kept_add | apply Kept.ext))) ?_; rintro e w1 ⟨v1, rfl, ho1, k1⟩)
    obtain ⟨a1, cap1, rfl, _, _⟩ := ho1.reads
    have hb1 := (k1.below.block c hlt).trans h1H.out
    have hf1 := frozen_of_row w1 c 0 _ _ hb1
    have hc1 := cell_of_row w1 c 0 _ _ (0, 0) hb1
    simp only [List.getElem?_toArray, List.getElem?_cons_zero] at hc1
    go_wp2_with (fail)
    go_end0
    have hne : (Value.slice a1 p.length cap1).ownBlock ≠ some c := fun e => by have := (ho1.lt c e).1; omega
    refine ⟨rfl, ⟨by have := k1.below.size; have := h0H.out; simp; omega, _, ?_, ?_, hne⟩, (grown_setCell (kept_grown k1) (p := ⟨c, 0, none⟩) rfl _)⟩
    · rw [heap_setCell_same _ _ _ _ _ _ hb1]; rfl
    · rw [fold_next, hv.out]
      exact (ho1.mono h0H.out).grown (grown_setCell (grown_refl _ (some c)) (p := ⟨c, 0, none⟩) rfl _) (fun g hg e => hne (by rw [hg, e]))
  · have hv : Hid (bestF (h.foldl bestF []) p = h.foldl bestF []) := hid (if_neg e)
    have hlt2 : ¬ ((h.foldl bestF []).length : Int) < (p.length : Int) := by omega
    have h1H := hid h1
    have h2H := hid h2
    have h3H := hid h3
    clear h1 h2 h3 e hu hn
    go_enter Try.func58, Try.ntmps58
    go_wp2_with (fail)
    go_end0
    exact ⟨rfl, ⟨h0, _, h1H.out, by rw [fold_next, hv.out]; exact h2H.out, h3H.out⟩, grown_refl _ _⟩
theorem fold_len : ∀ (h : List (List Ln)) (m : List Ln) (N : Nat), m.length ≤ N → (∀ p, p ∈ h → p.length ≤ N) → (h.foldl bestF m).length ≤ N
  | [], m, N, hm, _ => hm
  | p :: h, m, N, hm, hp => by
    simp only [List.foldl_cons]
    refine fold_len h _ N ?_ fun q hq => hp q (by simp [hq])
    unfold bestF
    split
    · exact hp p (by simp)
    · exact hm
theorem prefix_sub {α : Type} {h t : List α} {p : α} (hp : h ++ [p] <+: t) : ∀ q, q ∈ h → q ∈ t := by
  obtain ⟨s, rfl⟩ := hp; intro q hq; simp [hq]
theorem firstPicking_any (ao : Option Addr) (cap : Nat) (xs : List Card) (w : World) (hx : CardsAt w ao xs) (hh : isHand xs = true) (h15 : xs.length ≤ 15) :
    Calls Try.prog 41 #[.slice ao xs.length cap] w (RetL w (sbF (linesC xs) [] [])) := by
  have hc := areC_hand hh
  have hd := distC_hand hh
  have h35 := lines35 hc hd h15
  have hL := hid (fun w' (hk : Kept w w') => linesIn_any ao cap xs w' (hx.kept hk) (by omega) hc hd)
  clear hx hc hd
  go_enter Try.func41, Try.ntmps41
  go_wp2_with (fail)
  (go_at_call 56; refine Calls.mono (hL.out _ (by (try simp only [ext_ext]); repeat (first | exact Kept.refl _ | apply Kept.alloc | apply Kept.drew | apply kept_add | apply Kept.ext))) ?_; rintro e w1 ⟨v, rfl, ho, k1⟩)
  have K1 : Kept w w1 := Kept.trans (by (try simp only [ext_ext]); repeat (first | exact Kept.refl _ | apply Kept.alloc | apply Kept.drew | apply kept_add | apply Kept.ext)) k1
  have hsz2 : w.heap.size + 2 ≤ w1.heap.size := by have := k1.below.size; simp at this; omega
  have hI : BestI (w.heap.size + 1) w.heap.size [] w1 := by
    refine BestI.kept ⟨by simp; omega, .slice (some ⟨w.heap.size, 0, none⟩) 0 0, ?_, ?_, by simp [Value.ownBlock]⟩ k1
    · exact heap_at (by simp)
    · exact ownL_nil (Nat.le_refl _) (heap_past (by simp) (heap_at rfl))
  go_wp2_with (fail)
  (go_at_call 55; refine Calls.mono (pickings_FP (w.heap.size + 1) _ (visL (linesC xs) []) (BestI (w.heap.size + 1) w.heap.size) (fun h w w' H hk => H.kept hk) (fun h w H => H.lt) (fun h p w u hp H hu => firstPick1_any _ _ h p w u H hu (by have := vis_mem_len (prefix_mem hp); simp at this; omega) (fold_len h [] _ (by simp) fun q hq => by have := vis_mem_len (prefix_sub hp q hq); simp at this; omega)) (linesC xs).length (linesC xs) [] [] [] _ _ _ (Nat.le_refl _) (by simp; omega) (by simp) hI (ho.pick (by simp)) (.inl ⟨rfl, rfl⟩)) ?_; rintro e w2 ⟨rfl, hI2, hg2⟩)
  obtain ⟨_, v2, h3, h4, h5⟩ := hI2
  have hcell := cell_of_row w2 (w.heap.size + 1) 0 _ _ (0, 0) h3
  simp only [List.getElem?_toArray, List.getElem?_cons_zero] at hcell
  rw [List.nil_append, vis_best0] at h4
  go_wp2_with (fail)
  refine bodyPost_ret (v := v2) (by simp [results, Try.results41, go_sem]) rfl ?_
  exact ⟨_, rfl, h4, K1.grown hg2 fun k hk => by cases hk; omega⟩
end Go.Proofs.Ytifkjbihmmdnbaa
