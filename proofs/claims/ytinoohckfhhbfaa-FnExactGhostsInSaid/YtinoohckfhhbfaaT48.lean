/- Contracts: the search for choices that looks for near lines. -/
import Derived.Test.YtinoohckfhhbfaaT47
import Derived.Test.YtinoohckfhhbfaaT14
import Derived.Test.YtinoohckfhhbfaaT3
import Derived.Test.YtinoohckfhhbfaaT19
import Derived.Laws.Cover3
import Derived.Deep.RegionLaw
namespace Go.Proofs.Ytinoohckfhhbfaa
open Go.RowKit
set_option maxHeartbeats 1000000 in
theorem choices_NL_step (c : Nat) (q0 q1 : Value) (tot : List (List Int)) (Inv : List (List Int) → Option Nat → World → Prop) (hkeep : ∀ h r w w', Inv h r w → Kept w w' → Inv h r w') (hin : ∀ h r w, Inv h r w → c < w.heap.size ∧ ∀ g, r = some g → g < w.heap.size)
    (hvis : ∀ h p r w u, h ++ [p] <+: tot → Inv h r w → ListAt c r w u p → Calls Try.prog 58 #[u, q0, q1] w fun e w' => e = .returned (.tuple #[]) ∧ ∃ r', Inv (h ++ [p]) r' w' ∧ Fr c r r' w w')
    (n : Nat) (hn : n ≤ 1000) (m : Nat)
    (ih : ∀ (l : List Int) (h rest : List (List Int)) (r : Option Nat) (w : World) (v : Value) (M : Int), M = (m : Nat) → l.length + m ≤ 1000 → (∀ i, i < l.length → 0 ≤ ix l i ∧ ix l i < n) → h ++ chF n (n - fromL l) m l ++ rest = tot → Inv h r w → ListAt c r w v l → Calls Try.prog 57 #[v, .int .i64 M, .int .i64 (n : Nat), .func (.func 58) #[] #[q0, q1]] w fun e w' => e = .returned (.tuple #[]) ∧ ∃ r', Inv (h ++ chF n (n - fromL l) m l) r' w' ∧ Fr c r r' w w')
    (l : List Int) (h rest : List (List Int)) (r : Option Nat) (w : World) (v : Value) (M : Int) (hM : M = (m + 1 : Nat)) (hl : l.length + (m + 1) ≤ 1000) (hb : ∀ i, i < l.length → 0 ≤ ix l i ∧ ix l i < n) (htot : h ++ chF n (n - fromL l) (m + 1) l ++ rest = tot) (hI : Inv h r w) (hv : ListAt c r w v l) : Calls Try.prog 57 #[v, .int .i64 M, .int .i64 (n : Nat), .func (.func 58) #[] #[q0, q1]] w fun e w' => e = .returned (.tuple #[]) ∧ ∃ r', Inv (h ++ chF n (n - fromL l) (m + 1) l) r' w' ∧ Fr c r r' w w' := by
  obtain ⟨ao, cap, rfl, hcap⟩ := hv.form
  have hM1 : 1 ≤ M := by omega
  have hM2 : M ≤ 1000 := by omega
  have hM3H := hid (show M = (m : Int) + 1 by omega)
  have hne : (M == 0) = false := by simp; omega
  have hne2 : ¬ M = 0 := by omega
  have hvH := hid hv
  have hints := hv.ints
  have hbH := hid hb
  have ihH := hid ih
  have hkH := hid hkeep
  have hinH := hid hin
  have hIH := hid hI
  have hcapi : (l.length : Int) ≤ (cap : Int) := by omega
  by_cases hl0 : l.length = 0
  · obtain ⟨F, hF⟩ : ∃ F, F = fromL l := ⟨_, rfl⟩
    have hF0 : F = 0 := by rw [hF]; unfold fromL; rw [if_pos (List.eq_nil_of_length_eq_zero hl0)]
    rw [← hF] at htot
    have hFH := hid hF
    clear hF
    have htotH := hid htot
    have hlnH := hid hl0
    rw [hl0] at hvH hcapi ⊢
    clear hv hb ih hkeep hin hI htot hM hvis hints
    go_enter Try.func57, Try.ntmps57
    go_wp2
    go_loopw [9] (fun i wr => ∃ k : Nat, F ≤ k ∧ i = .int .i64 k ∧ ∃ h' r1, h' ++ chF n (n - k) (m + 1) l = h ++ chF n (n - F) (m + 1) l ∧ Inv h' r1 wr ∧ Fr c r r1 w wr) (fun i _ => n - (intOf i).toNat)
    case atStart => exact ⟨F, Nat.le_refl _, by rw [hF0]; rfl, h, r, rfl, hkH.out _ _ _ _ hIH.out (by (try simp only [ext_ext]); repeat (first | exact Kept.refl _ | apply Kept.alloc | apply Kept.drew | apply kept_add | apply Kept.ext)), Kept.fr (by (try simp only [ext_ext]); repeat (first | exact Kept.refl _ | apply Kept.alloc | apply Kept.drew | apply kept_add | apply Kept.ext))⟩
    case round wr =>
      obtain ⟨k, hFk, rfl, h', r1, hh, hI, hf⟩ := hrel
      have hhH := hid hh
      have hIH' := hid hI
      have hfH := hid hf
      clear hh hI hf
      by_cases hlt : k < n
      · obtain ⟨hc1, hr1⟩ := hinH.out _ _ _ hIH'.out
        have hvr := hid (hvH.out.fr hfH.out)
        have hnx := hid (chF_at hlt m l)
        have hT := hid (show h' ++ chF n (n - fromL (l ++ [(k : Int)])) m (l ++ [(k : Int)]) ++ (chF n (n - (k + 1)) (m + 1) l ++ rest) = tot by
          rw [fromL_app, ← htotH.out, ← hhH.out, hnx.out]; simp [List.append_assoc])
        have hl2 := hid (show (l ++ [(k : Int)]).length + m ≤ 1000 by simp; omega)
        have hb2 := hid (show ∀ i, i < (l ++ [(k : Int)]).length → 0 ≤ ix (l ++ [(k : Int)]) i ∧ ix (l ++ [(k : Int)]) i < n from fun i hi => by
          by_cases h0 : i < l.length
          · have e : ix (l ++ [(k : Int)]) i = ix l i := by rw [ix_get _ _ (by simp; omega), ix_get _ _ h0, List.getElem_append_left h0]
            rw [e]; exact hbH.out i h0
          · have e : i = l.length := by simp at hi; omega
            have e2 : ix (l ++ [(k : Int)]) i = k := by rw [e]; simp [ix]
            rw [e2]; omega)
        have hkn : (k : Int) < (n : Int) := by omega
        have hwr1 : IntKind.i64.wrap ((k : Int) + 1) = (k : Int) + 1 := Go.IntWalk.i64_in _ ⟨by omega, by omega⟩
        have hMn : M - 1 = (m : Int) := by have := hM3H.out; omega
        have hr1H := hid hr1
        clear hr1
        go_wp2_with (first | (at_builtin; refine wpList_append_intF rfl _ _ rfl l 0 hlnH.out c r1 cap ao (hvr.out.kept (by (try simp only [ext_ext]); repeat (first | exact Kept.refl _ | apply Kept.alloc | apply Kept.drew | apply kept_add | apply Kept.ext))) rfl _ _ (k : Int) rfl (cell_of_row _ _ 0 _ _ (0, 0) (heap_at (by simp))) (by rw [hlnH.out]; omega) ?_; intro v' w1 hown1 hk1) | (go_at_call 57; refine Calls.mono (ihH.out (l ++ [(k : Int)]) h' (chF n (n - (k + 1)) (m + 1) l ++ rest) r1 _ _ (m : Int) rfl hl2.out hb2.out hT.out (hkH.out _ _ _ _ hIH'.out (Kept.trans (by (try simp only [ext_ext]); repeat (first | exact Kept.refl _ | apply Kept.alloc | apply Kept.drew | apply kept_add | apply Kept.ext)) hk1)) (hown1.list (by simp; omega) (fun g hg => by have := hr1H.out g hg; simp; omega))) ?_; rintro e w2 ⟨rfl, r2, hI2, hf2⟩))
        go_roundw
        case rel => exact ⟨k + 1, by omega, by go_num, _, r2, by rw [← hhH.out, hnx.out, fromL_app, List.append_assoc], hI2, hfH.out.trans (Fr.trans (Kept.fr (Kept.trans (by (try simp only [ext_ext]); repeat (first | exact Kept.refl _ | apply Kept.alloc | apply Kept.drew | apply kept_add | apply Kept.ext)) hk1)) hf2)⟩
        case measure => simp [intOf]; omega
      · have e0 : n - k = 0 := by omega
        have he := hid (show h' = h ++ chF n (n - F) (m + 1) l by rw [← hhH.out, e0, chF_none, List.append_nil])
        have hkn : ¬ (k : Int) < (n : Int) := by omega
        go_wp2
        go_end0
        exact ⟨rfl, r1, by rw [← hFH.out, ← he.out]; exact hIH'.out, hfH.out⟩
  · obtain ⟨F, hF⟩ : ∃ F, F = fromL l := ⟨_, rfl⟩
    obtain ⟨q, hq⟩ : ∃ q, l.length = q + 1 := ⟨l.length - 1, by omega⟩
    obtain ⟨g, off, rfl, hg, hcell⟩ := hints q (by omega)
    have hbq := hb q (by omega)
    have hF0 : ix l q + 1 = (F : Int) := by rw [hF]; unfold fromL; rw [if_neg (by intro e; rw [e] at hl0; simp at hl0), show l.length - 1 = q by omega]; omega
    have hF1 : F ≤ n := by omega
    rw [← hF] at htot
    have hFH := hid hF
    clear hF
    have htotH := hid htot
    have hlnH := hid hq
    rw [hq] at hvH hcapi ⊢
    generalize ix l q = x at hcell hbq hF0
    clear hv hb ih hkeep hin hI htot hM hvis hints
    obtain ⟨ao, hao⟩ : ∃ ao, ao = some (⟨g, off, none⟩ : Addr) := ⟨_, rfl⟩
    go_enter Try.func57, Try.ntmps57
    go_wp2
    go_loopw [9] (fun i wr => ∃ k : Nat, F ≤ k ∧ i = .int .i64 k ∧ ∃ h' r1, h' ++ chF n (n - k) (m + 1) l = h ++ chF n (n - F) (m + 1) l ∧ Inv h' r1 wr ∧ Fr c r r1 w wr) (fun i _ => n - (intOf i).toNat)
    case atStart => exact ⟨F, Nat.le_refl _, rfl, h, r, rfl, hkH.out _ _ _ _ hIH.out (by (try simp only [ext_ext]); repeat (first | exact Kept.refl _ | apply Kept.alloc | apply Kept.drew | apply kept_add | apply Kept.ext)), Kept.fr (by (try simp only [ext_ext]); repeat (first | exact Kept.refl _ | apply Kept.alloc | apply Kept.drew | apply kept_add | apply Kept.ext))⟩
    case round wr =>
      obtain ⟨k, hFk, rfl, h', r1, hh, hI, hf⟩ := hrel
      have hhH := hid hh
      have hIH' := hid hI
      have hfH := hid hf
      clear hh hI hf
      by_cases hlt : k < n
      · obtain ⟨hc1, hr1⟩ := hinH.out _ _ _ hIH'.out
        have hvr := hid (hvH.out.fr hfH.out)
        have hnx := hid (chF_at hlt m l)
        have hT := hid (show h' ++ chF n (n - fromL (l ++ [(k : Int)])) m (l ++ [(k : Int)]) ++ (chF n (n - (k + 1)) (m + 1) l ++ rest) = tot by
          rw [fromL_app, ← htotH.out, ← hhH.out, hnx.out]; simp [List.append_assoc])
        have hl2 := hid (show (l ++ [(k : Int)]).length + m ≤ 1000 by simp; omega)
        have hb2 := hid (show ∀ i, i < (l ++ [(k : Int)]).length → 0 ≤ ix (l ++ [(k : Int)]) i ∧ ix (l ++ [(k : Int)]) i < n from fun i hi => by
          by_cases h0 : i < l.length
          · have e : ix (l ++ [(k : Int)]) i = ix l i := by rw [ix_get _ _ (by simp; omega), ix_get _ _ h0, List.getElem_append_left h0]
            rw [e]; exact hbH.out i h0
          · have e : i = l.length := by simp at hi; omega
            have e2 : ix (l ++ [(k : Int)]) i = k := by rw [e]; simp [ix]
            rw [e2]; omega)
        have hkn : (k : Int) < (n : Int) := by omega
        have hwr1 : IntKind.i64.wrap ((k : Int) + 1) = (k : Int) + 1 := Go.IntWalk.i64_in _ ⟨by omega, by omega⟩
        have hMn : M - 1 = (m : Int) := by have := hM3H.out; omega
        have hr1H := hid hr1
        clear hr1
        go_wp2_with (first | (at_builtin; refine wpList_append_intF rfl _ _ rfl l (q + 1) hlnH.out c r1 cap _ (hvr.out.kept (by (try simp only [ext_ext]); repeat (first | exact Kept.refl _ | apply Kept.alloc | apply Kept.drew | apply kept_add | apply Kept.ext))) rfl _ _ (k : Int) rfl (cell_of_row _ _ 0 _ _ (0, 0) (heap_at (by simp))) (by rw [hlnH.out]; omega) ?_; intro v' w1 hown1 hk1) | (go_at_call 57; refine Calls.mono (ihH.out (l ++ [(k : Int)]) h' (chF n (n - (k + 1)) (m + 1) l ++ rest) r1 _ _ (m : Int) rfl hl2.out hb2.out hT.out (hkH.out _ _ _ _ hIH'.out (Kept.trans (by (try simp only [ext_ext]); repeat (first | exact Kept.refl _ | apply Kept.alloc | apply Kept.drew | apply kept_add | apply Kept.ext)) hk1)) (hown1.list (by simp; omega) (fun g hg => by have := hr1H.out g hg; simp; omega))) ?_; rintro e w2 ⟨rfl, r2, hI2, hf2⟩))
        go_roundw
        case rel => exact ⟨k + 1, by omega, by go_num, _, r2, by rw [← hhH.out, hnx.out, fromL_app, List.append_assoc], hI2, hfH.out.trans (Fr.trans (Kept.fr (Kept.trans (by (try simp only [ext_ext]); repeat (first | exact Kept.refl _ | apply Kept.alloc | apply Kept.drew | apply kept_add | apply Kept.ext)) hk1)) hf2)⟩
        case measure => simp [intOf]; omega
      · have e0 : n - k = 0 := by omega
        have he := hid (show h' = h ++ chF n (n - F) (m + 1) l by rw [← hhH.out, e0, chF_none, List.append_nil])
        have hkn : ¬ (k : Int) < (n : Int) := by omega
        go_wp2
        go_end0
        exact ⟨rfl, r1, by rw [← hFH.out, ← he.out]; exact hIH'.out, hfH.out⟩
theorem choices_NL (c : Nat) (q0 q1 : Value) (tot : List (List Int)) (Inv : List (List Int) → Option Nat → World → Prop) (hkeep : ∀ h r w w', Inv h r w → Kept w w' → Inv h r w') (hin : ∀ h r w, Inv h r w → c < w.heap.size ∧ ∀ g, r = some g → g < w.heap.size)
    (hvis : ∀ h p r w u, h ++ [p] <+: tot → Inv h r w → ListAt c r w u p → Calls Try.prog 58 #[u, q0, q1] w fun e w' => e = .returned (.tuple #[]) ∧ ∃ r', Inv (h ++ [p]) r' w' ∧ Fr c r r' w w')
    (n : Nat) (hn : n ≤ 1000) : ∀ (m : Nat) (l : List Int) (h rest : List (List Int)) (r : Option Nat) (w : World) (v : Value) (M : Int), M = (m : Nat) → l.length + m ≤ 1000 → (∀ i, i < l.length → 0 ≤ ix l i ∧ ix l i < n) → h ++ chF n (n - fromL l) m l ++ rest = tot → Inv h r w → ListAt c r w v l → Calls Try.prog 57 #[v, .int .i64 M, .int .i64 (n : Nat), .func (.func 58) #[] #[q0, q1]] w fun e w' => e = .returned (.tuple #[]) ∧ ∃ r', Inv (h ++ chF n (n - fromL l) m l) r' w' ∧ Fr c r r' w w' := by
  intro m
  induction m with
  | zero =>
    intro l h rest r w v M hM hl hb htot hI hv
    have hM0 : M = 0 := by omega
    subst hM0
    have h1 := hid (hvis h l)
    have hpre := hid (show h ++ [l] <+: tot from ⟨rest, by rw [← htot, chF_zero]⟩)
    have hIH := hid hI
    have hvH := hid hv
    have hz := hid (chF_zero n (n - fromL l) l)
    clear hvis htot hkeep hin hI hv hM
    go_enter Try.func57, Try.ntmps57
    go_wp2_with (fail)
    (go_at_call 58; refine Calls.mono (h1.out _ _ _ hpre.out hIH.out hvH.out) ?_; rintro e w1 ⟨rfl, r1, hI1, hf1⟩)
    go_wp2_with (fail)
    first
      | go_end0
      | refine bodyPost_ret (results_none rfl _ _ _) rfl ?_
    exact ⟨rfl, r1, by rw [hz.out]; exact hI1, hf1⟩
  | succ m ih =>
    intro l h rest r w v M hM hl hb htot hI hv
    exact choices_NL_step c q0 q1 tot Inv hkeep hin hvis n hn m ih l h rest r w v M hM hl hb htot hI hv
/-- What the choices hold. -/
theorem chF_mem (n : Nat) : ∀ (d m : Nat) (l p : List Int), d ≤ n → p ∈ chF n d m l → p.length = l.length + m ∧ ∀ i, i < p.length → (i < l.length ∧ ix p i = ix l i) ∨ ∃ k : Nat, k < n ∧ ix p i = k
  | d, 0, l, p, _, h => by
    rw [chF_zero, List.mem_singleton] at h
    subst h
    exact ⟨rfl, fun i hi => .inl ⟨hi, rfl⟩⟩
  | 0, m + 1, l, p, _, h => by rw [chF_none] at h; cases h
  | d + 1, m + 1, l, p, hd, h => by
    rw [chF_next] at h
    rcases List.mem_append.1 h with h | h
    · obtain ⟨h1, h2⟩ := chF_mem n d m _ p (by omega) h
      refine ⟨by rw [h1]; simp; omega, fun i hi => ?_⟩
      rcases h2 i hi with ⟨h3, h4⟩ | h3
      · by_cases h0 : i < l.length
        · refine .inl ⟨h0, ?_⟩
          rw [h4, ix_get _ _ h3, ix_get _ _ h0, List.getElem_append_left h0]
        · refine .inr ⟨n - (d + 1), by omega, ?_⟩
          have e : i = l.length := by simp at h3; omega
          subst e
          rw [h4]; simp [ix]
      · exact .inr h3
    · obtain ⟨h1, h2⟩ := chF_mem n d (m + 1) l p (by omega) h
      exact ⟨h1, h2⟩
theorem chF_three {n : Nat} {p : List Int} (h : p ∈ chF n n 3 []) : ∃ i j k : Nat, p = [(i : Int), (j : Int), (k : Int)] ∧ i < n ∧ j < n ∧ k < n := by
  obtain ⟨h1, h2⟩ := chF_mem n n 3 [] p (Nat.le_refl _) h
  simp at h1
  match p, h1 with
  | [a, b, c], _ =>
    have g := fun i hi => (h2 i hi).resolve_left (fun h => absurd h.1 (by simp))
    obtain ⟨i, hi, e1⟩ := g 0 (by simp)
    obtain ⟨j, hj, e2⟩ := g 1 (by simp)
    obtain ⟨k, hk, e3⟩ := g 2 (by simp)
    simp [ix] at e1 e2 e3
    exact ⟨i, j, k, by rw [e1, e2, e3], hi, hj, hk⟩
def nearP (xs : List Card) (p : List Int) : Bool := decide (differC (thirdC (cx xs (ix p 0).toNat) (cx xs (ix p 1).toNat)) (cx xs (ix p 2).toNat) = 1)
def lnP (p : List Int) : Ln := ⟨ix p 0, ix p 1, ix p 2⟩
def nearO (xs : List Card) (h : List (List Int)) : List Ln := (h.filter (nearP xs)).map lnP
theorem nearO_yes {xs : List Card} {p : List Int} (h : List (List Int)) (e : nearP xs p = true) : nearO xs (h ++ [p]) = nearO xs h ++ [lnP p] := by simp [nearO, e]
theorem nearO_no {xs : List Card} {p : List Int} (h : List (List Int)) (e : nearP xs p = false) : nearO xs (h ++ [p]) = nearO xs h := by simp [nearO, e]
theorem nearO_len (xs : List Card) (h : List (List Int)) : (nearO xs h).length ≤ h.length := by simp [nearO]; exact List.length_filter_le _ _
def NearI (xs : List Card) (W : World) (c : Nat) (h : List (List Int)) (r : Option Nat) (w : World) : Prop :=
  Kept W w ∧ W.heap.size ≤ c ∧ ∃ v, w.heap[c]? = some (.cells #[v] 46) ∧ OwnL W.heap.size w v (nearO xs h) ∧ v.ownBlock = r ∧ r ≠ some c
theorem NearI.kept {xs : List Card} {W : World} {c : Nat} {h : List (List Int)} {r : Option Nat} {w w' : World} (H : NearI xs W c h r w) (hk : Kept w w') : NearI xs W c h r w' := by
  obtain ⟨h0, h1, v, h2, h3, h4, h5⟩ := H
  exact ⟨h0.trans hk, h1, v, (hk.below.block c (Array.getElem?_eq_some_iff.1 h2).1).trans h2, h3.kept hk, h4, h5⟩
theorem NearI.lt {xs : List Card} {W : World} {c : Nat} {h : List (List Int)} {r : Option Nat} {w : World} (H : NearI xs W c h r w) : c < w.heap.size ∧ ∀ g, r = some g → g < w.heap.size := by
  obtain ⟨h0, h1, v, h2, h3, h4, h5⟩ := H
  exact ⟨(Array.getElem?_eq_some_iff.1 h2).1, fun g hg => (h3.lt g (h4.trans hg)).2⟩
theorem fr_store {c : Nat} {r : Option Nat} {w X w1 : World} {g1 : Nat} (u : Value) (hX : Kept w X) (hg : X.grownBy w1 r) (hat : r = some g1 ∨ g1 = X.heap.size) : Fr c r (some g1) w (w1.setCell ⟨c, 0, none⟩ u) := by
  have hb := hX.below
  have hs : (w1.setCell ⟨c, 0, none⟩ u).heap.size = w1.heap.size := by simp
  refine ⟨hg.os.trans hb.os, hg.tape.trans hb.tape, hg.output.trans hb.output, by rw [hs]; exact Nat.le_trans hb.size hg.size, fun k hk h1 h2 => ?_, ?_⟩
  · rw [heap_setCell_other _ _ _ _ h1, hg.block k (Nat.lt_of_lt_of_le hk hb.size) (Ne.symm h2), hb.block k hk]
  · rcases hat with e | e
    · exact .inl e.symm
    · exact .inr ⟨g1, rfl, by rw [e]; exact hb.size⟩
theorem step_append_lnAt {ops : Array Oper} {o : Oper} {a : Act} {K : Act → World → Prop} {Q : Exit → Act → World → Prop} {E : Prop} {w : World} (hgd : o.guard = none) (s x : Operand)
    (ho : o.op = .call { callee := .builtin .append, args := #[s, x], argTypes := #[46, 46] }) (B : Nat) (v : Value) (ls : List Ln) (hs : a.eval s = v) (hown : OwnL B w v ls) (hBw : B ≤ w.heap.size)
    (g cap : Nat) (c : Ln) (hx : a.eval x = .slice (some ⟨g, 0, none⟩) 1 cap) (hc : LnCells w g 0 c) (hl : ls.length ≤ 1048576)
    (h : ∀ g' cap' w', OwnL B w' (.slice (some ⟨g', 0, none⟩) (ls.length + 1) cap') (ls ++ [c]) → w.grownBy w' v.ownBlock → (v.ownBlock = some g' ∨ g' = w.heap.size) → K (a.put o.dst (.slice (some ⟨g', 0, none⟩) (ls.length + 1) cap')) w') : if Region.wanted o (yielded ops a.tmps) = true then Oper.wp Try.prog o a w K Q else E := by
  obtain ⟨i, hi, hz, hsz, hb⟩ := info_parts info_ln
  obtain ⟨h0, h1, h2⟩ := hc
  refine step_append_lies w hgd s x 46 ho B T3 i _ 3 24 Try.underlying46 hi hz hsz hb rfl (by decide) v ls.length (cells3 ls) hs hown ⟨g, 0, none⟩ 1 cap
    [.int .i64 c.a, .int .i64 c.b, .int .i64 c.c] hx rfl ?_ ?_ (by omega) (by unfold maxLen; omega) (by omega) hBw w.heap.size rfl ?_
  · intro j u hj
    match j, hj with
    | 0, hj => simp at hj; subst hj; exact h0
    | 1, hj => simp at hj; subst hj; exact h1
    | 2, hj => simp at hj; subst hj; exact h2
    | j + 3, hj => simp at hj
  · intro u hu
    simp at hu
    rcases hu with rfl | rfl | rfl <;> rfl
  · intro g' cap' w' hown' hg hat _
    refine h _ _ w' ?_ hg hat
    have e : cells3 (ls ++ [c]) = cells3 ls ++ [.int .i64 c.a, .int .i64 c.b, .int .i64 c.c] := by simp [cells3]
    unfold OwnL
    rw [e, List.length_append]
    exact hown'
theorem near1_any (xs : List Card) (W : World) (c Bh : Nat) (ao : Option Addr) (cap : Nat) (hB : Bh < W.heap.size) (hbox : W.cell? ⟨Bh, 0, none⟩ = some (.slice ao xs.length cap)) (hx : CardsAt W ao xs) (hxl : xs.length ≤ 27) (hc : areC xs)
    (h : List (List Int)) (p : List Int) (r : Option Nat) (w : World) (u : Value) (hp : p ∈ chF xs.length xs.length 3 []) (hhl : h.length ≤ 1000000) (hI : NearI xs W c h r w) (hu : ListAt c r w u p) :
    Calls Try.prog 58 #[u, .pointer (some ⟨Bh, 0, none⟩), .pointer (some ⟨c, 0, none⟩)] w fun e w' => e = .returned (.tuple #[]) ∧ ∃ r', NearI xs W c (h ++ [p]) r' w' ∧ Fr c r r' w w' := by
  obtain ⟨i, j, k, rfl, hi, hj, hk⟩ := chF_three hp
  have hlt := hI.lt.1
  have hIH := hid hI
  obtain ⟨h0, h1, v, h2, h3, h4, h5⟩ := hI
  have hcell := cell_of_row w c 0 _ _ (0, 0) h2
  have hfr := frozen_of_row w c 0 _ _ h2
  simp only [List.getElem?_toArray, List.getElem?_cons_zero] at hcell
  obtain ⟨bo, bcap, rfl, _, _⟩ := h3.reads
  have hbx := (h0.below.cell (p := ⟨Bh, 0, none⟩) hB).trans hbox
  have hBw : Bh < w.heap.size := Nat.lt_of_lt_of_le hB h0.below.size
  have hxw := hx.kept h0
  obtain ⟨g, off, rfl, hg, p1, p2, p3, p4⟩ := hxw i hi
  obtain ⟨_, _, he, _, q1, q2, q3, q4⟩ := hxw j hj
  cases he
  obtain ⟨_, _, he, _, r1, r2, r3, r4⟩ := hxw k hk
  cases he
  obtain ⟨lg, lo, lcap, rfl, l1, l2, l3, l4, l5⟩ : ∃ g off cap, u = .slice (some ⟨g, off, none⟩) 3 cap ∧ g ≠ c ∧ r ≠ some g ∧ g < w.heap.size ∧ IntsAt w (some ⟨g, off, none⟩) [(i : Int), (j : Int), (k : Int)] ∧ 3 ≤ cap := by
    rcases hu with ⟨_, e⟩ | ⟨g, off, cap, e, h⟩
    · cases e
    · exact ⟨g, off, cap, e, h⟩
  obtain ⟨_, _, he, _, m1⟩ := l4 0 (by simp)
  cases he
  obtain ⟨_, _, he, _, m2⟩ := l4 1 (by simp)
  cases he
  obtain ⟨_, _, he, _, m3⟩ := l4 2 (by simp)
  cases he
  simp [ix] at m1 m2 m3
  have hi1 : (i : Int) < (xs.length : Int) := by omega
  have hj1 : (j : Int) < (xs.length : Int) := by omega
  have hk1 : (k : Int) < (xs.length : Int) := by omega
  have hci := hc i hi
  have hcj := hc j hj
  have hck := hc k hk
  have hct := isCard_third hci hcj
  have hnl := nearO_len xs h
  have hnp : Hid (nearP xs [(i : Int), (j : Int), (k : Int)] = decide (differC (thirdC (cx xs i) (cx xs j)) (cx xs k) = 1)) := hid (by simp [nearP, ix])
  have hlp : Hid (lnP [(i : Int), (j : Int), (k : Int)] = ⟨i, j, k⟩) := hid (by simp [lnP, ix])
  have h0H := hid h0
  have h2H := hid h2
  have h3H := hid h3
  have h5H := hid h5
  have h4H := hid h4
  have hint := hid l4
  clear h0 h2 h3 h5 h4 hu hx hxw hc l4
  have hAA : ∀ w : World, (Instr.arrayAt 72 (.slice (some ⟨lg, lo, none⟩) 3 lcap)).run Try.prog w = .ok (.pointer (some ⟨lg, lo, none⟩)) w := fun w => run_arrayAt w _ _ 3 _ 3 lcap Try.underlying72 (Nat.le_refl _)
  have hneH := hid (show some c ≠ (Value.slice bo (nearO xs h).length bcap).ownBlock by rw [h4H.out]; exact fun e => h5H.out e.symm)
  by_cases hd : differC (thirdC (cx xs i) (cx xs j)) (cx xs k) = 1
  · have hy := hid (nearO_yes h (show nearP xs [(i : Int), (j : Int), (k : Int)] = true by rw [hnp.out]; exact decide_eq_true hd))
    have hdb : (differC (thirdC (cx xs i) (cx xs j)) (cx xs k) == 1) = true := by simp [hd]
    go_enter Try.func58, Try.ntmps58
    go_wp2_with (first | (refine wp_region_ext (by kernel_rfl) (by kernel_rfl) ?_; (repeat (go_big_quiet_step (first | (go_at_call 60; first | exact ext_call (third_any _ _ hci hcj _) | exact ext_call2 (third_any _ _ hci hcj _)) | (go_at_call 59; first | exact ext_call (differ_any (thirdC (cx xs i) (cx xs j)) (cx xs k) _) | exact ext_call2 (differ_any (thirdC (cx xs i) (cx xs j)) (cx xs k) _))))); refine wpQuiet_end fun z => ?_))
    go_region_law (first | (refine step_append_lnAt rfl _ _ rfl W.heap.size (.slice bo (nearO xs h).length bcap) (nearO xs h) rfl (h3H.out.kept (by (try simp only [ext_ext]); repeat (first | exact Kept.refl _ | apply Kept.alloc | apply Kept.drew | apply kept_add | apply Kept.ext))) (Kept.below (show Kept W _ from h0H.out.trans (by (try simp only [ext_ext]); repeat (first | exact Kept.refl _ | apply Kept.alloc | apply Kept.drew | apply kept_add | apply Kept.ext)))).size _ _ ⟨i, j, k⟩ rfl (lnCells_new (⟨i, j, k⟩ : Ln) (by simp)) (by omega) ?_; intro g1 cap1 w1 hown1 hg1 hat1; have hb1 := (hg1.block c (by simp; omega) hneH.out).trans (((Kept.below (show Kept w _ from (by (try simp only [ext_ext]); repeat (first | exact Kept.refl _ | apply Kept.alloc | apply Kept.drew | apply kept_add | apply Kept.ext)))).block c hlt).trans h2H.out); have hf1 := frozen_of_row w1 c 0 _ _ hb1; have hc1 := cell_of_row w1 c 0 _ _ (0, 0) hb1; simp only [List.getElem?_toArray, List.getElem?_cons_zero] at hc1))
    all_goals
      go_wp2_with (fail)
      have hgc : g1 ≠ c := by
        rcases hat1 with e | e
        · intro e2; rw [e2] at e; exact hneH.out e.symm
        · intro e2; rw [e2] at e; simp at e; omega
      go_end0
      refine ⟨rfl, some g1, ⟨Kept.setCell ((h0H.out.trans (by (try simp only [ext_ext]); repeat (first | exact Kept.refl _ | apply Kept.alloc | apply Kept.drew | apply kept_add | apply Kept.ext))).grown hg1 fun k hk => (h3H.out.lt k hk).1) h1 _, h1, .slice (some ⟨g1, 0, none⟩) ((nearO xs h).length + 1) cap1, ?_, ?_, rfl, fun e => hgc (Option.some.inj e)⟩, ?_⟩
      · exact heap_setCell_same _ _ _ _ _ _ hb1
      · rw [hy.out, hlp.out]
        exact OwnL.grown hown1 (grown_setCell (grown_refl _ (some c)) (p := ⟨c, 0, none⟩) rfl _) (fun g hg e => by cases hg; exact hgc (Option.some.inj e).symm)
      · rw [h4H.out] at hg1 hat1
        exact fr_store _ (by (try simp only [ext_ext]); repeat (first | exact Kept.refl _ | apply Kept.alloc | apply Kept.drew | apply kept_add | apply Kept.ext)) hg1 hat1
  · have hy := hid (nearO_no h (show nearP xs [(i : Int), (j : Int), (k : Int)] = false by rw [hnp.out]; exact decide_eq_false hd))
    have hdb : (differC (thirdC (cx xs i) (cx xs j)) (cx xs k) == 1) = false := by simp [hd]
    go_enter Try.func58, Try.ntmps58
    go_wp2_with (first | (refine wp_region_ext (by kernel_rfl) (by kernel_rfl) ?_; (repeat (go_big_quiet_step (first | (go_at_call 60; first | exact ext_call (third_any _ _ hci hcj _) | exact ext_call2 (third_any _ _ hci hcj _)) | (go_at_call 59; first | exact ext_call (differ_any (thirdC (cx xs i) (cx xs j)) (cx xs k) _) | exact ext_call2 (differ_any (thirdC (cx xs i) (cx xs j)) (cx xs k) _))))); refine wpQuiet_end fun z => ?_))
    go_end0
    exact ⟨rfl, r, ⟨h0H.out.trans (by (try simp only [ext_ext]); repeat (first | exact Kept.refl _ | apply Kept.alloc | apply Kept.drew | apply kept_add | apply Kept.ext)), h1, _, (Kept.below (show Kept w _ from (by (try simp only [ext_ext]); repeat (first | exact Kept.refl _ | apply Kept.alloc | apply Kept.drew | apply kept_add | apply Kept.ext)))).block c hlt |>.trans h2H.out, by rw [hy.out]; exact h3H.out.kept (by (try simp only [ext_ext]); repeat (first | exact Kept.refl _ | apply Kept.alloc | apply Kept.drew | apply kept_add | apply Kept.ext)), h4H.out, h5H.out⟩, Kept.fr (by (try simp only [ext_ext]); repeat (first | exact Kept.refl _ | apply Kept.alloc | apply Kept.drew | apply kept_add | apply Kept.ext))⟩
end Go.Proofs.Ytinoohckfhhbfaa
