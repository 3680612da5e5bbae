/- Contracts: the search for orders, with the two closures that visit them. -/
import Derived.Test.YtjlaoocomkonhaaQ05
namespace Go.Proofs.Ytjlaoocomkonhaa
open Go.RowKit
def hasI (l : List Int) (k : Nat) : Bool := l.any fun x => decide (x = (k : Int))
/-- What the search visits for the last d next numbers. -/
def ordR (n : Nat) (F : List Int → List (List Int)) (l : List Int) : Nat → List (List Int)
  | 0 => []
  | d + 1 => (if hasI l (n - (d + 1)) = true then [] else F (l ++ [((n - (d + 1) : Nat) : Int)])) ++ ordR n F l d
/-- What the search visits behind a row with m more to come. -/
def ordF (n : Nat) : Nat → List Int → List (List Int)
  | 0, l => [l]
  | m + 1, l => ordR n (ordF n m) l n
theorem ordF_next (n m : Nat) (l : List Int) : ordF n (m + 1) l = ordR n (ordF n m) l n := rfl
theorem ordR_at {n k : Nat} (hk : k < n) (F : List Int → List (List Int)) (l : List Int) : ordR n F l (n - k) = (if hasI l k = true then [] else F (l ++ [(k : Int)])) ++ ordR n F l (n - (k + 1)) := by
  rw [show n - k = (n - (k + 1)) + 1 by omega, ordR, show n - (n - (k + 1) + 1) = k by omega]
/-- An operation whose guard says yes is carried out as one without a guard. -/
theorem wpList_unguard {P : Program} {ops : Array Oper} {Q : Exit → Act → World → Prop} {a : Act} {w : World} {rest : List Oper} {o : Oper} (hw : Region.wanted o (yielded ops a.tmps) = true) (h : wpList P ops Q ({ o with guard := none } :: rest) a w) : wpList P ops Q (o :: rest) a w := by
  unfold wpList at h ⊢
  rw [if_pos hw]
  rw [if_pos (by rfl)] at h
  exact h
set_option maxHeartbeats 1000000 in
theorem orders_M1_step (c : Nat) (q0 : Value) (tot : List (List Int)) (Inv : List (List Int) → Option Nat → World → Prop) (hkeep : ∀ h r w w', Inv h r w → Kept w w' → Inv h r w') (hin : ∀ h r w, Inv h r w → c < w.heap.size ∧ ∀ g, r = some g → g < w.heap.size)
    (hvis : ∀ h p r w u, h ++ [p] <+: tot → Inv h r w → ListAt c r w u p → Calls Try.prog 55 #[u, q0] w fun e w' => e = .returned (.bool true) ∧ ∃ r', Inv (h ++ [p]) r' w' ∧ Fr c r r' w w')
    (n : Nat) (hn : n ≤ 1000) (N : Int) (hN : N = (n : Nat)) (m : Nat)
    (ih : ∀ (l : List Int) (h rest : List (List Int)) (r : Option Nat) (w : World) (v : Value), l.length + m = n → h ++ ordF n m l ++ rest = tot → Inv h r w → ListAt c r w v l → Calls Try.prog 54 #[v, .int .i64 N, .func (.func 55) #[] #[q0]] w fun e w' => e = .returned (.bool true) ∧ ∃ r', Inv (h ++ ordF n m l) r' w' ∧ Fr c r r' w w')
    (l : List Int) (h rest : List (List Int)) (r : Option Nat) (w : World) (v : Value) (hl : l.length + (m + 1) = n) (htot : h ++ ordF n (m + 1) l ++ rest = tot) (hI : Inv h r w) (hv : ListAt c r w v l) : Calls Try.prog 54 #[v, .int .i64 N, .func (.func 55) #[] #[q0]] w fun e w' => e = .returned (.bool true) ∧ ∃ r', Inv (h ++ ordF n (m + 1) l) r' w' ∧ Fr c r r' w w' := by
  obtain ⟨ao, cap, rfl, hcap⟩ := hv.form
  have hNH := hid hN
  have hvH := hid hv
  have hints := hv.ints
  have ihH := hid ih
  have hkH := hid hkeep
  have hinH := hid hin
  have hIH := hid hI
  have htotH := hid htot
  have hcapi : (l.length : Int) ≤ (cap : Int) := by omega
  by_cases hl0 : l.length = 0
  · have hlnH := hid hl0
    have hne : ((0 : Int) == N) = false := by simp; omega
    have hne2 : ¬ (0 : Int) = N := by omega
    rw [hl0] at hvH hcapi ⊢
    clear hv ih hkeep hin hI htot hN hvis hints
    go_enter Try.func54, Try.ntmps54
    go_wp2
    go_loopw [16] (fun i wr => ∃ k : Nat, k ≤ n ∧ i = .int .i64 k ∧ ∃ h' r1, h' ++ ordR n (ordF n m) l (n - k) = h ++ ordR n (ordF n m) l n ∧ Inv h' r1 wr ∧ Fr c r r1 w wr) (fun i _ => n - (intOf i).toNat)
    case atStart => exact ⟨0, Nat.zero_le _, rfl, h, r, rfl, hkH.out _ _ _ _ hIH.out (by (try simp only [ext_ext]); repeat (first | exact Kept.refl _ | apply Kept.alloc | apply Kept.drew | apply kept_add | apply Kept.ext)), Kept.fr (by (try simp only [ext_ext]); repeat (first | exact Kept.refl _ | apply Kept.alloc | apply Kept.drew | apply kept_add | apply Kept.ext))⟩
    case round wr =>
      obtain ⟨k, hFk, rfl, h', r1, hh, hI, hf⟩ := hrel
      have hhH := hid hh
      have hIH' := hid hI
      have hfH := hid hf
      clear hh hI hf
      by_cases hlt : k < n
      · obtain ⟨hc1, hr1⟩ := hinH.out _ _ _ hIH'.out
        have hvr := hid (hvH.out.fr hfH.out)
        have hnx := hid (ordR_at hlt (ordF n m) l)
        have hcon := hid (fun w' (hk : Kept wr w') => containsIntsN ao cap 0 l (k : Int) w' (hvr.out.ints.kept hk) hlnH.out (by omega))
        have hkn : (k : Int) < N := by have := hNH.out; omega
        have hwr1 : IntKind.i64.wrap ((k : Int) + 1) = (k : Int) + 1 := Go.IntWalk.i64_in _ ⟨by omega, by omega⟩
        have hr1H := hid hr1
        clear hr1
        change Hid (∀ w', Kept wr w' → Calls _ _ _ _ fun e w'' => e = .returned (.bool (hasI l k)) ∧ Kept w' w'') at hcon
        cases hhit : hasI l k with
        | true =>
          rw [hhit] at hcon hnx
          have hnx2 := hid (show ordR n (ordF n m) l (n - k) = ordR n (ordF n m) l (n - (k + 1)) from hnx.out.trans (List.nil_append _))
          go_wp2_with (first | (go_at_call 67; refine Calls.mono (hcon.out _ ((by (try simp only [ext_ext]); repeat (first | exact Kept.refl _ | apply Kept.alloc | apply Kept.drew | apply kept_add | apply Kept.ext)))) ?_; rintro e w' ⟨rfl, y, rfl⟩))
          go_roundw
          case rel => exact ⟨k + 1, by omega, by go_num, h', r1, by rw [← hhH.out, hnx2.out], hkH.out _ _ _ _ hIH'.out (by (try simp only [ext_ext]); repeat (first | exact Kept.refl _ | apply Kept.alloc | apply Kept.drew | apply kept_add | apply Kept.ext)), hfH.out.trans (Kept.fr (by (try simp only [ext_ext]); repeat (first | exact Kept.refl _ | apply Kept.alloc | apply Kept.drew | apply kept_add | apply Kept.ext)))⟩
          case measure => simp [intOf]; omega
        | false =>
          rw [hhit] at hcon hnx
          have hnx2 := hid (show ordR n (ordF n m) l (n - k) = ordF n m (l ++ [(k : Int)]) ++ ordR n (ordF n m) l (n - (k + 1)) from hnx.out)
          have hT := hid (show h' ++ ordF n m (l ++ [(k : Int)]) ++ (ordR n (ordF n m) l (n - (k + 1)) ++ rest) = tot by
            rw [← htotH.out, ordF_next, ← hhH.out, hnx2.out]; simp [List.append_assoc])
          have hl2 := hid (show (l ++ [(k : Int)]).length + m = n by simp; omega)
          go_wp2_with (first | (go_at_call 67; refine Calls.mono (hcon.out _ ((by (try simp only [ext_ext]); repeat (first | exact Kept.refl _ | apply Kept.alloc | apply Kept.drew | apply kept_add | apply Kept.ext)))) ?_; rintro e w' ⟨rfl, y, rfl⟩) | (at_builtin; refine wpList_unguard (by first | rfl | simp [go_sem]) ?_; refine wpList_append_intF rfl _ _ rfl l 0 hlnH.out c r1 cap ao (hvr.out.kept (by (try simp only [ext_ext]); repeat (first | exact Kept.refl _ | apply Kept.alloc | apply Kept.drew | apply kept_add | apply Kept.ext))) rfl _ _ (k : Int) rfl (cell_of_row _ _ 0 _ _ (0, 0) (heap_at (by simp))) (by rw [hlnH.out]; omega) ?_; intro v' w1 hown1 hk1) | (go_at_call 54; refine Calls.mono (ihH.out (l ++ [(k : Int)]) h' (ordR n (ordF n m) l (n - (k + 1)) ++ rest) r1 _ _ hl2.out hT.out (hkH.out _ _ _ _ hIH'.out (Kept.trans (by (try simp only [ext_ext]); repeat (first | exact Kept.refl _ | apply Kept.alloc | apply Kept.drew | apply kept_add | apply Kept.ext)) hk1)) (hown1.list (by simp; omega) (fun g hg => by have := hr1H.out g hg; simp; omega))) ?_; rintro e w2 ⟨rfl, r2, hI2, hf2⟩))
          go_roundw
          case rel => exact ⟨k + 1, by omega, by go_num, _, r2, by rw [← hhH.out, hnx2.out, List.append_assoc], hI2, hfH.out.trans (Fr.trans (Kept.fr (Kept.trans (by (try simp only [ext_ext]); repeat (first | exact Kept.refl _ | apply Kept.alloc | apply Kept.drew | apply kept_add | apply Kept.ext)) hk1)) hf2)⟩
          case measure => simp [intOf]; omega
      · have e0 : n - k = 0 := by omega
        have he := hid (show h' = h ++ ordR n (ordF n m) l n by rw [← hhH.out, e0, ordR, List.append_nil])
        have hkn : ¬ (k : Int) < N := by have := hNH.out; omega
        go_wp2
        go_ret
        exact ⟨rfl, r1, by rw [ordF_next, ← he.out]; exact hkH.out _ _ _ _ hIH'.out (by (try simp only [ext_ext]); repeat (first | exact Kept.refl _ | apply Kept.alloc | apply Kept.drew | apply kept_add | apply Kept.ext)), hfH.out.trans (Kept.fr (by (try simp only [ext_ext]); repeat (first | exact Kept.refl _ | apply Kept.alloc | apply Kept.drew | apply kept_add | apply Kept.ext)))⟩
  · obtain ⟨q, hq⟩ : ∃ q, l.length = q + 1 := ⟨l.length - 1, by omega⟩
    obtain ⟨g, off, rfl, hg, hcell⟩ := hints q (by omega)
    have hlnH := hid hq
    have hne : (((q : Int) + 1) == N) = false := by simp; omega
    have hne2 : ¬ (q : Int) + 1 = N := by omega
    rw [hq] at hvH hcapi ⊢
    clear hv ih hkeep hin hI htot hN hvis hints hcell
    go_enter Try.func54, Try.ntmps54
    go_wp2
    go_loopw [16] (fun i wr => ∃ k : Nat, k ≤ n ∧ i = .int .i64 k ∧ ∃ h' r1, h' ++ ordR n (ordF n m) l (n - k) = h ++ ordR n (ordF n m) l n ∧ Inv h' r1 wr ∧ Fr c r r1 w wr) (fun i _ => n - (intOf i).toNat)
    case atStart => exact ⟨0, Nat.zero_le _, rfl, h, r, rfl, hkH.out _ _ _ _ hIH.out (by (try simp only [ext_ext]); repeat (first | exact Kept.refl _ | apply Kept.alloc | apply Kept.drew | apply kept_add | apply Kept.ext)), Kept.fr (by (try simp only [ext_ext]); repeat (first | exact Kept.refl _ | apply Kept.alloc | apply Kept.drew | apply kept_add | apply Kept.ext))⟩
    case round wr =>
      obtain ⟨k, hFk, rfl, h', r1, hh, hI, hf⟩ := hrel
      have hhH := hid hh
      have hIH' := hid hI
      have hfH := hid hf
      clear hh hI hf
      by_cases hlt : k < n
      · obtain ⟨hc1, hr1⟩ := hinH.out _ _ _ hIH'.out
        have hvr := hid (hvH.out.fr hfH.out)
        have hnx := hid (ordR_at hlt (ordF n m) l)
        have hcon := hid (fun w' (hk : Kept wr w') => containsIntsN (some ⟨g, off, none⟩) cap (q + 1) l (k : Int) w' (hvr.out.ints.kept hk) hlnH.out (by omega))
        have hkn : (k : Int) < N := by have := hNH.out; omega
        have hwr1 : IntKind.i64.wrap ((k : Int) + 1) = (k : Int) + 1 := Go.IntWalk.i64_in _ ⟨by omega, by omega⟩
        have hr1H := hid hr1
        clear hr1
        change Hid (∀ w', Kept wr w' → Calls _ _ _ _ fun e w'' => e = .returned (.bool (hasI l k)) ∧ Kept w' w'') at hcon
        cases hhit : hasI l k with
        | true =>
          rw [hhit] at hcon hnx
          have hnx2 := hid (show ordR n (ordF n m) l (n - k) = ordR n (ordF n m) l (n - (k + 1)) from hnx.out.trans (List.nil_append _))
          go_wp2_with (first | (go_at_call 67; refine Calls.mono (hcon.out _ ((by (try simp only [ext_ext]); repeat (first | exact Kept.refl _ | apply Kept.alloc | apply Kept.drew | apply kept_add | apply Kept.ext)))) ?_; rintro e w' ⟨rfl, y, rfl⟩))
          go_roundw
          case rel => exact ⟨k + 1, by omega, by go_num, h', r1, by rw [← hhH.out, hnx2.out], hkH.out _ _ _ _ hIH'.out (by (try simp only [ext_ext]); repeat (first | exact Kept.refl _ | apply Kept.alloc | apply Kept.drew | apply kept_add | apply Kept.ext)), hfH.out.trans (Kept.fr (by (try simp only [ext_ext]); repeat (first | exact Kept.refl _ | apply Kept.alloc | apply Kept.drew | apply kept_add | apply Kept.ext)))⟩
          case measure => simp [intOf]; omega
        | false =>
          rw [hhit] at hcon hnx
          have hnx2 := hid (show ordR n (ordF n m) l (n - k) = ordF n m (l ++ [(k : Int)]) ++ ordR n (ordF n m) l (n - (k + 1)) from hnx.out)
          have hT := hid (show h' ++ ordF n m (l ++ [(k : Int)]) ++ (ordR n (ordF n m) l (n - (k + 1)) ++ rest) = tot by
            rw [← htotH.out, ordF_next, ← hhH.out, hnx2.out]; simp [List.append_assoc])
          have hl2 := hid (show (l ++ [(k : Int)]).length + m = n by simp; omega)
          go_wp2_with (first | (go_at_call 67; refine Calls.mono (hcon.out _ ((by (try simp only [ext_ext]); repeat (first | exact Kept.refl _ | apply Kept.alloc | apply Kept.drew | apply kept_add | apply Kept.ext)))) ?_; rintro e w' ⟨rfl, y, rfl⟩) | (at_builtin; refine wpList_unguard (by first | rfl | simp [go_sem]) ?_; refine wpList_append_intF rfl _ _ rfl l (q + 1) hlnH.out c r1 cap _ (hvr.out.kept (by (try simp only [ext_ext]); repeat (first | exact Kept.refl _ | apply Kept.alloc | apply Kept.drew | apply kept_add | apply Kept.ext))) rfl _ _ (k : Int) rfl (cell_of_row _ _ 0 _ _ (0, 0) (heap_at (by simp))) (by rw [hlnH.out]; omega) ?_; intro v' w1 hown1 hk1) | (go_at_call 54; refine Calls.mono (ihH.out (l ++ [(k : Int)]) h' (ordR n (ordF n m) l (n - (k + 1)) ++ rest) r1 _ _ hl2.out hT.out (hkH.out _ _ _ _ hIH'.out (Kept.trans (by (try simp only [ext_ext]); repeat (first | exact Kept.refl _ | apply Kept.alloc | apply Kept.drew | apply kept_add | apply Kept.ext)) hk1)) (hown1.list (by simp; omega) (fun g hg => by have := hr1H.out g hg; simp; omega))) ?_; rintro e w2 ⟨rfl, r2, hI2, hf2⟩))
          go_roundw
          case rel => exact ⟨k + 1, by omega, by go_num, _, r2, by rw [← hhH.out, hnx2.out, List.append_assoc], hI2, hfH.out.trans (Fr.trans (Kept.fr (Kept.trans (by (try simp only [ext_ext]); repeat (first | exact Kept.refl _ | apply Kept.alloc | apply Kept.drew | apply kept_add | apply Kept.ext)) hk1)) hf2)⟩
          case measure => simp [intOf]; omega
      · have e0 : n - k = 0 := by omega
        have he := hid (show h' = h ++ ordR n (ordF n m) l n by rw [← hhH.out, e0, ordR, List.append_nil])
        have hkn : ¬ (k : Int) < N := by have := hNH.out; omega
        go_wp2
        go_ret
        exact ⟨rfl, r1, by rw [ordF_next, ← he.out]; exact hkH.out _ _ _ _ hIH'.out (by (try simp only [ext_ext]); repeat (first | exact Kept.refl _ | apply Kept.alloc | apply Kept.drew | apply kept_add | apply Kept.ext)), hfH.out.trans (Kept.fr (by (try simp only [ext_ext]); repeat (first | exact Kept.refl _ | apply Kept.alloc | apply Kept.drew | apply kept_add | apply Kept.ext)))⟩
theorem orders_M1 (c : Nat) (q0 : Value) (tot : List (List Int)) (Inv : List (List Int) → Option Nat → World → Prop) (hkeep : ∀ h r w w', Inv h r w → Kept w w' → Inv h r w') (hin : ∀ h r w, Inv h r w → c < w.heap.size ∧ ∀ g, r = some g → g < w.heap.size)
    (hvis : ∀ h p r w u, h ++ [p] <+: tot → Inv h r w → ListAt c r w u p → Calls Try.prog 55 #[u, q0] w fun e w' => e = .returned (.bool true) ∧ ∃ r', Inv (h ++ [p]) r' w' ∧ Fr c r r' w w')
    (n : Nat) (hn : n ≤ 1000) (N : Int) (hN : N = (n : Nat)) : ∀ (m : Nat) (l : List Int) (h rest : List (List Int)) (r : Option Nat) (w : World) (v : Value), l.length + m = n → h ++ ordF n m l ++ rest = tot → Inv h r w → ListAt c r w v l → Calls Try.prog 54 #[v, .int .i64 N, .func (.func 55) #[] #[q0]] w fun e w' => e = .returned (.bool true) ∧ ∃ r', Inv (h ++ ordF n m l) r' w' ∧ Fr c r r' w w' := by
  intro m
  induction m with
  | zero =>
    intro l h rest r w v hl htot hI hv
    obtain ⟨ao, cap, rfl, hcap⟩ := hv.form
    have h1 := hid (hvis h l)
    have hpre := hid (show h ++ [l] <+: tot from ⟨rest, by rw [← htot]; rfl⟩)
    have hIH := hid hI
    have hvH := hid hv
    have hkH := hid hkeep
    have hN2 : N = (l.length : Int) := by omega
    subst hN2
    clear hvis htot hkeep hin hI hv hN
    go_enter Try.func54, Try.ntmps54
    go_wp2_with (fail)
    (go_at_call 55; refine Calls.mono (h1.out _ _ _ hpre.out hIH.out hvH.out) ?_; rintro e w1 ⟨rfl, r1, hI1, hf1⟩)
    go_wp2_with (fail)
    go_ret
    exact ⟨rfl, r1, hI1, hf1⟩
  | succ m ih =>
    intro l h rest r w v hl htot hI hv
    exact orders_M1_step c q0 tot Inv hkeep hin hvis n hn N hN m ih l h rest r w v hl htot hI hv
set_option maxHeartbeats 1000000 in
theorem orders_M2_step (c : Nat) (q0 q1 : Value) (tot : List (List Int)) (Inv : List (List Int) → Option Nat → World → Prop) (hkeep : ∀ h r w w', Inv h r w → Kept w w' → Inv h r w') (hin : ∀ h r w, Inv h r w → c < w.heap.size ∧ ∀ g, r = some g → g < w.heap.size)
    (hvis : ∀ h p r w u, h ++ [p] <+: tot → Inv h r w → ListAt c r w u p → Calls Try.prog 56 #[u, q0, q1] w fun e w' => e = .returned (.bool true) ∧ ∃ r', Inv (h ++ [p]) r' w' ∧ Fr c r r' w w')
    (n : Nat) (hn : n ≤ 1000) (N : Int) (hN : N = (n : Nat)) (m : Nat)
    (ih : ∀ (l : List Int) (h rest : List (List Int)) (r : Option Nat) (w : World) (v : Value), l.length + m = n → h ++ ordF n m l ++ rest = tot → Inv h r w → ListAt c r w v l → Calls Try.prog 54 #[v, .int .i64 N, .func (.func 56) #[] #[q0, q1]] w fun e w' => e = .returned (.bool true) ∧ ∃ r', Inv (h ++ ordF n m l) r' w' ∧ Fr c r r' w w')
    (l : List Int) (h rest : List (List Int)) (r : Option Nat) (w : World) (v : Value) (hl : l.length + (m + 1) = n) (htot : h ++ ordF n (m + 1) l ++ rest = tot) (hI : Inv h r w) (hv : ListAt c r w v l) : Calls Try.prog 54 #[v, .int .i64 N, .func (.func 56) #[] #[q0, q1]] w fun e w' => e = .returned (.bool true) ∧ ∃ r', Inv (h ++ ordF n (m + 1) l) r' w' ∧ Fr c r r' w w' := by
  obtain ⟨ao, cap, rfl, hcap⟩ := hv.form
  have hNH := hid hN
  have hvH := hid hv
  have hints := hv.ints
  have ihH := hid ih
  have hkH := hid hkeep
  have hinH := hid hin
  have hIH := hid hI
  have htotH := hid htot
  have hcapi : (l.length : Int) ≤ (cap : Int) := by omega
  by_cases hl0 : l.length = 0
  · have hlnH := hid hl0
    have hne : ((0 : Int) == N) = false := by simp; omega
    have hne2 : ¬ (0 : Int) = N := by omega
    rw [hl0] at hvH hcapi ⊢
    clear hv ih hkeep hin hI htot hN hvis hints
    go_enter Try.func54, Try.ntmps54
    go_wp2
    go_loopw [16] (fun i wr => ∃ k : Nat, k ≤ n ∧ i = .int .i64 k ∧ ∃ h' r1, h' ++ ordR n (ordF n m) l (n - k) = h ++ ordR n (ordF n m) l n ∧ Inv h' r1 wr ∧ Fr c r r1 w wr) (fun i _ => n - (intOf i).toNat)
    case atStart => exact ⟨0, Nat.zero_le _, rfl, h, r, rfl, hkH.out _ _ _ _ hIH.out (by (try simp only [ext_ext]); repeat (first | exact Kept.refl _ | apply Kept.alloc | apply Kept.drew | apply kept_add | apply Kept.ext)), Kept.fr (by (try simp only [ext_ext]); repeat (first | exact Kept.refl _ | apply Kept.alloc | apply Kept.drew | apply kept_add | apply Kept.ext))⟩
    case round wr =>
      obtain ⟨k, hFk, rfl, h', r1, hh, hI, hf⟩ := hrel
      have hhH := hid hh
      have hIH' := hid hI
      have hfH := hid hf
      clear hh hI hf
      by_cases hlt : k < n
      · obtain ⟨hc1, hr1⟩ := hinH.out _ _ _ hIH'.out
        have hvr := hid (hvH.out.fr hfH.out)
        have hnx := hid (ordR_at hlt (ordF n m) l)
        have hcon := hid (fun w' (hk : Kept wr w') => containsIntsN ao cap 0 l (k : Int) w' (hvr.out.ints.kept hk) hlnH.out (by omega))
        have hkn : (k : Int) < N := by have := hNH.out; omega
        have hwr1 : IntKind.i64.wrap ((k : Int) + 1) = (k : Int) + 1 := Go.IntWalk.i64_in _ ⟨by omega, by omega⟩
        have hr1H := hid hr1
        clear hr1
        change Hid (∀ w', Kept wr w' → Calls _ _ _ _ fun e w'' => e = .returned (.bool (hasI l k)) ∧ Kept w' w'') at hcon
        cases hhit : hasI l k with
        | true =>
          rw [hhit] at hcon hnx
          have hnx2 := hid (show ordR n (ordF n m) l (n - k) = ordR n (ordF n m) l (n - (k + 1)) from hnx.out.trans (List.nil_append _))
          go_wp2_with (first | (go_at_call 67; refine Calls.mono (hcon.out _ ((by (try simp only [ext_ext]); repeat (first | exact Kept.refl _ | apply Kept.alloc | apply Kept.drew | apply kept_add | apply Kept.ext)))) ?_; rintro e w' ⟨rfl, y, rfl⟩))
          go_roundw
          case rel => exact ⟨k + 1, by omega, by go_num, h', r1, by rw [← hhH.out, hnx2.out], hkH.out _ _ _ _ hIH'.out (by (try simp only [ext_ext]); repeat (first | exact Kept.refl _ | apply Kept.alloc | apply Kept.drew | apply kept_add | apply Kept.ext)), hfH.out.trans (Kept.fr (by (try simp only [ext_ext]); repeat (first | exact Kept.refl _ | apply Kept.alloc | apply Kept.drew | apply kept_add | apply Kept.ext)))⟩
          case measure => simp [intOf]; omega
        | false =>
          rw [hhit] at hcon hnx
          have hnx2 := hid (show ordR n (ordF n m) l (n - k) = ordF n m (l ++ [(k : Int)]) ++ ordR n (ordF n m) l (n - (k + 1)) from hnx.out)
          have hT := hid (show h' ++ ordF n m (l ++ [(k : Int)]) ++ (ordR n (ordF n m) l (n - (k + 1)) ++ rest) = tot by
            rw [← htotH.out, ordF_next, ← hhH.out, hnx2.out]; simp [List.append_assoc])
          have hl2 := hid (show (l ++ [(k : Int)]).length + m = n by simp; omega)
          go_wp2_with (first | (go_at_call 67; refine Calls.mono (hcon.out _ ((by (try simp only [ext_ext]); repeat (first | exact Kept.refl _ | apply Kept.alloc | apply Kept.drew | apply kept_add | apply Kept.ext)))) ?_; rintro e w' ⟨rfl, y, rfl⟩) | (at_builtin; refine wpList_unguard (by first | rfl | simp [go_sem]) ?_; refine wpList_append_intF rfl _ _ rfl l 0 hlnH.out c r1 cap ao (hvr.out.kept (by (try simp only [ext_ext]); repeat (first | exact Kept.refl _ | apply Kept.alloc | apply Kept.drew | apply kept_add | apply Kept.ext))) rfl _ _ (k : Int) rfl (cell_of_row _ _ 0 _ _ (0, 0) (heap_at (by simp))) (by rw [hlnH.out]; omega) ?_; intro v' w1 hown1 hk1) | (go_at_call 54; refine Calls.mono (ihH.out (l ++ [(k : Int)]) h' (ordR n (ordF n m) l (n - (k + 1)) ++ rest) r1 _ _ hl2.out hT.out (hkH.out _ _ _ _ hIH'.out (Kept.trans (by (try simp only [ext_ext]); repeat (first | exact Kept.refl _ | apply Kept.alloc | apply Kept.drew | apply kept_add | apply Kept.ext)) hk1)) (hown1.list (by simp; omega) (fun g hg => by have := hr1H.out g hg; simp; omega))) ?_; rintro e w2 ⟨rfl, r2, hI2, hf2⟩))
          go_roundw
          case rel => exact ⟨k + 1, by omega, by go_num, _, r2, by rw [← hhH.out, hnx2.out, List.append_assoc], hI2, hfH.out.trans (Fr.trans (Kept.fr (Kept.trans (by (try simp only [ext_ext]); repeat (first | exact Kept.refl _ | apply Kept.alloc | apply Kept.drew | apply kept_add | apply Kept.ext)) hk1)) hf2)⟩
          case measure => simp [intOf]; omega
      · have e0 : n - k = 0 := by omega
        have he := hid (show h' = h ++ ordR n (ordF n m) l n by rw [← hhH.out, e0, ordR, List.append_nil])
        have hkn : ¬ (k : Int) < N := by have := hNH.out; omega
        go_wp2
        go_ret
        exact ⟨rfl, r1, by rw [ordF_next, ← he.out]; exact hkH.out _ _ _ _ hIH'.out (by (try simp only [ext_ext]); repeat (first | exact Kept.refl _ | apply Kept.alloc | apply Kept.drew | apply kept_add | apply Kept.ext)), hfH.out.trans (Kept.fr (by (try simp only [ext_ext]); repeat (first | exact Kept.refl _ | apply Kept.alloc | apply Kept.drew | apply kept_add | apply Kept.ext)))⟩
  · obtain ⟨q, hq⟩ : ∃ q, l.length = q + 1 := ⟨l.length - 1, by omega⟩
    obtain ⟨g, off, rfl, hg, hcell⟩ := hints q (by omega)
    have hlnH := hid hq
    have hne : (((q : Int) + 1) == N) = false := by simp; omega
    have hne2 : ¬ (q : Int) + 1 = N := by omega
    rw [hq] at hvH hcapi ⊢
    clear hv ih hkeep hin hI htot hN hvis hints hcell
    go_enter Try.func54, Try.ntmps54
    go_wp2
    go_loopw [16] (fun i wr => ∃ k : Nat, k ≤ n ∧ i = .int .i64 k ∧ ∃ h' r1, h' ++ ordR n (ordF n m) l (n - k) = h ++ ordR n (ordF n m) l n ∧ Inv h' r1 wr ∧ Fr c r r1 w wr) (fun i _ => n - (intOf i).toNat)
    case atStart => exact ⟨0, Nat.zero_le _, rfl, h, r, rfl, hkH.out _ _ _ _ hIH.out (by (try simp only [ext_ext]); repeat (first | exact Kept.refl _ | apply Kept.alloc | apply Kept.drew | apply kept_add | apply Kept.ext)), Kept.fr (by (try simp only [ext_ext]); repeat (first | exact Kept.refl _ | apply Kept.alloc | apply Kept.drew | apply kept_add | apply Kept.ext))⟩
    case round wr =>
      obtain ⟨k, hFk, rfl, h', r1, hh, hI, hf⟩ := hrel
      have hhH := hid hh
      have hIH' := hid hI
      have hfH := hid hf
      clear hh hI hf
      by_cases hlt : k < n
      · obtain ⟨hc1, hr1⟩ := hinH.out _ _ _ hIH'.out
        have hvr := hid (hvH.out.fr hfH.out)
        have hnx := hid (ordR_at hlt (ordF n m) l)
        have hcon := hid (fun w' (hk : Kept wr w') => containsIntsN (some ⟨g, off, none⟩) cap (q + 1) l (k : Int) w' (hvr.out.ints.kept hk) hlnH.out (by omega))
        have hkn : (k : Int) < N := by have := hNH.out; omega
        have hwr1 : IntKind.i64.wrap ((k : Int) + 1) = (k : Int) + 1 := Go.IntWalk.i64_in _ ⟨by omega, by omega⟩
        have hr1H := hid hr1
        clear hr1
        change Hid (∀ w', Kept wr w' → Calls _ _ _ _ fun e w'' => e = .returned (.bool (hasI l k)) ∧ Kept w' w'') at hcon
        cases hhit : hasI l k with
        | true =>
          rw [hhit] at hcon hnx
          have hnx2 := hid (show ordR n (ordF n m) l (n - k) = ordR n (ordF n m) l (n - (k + 1)) from hnx.out.trans (List.nil_append _))
          go_wp2_with (first | (go_at_call 67; refine Calls.mono (hcon.out _ ((by (try simp only [ext_ext]); repeat (first | exact Kept.refl _ | apply Kept.alloc | apply Kept.drew | apply kept_add | apply Kept.ext)))) ?_; rintro e w' ⟨rfl, y, rfl⟩))
          go_roundw
          case rel => exact ⟨k + 1, by omega, by go_num, h', r1, by rw [← hhH.out, hnx2.out], hkH.out _ _ _ _ hIH'.out (by (try simp only [ext_ext]); repeat (first | exact Kept.refl _ | apply Kept.alloc | apply Kept.drew | apply kept_add | apply Kept.ext)), hfH.out.trans (Kept.fr (by (try simp only [ext_ext]); repeat (first | exact Kept.refl _ | apply Kept.alloc | apply Kept.drew | apply kept_add | apply Kept.ext)))⟩
          case measure => simp [intOf]; omega
        | false =>
          rw [hhit] at hcon hnx
          have hnx2 := hid (show ordR n (ordF n m) l (n - k) = ordF n m (l ++ [(k : Int)]) ++ ordR n (ordF n m) l (n - (k + 1)) from hnx.out)
          have hT := hid (show h' ++ ordF n m (l ++ [(k : Int)]) ++ (ordR n (ordF n m) l (n - (k + 1)) ++ rest) = tot by
            rw [← htotH.out, ordF_next, ← hhH.out, hnx2.out]; simp [List.append_assoc])
          have hl2 := hid (show (l ++ [(k : Int)]).length + m = n by simp; omega)
          go_wp2_with (first | (go_at_call 67; refine Calls.mono (hcon.out _ ((by (try simp only [ext_ext]); repeat (first | exact Kept.refl _ | apply Kept.alloc | apply Kept.drew | apply kept_add | apply Kept.ext)))) ?_; rintro e w' ⟨rfl, y, rfl⟩) | (at_builtin; refine wpList_unguard (by first | rfl | simp [go_sem]) ?_; refine wpList_append_intF rfl _ _ rfl l (q + 1) hlnH.out c r1 cap _ (hvr.out.kept (by (try simp only [ext_ext]); repeat (first | exact Kept.refl _ | apply Kept.alloc | apply Kept.drew | apply kept_add | apply Kept.ext))) rfl _ _ (k : Int) rfl (cell_of_row _ _ 0 _ _ (0, 0) (heap_at (by simp))) (by rw [hlnH.out]; omega) ?_; intro v' w1 hown1 hk1) | (go_at_call 54; refine Calls.mono (ihH.out (l ++ [(k : Int)]) h' (ordR n (ordF n m) l (n - (k + 1)) ++ rest) r1 _ _ hl2.out hT.out (hkH.out _ _ _ _ hIH'.out (Kept.trans (by (try simp only [ext_ext]); repeat (first | exact Kept.refl _ | apply Kept.alloc | apply Kept.drew | apply kept_add | apply Kept.ext)) hk1)) (hown1.list (by simp; omega) (fun g hg => by have := hr1H.out g hg; simp; omega))) ?_; rintro e w2 ⟨rfl, r2, hI2, hf2⟩))
          go_roundw
          case rel => exact ⟨k + 1, by omega, by go_num, _, r2, by rw [← hhH.out, hnx2.out, List.append_assoc], hI2, hfH.out.trans (Fr.trans (Kept.fr (Kept.trans (by (try simp only [ext_ext]); repeat (first | exact Kept.refl _ | apply Kept.alloc | apply Kept.drew | apply kept_add | apply Kept.ext)) hk1)) hf2)⟩
          case measure => simp [intOf]; omega
      · have e0 : n - k = 0 := by omega
        have he := hid (show h' = h ++ ordR n (ordF n m) l n by rw [← hhH.out, e0, ordR, List.append_nil])
        have hkn : ¬ (k : Int) < N := by have := hNH.out; omega
        go_wp2
        go_ret
        exact ⟨rfl, r1, by rw [ordF_next, ← he.out]; exact hkH.out _ _ _ _ hIH'.out (by (try simp only [ext_ext]); repeat (first | exact Kept.refl _ | apply Kept.alloc | apply Kept.drew | apply kept_add | apply Kept.ext)), hfH.out.trans (Kept.fr (by (try simp only [ext_ext]); repeat (first | exact Kept.refl _ | apply Kept.alloc | apply Kept.drew | apply kept_add | apply Kept.ext)))⟩
theorem orders_M2 (c : Nat) (q0 q1 : Value) (tot : List (List Int)) (Inv : List (List Int) → Option Nat → World → Prop) (hkeep : ∀ h r w w', Inv h r w → Kept w w' → Inv h r w') (hin : ∀ h r w, Inv h r w → c < w.heap.size ∧ ∀ g, r = some g → g < w.heap.size)
    (hvis : ∀ h p r w u, h ++ [p] <+: tot → Inv h r w → ListAt c r w u p → Calls Try.prog 56 #[u, q0, q1] w fun e w' => e = .returned (.bool true) ∧ ∃ r', Inv (h ++ [p]) r' w' ∧ Fr c r r' w w')
    (n : Nat) (hn : n ≤ 1000) (N : Int) (hN : N = (n : Nat)) : ∀ (m : Nat) (l : List Int) (h rest : List (List Int)) (r : Option Nat) (w : World) (v : Value), l.length + m = n → h ++ ordF n m l ++ rest = tot → Inv h r w → ListAt c r w v l → Calls Try.prog 54 #[v, .int .i64 N, .func (.func 56) #[] #[q0, q1]] w fun e w' => e = .returned (.bool true) ∧ ∃ r', Inv (h ++ ordF n m l) r' w' ∧ Fr c r r' w w' := by
  intro m
  induction m with
  | zero =>
    intro l h rest r w v hl htot hI hv
    obtain ⟨ao, cap, rfl, hcap⟩ := hv.form
    have h1 := hid (hvis h l)
    have hpre := hid (show h ++ [l] <+: tot from ⟨rest, by rw [← htot]; rfl⟩)
    have hIH := hid hI
    have hvH := hid hv
    have hkH := hid hkeep
    have hN2 : N = (l.length : Int) := by omega
    subst hN2
    clear hvis htot hkeep hin hI hv hN
    go_enter Try.func54, Try.ntmps54
    go_wp2_with (fail)
    (go_at_call 56; refine Calls.mono (h1.out _ _ _ hpre.out hIH.out hvH.out) ?_; rintro e w1 ⟨rfl, r1, hI1, hf1⟩)
    go_wp2_with (fail)
    go_ret
    exact ⟨rfl, r1, hI1, hf1⟩
  | succ m ih =>
    intro l h rest r w v hl htot hI hv
    exact orders_M2_step c q0 q1 tot Inv hkeep hin hvis n hn N hN m ih l h rest r w v hl htot hI hv
end Go.Proofs.Ytjlaoocomkonhaa
