/- Contracts: the search for choices that looks for quads. -/
import Derived.Test.YtenmnipgnjaheaaT57
import Derived.Test.YtenmnipgnjaheaaT85
import Derived.Laws.Cover3
import Derived.Deep.RegionLaw
namespace Go.Proofs.Ytenmnipgnjaheaa
open Go.RowKit
set_option maxHeartbeats 1000000 in
theorem choices_QI_step (c : Nat) (q0 q1 : Value) (tot : List (List Int)) (Inv : List (List Int) → Option Nat → World → Prop) (hkeep : ∀ h r w w', Inv h r w → Kept w w' → Inv h r w') (hin : ∀ h r w, Inv h r w → c < w.heap.size ∧ ∀ g, r = some g → g < w.heap.size)
    (hvis : ∀ h p r w u, h ++ [p] <+: tot → Inv h r w → ListAt c r w u p → Calls Try.prog 32 #[u, q0, q1] w fun e w' => e = .returned (.tuple #[]) ∧ ∃ r', Inv (h ++ [p]) r' w' ∧ Fr c r r' w w')
    (n : Nat) (hn : n ≤ 1000) (m : Nat)
    (ih : ∀ (l : List Int) (h rest : List (List Int)) (r : Option Nat) (w : World) (v : Value) (M : Int), M = (m : Nat) → l.length + m ≤ 1000 → (∀ i, i < l.length → 0 ≤ ix l i ∧ ix l i < n) → h ++ chF n (n - fromL l) m l ++ rest = tot → Inv h r w → ListAt c r w v l → Calls Try.prog 31 #[v, .int .i64 M, .int .i64 (n : Nat), .func (.func 32) #[] #[q0, q1]] w fun e w' => e = .returned (.tuple #[]) ∧ ∃ r', Inv (h ++ chF n (n - fromL l) m l) r' w' ∧ Fr c r r' w w')
    (l : List Int) (h rest : List (List Int)) (r : Option Nat) (w : World) (v : Value) (M : Int) (hM : M = (m + 1 : Nat)) (hl : l.length + (m + 1) ≤ 1000) (hb : ∀ i, i < l.length → 0 ≤ ix l i ∧ ix l i < n) (htot : h ++ chF n (n - fromL l) (m + 1) l ++ rest = tot) (hI : Inv h r w) (hv : ListAt c r w v l) : Calls Try.prog 31 #[v, .int .i64 M, .int .i64 (n : Nat), .func (.func 32) #[] #[q0, q1]] w fun e w' => e = .returned (.tuple #[]) ∧ ∃ r', Inv (h ++ chF n (n - fromL l) (m + 1) l) r' w' ∧ Fr c r r' w w' := by
  obtain ⟨ao, cap, rfl, hcap⟩ := hv.form
  have hM1 : 1 ≤ M := by omega
  have hM2 : M ≤ 1000 := by omega
  have hM3H := hid (show M = (m : Int) + 1 by omega)
  have hne : (M == 0) = false := by simp; omega
  have hne2 : ¬ M = 0 := by omega
  have hvH := hid hv
  have hints := hv.ints
  have hbH := hid hb
  have ihH := hid ih
  have hkH := hid hkeep
  have hinH := hid hin
  have hIH := hid hI
  have hcapi : (l.length : Int) ≤ (cap : Int) := by omega
  by_cases hl0 : l.length = 0
  · obtain ⟨F, hF⟩ : ∃ F, F = fromL l := ⟨_, rfl⟩
    have hF0 : F = 0 := by rw [hF]; unfold fromL; rw [if_pos (List.eq_nil_of_length_eq_zero hl0)]
    rw [← hF] at htot
    have hFH := hid hF
    clear hF
    have htotH := hid htot
    have hlnH := hid hl0
    rw [hl0] at hvH hcapi ⊢
    clear hv hb ih hkeep hin hI htot hM hvis hints
    go_enter Try.func31, Try.ntmps31
    go_wp2
    go_loopw [9] (fun i wr => ∃ k : Nat, F ≤ k ∧ i = .int .i64 k ∧ ∃ h' r1, h' ++ chF n (n - k) (m + 1) l = h ++ chF n (n - F) (m + 1) l ∧ Inv h' r1 wr ∧ Fr c r r1 w wr) (fun i _ => n - (intOf i).toNat)
    case atStart => exact ⟨F, Nat.le_refl _, by rw [hF0]; rfl, h, r, rfl, hkH.out _ _ _ _ hIH.out (by (try simp only [ext_ext]); repeat (first | exact Kept.refl _ | apply Kept.alloc | apply Kept.drew | apply kept_add | apply Kept.ext)), Kept.fr (by (try simp only [ext_ext]); repeat (first | exact Kept.refl _ | apply Kept.alloc | apply Kept.drew | apply kept_add | apply Kept.ext))⟩
    case round wr =>
      obtain ⟨k, hFk, rfl, h', r1, hh, hI, hf⟩ := hrel
      have hhH := hid hh
      have hIH' := hid hI
      have hfH := hid hf
      clear hh hI hf
      by_cases hlt : k < n
      · obtain ⟨hc1, hr1⟩ := hinH.out _ _ _ hIH'.out
        have hvr := hid (hvH.out.fr hfH.out)
        have hnx := hid (chF_at hlt m l)
        have hT := hid (show h' ++ chF n (n - fromL (l ++ [(k : Int)])) m (l ++ [(k : Int)]) ++ (chF n (n - (k + 1)) (m + 1) l ++ rest) = tot by
          rw [fromL_app, ← htotH.out, ← hhH.out, hnx.out]; simp [List.append_assoc])
        have hl2 := hid (show (l ++ [(k : Int)]).length + m ≤ 1000 by simp; omega)
        have hb2 := hid (show ∀ i, i < (l ++ [(k : Int)]).length → 0 ≤ ix (l ++ [(k : Int)]) i ∧ ix (l ++ [(k : Int)]) i < n from fun i hi => by
          by_cases h0 : i < l.length
          · have e : ix (l ++ [(k : Int)]) i = ix l i := by rw [ix_get _ _ (by simp; omega), ix_get _ _ h0, List.getElem_append_left h0]
            rw [e]; exact hbH.out i h0
          · have e : i = l.length := by simp at hi; omega
            have e2 : ix (l ++ [(k : Int)]) i = k := by rw [e]; simp [ix]
            rw [e2]; omega)
        have hkn : (k : Int) < (n : Int) := by omega
        have hwr1 : IntKind.i64.wrap ((k : Int) + 1) = (k : Int) + 1 := Go.IntWalk.i64_in _ ⟨by omega, by omega⟩
        have hMn : M - 1 = (m : Int) := by have := hM3H.out; omega
        have hr1H := hid hr1
        clear hr1
        go_wp2_with (first | (at_builtin; refine wpList_append_intF rfl _ _ rfl l 0 hlnH.out c r1 cap ao (hvr.out.kept (by (try simp only [ext_ext]); repeat (first | exact Kept.refl _ | apply Kept.alloc | apply Kept.drew | apply kept_add | apply Kept.ext))) rfl _ _ (k : Int) rfl (cell_of_row _ _ 0 _ _ (0, 0) (heap_at (by simp))) (by rw [hlnH.out]; omega) ?_; intro v' w1 hown1 hk1) | (go_at_call 31; refine Calls.mono (ihH.out (l ++ [(k : Int)]) h' (chF n (n - (k + 1)) (m + 1) l ++ rest) r1 _ _ (m : Int) rfl hl2.out hb2.out hT.out (hkH.out _ _ _ _ hIH'.out (Kept.trans (by (try simp only [ext_ext]); repeat (first | exact Kept.refl _ | apply Kept.alloc | apply Kept.drew | apply kept_add | apply Kept.ext)) hk1)) (hown1.list (by simp; omega) (fun g hg => by have := hr1H.out g hg; simp; omega))) ?_; rintro e w2 ⟨rfl, r2, hI2, hf2⟩))
        go_roundw
        case rel => exact ⟨k + 1, by omega, by go_num, _, r2, by rw [← hhH.out, hnx.out, fromL_app, List.append_assoc], hI2, hfH.out.trans (Fr.trans (Kept.fr (Kept.trans (by (try simp only [ext_ext]); repeat (first | exact Kept.refl _ | apply Kept.alloc | apply Kept.drew | apply kept_add | apply Kept.ext)) hk1)) hf2)⟩
        case measure => simp [intOf]; omega
      · have e0 : n - k = 0 := by omega
        have he := hid (show h' = h ++ chF n (n - F) (m + 1) l by rw [← hhH.out, e0, chF_none, List.append_nil])
        have hkn : ¬ (k : Int) < (n : Int) := by omega
        go_wp2
        go_end0
        exact ⟨rfl, r1, by rw [← hFH.out, ← he.out]; exact hIH'.out, hfH.out⟩
  · obtain ⟨F, hF⟩ : ∃ F, F = fromL l := ⟨_, rfl⟩
    obtain ⟨q, hq⟩ : ∃ q, l.length = q + 1 := ⟨l.length - 1, by omega⟩
    obtain ⟨g, off, rfl, hg, hcell⟩ := hints q (by omega)
    have hbq := hb q (by omega)
    have hF0 : ix l q + 1 = (F : Int) := by rw [hF]; unfold fromL; rw [if_neg (by intro e; rw [e] at hl0; simp at hl0), show l.length - 1 = q by omega]; omega
    have hF1 : F ≤ n := by omega
    rw [← hF] at htot
    have hFH := hid hF
    clear hF
    have htotH := hid htot
    have hlnH := hid hq
    rw [hq] at hvH hcapi ⊢
    generalize ix l q = x at hcell hbq hF0
    clear hv hb ih hkeep hin hI htot hM hvis hints
    obtain ⟨ao, hao⟩ : ∃ ao, ao = some (⟨g, off, none⟩ : Addr) := ⟨_, rfl⟩
    go_enter Try.func31, Try.ntmps31
    go_wp2
    go_loopw [9] (fun i wr => ∃ k : Nat, F ≤ k ∧ i = .int .i64 k ∧ ∃ h' r1, h' ++ chF n (n - k) (m + 1) l = h ++ chF n (n - F) (m + 1) l ∧ Inv h' r1 wr ∧ Fr c r r1 w wr) (fun i _ => n - (intOf i).toNat)
    case atStart => exact ⟨F, Nat.le_refl _, rfl, h, r, rfl, hkH.out _ _ _ _ hIH.out (by (try simp only [ext_ext]); repeat (first | exact Kept.refl _ | apply Kept.alloc | apply Kept.drew | apply kept_add | apply Kept.ext)), Kept.fr (by (try simp only [ext_ext]); repeat (first | exact Kept.refl _ | apply Kept.alloc | apply Kept.drew | apply kept_add | apply Kept.ext))⟩
    case round wr =>
      obtain ⟨k, hFk, rfl, h', r1, hh, hI, hf⟩ := hrel
      have hhH := hid hh
      have hIH' := hid hI
      have hfH := hid hf
      clear hh hI hf
      by_cases hlt : k < n
      · obtain ⟨hc1, hr1⟩ := hinH.out _ _ _ hIH'.out
        have hvr := hid (hvH.out.fr hfH.out)
        have hnx := hid (chF_at hlt m l)
        have hT := hid (show h' ++ chF n (n - fromL (l ++ [(k : Int)])) m (l ++ [(k : Int)]) ++ (chF n (n - (k + 1)) (m + 1) l ++ rest) = tot by
          rw [fromL_app, ← htotH.out, ← hhH.out, hnx.out]; simp [List.append_assoc])
        have hl2 := hid (show (l ++ [(k : Int)]).length + m ≤ 1000 by simp; omega)
        have hb2 := hid (show ∀ i, i < (l ++ [(k : Int)]).length → 0 ≤ ix (l ++ [(k : Int)]) i ∧ ix (l ++ [(k : Int)]) i < n from fun i hi => by
          by_cases h0 : i < l.length
          · have e : ix (l ++ [(k : Int)]) i = ix l i := by rw [ix_get _ _ (by simp; omega), ix_get _ _ h0, List.getElem_append_left h0]
            rw [e]; exact hbH.out i h0
          · have e : i = l.length := by simp at hi; omega
            have e2 : ix (l ++ [(k : Int)]) i = k := by rw [e]; simp [ix]
            rw [e2]; omega)
        have hkn : (k : Int) < (n : Int) := by omega
        have hwr1 : IntKind.i64.wrap ((k : Int) + 1) = (k : Int) + 1 := Go.IntWalk.i64_in _ ⟨by omega, by omega⟩
        have hMn : M - 1 = (m : Int) := by have := hM3H.out; omega
        have hr1H := hid hr1
        clear hr1
        go_wp2_with (first | (at_builtin; refine wpList_append_intF rfl _ _ rfl l (q + 1) hlnH.out c r1 cap _ (hvr.out.kept (by (try simp only [ext_ext]); repeat (first | exact Kept.refl _ | apply Kept.alloc | apply Kept.drew | apply kept_add | apply Kept.ext))) rfl _ _ (k : Int) rfl (cell_of_row _ _ 0 _ _ (0, 0) (heap_at (by simp))) (by rw [hlnH.out]; omega) ?_; intro v' w1 hown1 hk1) | (go_at_call 31; refine Calls.mono (ihH.out (l ++ [(k : Int)]) h' (chF n (n - (k + 1)) (m + 1) l ++ rest) r1 _ _ (m : Int) rfl hl2.out hb2.out hT.out (hkH.out _ _ _ _ hIH'.out (Kept.trans (by (try simp only [ext_ext]); repeat (first | exact Kept.refl _ | apply Kept.alloc | apply Kept.drew | apply kept_add | apply Kept.ext)) hk1)) (hown1.list (by simp; omega) (fun g hg => by have := hr1H.out g hg; simp; omega))) ?_; rintro e w2 ⟨rfl, r2, hI2, hf2⟩))
        go_roundw
        case rel => exact ⟨k + 1, by omega, by go_num, _, r2, by rw [← hhH.out, hnx.out, fromL_app, List.append_assoc], hI2, hfH.out.trans (Fr.trans (Kept.fr (Kept.trans (by (try simp only [ext_ext]); repeat (first | exact Kept.refl _ | apply Kept.alloc | apply Kept.drew | apply kept_add | apply Kept.ext)) hk1)) hf2)⟩
        case measure => simp [intOf]; omega
      · have e0 : n - k = 0 := by omega
        have he := hid (show h' = h ++ chF n (n - F) (m + 1) l by rw [← hhH.out, e0, chF_none, List.append_nil])
        have hkn : ¬ (k : Int) < (n : Int) := by omega
        go_wp2
        go_end0
        exact ⟨rfl, r1, by rw [← hFH.out, ← he.out]; exact hIH'.out, hfH.out⟩
theorem choices_QI (c : Nat) (q0 q1 : Value) (tot : List (List Int)) (Inv : List (List Int) → Option Nat → World → Prop) (hkeep : ∀ h r w w', Inv h r w → Kept w w' → Inv h r w') (hin : ∀ h r w, Inv h r w → c < w.heap.size ∧ ∀ g, r = some g → g < w.heap.size)
    (hvis : ∀ h p r w u, h ++ [p] <+: tot → Inv h r w → ListAt c r w u p → Calls Try.prog 32 #[u, q0, q1] w fun e w' => e = .returned (.tuple #[]) ∧ ∃ r', Inv (h ++ [p]) r' w' ∧ Fr c r r' w w')
    (n : Nat) (hn : n ≤ 1000) : ∀ (m : Nat) (l : List Int) (h rest : List (List Int)) (r : Option Nat) (w : World) (v : Value) (M : Int), M = (m : Nat) → l.length + m ≤ 1000 → (∀ i, i < l.length → 0 ≤ ix l i ∧ ix l i < n) → h ++ chF n (n - fromL l) m l ++ rest = tot → Inv h r w → ListAt c r w v l → Calls Try.prog 31 #[v, .int .i64 M, .int .i64 (n : Nat), .func (.func 32) #[] #[q0, q1]] w fun e w' => e = .returned (.tuple #[]) ∧ ∃ r', Inv (h ++ chF n (n - fromL l) m l) r' w' ∧ Fr c r r' w w' := by
  intro m
  induction m with
  | zero =>
    intro l h rest r w v M hM hl hb htot hI hv
    have hM0 : M = 0 := by omega
    subst hM0
    have h1 := hid (hvis h l)
    have hpre := hid (show h ++ [l] <+: tot from ⟨rest, by rw [← htot, chF_zero]⟩)
    have hIH := hid hI
    have hvH := hid hv
    have hz := hid (chF_zero n (n - fromL l) l)
    clear hvis htot hkeep hin hI hv hM
    go_enter Try.func31, Try.ntmps31
    go_wp2_with (fail)
    (go_at_call 32; refine Calls.mono (h1.out _ _ _ hpre.out hIH.out hvH.out) ?_; rintro e w1 ⟨rfl, r1, hI1, hf1⟩)
    go_wp2_with (fail)
    first
      | go_end0
      | refine bodyPost_ret (results_none rfl _ _ _) rfl ?_
    exact ⟨rfl, r1, by rw [hz.out]; exact hI1, hf1⟩
  | succ m ih =>
    intro l h rest r w v M hM hl hb htot hI hv
    exact choices_QI_step c q0 q1 tot Inv hkeep hin hvis n hn m ih l h rest r w v M hM hl hb htot hI hv
/-- What the choices hold. -/
theorem chF_mem (n : Nat) : ∀ (d m : Nat) (l p : List Int), d ≤ n → p ∈ chF n d m l → p.length = l.length + m ∧ ∀ i, i < p.length → (i < l.length ∧ ix p i = ix l i) ∨ ∃ k : Nat, k < n ∧ ix p i = k
  | d, 0, l, p, _, h => by
    rw [chF_zero, List.mem_singleton] at h
    subst h
    exact ⟨rfl, fun i hi => .inl ⟨hi, rfl⟩⟩
  | 0, m + 1, l, p, _, h => by rw [chF_none] at h; cases h
  | d + 1, m + 1, l, p, hd, h => by
    rw [chF_next] at h
    rcases List.mem_append.1 h with h | h
    · obtain ⟨h1, h2⟩ := chF_mem n d m _ p (by omega) h
      refine ⟨by rw [h1]; simp; omega, fun i hi => ?_⟩
      rcases h2 i hi with ⟨h3, h4⟩ | h3
      · by_cases h0 : i < l.length
        · refine .inl ⟨h0, ?_⟩
          rw [h4, ix_get _ _ h3, ix_get _ _ h0, List.getElem_append_left h0]
        · refine .inr ⟨n - (d + 1), by omega, ?_⟩
          have e : i = l.length := by simp at h3; omega
          subst e
          rw [h4]; simp [ix]
      · exact .inr h3
    · obtain ⟨h1, h2⟩ := chF_mem n d (m + 1) l p (by omega) h
      exact ⟨h1, h2⟩
theorem fr_store {c : Nat} {r : Option Nat} {w X w1 : World} {g1 : Nat} (u : Value) (hX : Kept w X) (hg : X.grownBy w1 r) (hat : r = some g1 ∨ g1 = X.heap.size) : Fr c r (some g1) w (w1.setCell ⟨c, 0, none⟩ u) := by
  have hb := hX.below
  have hs : (w1.setCell ⟨c, 0, none⟩ u).heap.size = w1.heap.size := by simp
  refine ⟨hg.os.trans hb.os, hg.tape.trans hb.tape, hg.output.trans hb.output, by rw [hs]; exact Nat.le_trans hb.size hg.size, fun k hk h1 h2 => ?_, ?_⟩
  · rw [heap_setCell_other _ _ _ _ h1, hg.block k (Nat.lt_of_lt_of_le hk hb.size) (Ne.symm h2), hb.block k hk]
  · rcases hat with e | e
    · exact .inl e.symm
    · exact .inr ⟨g1, rfl, by rw [e]; exact hb.size⟩
theorem chF_asc (n : Nat) : ∀ (d m : Nat) (l p : List Int), d ≤ n → plB (n - d) l → ascB l → p ∈ chF n d m l → plB n p ∧ ascB p
  | d, 0, l, p, _, hl, ha, h => by
    rw [chF_zero, List.mem_singleton] at h
    subst h
    exact ⟨plB_mono hl (by omega), ha⟩
  | 0, m + 1, l, p, _, _, _, h => by rw [chF_none] at h; cases h
  | d + 1, m + 1, l, p, hd, hl, ha, h => by
    rw [chF_next] at h
    rcases List.mem_append.1 h with h | h
    · have h1 := plB_app (k := n - (d + 1)) hl (Nat.le_refl _)
      rw [show n - (d + 1) + 1 = n - d by omega] at h1
      exact chF_asc n d m _ p (by omega) h1 (ascB_app hl ha (Nat.le_refl _)) h
    · exact chF_asc n d (m + 1) l p (by omega) (plB_mono hl (by omega)) ha h
theorem chF_four {n : Nat} {p : List Int} (h : p ∈ chF n n 4 []) : p.length = 4 ∧ plB n p ∧ ascB p := by
  have h1 := (chF_mem n n 4 [] p (Nat.le_refl _) h).1
  exact ⟨by simpa using h1, chF_asc n n 4 [] p (Nat.le_refl _) (fun i hi => by simp at hi) (fun i j _ hj => by simp at hj) h⟩
theorem chF_pow (n : Nat) : ∀ (d m : Nat) (l : List Int), (chF n d m l).length ≤ 2 ^ d
  | d, 0, l => by rw [chF_zero]; exact Nat.one_le_two_pow
  | 0, m + 1, l => by rw [chF_none]; simp
  | d + 1, m + 1, l => by
    have h1 := chF_pow n d m (l ++ [((n - (d + 1) : Nat) : Int)])
    have h2 := chF_pow n d (m + 1) l
    rw [chF_next, List.length_append, Nat.pow_succ]
    omega
theorem four_of {cs : List Card} (h : cs.length = 4) : cs = [cx cs 0, cx cs 1, cx cs 2, cx cs 3] := by
  match cs, h with
  | [a, b, c, d], _ => rfl
def mdO (q : List Card) : List Card := srt (midL (cx q 0) (cx q 1) (cx q 2) (cx q 3))
def qdP (xs : List Card) (p : List Int) : Bool := decide (0 < (mdO (pk xs p)).length)
def cdP (p : List Int) : Card := ⟨ix p 0, ix p 1, ix p 2, ix p 3⟩
def qdO (xs : List Card) (h : List (List Int)) : List Card := (h.filter (qdP xs)).map cdP
theorem qdO_yes {xs : List Card} {p : List Int} (h : List (List Int)) (e : qdP xs p = true) : qdO xs (h ++ [p]) = qdO xs h ++ [cdP p] := by simp [qdO, e]
theorem qdO_no {xs : List Card} {p : List Int} (h : List (List Int)) (e : qdP xs p = false) : qdO xs (h ++ [p]) = qdO xs h := by simp [qdO, e]
theorem qdO_len (xs : List Card) (h : List (List Int)) : (qdO xs h).length ≤ h.length := by simp [qdO]; exact List.length_filter_le _ _
theorem qdO_app (xs : List Card) (a b : List (List Int)) : qdO xs (a ++ b) = qdO xs a ++ qdO xs b := by simp [qdO]
def QdI (xs : List Card) (W : World) (c : Nat) (h : List (List Int)) (r : Option Nat) (w : World) : Prop :=
  Kept W w ∧ W.heap.size ≤ c ∧ ∃ v, w.heap[c]? = some (.cells #[v] 22) ∧ OwnC W.heap.size w v (qdO xs h) ∧ v.ownBlock = r ∧ r ≠ some c
theorem QdI.kept {xs : List Card} {W : World} {c : Nat} {h : List (List Int)} {r : Option Nat} {w w' : World} (H : QdI xs W c h r w) (hk : Kept w w') : QdI xs W c h r w' := by
  obtain ⟨h0, h1, v, h2, h3, h4, h5⟩ := H
  exact ⟨h0.trans hk, h1, v, (hk.below.block c (Array.getElem?_eq_some_iff.1 h2).1).trans h2, h3.kept hk, h4, h5⟩
theorem QdI.lt {xs : List Card} {W : World} {c : Nat} {h : List (List Int)} {r : Option Nat} {w : World} (H : QdI xs W c h r w) : c < w.heap.size ∧ ∀ g, r = some g → g < w.heap.size := by
  obtain ⟨h0, h1, v, h2, h3, h4, h5⟩ := H
  exact ⟨(Array.getElem?_eq_some_iff.1 h2).1, fun g hg => (h3.lt g (h4.trans hg)).2⟩
theorem step_append_cdAt {ops : Array Oper} {o : Oper} {a : Act} {K : Act → World → Prop} {Q : Exit → Act → World → Prop} {E : Prop} {w : World} (hgd : o.guard = none) (s x : Operand)
    (ho : o.op = .call { callee := .builtin .append, args := #[s, x], argTypes := #[22, 22] }) (B : Nat) (v : Value) (cs : List Card) (hs : a.eval s = v) (hown : OwnC B w v cs) (hBw : B ≤ w.heap.size)
    (g cap : Nat) (c : Card) (hx : a.eval x = .slice (some ⟨g, 0, none⟩) 1 cap) (hc : CardCells w g 0 c) (hl : cs.length ≤ 1048576)
    (h : ∀ g' cap' w', OwnC B w' (.slice (some ⟨g', 0, none⟩) (cs.length + 1) cap') (cs ++ [c]) → w.grownBy w' v.ownBlock → (v.ownBlock = some g' ∨ g' = w.heap.size) → K (a.put o.dst (.slice (some ⟨g', 0, none⟩) (cs.length + 1) cap')) w') : if Region.wanted o (yielded ops a.tmps) = true then Oper.wp Try.prog o a w K Q else E := by
  obtain ⟨i, hi, hz, hsz, hb⟩ := info_parts info_card
  obtain ⟨h0, h1, h2, h3⟩ := hc
  refine step_append_lies w hgd s x 22 ho B T4 i _ 4 32 Try.underlying22 hi hz hsz hb rfl (by decide) v cs.length (cells4 cs) hs hown ⟨g, 0, none⟩ 1 cap
    [.int .i64 c.a, .int .i64 c.b, .int .i64 c.c, .int .i64 c.d] hx rfl ?_ ?_ (by omega) (by unfold maxLen; omega) (by omega) hBw w.heap.size rfl ?_
  · intro j u hj
    match j, hj with
    | 0, hj => simp at hj; subst hj; exact h0
    | 1, hj => simp at hj; subst hj; exact h1
    | 2, hj => simp at hj; subst hj; exact h2
    | 3, hj => simp at hj; subst hj; exact h3
    | j + 4, hj => simp at hj
  · intro u hu
    simp at hu
    rcases hu with rfl | rfl | rfl | rfl <;> rfl
  · intro g' cap' w' hown' hg hat _
    refine h _ _ w' ?_ hg hat
    have e : cells4 (cs ++ [c]) = cells4 cs ++ [.int .i64 c.a, .int .i64 c.b, .int .i64 c.c, .int .i64 c.d] := by simp [cells4]
    unfold OwnC
    rw [e, List.length_append]
    exact hown'
theorem middles_q (q : List Card) (hn : q.length = 4) (hc : areC q) (hd : distC q) (w : World) :
    Calls Try.prog 33 #[qv (cx q 0) (cx q 1) (cx q 2) (cx q 3)] w (RetC w (mdO q)) := by
  have k := fun i (h : i < 4) => hc i (by rw [hn]; exact h)
  have n := fun i j (hi : i < 4) (hj : j < 4) (h : i ≠ j) (e : cx q i = cx q j) => h (hd i j (by rw [hn]; exact hi) (by rw [hn]; exact hj) e)
  exact middles_walk _ _ _ _ (k 0 (by omega)) (k 1 (by omega)) (k 2 (by omega)) (k 3 (by omega)) (midL_dist (k 0 (by omega)) (k 1 (by omega)) (k 2 (by omega)) (k 3 (by omega)) (n 1 2 (by omega) (by omega) (by omega)) (n 1 3 (by omega) (by omega) (by omega)) (n 2 3 (by omega) (by omega) (by omega))) w
theorem l10Middles_q (q : List Card) (hn : q.length = 4) (hc : areC q) (w : World) :
    Calls Try.prog 29 #[(cx q 0).v, (cx q 1).v, (cx q 2).v, (cx q 3).v] w (RetC w (mdO q)) := by
  have k := fun i (h : i < 4) => hc i (by rw [hn]; exact h)
  exact l10Middles_any _ _ _ _ (k 0 (by omega)) (k 1 (by omega)) (k 2 (by omega)) (k 3 (by omega)) w
set_option maxHeartbeats 1000000 in
theorem quad1_any (xs : List Card) (W : World) (c Bh : Nat) (ao : Option Addr) (cap : Nat) (hB : Bh < W.heap.size) (hbox : W.cell? ⟨Bh, 0, none⟩ = some (.slice ao xs.length cap)) (hx : CardsAt W ao xs) (hxl : xs.length ≤ 27) (hc : areC xs) (hd : distC xs)
    (h : List (List Int)) (p : List Int) (r : Option Nat) (w : World) (u : Value) (hp : p ∈ chF xs.length xs.length 4 []) (hhl : h.length ≤ 1000000) (hI : QdI xs W c h r w) (hu : ListAt c r w u p) :
    Calls Try.prog 32 #[u, .pointer (some ⟨Bh, 0, none⟩), .pointer (some ⟨c, 0, none⟩)] w fun e w' => e = .returned (.tuple #[]) ∧ ∃ r', QdI xs W c (h ++ [p]) r' w' ∧ Fr c r r' w w' := by
  obtain ⟨hp6, hpl, hpa⟩ := chF_four hp
  have hlt := hI.lt.1
  obtain ⟨h0, h1, v, h2, h3, h4, h5⟩ := hI
  obtain ⟨bo, bcap, rfl, _, _⟩ := h3.reads
  have hbx := (h0.below.cell (p := ⟨Bh, 0, none⟩) hB).trans hbox
  have hBw : Bh < w.heap.size := Nat.lt_of_lt_of_le hB h0.below.size
  have hxw := hid (hx.kept h0)
  obtain ⟨lg, lo, lcap, rfl, l1, l2, l3, l4, l5⟩ : ∃ g off cap, u = .slice (some ⟨g, off, none⟩) 4 cap ∧ g ≠ c ∧ r ≠ some g ∧ g < w.heap.size ∧ IntsAt w (some ⟨g, off, none⟩) p ∧ 4 ≤ cap := by
    rcases hu with ⟨_, e⟩ | ⟨g, off, cap, e, h⟩
    · rw [e] at hp6; cases hp6
    · rw [hp6] at e h; exact ⟨g, off, cap, e, h⟩
  have hcells := hid (show ∀ w', Kept w w' → w'.cell? ⟨lg, lo, none⟩ = some (.int .i64 (ix p 0)) ∧ w'.cell? ⟨lg, lo + 1, none⟩ = some (.int .i64 (ix p 1)) ∧ w'.cell? ⟨lg, lo + 2, none⟩ = some (.int .i64 (ix p 2)) ∧ w'.cell? ⟨lg, lo + 3, none⟩ = some (.int .i64 (ix p 3)) from fun w' hk => by
    have q := fun i (hi : i < 4) => show w'.cell? ⟨lg, lo + i, none⟩ = some (.int .i64 (ix p i)) from by
      obtain ⟨_, _, he, _, m1⟩ := (l4.kept hk) i (by rw [hp6]; exact hi)
      cases he; exact m1
    exact ⟨q 0 (by omega), q 1 (by omega), q 2 (by omega), q 3 (by omega)⟩)
  have hA := hid (fun w' (hk : Kept w w') => at_any ao cap xs (some ⟨lg, lo, none⟩) lcap 4 p w' hp6 (hxw.out.kept hk) (by omega) (l4.kept hk) (by omega) hpl)
  have hyl := hid (show (pk xs p).length = 4 by rw [pk_len, hp6])
  have hG := hid (fun w' => middles_q (pk xs p) hyl.out (areC_pk hc hpl) (distC_pk hd hpl hpa) w')
  have hnl := qdO_len xs h
  have h0H := hid h0
  have h2H := hid h2
  have h3H := hid h3
  have h5H := hid h5
  have h4H := hid h4
  have hsp : Hid (cdP p = ⟨ix p 0, ix p 1, ix p 2, ix p 3⟩) := hid rfl
  have hgp : Hid (qdP xs p = decide (0 < (mdO (pk xs p)).length)) := hid rfl
  obtain ⟨y, hy⟩ : ∃ y, y = pk xs p := ⟨_, rfl⟩
  rw [← hy] at hA hyl hG hgp
  obtain ⟨M, hM⟩ : ∃ M, M = mdO y := ⟨_, rfl⟩
  rw [← hM] at hG hgp
  clear h0 h2 h3 h5 h4 hu hx hc hd l4 hpl hpa hp6 hp hbox hy hM
  have hAA : ∀ w : World, (Instr.arrayAt 48 (.slice (some ⟨lg, lo, none⟩) 4 lcap)).run Try.prog w = .ok (.pointer (some ⟨lg, lo, none⟩)) w := fun w => run_arrayAt w _ _ 4 _ 4 lcap Try.underlying48 (Nat.le_refl _)
  have hneH := hid (show some c ≠ (Value.slice bo (qdO xs h).length bcap).ownBlock by rw [h4H.out]; exact fun e => h5H.out e.symm)
  go_enter Try.func32, Try.ntmps32
  go_wp2_with (fail)
  (go_at_call 34; refine Calls.mono (hA.out _ (by (try simp only [ext_ext]); repeat (first | exact Kept.refl _ | apply Kept.alloc | apply Kept.drew | apply kept_add | apply Kept.ext))) ?_; rintro e w1 ⟨v1, rfl, ho1, k1⟩)
  obtain ⟨g1, cap1, rfl⟩ := ownC_addr ho1 (by rw [hyl.out]; omega)
  obtain ⟨_, _, hv, hx1, hcap1⟩ := ho1.reads
  cases hv
  have K1 := hid (show Kept w w1 from Kept.trans (by (try simp only [ext_ext]); repeat (first | exact Kept.refl _ | apply Kept.alloc | apply Kept.drew | apply kept_add | apply Kept.ext)) k1)
  obtain ⟨_, _, he0, hg1, a0, b0, c0, d0⟩ := hx1 0 (by rw [hyl.out]; omega)
  cases he0
  obtain ⟨_, _, he1, _, a1, b1, c1, d1⟩ := hx1 1 (by rw [hyl.out]; omega)
  cases he1
  obtain ⟨_, _, he2, _, a2, b2, c2, d2⟩ := hx1 2 (by rw [hyl.out]; omega)
  cases he2
  obtain ⟨_, _, he3, _, a3, b3, c3, d3⟩ := hx1 3 (by rw [hyl.out]; omega)
  cases he3
  rw [hyl.out] at hcap1 ⊢
  simp only [Nat.zero_add, Nat.zero_mul, Nat.one_mul, Nat.reduceMul, Nat.reduceAdd] at a0 b0 c0 d0 a1 b1 c1 d1 a2 b2 c2 d2 a3 b3 c3 d3
  have hAQ : ∀ w : World, (Instr.arrayAt 55 (.slice (some ⟨g1, 0, none⟩) 4 cap1)).run Try.prog w = .ok (.pointer (some ⟨g1, 0, none⟩)) w := fun w => run_arrayAt w _ _ 4 _ 4 cap1 Try.underlying55 (Nat.le_refl _)
  clear hx1 ho1 k1
  go_wp2_with (fail)
  (go_at_call 33; refine Calls.mono (hG.out _) ?_; rintro e w2 ⟨v2, rfl, ho2, k2⟩)
  obtain ⟨ao2, cap2, rfl, _, _⟩ := ho2.reads
  have K2 := hid (K1.out.trans (Kept.trans (by (try simp only [ext_ext]); repeat (first | exact Kept.refl _ | apply Kept.alloc | apply Kept.drew | apply kept_add | apply Kept.ext)) k2))
  obtain ⟨m0, m1, m2, m3⟩ := hcells.out w2 K2.out
  have hb0 := ((K2.out.below.block c hlt).trans h2H.out)
  have hcell := cell_of_row w2 c 0 _ _ (0, 0) hb0
  have hfr := frozen_of_row w2 c 0 _ _ hb0
  simp only [List.getElem?_toArray, List.getElem?_cons_zero] at hcell
  have hcs2 := Nat.lt_of_lt_of_le hlt K2.out.below.size
  have hlg2 := Nat.lt_of_lt_of_le l3 K2.out.below.size
  have hb0H := hid hb0
  clear hb0 k2 hcells hA hG ho2 a0 b0 c0 d0 a1 b1 c1 d1 a2 b2 c2 d2 a3 b3 c3 d3
  cases hgg : qdP xs p with
  | true =>
    have hy := hid (qdO_yes h hgg)
    have hpos : (0 : Int) < (M.length : Int) := by rw [hgp.out] at hgg; have := of_decide_eq_true hgg; omega
    clear hgg
    go_wp2_with (fail)
    go_region_law (first | (refine step_append_cdAt rfl _ _ rfl W.heap.size (.slice bo (qdO xs h).length bcap) (qdO xs h) rfl (h3H.out.kept (K2.out.trans (by (try simp only [ext_ext]); repeat (first | exact Kept.refl _ | apply Kept.alloc | apply Kept.drew | apply kept_add | apply Kept.ext)))) (Kept.below (h0H.out.trans (K2.out.trans (by (try simp only [ext_ext]); repeat (first | exact Kept.refl _ | apply Kept.alloc | apply Kept.drew | apply kept_add | apply Kept.ext))))).size _ _ (cdP p) rfl (cardCells_new (cdP p) (by simp)) (by omega) ?_; intro g1 cap1 w3 hown1 hg1 hat1; have hb1 := (hg1.block c (by simp; omega) hneH.out).trans (((Kept.below (show Kept w2 _ from (by (try simp only [ext_ext]); repeat (first | exact Kept.refl _ | apply Kept.alloc | apply Kept.drew | apply kept_add | apply Kept.ext)))).block c hcs2).trans hb0H.out); have hf1 := frozen_of_row w3 c 0 _ _ hb1; have hc1 := cell_of_row w3 c 0 _ _ (0, 0) hb1; simp only [List.getElem?_toArray, List.getElem?_cons_zero] at hc1))
    all_goals
      go_wp2_with (fail)
      have hgc : g1 ≠ c := by
        rcases hat1 with e | e
        · intro e2; rw [e2] at e; exact hneH.out e.symm
        · intro e2; rw [e2] at e; simp at e; omega
      go_end0
      refine ⟨rfl, some g1, ⟨Kept.setCell ((h0H.out.trans (K2.out.trans (by (try simp only [ext_ext]); repeat (first | exact Kept.refl _ | apply Kept.alloc | apply Kept.drew | apply kept_add | apply Kept.ext)))).grown hg1 fun k hk => (h3H.out.lt k hk).1) h1 _, h1, .slice (some ⟨g1, 0, none⟩) ((qdO xs h).length + 1) cap1, ?_, ?_, rfl, fun e => hgc (Option.some.inj e)⟩, ?_⟩
      · exact heap_setCell_same _ _ _ _ _ _ hb1
      · rw [hy.out]
        exact OwnC.grown hown1 (grown_setCell (grown_refl _ (some c)) (p := ⟨c, 0, none⟩) rfl _) (fun g hg e => by cases hg; exact hgc (Option.some.inj e).symm)
      · rw [h4H.out] at hg1 hat1
        exact fr_store _ (K2.out.trans (by (try simp only [ext_ext]); repeat (first | exact Kept.refl _ | apply Kept.alloc | apply Kept.drew | apply kept_add | apply Kept.ext))) hg1 hat1
  | false =>
    have hy := hid (qdO_no h hgg)
    have hpos : ¬ (0 : Int) < (M.length : Int) := by rw [hgp.out] at hgg; have := of_decide_eq_false hgg; omega
    clear hgg
    go_wp2_with (fail)
    go_end0
    exact ⟨rfl, r, ⟨h0H.out.trans (K2.out.trans (by (try simp only [ext_ext]); repeat (first | exact Kept.refl _ | apply Kept.alloc | apply Kept.drew | apply kept_add | apply Kept.ext))), h1, _, (Kept.below (show Kept w2 _ from (by (try simp only [ext_ext]); repeat (first | exact Kept.refl _ | apply Kept.alloc | apply Kept.drew | apply kept_add | apply Kept.ext)))).block c hcs2 |>.trans hb0H.out, by rw [hy.out]; exact h3H.out.kept (K2.out.trans (by (try simp only [ext_ext]); repeat (first | exact Kept.refl _ | apply Kept.alloc | apply Kept.drew | apply kept_add | apply Kept.ext))), h4H.out, h5H.out⟩, Kept.fr (K2.out.trans (by (try simp only [ext_ext]); repeat (first | exact Kept.refl _ | apply Kept.alloc | apply Kept.drew | apply kept_add | apply Kept.ext)))⟩
end Go.Proofs.Ytenmnipgnjaheaa
