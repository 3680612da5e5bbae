/- Contracts: whether numbers are the first ones, each once (impl.isOrder). -/
import Derived.Test.YtjlaoocomkonhaaT90
import Derived.Test.YtjlaoocomkonhaaT91
import Derived.Test.YtjlaoocomkonhaaC0
import Derived.Shelf.SortM.Plain
import Derived.Shelf.SlicesG.CompactI
import Derived.Sort.OwnSortedInts
namespace Go.Proofs.Ytjlaoocomkonhaa
open Go.RowKit Go.Sort Go.Shelf
/-- The first numbers, each once. -/
def permB (xs : List Int) : Bool := xs.all (fun x => inB x 0 ((xs.length : Int) - 1)) && decide xs.Nodup
theorem keeps_iff {zs : List Int} {j : Nat} (hj : j + 1 < zs.length) : Lib.keeps zs.toArray (j + 1) = true ↔ zs[j + 1] ≠ zs[j]'(by omega) := by
  have e1 : zs.toArray[j + 1]! = zs[j + 1] := by rw [getElem!_pos _ _ (by simpa using hj)]; simp
  have e2 : zs.toArray[j + 1 - 1]! = zs[j]'(by omega) := by rw [show j + 1 - 1 = j by omega, getElem!_pos _ _ (by simp; omega)]; simp
  unfold Lib.keeps
  rw [e1, e2, decide_eq_true_eq]
  constructor
  · rintro (h | h)
    · omega
    · exact h
  · exact .inr
theorem lt_of_adj {zs : List Int} (h : ∀ j, (hj : j + 1 < zs.length) → zs[j]'(by omega) < zs[j + 1]) : zs.Pairwise (· < ·) := by
  have step : ∀ d i, (hi : i + d + 1 < zs.length) → zs[i]'(by omega) < zs[i + d + 1]'hi := by
    intro d
    induction d with
    | zero => intro i hi; exact h i hi
    | succ d ih =>
      intro i hi
      have a := ih i (by omega)
      have b := h (i + d + 1) (by omega)
      exact Int.lt_trans a b
  rw [List.pairwise_iff_getElem]
  intro i j hi hj hij
  obtain ⟨d, rfl⟩ : ∃ d, j = i + d + 1 := ⟨j - i - 1, by omega⟩
  exact step d i hj
theorem compact_full {zs : List Int} (hs : zs.Pairwise (· ≤ ·)) : decide ((Lib.compact zs).length = zs.length) = decide zs.Nodup := by
  apply decide_eq_decide.2
  constructor
  · intro h
    have h1 : ((List.range zs.length).filter (Lib.keeps zs.toArray)).length = (List.range zs.length).length := by
      rw [List.length_range]
      unfold Lib.compact Lib.compactUpTo at h
      rwa [List.length_map] at h
    have hall := List.length_filter_eq_length_iff.1 h1
    have hlt : zs.Pairwise (· < ·) := lt_of_adj fun j hj => by
      have hne := (keeps_iff hj).1 (hall (j + 1) (List.mem_range.2 hj))
      have hle := List.pairwise_iff_getElem.1 hs j (j + 1) (by omega) hj (by omega)
      exact Int.lt_iff_le_and_ne.2 ⟨hle, fun e => hne e.symm⟩
    exact hlt.imp fun h e => by rw [e] at h; omega
  · intro h
    rw [Lib.compact_all]
    intro j hj
    cases j with
    | zero => exact Lib.keeps_lt_one _ 0 (by omega)
    | succ j =>
      refine (keeps_iff hj).2 fun e => ?_
      have := List.pairwise_iff_getElem.1 h j (j + 1) (by omega) hj (by omega)
      exact this e.symm
theorem merge_facts (xs : List Int) : (xs.mergeSort fun x y => decide (x ≤ y)).Perm xs ∧ (xs.mergeSort fun x y => decide (x ≤ y)).Pairwise (· ≤ ·) := by
  refine ⟨List.mergeSort_perm _ _, ?_⟩
  have h := List.pairwise_mergeSort (le := fun x y : Int => decide (x ≤ y)) (by intro a b c; simp; omega) (by intro a b; simp; omega) xs
  exact h.imp fun h => of_decide_eq_true h
theorem values_any (ao : Option Addr) (len cap : Nat) (w : World) :
    Calls Try.prog 72 #[.slice ao len cap] w fun e w' => e = .returned (.func (.func 89) #[] #[.pointer (some ⟨w.heap.size, 0, none⟩)]) ∧ w' = w.alloc (.cells #[.slice ao len cap] 38) := by
  go_enter Try.func72, Try.ntmps72
  go_wp2
  go_ret
  exact ⟨rfl, rfl⟩
theorem sortedI_any (Bs b off cap : Nat) (zs : List Int) (hlen : zs.length ≤ 1048576) (hpos : 0 < zs.length) (w : World) (hBs : Bs < w.heap.size) (hb : b < w.heap.size)
    (hc : w.cell? ⟨Bs, 0, none⟩ = some (.slice (some ⟨b, off, none⟩) zs.length cap)) (hcs : ∀ j, j < zs.length → w.cell? ⟨b, off + j, none⟩ = some (.int .i64 (zs[j]?.getD 0))) :
    Calls Try.prog 71 #[.func (.func 89) #[] #[.pointer (some ⟨Bs, 0, none⟩)]] w fun e w' => ∃ (g cap' : Nat) (ts : List Int), e = .returned (.slice (some ⟨g, 0, none⟩) zs.length cap') ∧ w.heap.size ≤ g ∧ g < w'.heap.size ∧ ts.Perm zs ∧ ts.Pairwise (· ≤ ·) ∧ zs.length ≤ cap' ∧ Holds (Value.int .i64) w' g 0 ts.toArray ∧ Kept w w' := by
  have hA := hid (collect_any Bs b off cap zs hlen hpos w hBs hb hc hcs)
  clear hc hcs
  obtain ⟨hperm, hpw⟩ := merge_facts zs
  obtain ⟨ts, hts⟩ : ∃ ts, ts = zs.mergeSort fun x y => decide (x ≤ y) := ⟨_, rfl⟩
  rw [← hts] at hperm hpw
  have hl : ts.length = zs.length := hperm.length_eq
  have hfin := hid (And.intro hperm (And.intro hpw hl))
  clear hperm hpw hl
  go_enter Try.func71, Try.ntmps71
  go_wp2_with (go_at_call 87; refine Calls.mono hA.out ?_; rintro e w1 ⟨g, cap', rfl, hg, ho, k1⟩)
  obtain ⟨cur, hgb, hcap, hcur, hsz⟩ : ∃ cur, w1.heap[g]? = some (.cells cur 3 (0, 0)) ∧ zs.length ≤ cap' ∧ cur.toList.take zs.length = zs.map (Value.int .i64) ∧ True := by
    rcases ho.2 with ⟨e, _⟩ | ⟨g', cap'', cur, e, hb, hg, hc, hm, hs, ht⟩
    · cases e
    · cases e
      exact ⟨cur, hg, hc, by simpa using ht, trivial⟩
  have hH := holds_of_blockI hgb hcur
  have hgs : g < w1.heap.size := (Array.getElem?_eq_some_iff.1 hgb).1
  have hS := hid (AnyM.slices_Sort_int sortI g 0 cap' zs w1 hH hgs (by omega))
  rw [← hts] at hS
  have hHH := hid hH
  have hgH := hid hg
  have k1H := hid k1
  have hcapH := hid hcap
  clear hH hgb hcur ho hsz hg k1 hcap hts
  go_wp2_with (go_at_call 88; refine Calls.mono hS.out ?_; rintro e w2 ⟨rfl, nn, os, rfl⟩)
  go_ret
  obtain ⟨hperm, hpw, hl⟩ := hfin.out
  refine ⟨g, cap', ts, rfl, hgH.out, ?_, hperm, hpw, hcapH.out, ?_, k1H.out.grown (grownBy_sortedI ts.toArray) (fun k e => by cases e; exact hgH.out)⟩
  · simp [grow]; omega
  · refine holds_grow _ _ _ _ _ _ (by simpa using hgs) ?_
    refine holds_putRow _ _ _ _ zs.toArray _ (holds_ahead _ _ _ _ _ _ hHH.out) (by simp [hl])
theorem isOrder_any (g off cap n : Nat) (xs : List Int) (w : World) (hx : IntsAt w (some ⟨g, off, none⟩) xs) (hn : xs.length = n) (h1 : 1 ≤ n) (hl : n ≤ 1000) :
    Calls Try.prog 61 #[.slice (some ⟨g, off, none⟩) n cap] w fun e w' => e = .returned (.bool (permB xs)) ∧ Kept w w' := by
  have hA := hid (fun w' (hk : Kept w w') => allWithin_any 0 ((n : Int) - 1) (some ⟨g, off, none⟩) cap xs w' (hx.kept hk) (by omega))
  rw [hn] at hA
  have hpb : permB xs = (xs.all (fun x => inB x 0 ((n : Int) - 1)) && decide xs.Nodup) := by unfold permB; rw [hn]
  rw [hpb]
  have hwr : IntKind.i64.wrap ((n : Int) - 1) = (n : Int) - 1 := Go.IntWalk.i64_in _ ⟨by omega, by omega⟩
  obtain ⟨_, _, he, hg, _⟩ := hx 0 (by omega)
  cases he
  have hxH := hid hx
  have hnH := hid hn
  clear hx hn hpb
  cases hall : xs.all (fun x => inB x 0 ((n : Int) - 1)) with
  | false =>
    rw [hall] at hA
    clear hall
    go_enter Try.func61, Try.ntmps61
    go_wp2_with (first | (go_at_call 64; refine Calls.mono (hA.out _ ((by (try simp only [ext_ext]); repeat (first | exact Kept.refl _ | apply Kept.alloc | apply Kept.drew | apply kept_add | apply Kept.ext)))) ?_; rintro e w' ⟨rfl, y, rfl⟩))
    go_ret
    exact ⟨ret_of (by simp), (by (try simp only [ext_ext]); repeat (first | exact Kept.refl _ | apply Kept.alloc | apply Kept.drew | apply kept_add | apply Kept.ext))⟩
  | true =>
    rw [hall] at hA
    clear hall
    have hSo := hid (fun w' (hk : Kept w w') (Bs : Nat) (hBs : Bs < w'.heap.size) (hc : w'.cell? ⟨Bs, 0, none⟩ = some (.slice (some ⟨g, off, none⟩) xs.length cap)) => sortedI_any Bs g off cap xs (by rw [hnH.out]; omega) (by rw [hnH.out]; omega) w' hBs (Nat.lt_of_lt_of_le hg hk.below.size) hc (fun j hj => by
      obtain ⟨_, _, he, _, h⟩ := (hxH.out.kept hk) j hj
      cases he
      rw [h, ix_get _ _ hj]; simp [hj]))
    rw [hnH.out] at hSo
    go_enter Try.func61, Try.ntmps61
    go_wp2_with (first | (go_at_call 64; refine Calls.mono (hA.out _ ((by (try simp only [ext_ext]); repeat (first | exact Kept.refl _ | apply Kept.alloc | apply Kept.drew | apply kept_add | apply Kept.ext)))) ?_; rintro e w' ⟨rfl, y, rfl⟩) | (go_at_call 72; refine Calls.mono (values_any _ _ _ _) ?_; rintro e w' ⟨rfl, rfl⟩))
    (go_at_call 71; refine Calls.mono (hSo.out _ (by (try simp only [ext_ext]); repeat (first | exact Kept.refl _ | apply Kept.alloc | apply Kept.drew | apply kept_add | apply Kept.ext)) _ (by simp) (cell_of_row _ _ 0 _ _ (0, 0) (heap_at (by simp)))) ?_; rintro e w2 ⟨g2, cap2, ts, rfl, hg2, hg2s, hperm, hpw, hcap2, hH, k2⟩)
    have hlt : ts.length = n := by rw [hperm.length_eq, hnH.out]
    have hK2 := hid (show Kept w w2 from Kept.trans (by (try simp only [ext_ext]); repeat (first | exact Kept.refl _ | apply Kept.alloc | apply Kept.drew | apply kept_add | apply Kept.ext)) k2)
    have hg2H := hid (show w.heap.size ≤ g2 by have := (show Kept w _ from (by (try simp only [ext_ext]); repeat (first | exact Kept.refl _ | apply Kept.alloc | apply Kept.drew | apply kept_add | apply Kept.ext))).below.size; simp at hg2; omega)
    have hC := hid (AnyG.slices_Compact_int compI g2 0 cap2 ts w2 hH (by omega) (by omega))
    rw [hlt] at hC
    have hcf := compact_full hpw
    rw [hlt] at hcf
    have hnd : decide ts.Nodup = decide xs.Nodup := decide_eq_decide.2 hperm.nodup_iff
    have hres := hid (show decide ((Lib.compact ts).length = n) = decide xs.Nodup by rw [hcf, hnd])
    clear hcf hnd hH hperm hpw k2 hg2 hSo hlt
    obtain ⟨q, hq⟩ : ∃ q, q = (Lib.compact ts).length := ⟨_, rfl⟩
    rw [← hq] at hres
    have hqH := hid hq
    go_wp2_with (go_at_call 70; refine Calls.mono hC.out ?_; rintro e w3 ⟨rfl, nn, rfl⟩)
    go_ret
    refine ⟨ret_of (congrArg Value.bool ?_), ?_⟩
    · rw [Bool.true_and, ← hres.out, hqH.out, Bool.eq_iff_iff]
      simp only [beq_iff_eq, decide_eq_true_eq]
      omega
    · refine hK2.out.grown (row := some g2) ?_ (fun k e => by cases e; exact hg2H.out)
      have := grownBy_sortedI (w := w2) (g := g2) (n := nn) (os := #[]) (Lib.compact ts ++ List.replicate (n - (Lib.compact ts).length) 0).toArray
      rw [show ∀ w : World, grow w #[] = w from fun w => by cases w; simp [grow]] at this
      exact this
end Go.Proofs.Ytjlaoocomkonhaa
