/- Contracts: whether six cards are a ghost. -/
import Derived.Test.YtinoohckfhhbfaaT59
import Derived.Test.YtinoohckfhhbfaaT14
import Derived.Deep.CutRange
import Derived.Deep.RegionHeld
namespace Go.Proofs.Ytinoohckfhhbfaa
open Go.RowKit
theorem areC_mem {xs : List Card} : areC xs ↔ ∀ c, c ∈ xs → isCard c = true := by
  constructor
  · intro h c hc
    obtain ⟨i, hi, rfl⟩ := List.getElem_of_mem hc
    have := h i hi
    rwa [cx_get _ _ hi] at this
  · exact fun h i hi => h _ (cx_mem hi)
theorem areC_erase {xs : List Card} (h : areC xs) (k : Nat) : areC (xs.eraseIdx k) := areC_mem.2 fun c hc => areC_mem.1 h c (List.mem_of_mem_eraseIdx hc)
theorem distC_nodup {xs : List Card} : distC xs ↔ xs.Nodup := by
  constructor
  · intro h
    refine List.pairwise_iff_getElem.2 fun i j hi hj hij e => ?_
    have := h i j hi hj (by rw [cx_get _ _ hi, cx_get _ _ hj, e])
    omega
  · intro h i j hi hj e
    rw [cx_get _ _ hi, cx_get _ _ hj] at e
    rcases Nat.lt_trichotomy i j with h' | h' | h'
    · exact absurd e (List.pairwise_iff_getElem.1 h i j hi hj h')
    · exact h'
    · exact absurd e.symm (List.pairwise_iff_getElem.1 h j i hj hi h')
theorem distC_erase {xs : List Card} (h : distC xs) (k : Nat) : distC (xs.eraseIdx k) := distC_nodup.2 ((distC_nodup.1 h).sublist (List.eraseIdx_sublist xs k))
/-- What is left without the first card and another one. -/
def r4 (h : List Card) (k : Nat) : List Card := (h.eraseIdx k).eraseIdx 0
def oth (r : List Card) (i : Nat) : List Card := (r.eraseIdx 0).eraseIdx (i - 1)
def gh1 (a : Card) (r : List Card) (i : Nat) : Bool := lineC a (thirdC (cx r 0) (cx r i)) (thirdC (cx (oth r i) 0) (cx (oth r i) 1))
def ghT (h : List Card) (k n : Nat) : Bool := (List.range n).any fun i => gh1 (thirdC (cx h 0) (cx h k)) (r4 h k) (i + 1)
def goT (h : List Card) (n : Nat) : Bool := (List.range n).any fun k => ghT h (k + 1) 3
theorem ghT_next (h : List Card) (k n : Nat) : ghT h k (n + 1) = (ghT h k n || gh1 (thirdC (cx h 0) (cx h k)) (r4 h k) (n + 1)) := by simp [ghT, List.range_succ]
theorem goT_next (h : List Card) (n : Nat) : goT h (n + 1) = (goT h n || ghT h (n + 1) 3) := by simp [goT, List.range_succ]
theorem goT_yes {h : List Card} {n m : Nat} (hn : n ≤ m) (e : goT h n = true) : goT h m = true := by
  obtain ⟨k, hk, e⟩ := List.any_eq_true.1 e
  exact List.any_eq_true.2 ⟨k, List.mem_range.2 (by have := List.mem_range.1 hk; omega), e⟩
/-- The cards of the first places but the first one and another. -/
def rstTo (h : List Card) (k i : Nat) : List Card := ((List.range i).filter fun t => decide (t ≠ 0) && decide (t ≠ k)).map (cx h)
theorem rstTo_yes (h : List Card) {k i : Nat} (h0 : 1 ≤ i) (hk : i ≠ k) : rstTo h k (i + 1) = rstTo h k i ++ [cx h i] := by
  simp only [rstTo, List.range_succ, List.filter_append, List.map_append]
  have e : (decide (i ≠ 0) && decide (i ≠ k)) = true := by simp only [Bool.and_eq_true, decide_eq_true_eq]; exact ⟨by omega, hk⟩
  rw [List.filter_cons, if_pos e]
  rfl
theorem rstTo_no (h : List Card) {i : Nat} : rstTo h i (i + 1) = rstTo h i i := by
  simp only [rstTo, List.range_succ, List.filter_append, List.map_append]
  simp
theorem rstTo_len (h : List Card) (k i : Nat) : (rstTo h k i).length ≤ i := by
  have := List.length_filter_le (fun t => decide (t ≠ 0) && decide (t ≠ k)) (List.range i)
  simpa [rstTo] using this
theorem rstTo_all {h : List Card} (hn : h.length = 6) {k : Nat} (h1 : 1 ≤ k) (h6 : k < 6) : rstTo h k 6 = r4 h k := by
  match h, hn with
  | [a, b, c, d, e, f], _ =>
    obtain rfl | rfl | rfl | rfl | rfl : k = 1 ∨ k = 2 ∨ k = 3 ∨ k = 4 ∨ k = 5 := by omega
    all_goals rfl
theorem r4_len {h : List Card} (hn : h.length = 6) {k : Nat} (h1 : 1 ≤ k) (h6 : k < 6) : (r4 h k).length = 4 := by
  have e1 : (h.eraseIdx k).length = 5 := by rw [List.length_eraseIdx, if_pos (by omega)]; omega
  rw [r4, List.length_eraseIdx, if_pos (by omega)]; omega
theorem oth_len {r : List Card} (hn : r.length = 4) {i : Nat} (h1 : 1 ≤ i) (h4 : i < 4) : (oth r i).length = 2 := by
  have e1 : (r.eraseIdx 0).length = 3 := by rw [List.length_eraseIdx, if_pos (by omega)]; omega
  rw [oth, List.length_eraseIdx, if_pos (by omega)]; omega
theorem erase0_at {r : List Card} (hn : r.length = 4) {i : Nat} (h1 : 1 ≤ i) (h4 : i < 4) : cx (r.eraseIdx 0) (i - 1) = cx r i := by
  match r, hn with
  | [a, b, c, d], _ =>
    obtain rfl | rfl | rfl : i = 1 ∨ i = 2 ∨ i = 3 := by omega
    all_goals rfl
theorem dist_ne {xs : List Card} (hd : distC xs) {p m : Nat} (hn : xs.length = m + 1) (hp : p ≤ m) : ∀ j, j ≤ m → j ≠ p → cx xs j ≠ cx xs p := fun j hj hne e => hne (hd j p (by omega) (by omega) e)
theorem cardCells_ext {W : World} {g : Nat} {t : TypeId} (c : Card) (y : More) (h : g = W.heap.size) : CardCells (ext (W.alloc (.cells #[.int .i64 c.a, .int .i64 c.b, .int .i64 c.c, .int .i64 c.d] t)) y) g 0 c :=
  cardCells_kept (cardCells_new c h) (by rw [h]; simp) ⟨y, rfl⟩
set_option maxHeartbeats 4000000 in
set_option maxRecDepth 20000 in
theorem isGhost_any (ao : Option Addr) (cap n6 : Nat) (xs : List Card) (w : World) (hx : CardsAt w ao xs) (h6 : n6 = 6) (hn : xs.length = n6) (hc : areC xs) (hd : distC xs) :
    Calls Try.prog 43 #[.slice ao 6 cap] w fun e w' => e = .returned (.bool (goT xs 5)) ∧ Kept w w' := by
  have hnH := hid (hn.trans h6)
  clear hn h6 n6
  have hcH := hid hc
  have hdH := hid hd
  have hxH := hid hx
  obtain ⟨g, off, rfl, hg, a0, a1, a2, a3⟩ := hx 0 (by rw [hnH.out]; omega)
  simp only [Nat.zero_mul, Nat.add_zero] at a0 a1 a2 a3
  clear hx hc hd
  go_enter Try.func43, Try.ntmps43
  go_wp2
  go_loopw [4, 3] (fun s4 s3 wr => ∃ k : Nat, k ≤ 5 ∧ s4 = .int .i64 ((k + 1 : Nat) : Int) ∧ s3 = .bool (goT xs k) ∧ Kept w wr) (fun s4 _ _ => 6 - (intOf s4).toNat)
  case atStart => exact ⟨0, by omega, rfl, rfl, (by (try simp only [ext_ext]); repeat (first | exact Kept.refl _ | apply Kept.alloc | apply Kept.drew | apply kept_add | apply Kept.ext))⟩
  case round =>
    obtain ⟨k, hk, rfl, rfl, z, rfl⟩ := hrel
    cases hf : goT xs k with
    | true =>
      have e := hid (goT_yes hk hf)
      clear hf
      go_wp2
      all_goals
        go_ret
        exact ⟨ret_of (by rw [e.out]; rfl), (by (try simp only [ext_ext]); repeat (first | exact Kept.refl _ | apply Kept.alloc | apply Kept.drew | apply kept_add | apply Kept.ext))⟩
    | false =>
      by_cases hlt : k < 5
      · have hgoH := hid (goT_next xs k)
        rw [hf] at hgoH
        clear hf
        obtain ⟨_, _, he, _, b0, b1, b2, b3⟩ := hxH.out (k + 1) (by rw [hnH.out]; omega)
        cases he
        go_wp2
        go_loopw [6, 5] (fun s6 s5 wr => ∃ i : Nat, 1 ≤ i ∧ i ≤ 6 ∧ s6 = .int .i64 i ∧ OwnC w.heap.size wr s5 (rstTo xs (k + 1) i) ∧ Kept w wr) (fun s6 _ _ => 6 - (intOf s6).toNat)
        case atStart => exact ⟨1, by omega, by omega, rfl, show OwnC _ _ _ [] from ownC_nil (by simp) (heap_at (by simp)), (by (try simp only [ext_ext]); repeat (first | exact Kept.refl _ | apply Kept.alloc | apply Kept.drew | apply kept_add | apply Kept.ext))⟩
        case round =>
          obtain ⟨i, hi1, hi6, rfl, hown, z, rfl⟩ := hrel
          have hownH := hid hown
          clear hown
          have hlen := hid (rstTo_len xs (k + 1) i)
          by_cases hlt2 : i < 6
          · obtain ⟨_, _, he, _, c0, c1, c2, c3⟩ := hxH.out i (by rw [hnH.out]; omega)
            cases he
            by_cases hik : i = k + 1
            · have hno := hid (rstTo_no xs (i := k + 1))
              subst hik
              go_wp2
              go_roundw
              case rel => exact ⟨k + 1 + 1, by omega, by omega, by go_num, by rw [hno.out]; exact hownH.out.kept (by (try simp only [ext_ext]); repeat (first | exact Kept.refl _ | apply Kept.alloc | apply Kept.drew | apply kept_add | apply Kept.ext)), (by (try simp only [ext_ext]); repeat (first | exact Kept.refl _ | apply Kept.alloc | apply Kept.drew | apply kept_add | apply Kept.ext))⟩
              case measure => simp [intOf]; omega
            · have hyes := hid (rstTo_yes xs hi1 hik)
              have hne : ((i : Int) != (k : Int) + 1) = true := by simp; omega
              have hne2 : ¬ (i : Int) = (k : Int) + 1 := by omega
              go_wp2_with (first | (at_builtin; refine wpList_append_card rfl _ _ rfl w _ _ rfl (hownH.out.kept (by (try simp only [ext_ext]); repeat (first | exact Kept.refl _ | apply Kept.alloc | apply Kept.drew | apply kept_add | apply Kept.ext))) (by (try simp only [ext_ext]); repeat (first | exact Kept.refl _ | apply Kept.alloc | apply Kept.drew | apply kept_add | apply Kept.ext)) _ _ (cx xs i) rfl (cardCells_new _ (by simp)) (by have := hlen.out; omega) ?_; intro v' z' hown'))
              go_roundw
              case rel => exact ⟨i + 1, by omega, by omega, by go_num, by rw [hyes.out]; exact hown', (by (try simp only [ext_ext]); repeat (first | exact Kept.refl _ | apply Kept.alloc | apply Kept.drew | apply kept_add | apply Kept.ext))⟩
              case measure => simp [intOf]; omega
          · obtain rfl : i = 6 := by omega
            have hall := rstTo_all hnH.out (k := k + 1) (by omega) (by omega)
            have hr4 := hid (r4_len hnH.out (k := k + 1) (by omega) (by omega))
            rw [hall] at hownH
            clear hall hlen
            have hcr := hid (areC_erase (areC_erase hcH.out (k + 1)) 0)
            have hdr := hid (distC_erase (distC_erase hdH.out (k + 1)) 0)
            change Hid (areC (r4 xs (k + 1))) at hcr
            change Hid (distC (r4 xs (k + 1))) at hdr
            have hgh := hid (ghT_next xs (k + 1))
            obtain ⟨r, hr⟩ : ∃ r, r = r4 xs (k + 1) := ⟨_, rfl⟩
            rw [← hr] at hownH hr4 hcr hdr hgh
            clear hr
            obtain ⟨g5, cap5, rfl, hcap5⟩ : ∃ g5 cap5, u5 = .slice (some ⟨g5, 0, none⟩) 4 cap5 ∧ 4 ≤ cap5 := by
              have hn := hr4.out
              rcases hownH.out.2 with ⟨_, h0⟩ | ⟨g', cap', cur, e, hb, hg, hc, _⟩
              · omega
              · exact ⟨g', cap', by rw [e, hn], by omega⟩
            have hxr := hid (show CardsAt (ext w z) (some ⟨g5, 0, none⟩) r by
              obtain ⟨_, _, hv, hx, _⟩ := hownH.out.reads
              rw [hr4.out] at hv
              cases hv; exact hx)
            clear hownH
            have hc0 := hcH.out 0 (by rw [hnH.out]; omega)
            have hck := hcH.out (k + 1) (by rw [hnH.out]; omega)
            have hS := hid (fun w' (hk : Kept w w') => show w'.cell? ⟨g, off, none⟩ = some (.int .i64 (cx xs 0).a) ∧ w'.cell? ⟨g, off + 1, none⟩ = some (.int .i64 (cx xs 0).b) ∧ w'.cell? ⟨g, off + 2, none⟩ = some (.int .i64 (cx xs 0).c) ∧ w'.cell? ⟨g, off + 3, none⟩ = some (.int .i64 (cx xs 0).d) ∧ w'.cell? ⟨g, off + (k + 1) * 4, none⟩ = some (.int .i64 (cx xs (k + 1)).a) ∧ w'.cell? ⟨g, off + (k + 1) * 4 + 1, none⟩ = some (.int .i64 (cx xs (k + 1)).b) ∧ w'.cell? ⟨g, off + (k + 1) * 4 + 2, none⟩ = some (.int .i64 (cx xs (k + 1)).c) ∧ w'.cell? ⟨g, off + (k + 1) * 4 + 3, none⟩ = some (.int .i64 (cx xs (k + 1)).d) from ⟨(hk.below.cell (p := ⟨_, _, none⟩) hg).trans a0, (hk.below.cell (p := ⟨_, _, none⟩) hg).trans a1, (hk.below.cell (p := ⟨_, _, none⟩) hg).trans a2, (hk.below.cell (p := ⟨_, _, none⟩) hg).trans a3, (hk.below.cell (p := ⟨_, _, none⟩) hg).trans b0, (hk.below.cell (p := ⟨_, _, none⟩) hg).trans b1, (hk.below.cell (p := ⟨_, _, none⟩) hg).trans b2, (hk.below.cell (p := ⟨_, _, none⟩) hg).trans b3⟩)
            go_upto_region 11 with (fail)
            go_cut [7] from 10 to 74 (fun s7 wx => ∃ g7, s7 = .pointer (some ⟨g7, 0, none⟩) ∧ g7 < wx.heap.size ∧ CardCells wx g7 0 (thirdC (cx xs 0) (cx xs (k + 1))) ∧ Kept (ext w z) wx)
            case first =>
              go_region_held (fun w' => w'.cell? ⟨g, off, none⟩ = some (.int .i64 (cx xs 0).a) ∧ w'.cell? ⟨g, off + 1, none⟩ = some (.int .i64 (cx xs 0).b) ∧ w'.cell? ⟨g, off + 2, none⟩ = some (.int .i64 (cx xs 0).c) ∧ w'.cell? ⟨g, off + 3, none⟩ = some (.int .i64 (cx xs 0).d) ∧ w'.cell? ⟨g, off + (k + 1) * 4, none⟩ = some (.int .i64 (cx xs (k + 1)).a) ∧ w'.cell? ⟨g, off + (k + 1) * 4 + 1, none⟩ = some (.int .i64 (cx xs (k + 1)).b) ∧ w'.cell? ⟨g, off + (k + 1) * 4 + 2, none⟩ = some (.int .i64 (cx xs (k + 1)).c) ∧ w'.cell? ⟨g, off + (k + 1) * 4 + 3, none⟩ = some (.int .i64 (cx xs (k + 1)).d))
                (exact hS.out _ (by (try simp only [ext_ext]); repeat (first | exact Kept.refl _ | apply Kept.alloc | apply Kept.drew | apply kept_add | apply Kept.ext)))
                (first | (go_at_call 60; refine Calls.mono (third_any _ _ hc0 hck _) ?_; rintro e w' ⟨rfl, y, rfl⟩))
              all_goals
                go_wp2_with (fail)
                go_meet
              all_goals first | exact ⟨_, rfl, by simp, cardCells_new _ (by simp), (by (try simp only [ext_ext]); repeat (first | exact Kept.refl _ | apply Kept.alloc | apply Kept.drew | apply kept_add | apply Kept.ext))⟩ | exact ⟨_, rfl, by simp <;> omega, cardCells_ext _ _ (by simp), (by (try simp only [ext_ext]); repeat (first | exact Kept.refl _ | apply Kept.alloc | apply Kept.drew | apply kept_add | apply Kept.ext))⟩
            case rest =>
              obtain ⟨g7, rfl, hg7, hc7, k7⟩ := hcut
              obtain ⟨w7, hw7⟩ : ∃ w7, w7 = wc := ⟨_, rfl⟩
              subst hw7
              have hc7H := hid hc7
              have k7H := hid k7
              have hxr7 := hid (fun w' (hk : Kept w7 w') => hxr.out.kept (k7.trans hk))
              obtain ⟨a, ha⟩ : ∃ a, a = thirdC (cx xs 0) (cx xs (k + 1)) := ⟨_, rfl⟩
              have haC : isCard a = true := by rw [ha]; exact isCard_third hc0 hck
              rw [← ha] at hc7H hgh
              clear hc7 k7 ha hS hxr
              go_wp2
              go_loopw [8, 3] (fun s8 s3 wr => ∃ i : Nat, i ≤ 3 ∧ s8 = .int .i64 ((i + 1 : Nat) : Int) ∧ s3 = .bool (ghT xs (k + 1) i) ∧ Kept w7 wr) (fun s8 _ _ => 4 - (intOf s8).toNat)
              case atStart => exact ⟨0, by omega, rfl, rfl, (by (try simp only [ext_ext]); repeat (first | exact Kept.refl _ | apply Kept.alloc | apply Kept.drew | apply kept_add | apply Kept.ext))⟩
              case round =>
                obtain ⟨i, hi3, rfl, rfl, z, rfl⟩ := hrel
                by_cases hlt3 : i < 3
                · have hghi := hid (hgh.out i)
                  have hx0 := hxr7.out _ (Kept.refl w7)
                  obtain ⟨_, _, he, hg5, c0, c1, c2, c3⟩ := hx0 0 (by rw [hr4.out]; omega)
                  cases he
                  obtain ⟨_, _, he, _, d0, d1, d2, d3⟩ := hx0 (i + 1) (by rw [hr4.out]; omega)
                  cases he
                  simp only [Nat.zero_mul, Nat.add_zero, Nat.zero_add] at c0 c1 c2 c3 d0 d1 d2 d3
                  have hC0 := hcr.out 0 (by rw [hr4.out]; omega)
                  have hCi := hcr.out (i + 1) (by rw [hr4.out]; omega)
                  have hS := hid (fun w' (hk : Kept w7 w') => show w'.cell? ⟨g5, 0, none⟩ = some (.int .i64 (cx r 0).a) ∧ w'.cell? ⟨g5, 1, none⟩ = some (.int .i64 (cx r 0).b) ∧ w'.cell? ⟨g5, 2, none⟩ = some (.int .i64 (cx r 0).c) ∧ w'.cell? ⟨g5, 3, none⟩ = some (.int .i64 (cx r 0).d) ∧ w'.cell? ⟨g5, (i + 1) * 4, none⟩ = some (.int .i64 (cx r (i + 1)).a) ∧ w'.cell? ⟨g5, (i + 1) * 4 + 1, none⟩ = some (.int .i64 (cx r (i + 1)).b) ∧ w'.cell? ⟨g5, (i + 1) * 4 + 2, none⟩ = some (.int .i64 (cx r (i + 1)).c) ∧ w'.cell? ⟨g5, (i + 1) * 4 + 3, none⟩ = some (.int .i64 (cx r (i + 1)).d) from ⟨(hk.below.cell (p := ⟨_, _, none⟩) hg5).trans c0, (hk.below.cell (p := ⟨_, _, none⟩) hg5).trans c1, (hk.below.cell (p := ⟨_, _, none⟩) hg5).trans c2, (hk.below.cell (p := ⟨_, _, none⟩) hg5).trans c3, (hk.below.cell (p := ⟨_, _, none⟩) hg5).trans d0, (hk.below.cell (p := ⟨_, _, none⟩) hg5).trans d1, (hk.below.cell (p := ⟨_, _, none⟩) hg5).trans d2, (hk.below.cell (p := ⟨_, _, none⟩) hg5).trans d3⟩)
                  have e3 : (r.eraseIdx 0).length = 3 := by have := hr4.out; rw [List.length_eraseIdx, if_pos (by omega)]; omega
                  have hdr0 := distC_erase hdr.out 0
                  have hat := erase0_at hr4.out (i := i + 1) (by omega) (by omega)
                  have hW1 := hid (show ∀ w', Kept w7 w' → Calls Try.prog 81 #[.slice (some ⟨g5, 0, none⟩) 4 cap5, (cx r 0).v] w' (RetK w' 3 (r.eraseIdx 0)) from fun (w' : World) (hk : Kept w7 w') => without_any g5 0 cap5 3 0 r (cx r 0) w' hr4.out (by omega) hcap5 (hxr7.out w' hk) (by omega) rfl (dist_ne hdr.out hr4.out (by omega)))
                  have hW2 := hid (show ∀ w' (g8 cap8 : Nat), CardsAt w' (some ⟨g8, 0, none⟩) (r.eraseIdx 0) → 3 ≤ cap8 → Calls Try.prog 81 #[.slice (some ⟨g8, 0, none⟩) 3 cap8, (cx r (i + 1)).v] w' (RetK w' 2 (oth r (i + 1))) from fun (w' : World) (g8 cap8 : Nat) (hx8 : CardsAt w' (some ⟨g8, 0, none⟩) (r.eraseIdx 0)) (h8 : 3 ≤ cap8) => without_any g8 0 cap8 2 i (r.eraseIdx 0) (cx r (i + 1)) w' e3 (by omega) h8 hx8 (by omega) hat (by rw [← hat]; exact dist_ne hdr0 e3 (by omega)))
                  have ho2 := hid (oth_len hr4.out (i := i + 1) (by omega) (by omega))
                  have hoc := hid (areC_erase (areC_erase hcr.out 0) i)
                  change Hid (areC (oth r (i + 1))) at hoc
                  clear e3 hdr0 hat hx0
                  go_upto_region 15 with (fail)
                  go_cut [9] from 41 to 74 (fun s9 wx => ∃ g9 cap9, s9 = .slice (some ⟨g9, 0, none⟩) 2 cap9 ∧ CardsAt wx (some ⟨g9, 0, none⟩) (oth r (i + 1)) ∧ Kept (ext w7 z) wx)
                  case first =>
                    go_region_held (fun w' => w'.cell? ⟨g5, 0, none⟩ = some (.int .i64 (cx r 0).a) ∧ w'.cell? ⟨g5, 1, none⟩ = some (.int .i64 (cx r 0).b) ∧ w'.cell? ⟨g5, 2, none⟩ = some (.int .i64 (cx r 0).c) ∧ w'.cell? ⟨g5, 3, none⟩ = some (.int .i64 (cx r 0).d) ∧ w'.cell? ⟨g5, (i + 1) * 4, none⟩ = some (.int .i64 (cx r (i + 1)).a) ∧ w'.cell? ⟨g5, (i + 1) * 4 + 1, none⟩ = some (.int .i64 (cx r (i + 1)).b) ∧ w'.cell? ⟨g5, (i + 1) * 4 + 2, none⟩ = some (.int .i64 (cx r (i + 1)).c) ∧ w'.cell? ⟨g5, (i + 1) * 4 + 3, none⟩ = some (.int .i64 (cx r (i + 1)).d))
                      (exact hS.out _ (by (try simp only [ext_ext]); repeat (first | exact Kept.refl _ | apply Kept.alloc | apply Kept.drew | apply kept_add | apply Kept.ext)))
                      (first | (go_at_call 81; refine Calls.mono (hW2.out _ g8 cap8 (by first | exact hx8 | (try simp only [ext_ext] at hx8); exact hx8) hcap8) ?_; rintro e w' ⟨g9, cap9, rfl, hx9, hcap9, z9, rfl⟩) | (go_at_call 81; refine Calls.mono (hW1.out _ (by (try simp only [ext_ext]); repeat (first | exact Kept.refl _ | apply Kept.alloc | apply Kept.drew | apply kept_add | apply Kept.ext))) ?_; rintro e w' ⟨g8, cap8, rfl, hx8, hcap8, z8, rfl⟩))
                    all_goals
                      go_wp2_with (fail)
                      go_meet
                    all_goals exact ⟨_, _, rfl, (by first | exact hx9 | (try simp only [ext_ext] at hx9); exact hx9), (by (try simp only [ext_ext]); repeat (first | exact Kept.refl _ | apply Kept.alloc | apply Kept.drew | apply kept_add | apply Kept.ext))⟩
                  case rest =>
                    obtain ⟨g9, cap9, rfl, hx9, k9⟩ := hcut
                    have kw := hid (show Kept w7 wc from Kept.trans (by (try simp only [ext_ext]); repeat (first | exact Kept.refl _ | apply Kept.alloc | apply Kept.drew | apply kept_add | apply Kept.ext)) k9)
                    clear c0 c1 c2 c3 d0 d1 d2 d3
                    obtain ⟨c0, c1, c2, c3, d0, d1, d2, d3⟩ := hS.out wc kw.out
                    obtain ⟨p0, p1, p2, p3⟩ := cardCells_kept hc7H.out hg7 kw.out
                    have s5 := Nat.lt_of_lt_of_le hg5 kw.out.below.size
                    have s7 := Nat.lt_of_lt_of_le hg7 kw.out.below.size
                    obtain ⟨_, _, he, _, q0, q1, q2, q3⟩ := hx9 0 (by rw [ho2.out]; omega)
                    cases he
                    obtain ⟨_, _, he, _, r0, r1, r2, r3⟩ := hx9 1 (by rw [ho2.out]; omega)
                    cases he
                    simp only [Nat.zero_mul, Nat.one_mul, Nat.add_zero, Nat.zero_add, Nat.reduceAdd] at p0 p1 p2 p3 q0 q1 q2 q3 r0 r1 r2 r3
                    have hO0 := hoc.out 0 (by rw [ho2.out]; omega)
                    have hO1 := hoc.out 1 (by rw [ho2.out]; omega)
                    clear hx9 hW1 hW2 hS hxr7 k9
                    obtain ⟨o, ho⟩ : ∃ o, o = oth r (i + 1) := ⟨_, rfl⟩
                    have hgg := hid (show ghT xs (k + 1) (i + 1) = (ghT xs (k + 1) i || lineC a (thirdC (cx r 0) (cx r (i + 1))) (thirdC (cx o 0) (cx o 1))) by rw [ho]; exact hghi.out)
                    rw [← ho] at q0 q1 q2 q3 r0 r1 r2 r3 hO0 hO1
                    clear ho hghi ho2 hoc
                    obtain ⟨A0, hA0⟩ : ∃ A0, A0 = cx r 0 := ⟨_, rfl⟩
                    obtain ⟨Ai, hAi⟩ : ∃ Ai, Ai = cx r (i + 1) := ⟨_, rfl⟩
                    obtain ⟨O0, hO0e⟩ : ∃ O0, O0 = cx o 0 := ⟨_, rfl⟩
                    obtain ⟨O1, hO1e⟩ : ∃ O1, O1 = cx o 1 := ⟨_, rfl⟩
                    rw [← hA0] at c0 c1 c2 c3 hC0 hgg
                    rw [← hAi] at d0 d1 d2 d3 hCi hgg
                    rw [← hO0e] at q0 q1 q2 q3 hO0 hgg
                    rw [← hO1e] at r0 r1 r2 r3 hO1 hgg
                    clear hA0 hAi hO0e hO1e
                    have t1C := isCard_third hC0 hCi
                    cases hfd : ghT xs (k + 1) i with
                    | true =>
                      rw [hfd] at hgg
                      clear hfd
                      go_wp2_with (first | (refine wp_region_ext (by kernel_rfl) (by kernel_rfl) ?_; (repeat (go_big_quiet_step ((fail)))); refine wpQuiet_end fun z => ?_))
                      go_roundw
                      case rel => exact ⟨i + 1, by omega, by go_num, by rw [hgg.out]; rfl, kw.out.trans (by (try simp only [ext_ext]); repeat (first | exact Kept.refl _ | apply Kept.alloc | apply Kept.drew | apply kept_add | apply Kept.ext))⟩
                      case measure => simp [intOf]; omega
                    | false =>
                      rw [hfd] at hgg
                      clear hfd
                      go_wp2_with (first | (refine wp_region_ext (by kernel_rfl) (by kernel_rfl) ?_; (repeat (go_big_quiet_step (((first | (go_at_call 60; first | exact ext_call (third_any _ _ (by assumption) (by assumption) _) | exact ext_call2 (third_any _ _ (by assumption) (by assumption) _)) | (go_at_call 76; first | exact ext_call (isLine_any a (thirdC A0 Ai) (thirdC O0 O1) haC t1C _) | exact ext_call2 (isLine_any a (thirdC A0 Ai) (thirdC O0 O1) haC t1C _))))))); refine wpQuiet_end fun z => ?_))
                      go_roundw
                      case rel => exact ⟨i + 1, by omega, by go_num, by rw [hgg.out]; rfl, kw.out.trans (by (try simp only [ext_ext]); repeat (first | exact Kept.refl _ | apply Kept.alloc | apply Kept.drew | apply kept_add | apply Kept.ext))⟩
                      case measure => simp [intOf]; omega
                · obtain rfl : i = 3 := by omega
                  go_wp2
                  go_roundw
                  case rel => exact ⟨k + 1, by omega, by go_num, by rw [hgoH.out]; rfl, (Kept.trans (by (try simp only [ext_ext]); repeat (first | exact Kept.refl _ | apply Kept.alloc | apply Kept.drew | apply kept_add | apply Kept.ext)) k7H.out).trans (by (try simp only [ext_ext]); repeat (first | exact Kept.refl _ | apply Kept.alloc | apply Kept.drew | apply kept_add | apply Kept.ext))⟩
                  case measure => simp [intOf]; omega
      · obtain rfl : k = 5 := by omega
        have e := hid hf
        clear hf
        go_wp2
        go_ret
        exact ⟨ret_of (by rw [e.out]; rfl), (by (try simp only [ext_ext]); repeat (first | exact Kept.refl _ | apply Kept.alloc | apply Kept.drew | apply kept_add | apply Kept.ext))⟩
end Go.Proofs.Ytinoohckfhhbfaa
