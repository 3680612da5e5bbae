/- Contracts: all lines among cards, found by a table of places. -/
import Derived.Test.YtifkjbihmmdnbaaT13
import Derived.Test.YtifkjbihmmdnbaaT15
namespace Go.Proofs.Ytifkjbihmmdnbaa
open Go.RowKit
theorem isCard_third {x y : Card} (hx : isCard x = true) (hy : isCard y = true) : isCard (thirdC x y) = true := by
  obtain ⟨x1, x2, x3, x4⟩ := isCard_of hx
  obtain ⟨y1, y2, y3, y4⟩ := isCard_of hy
  simp only [isCard, thirdC, thirdT, Bool.and_eq_true]
  exact ⟨⟨⟨inB_t (by omega) (by omega), inB_t (by omega) (by omega)⟩, inB_t (by omega) (by omega)⟩, inB_t (by omega) (by omega)⟩
/-- The table of places, behind the first k cards. -/
def placesF (xs : List Card) : Nat → Nat → Int
  | 0 => fun _ => 0
  | k + 1 => upd (placesF xs k) (numC (cx xs k)).toNat (k + 1)
theorem placesF_next (xs : List Card) (k : Nat) : placesF xs (k + 1) = upd (placesF xs k) (numC (cx xs k)).toNat (k + 1) := rfl
theorem placesF_bd (xs : List Card) (k n : Nat) : 0 ≤ placesF xs k n ∧ placesF xs k n ≤ k := by
  induction k with
  | zero => simp [placesF]
  | succ k ih =>
    rw [placesF_next]
    unfold upd
    split <;> omega
theorem placesF_none {xs : List Card} {n : Nat} : ∀ {k : Nat}, (∀ j, j < k → (numC (cx xs j)).toNat ≠ n) → placesF xs k n = 0
  | 0, _ => rfl
  | k + 1, h => by
    rw [placesF_next]
    unfold upd
    rw [if_neg (fun e => h k (by omega) e.symm)]
    exact placesF_none fun j hj => h j (by omega)
theorem placesF_some {xs : List Card} {n j : Nat} : ∀ {k : Nat}, j < k → (numC (cx xs j)).toNat = n → (∀ i, i < k → (numC (cx xs i)).toNat = n → i = j) → placesF xs k n = j + 1
  | k + 1, hj, he, hu => by
    rw [placesF_next]
    unfold upd
    by_cases hk : n = (numC (cx xs k)).toNat
    · rw [if_pos hk]
      have := hu k (by omega) hk.symm
      subst this; rfl
    · rw [if_neg hk]
      have : j ≠ k := fun e => hk (by rw [← e]; exact he.symm)
      exact placesF_some (by omega) he fun i hi => hu i (by omega)
theorem placesF_place {xs : List Card} (hc : areC xs) (hd : distC xs) {c : Card} (hcc : isCard c = true) : placesF xs xs.length (numC c).toNat = placeC xs c + 1 := by
  have inj : ∀ j, j < xs.length → (numC (cx xs j)).toNat = (numC c).toNat → cx xs j = c := fun j hj he => by
    have h1 := numC_bd (hc j hj)
    have h2 := numC_bd hcc
    rw [← cardN_numC (hc j hj), ← cardN_numC hcc, show numC (cx xs j) = numC c by omega]
  by_cases h : ∃ j, j < xs.length ∧ cx xs j = c
  · obtain ⟨j, hj, he⟩ := h
    rw [placesF_some hj (by rw [he]) fun i hi hn => hd i j hi hj ((inj i hi hn).trans he.symm)]
    rw [placeC_some hj he fun i hi => decide_eq_false fun e => by have := hd i j (by omega) hj (e.trans he.symm); omega]
  · rw [placesF_none fun j hj e => h ⟨j, hj, inj j hj e⟩, placeC_none fun j hj => decide_eq_false fun e => h ⟨j, hj, e⟩]
    rfl
theorem linesIn_any (ao : Option Addr) (cap : Nat) (xs : List Card) (w : World) (hx : CardsAt w ao xs) (hl : xs.length ≤ 81) (hc : areC xs) (hd : distC xs) :
    Calls Try.prog 56 #[.slice ao xs.length cap] w (RetL w (linesC xs)) := by
  go_enter Try.func56, Try.ntmps56
  go_wp2_with (first | refine wpList_tab_build rfl rfl ?_ | refine wpList_tab_alloc rfl rfl ?_ | refine wpList_tab_store rfl _ _ rfl _ _ rfl rfl ?_)
  go_loopw [14] (fun i wr => ∃ k : Nat, k ≤ xs.length ∧ i = .int .i64 k ∧ Kept (w.alloc (.cells (tab 81 (placesF xs k)) 68)) wr) (fun i _ => xs.length - (intOf i).toNat)
  case atStart => exact ⟨0, Nat.zero_le _, rfl, show Kept (w.alloc (.cells (tab 81 fun _ => 0) 68)) _ from (by (try simp only [ext_ext]); repeat (first | exact Kept.refl _ | apply Kept.alloc | apply Kept.drew | apply kept_add | apply Kept.ext))⟩
  case round =>
    obtain ⟨k, hk, rfl, z, rfl⟩ := hrel
    by_cases hlt : k < xs.length
    · obtain ⟨g, off, rfl, hg, h1, h2, h3, h4⟩ := hx k hlt
      have g1 : g < w.heap.size + 1 := by omega
      have g2 : g < w.heap.size + 1 + z.os.length := by omega
      have hck := hc k hlt
      have hnb := numC_bd hck
      have ht := tab_get (n := 81) (placesF xs k) (i := (numC (cx xs k)).toNat) (by omega)
      go_wp2_with (first | (go_at_call 65; refine Calls.mono (number_any _ hck _) ?_; rintro e w' ⟨rfl, y, rfl⟩))
      go_roundw
      case rel => exact ⟨k + 1, hlt, by go_num, by rw [tab_set, placesF_next]; exact (by (try simp only [ext_ext]); repeat (first | exact Kept.refl _ | apply Kept.alloc | apply Kept.drew | apply kept_add | apply Kept.ext))⟩
      case measure => simp [intOf]; omega
    · obtain rfl : k = xs.length := by omega
      go_wp2
      go_loopw [28, 6] (fun i v wr => ∃ k : Nat, k ≤ xs.length ∧ i = .int .i64 k ∧ OwnL (w.heap.size + 1) wr v (linesTo xs k) ∧ Kept (w.alloc (.cells (tab 81 (placesF xs xs.length)) 68)) wr) (fun i _ _ => xs.length - (intOf i).toNat)
      case atStart => exact ⟨0, Nat.zero_le _, rfl, show OwnL _ _ _ [] from ownL_nil (by omega) (heap_at (by simp)), (by (try simp only [ext_ext]); repeat (first | exact Kept.refl _ | apply Kept.alloc | apply Kept.drew | apply kept_add | apply Kept.ext))⟩
      case round =>
        obtain ⟨k, hk, rfl, hown, z, rfl⟩ := hrel
        have hownH := hid hown
        clear hown
        have hlo := linesTo_len xs k hl
        by_cases hlt : k < xs.length
        · obtain ⟨g, off, rfl, hg, h1, h2, h3, h4⟩ := hx k hlt
          have g1 : g < w.heap.size + 1 := by omega
          have g2 : g < w.heap.size + 1 + z.os.length := by omega
          go_wp2
          go_loopw [9, 6] (fun j v wr => ∃ m : Nat, k + 1 + m ≤ xs.length ∧ j = .int .i64 ((k + 1 + m : Nat) : Int) ∧ OwnL (w.heap.size + 1) wr v (linesTo xs k ++ linesMid xs k m) ∧ Kept (w.alloc (.cells (tab 81 (placesF xs xs.length)) 68)) wr ∧ SideC wr v (w.heap.size + 1 + z.os.length) (cx xs k)) (fun j _ _ => xs.length - (intOf j).toNat)
          case atStart => exact ⟨0, hlt, by go_num, by simpa [linesMid] using hownH.out.kept (by (try simp only [ext_ext]); repeat (first | exact Kept.refl _ | apply Kept.alloc | apply Kept.drew | apply kept_add | apply Kept.ext)), (by (try simp only [ext_ext]); repeat (first | exact Kept.refl _ | apply Kept.alloc | apply Kept.drew | apply kept_add | apply Kept.ext)), SideC.new _ hownH.out (by simp)⟩
          case round wr =>
            obtain ⟨m, hm, hj, hown2, hkw, hside⟩ := hrel
            have hown2H := hid hown2
            have hkwH := hid hkw
            have hsideH := hid hside
            clear hown2
            obtain ⟨q, hq⟩ : ∃ q, q = k + 1 + m := ⟨_, rfl⟩
            rw [← hq] at hm hj
            subst hj
            have hqH := hid hq
            have hln : (linesTo xs k ++ linesMid xs k m).length ≤ 1048576 := by
              have := linesMid_len xs k m
              rw [List.length_append]; omega
            have hlnH := hid hln
            clear hln
            by_cases hlt2 : q < xs.length
            · have hxr := hx.kept (((by (try simp only [ext_ext]); repeat (first | exact Kept.refl _ | apply Kept.alloc | apply Kept.drew | apply kept_add | apply Kept.ext)) : Kept w (w.alloc (.cells (tab 81 (placesF xs xs.length)) 68))).trans hkw)
              obtain ⟨g', off', he, hg', p1, p2, p3, p4⟩ := hxr q hlt2
              cases he
              clear hxr
              obtain ⟨s0, ⟨s1, s2, s3, s4⟩, _⟩ := hside
              have hck := hc k hlt
              have hcq := hc q hlt2
              clear hq
              have hct := isCard_third hck hcq
              have hnb := numC_bd hct
              have hpl := placeC_le xs (thirdC (cx xs k) (cx xs q))
              have ht := tab_get (n := 81) (placesF xs xs.length) (i := (numC (thirdC (cx xs k) (cx xs q))).toNat) (by omega)
              rw [placesF_place hc hd hct] at ht
              have hwr : w.heap.size < wr.heap.size := by have := hkw.below.size; simp at this; omega
              have hBw := hid (show w.heap.size + 1 ≤ wr.heap.size by omega)
              have htw : wr.cell? ⟨w.heap.size, (numC (thirdC (cx xs k) (cx xs q))).toNat, none⟩ = some (.int .i64 (placeC xs (thirdC (cx xs k) (cx xs q)) + 1)) := by
                rw [← ht, hkw.below.cell (p := ⟨w.heap.size, _, none⟩) (by simp)]
                exact cell_of_row _ w.heap.size _ _ _ (0, 0) (heap_at rfl)
              clear hkw ht
              have hnx := hid (linesMid_next xs k m)
              have hla : Hid (lineAt xs k q = if (q : Int) < placeC xs (thirdC (cx xs k) (cx xs q)) then [⟨k, q, placeC xs (thirdC (cx xs k) (cx xs q))⟩] else []) := hid rfl
              go_wp2_with (first | (refine wp_region_ext (by kernel_rfl) (by kernel_rfl) ?_; (repeat (go_big_quiet_step (((first | (go_at_call 73; first | exact ext_call (third_any _ _ hck hcq _) | exact ext_call2 (third_any _ _ hck hcq _)) | (go_at_call 65; first | exact ext_call (number_any (thirdC (cx xs k) (cx xs q)) hct _) | exact ext_call2 (number_any (thirdC (cx xs k) (cx xs q)) hct _))))))); refine wpQuiet_end fun z => ?_) | (at_builtin; refine wpList_append_ln_side rfl _ _ rfl (w.alloc (.cells (tab 81 (placesF xs xs.length)) 68)) (w.heap.size + 1) _ _ rfl (hown2H.out.kept (by (try simp only [ext_ext]); repeat (first | exact Kept.refl _ | apply Kept.alloc | apply Kept.drew | apply kept_add | apply Kept.ext))) (hkwH.out.trans (by (try simp only [ext_ext]); repeat (first | exact Kept.refl _ | apply Kept.alloc | apply Kept.drew | apply kept_add | apply Kept.ext))) (by simp) (by simp; omega) _ _ ⟨k, q, placeC xs (thirdC (cx xs k) (cx xs q))⟩ rfl ?_ hlnH.out ?_; rotate_left; intro v' w' hown' hkw' hsd'))
              case refine_1 => exact lnCells_new ⟨_, _, _⟩ (by simp)
              all_goals
                rename_i h
                go_roundw
                case rel =>
                  refine ⟨m + 1, by have := hqH.out; omega, by have := hqH.out; go_num, ?_, ?_, ?_⟩
                  · rw [hnx.out, ← hqH.out, hla.out]
                    first
                    | (rw [if_neg (by omega), List.append_nil]; exact hown2H.out.kept (by (try simp only [ext_ext]); repeat (first | exact Kept.refl _ | apply Kept.alloc | apply Kept.drew | apply kept_add | apply Kept.ext)))
                    | (rw [if_pos (by omega), ← List.append_assoc]; exact hown')
                  · first | exact hkw' | exact hkwH.out.trans (by (try simp only [ext_ext]); repeat (first | exact Kept.refl _ | apply Kept.alloc | apply Kept.drew | apply kept_add | apply Kept.ext))
                  · first | exact hsd' _ _ (hsideH.out.kept (by (try simp only [ext_ext]); repeat (first | exact Kept.refl _ | apply Kept.alloc | apply Kept.drew | apply kept_add | apply Kept.ext))) | exact hsideH.out.kept (by (try simp only [ext_ext]); repeat (first | exact Kept.refl _ | apply Kept.alloc | apply Kept.drew | apply kept_add | apply Kept.ext))
                case measure => simp [intOf]; omega
            · have em : m = xs.length - (k + 1) := by have := hqH.out; omega
              have eo : Hid (linesTo xs (k + 1) = linesTo xs k ++ linesMid xs k m) := hid (by rw [linesTo_next, em])
              clear em hq hside
              go_wp2
              go_roundw
              case rel => exact ⟨k + 1, hlt, by go_num, by rw [eo.out]; exact hown2H.out.kept (by (try simp only [ext_ext]); repeat (first | exact Kept.refl _ | apply Kept.alloc | apply Kept.drew | apply kept_add | apply Kept.ext)), hkwH.out.trans (by (try simp only [ext_ext]); repeat (first | exact Kept.refl _ | apply Kept.alloc | apply Kept.drew | apply kept_add | apply Kept.ext))⟩
              case measure => simp [intOf]; omega
        · obtain rfl : k = xs.length := by omega
          go_wp2
          go_ret
          exact ⟨_, rfl, (hownH.out.kept (by (try simp only [ext_ext]); repeat (first | exact Kept.refl _ | apply Kept.alloc | apply Kept.drew | apply kept_add | apply Kept.ext))).mono (by omega), Kept.trans ((by (try simp only [ext_ext]); repeat (first | exact Kept.refl _ | apply Kept.alloc | apply Kept.drew | apply kept_add | apply Kept.ext)) : Kept w (w.alloc (.cells (tab 81 (placesF xs xs.length)) 68))) (by (try simp only [ext_ext]); repeat (first | exact Kept.refl _ | apply Kept.alloc | apply Kept.drew | apply kept_add | apply Kept.ext))⟩
end Go.Proofs.Ytifkjbihmmdnbaa
