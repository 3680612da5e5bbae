/- Walk: the law of QuadsIn. -/
import Derived.Test.YtenmnipgnjaheaaT99
import Derived.Test.YtenmnipgnjaheaaT28
import Derived.Test.YtenmnipgnjaheaaT18
import Derived.Deep.CutRange
namespace Go.Proofs.Ytenmnipgnjaheaa
open Go.RowKit
def twB (xs : List Card) : Bool := isHand xs && decide (xs.length ≤ 12)
theorem twB_of {xs : List Card} (h : twB xs = true) : isHand xs = true ∧ xs.length ≤ 12 := by simpa [twB] using h
abbrev qdAll (xs : List Card) : List (List Int) := chF xs.length xs.length 4 []
theorem qdAll_len {xs : List Card} (h : xs.length ≤ 12) : (qdAll xs).length ≤ 4096 := by
  have h1 := chF_pow xs.length xs.length 4 []
  have h2 : (2 : Nat) ^ xs.length ≤ 2 ^ 12 := Nat.pow_le_pow_right (by omega) h
  have h3 : (2 : Nat) ^ 12 = 4096 := by decide
  show (chF xs.length xs.length 4 []).length ≤ 4096
  omega
theorem iQuadsIn_no (ao : Option Addr) (cap : Nat) (xs : List Card) (w : World) (hx : CardsAt w ao xs) (hl : xs.length ≤ 1048576) (h : twB xs = false) :
    Calls Try.prog 10 #[.slice ao xs.length cap] w (RetCT w false []) := by
  cases hh : isHand xs with
  | false =>
    go_enter Try.func10, Try.ntmps10
    go_wp2_with (first | (go_at_call 30; refine Calls.mono (IsHand_any _ _ _ _ (by first | assumption | exact CardsAt.kept (by assumption) (by (try simp only [ext_ext]); repeat (first | exact Kept.refl _ | apply Kept.alloc | apply Kept.drew | apply kept_add | apply Kept.ext))) hl) ?_; rintro e w' ⟨rfl, y, rfl⟩))
    refine bodyPost_ret (v := .tuple #[.slice none 0 0, .bool false]) (by simp [results, Try.results10, go_sem]) rfl ?_
    exact ⟨_, rfl, ownC_none _ _, (by (try simp only [ext_ext]); repeat (first | exact Kept.refl _ | apply Kept.alloc | apply Kept.drew | apply kept_add | apply Kept.ext))⟩
  | true =>
    have h10 : ¬ xs.length ≤ 12 := by simpa [twB, hh] using h
    have hgt : (12 : Int) < (xs.length : Int) := by omega
    go_enter Try.func10, Try.ntmps10
    go_wp2_with (first | (go_at_call 30; refine Calls.mono (IsHand_any _ _ _ _ (by first | assumption | exact CardsAt.kept (by assumption) (by (try simp only [ext_ext]); repeat (first | exact Kept.refl _ | apply Kept.alloc | apply Kept.drew | apply kept_add | apply Kept.ext))) hl) ?_; rintro e w' ⟨rfl, y, rfl⟩))
    refine bodyPost_ret (v := .tuple #[.slice none 0 0, .bool false]) (by simp [results, Try.results10, go_sem]) rfl ?_
    exact ⟨_, rfl, ownC_none _ _, (by (try simp only [ext_ext]); repeat (first | exact Kept.refl _ | apply Kept.alloc | apply Kept.drew | apply kept_add | apply Kept.ext))⟩
theorem sQuadsIn_no (ao : Option Addr) (cap : Nat) (xs : List Card) (w : World) (hx : CardsAt w ao xs) (hl : xs.length ≤ 1048576) (h : twB xs = false) :
    Calls Try.prog 8 #[.slice ao xs.length cap] w (RetCT w false []) := by
  cases hh : isHand xs with
  | false =>
    go_enter Try.func8, Try.ntmps8
    go_wp2_with (first | (go_at_call 28; refine Calls.mono (l2Hand_any _ _ _ _ (by first | assumption | exact CardsAt.kept (by assumption) (by (try simp only [ext_ext]); repeat (first | exact Kept.refl _ | apply Kept.alloc | apply Kept.drew | apply kept_add | apply Kept.ext))) hl) ?_; rintro e w' ⟨rfl, y, rfl⟩))
    refine bodyPost_ret (v := .tuple #[.slice (some ⟨w.heap.size, 0, none⟩) 0 0, .bool false]) (by simp [results, Try.results8, go_sem]) rfl ?_
    exact ⟨_, rfl, ownC_nil (Nat.le_refl _) ((ext_heap _ _ _ (by simp)).trans (heap_at rfl)), (by (try simp only [ext_ext]); repeat (first | exact Kept.refl _ | apply Kept.alloc | apply Kept.drew | apply kept_add | apply Kept.ext))⟩
  | true =>
    have h10 : ¬ xs.length ≤ 12 := by simpa [twB, hh] using h
    have hgt : (12 : Int) < (xs.length : Int) := by omega
    go_enter Try.func8, Try.ntmps8
    go_wp2_with (first | (go_at_call 28; refine Calls.mono (l2Hand_any _ _ _ _ (by first | assumption | exact CardsAt.kept (by assumption) (by (try simp only [ext_ext]); repeat (first | exact Kept.refl _ | apply Kept.alloc | apply Kept.drew | apply kept_add | apply Kept.ext))) hl) ?_; rintro e w' ⟨rfl, y, rfl⟩))
    refine bodyPost_ret (v := .tuple #[.slice (some ⟨w.heap.size, 0, none⟩) 0 0, .bool false]) (by simp [results, Try.results8, go_sem]) rfl ?_
    exact ⟨_, rfl, ownC_nil (Nat.le_refl _) ((ext_heap _ _ _ (by simp)).trans (heap_at rfl)), (by (try simp only [ext_ext]); repeat (first | exact Kept.refl _ | apply Kept.alloc | apply Kept.drew | apply kept_add | apply Kept.ext))⟩
set_option maxHeartbeats 1000000 in
theorem iQuadsIn_yes (ao : Option Addr) (cap : Nat) (xs : List Card) (w : World) (hx : CardsAt w ao xs) (hg : twB xs = true) :
    Calls Try.prog 10 #[.slice ao xs.length cap] w (RetCT w true (qdO xs (qdAll xs))) := by
  obtain ⟨hh, h10⟩ := twB_of hg
  have hl27 : xs.length ≤ 27 := by omega
  have hc := areC_hand hh
  have hd := distC_hand hh
  have hlen := qdAll_len h10
  have hH := hid (fun w' (hk : Kept w w') => IsHand_any ao cap xs w' (hx.kept hk) (by omega))
  rw [hh] at hH
  have hgt : ¬ (12 : Int) < (xs.length : Int) := by omega
  obtain ⟨W, hW⟩ : ∃ W, W = w.alloc (.cells #[.slice ao xs.length cap] 22) := ⟨_, rfl⟩
  have kW : Kept w W := by rw [hW]; exact (by (try simp only [ext_ext]); repeat (first | exact Kept.refl _ | apply Kept.alloc | apply Kept.drew | apply kept_add | apply Kept.ext))
  have hWs := hid (show W.heap.size = w.heap.size + 1 by rw [hW]; simp)
  have hWc := hid (show W.cell? ⟨w.heap.size, 0, none⟩ = some (.slice ao xs.length cap) by rw [hW]; simp [go_sem])
  have hxW := hid (hx.kept kW)
  have kWH := hid kW
  have hWH := hid hW
  clear hx hW kW
  go_enter Try.func10, Try.ntmps10
  go_wp2_with (first | (go_at_call 30; refine Calls.mono (hH.out _ (by (try simp only [ext_ext]); repeat (first | exact Kept.refl _ | apply Kept.alloc | apply Kept.drew | apply kept_add | apply Kept.ext)) ) ?_; rintro e w' ⟨rfl, y, rfl⟩))
  rw [← hWH.out]
  have hsz := hWs.out
  have hI : QdI xs W (w.heap.size + 1 + y.os.length + 1) [] (some (w.heap.size + 1 + y.os.length)) (((ext W y).alloc (.cells #[] 48)).alloc (.cells #[.slice (some ⟨w.heap.size + 1 + y.os.length, 0, none⟩) 0 0] 22)) := by
    refine ⟨(by (try simp only [ext_ext]); repeat (first | exact Kept.refl _ | apply Kept.alloc | apply Kept.drew | apply kept_add | apply Kept.ext)), by omega, .slice (some ⟨w.heap.size + 1 + y.os.length, 0, none⟩) 0 0, heap_at (by simp [hsz]), ?_, rfl, fun e => by have := Option.some.inj e; omega⟩
    exact ownC_nil (by omega) (heap_past (by simp [hsz]) (heap_at (by simp [hsz])))
  have hIH := hid hI
  clear hI hsz
  go_wp2_with (fail)
  (go_at_call 31; refine Calls.mono (choices_QI (w.heap.size + 1 + y.os.length + 1) _ _ (qdAll xs) (QdI xs W (w.heap.size + 1 + y.os.length + 1)) (fun h r w w' H hk => H.kept hk) (fun h r w H => H.lt) (fun h p r w' u hp H hu => quad1_any xs W _ w.heap.size ao cap (by have := hWs.out; omega) hWc.out hxW.out hl27 hc hd h p r w' u (pre_mem hp) (by have := pre_len hp; omega) H hu) xs.length (by omega) 4 [] [] [] (some (w.heap.size + 1 + y.os.length)) _ _ 4 rfl (by simp) (fun i hi => by simp at hi) (by simp [fromL]) hIH.out (.inl ⟨rfl, rfl⟩)) ?_; rintro e w2 ⟨rfl, r2, hI2, _⟩)
  obtain ⟨k2, _, v2, h3, h4, _⟩ := hI2
  have hcell := cell_of_row w2 (w.heap.size + 1 + y.os.length + 1) 0 _ _ (0, 0) h3
  simp only [List.getElem?_toArray, List.getElem?_cons_zero] at hcell
  have h4H := hid (show OwnC W.heap.size w2 v2 (qdO xs (qdAll xs)) by simpa [fromL] using h4)
  clear h4 h3
  go_wp2_with (fail)
  refine bodyPost_ret (v := .tuple #[v2, .bool true]) (by simp [results, Try.results10, go_sem]) rfl ?_
  exact ⟨_, rfl, h4H.out.mono (by have := hWs.out; omega), kWH.out.trans k2⟩
set_option maxHeartbeats 4000000 in
set_option maxRecDepth 20000 in
theorem sQuadsIn_yes (ao : Option Addr) (cap : Nat) (xs : List Card) (w : World) (hx : CardsAt w ao xs) (hcap : xs.length ≤ cap) (hg : twB xs = true) :
    Calls Try.prog 8 #[.slice ao xs.length cap] w (RetCT w true (qdO xs (qdAll xs))) := by
  obtain ⟨hh, h10⟩ := twB_of hg
  have hc := areC_hand hh
  have hlen := qdAll_len h10
  have hH := hid (fun w' (hk : Kept w w') => l2Hand_any ao cap xs w' (hx.kept hk) (by omega))
  rw [hh] at hH
  have hgt : ¬ (12 : Int) < (xs.length : Int) := by omega
  obtain ⟨TOT, hTOT⟩ : ∃ T, T = qdO xs (qdAll xs) := ⟨_, rfl⟩
  have hTl : TOT.length ≤ 4096 := by rw [hTOT]; exact Nat.le_trans (qdO_len xs _) hlen
  rw [← hTOT]
  have hTOTH := hid hTOT
  have hTH := hid hTl
  have hxH := hid (fun w' (hk : Kept w w') => hx.kept hk)
  have hcH := hid hc
  obtain ⟨n, hn⟩ : ∃ n, n = xs.length := ⟨_, rfl⟩
  change TOT = qdO xs (chF xs.length xs.length 4 []) at hTOT
  rw [← hn] at hTOT hH h10 hgt hcap ⊢
  have hT0 := hid hTOT
  have hnH := hid hn
  clear hx hTOT hc hTl hg hh hlen hn hTOTH
  go_enter Try.func8, Try.ntmps8
  go_wp2_with (first | (go_at_call 28; refine Calls.mono (hH.out _ (by (try simp only [ext_ext]); repeat (first | exact Kept.refl _ | apply Kept.alloc | apply Kept.drew | apply kept_add | apply Kept.ext)) ) ?_; rintro e w' ⟨rfl, y, rfl⟩))
  have ho0 := hid (show OwnC w.heap.size (ext (w.alloc (.cells #[] T4)) y) (.slice (some ⟨w.heap.size, 0, none⟩) 0 0) [] from ownC_nil (Nat.le_refl _) ((ext_heap _ _ _ (by simp)).trans (heap_at rfl)))
  go_loopw [5, 4] (fun a u wr => ∃ i : Nat, i ≤ n ∧ a = .int .i64 (i : Int) ∧ ∃ out, OwnC w.heap.size wr u out ∧ (out ++ qdO xs (chF n (n - i) 4 ([] : List Int))) = TOT ∧ Kept w wr) (fun a _ _ => n - (intOf a).toNat)
  case atStart => exact ⟨0, Nat.zero_le _, rfl, [], ho0.out.kept (by (try simp only [ext_ext]); repeat (first | exact Kept.refl _ | apply Kept.alloc | apply Kept.drew | apply kept_add | apply Kept.ext)), by rw [hT0.out]; rfl, (by (try simp only [ext_ext]); repeat (first | exact Kept.refl _ | apply Kept.alloc | apply Kept.drew | apply kept_add | apply Kept.ext))⟩
  case round =>
    obtain ⟨w0, hw0⟩ : ∃ w0, w0 = wr := ⟨_, rfl⟩
    subst hw0
    obtain ⟨i, hi, rfl, o0, ho0, hrem0, hk0⟩ := hrel
    have ho0H := hid ho0
    have hrem0H := hid hrem0
    have hk0H := hid hk0
    have hlo0 : o0.length ≤ 4096 := by have := hTH.out; rw [← hrem0] at this; simp at this; omega
    obtain ⟨ao0, cap0, rfl, _, _⟩ := ho0.reads
    by_cases hlt0 : i < n
    · have i1 : i + 1 ≤ n := hlt0
      obtain ⟨R1, hR1⟩ : ∃ R, R = qdO xs (chF n (n - (i + 1)) 4 ([] : List Int)) := ⟨_, rfl⟩
      have hr1H := hid (show (o0 ++ qdO xs (chF n (n - (i + 1)) 3 [(i : Int)])) ++ R1 = TOT by
        have e : chF n (n - i) 4 ([] : List Int) = chF n (n - (i + 1)) 3 [(i : Int)] ++ chF n (n - (i + 1)) 4 ([] : List Int) := chF_at hlt0 3 ([] : List Int)
        rw [hR1, ← hrem0, e, qdO_app]; simp only [List.append_assoc])
      have hR1H := hid hR1
      clear ho0 hrem0 hk0 hR1
      go_wp2
      go_loopw [6, 4] (fun a u wr => ∃ j : Nat, i + 1 ≤ j ∧ j ≤ n ∧ a = .int .i64 (j : Int) ∧ ∃ out, OwnC w.heap.size wr u out ∧ (out ++ qdO xs (chF n (n - j) 3 [(i : Int)])) ++ R1 = TOT ∧ Kept w wr) (fun a _ _ => n - (intOf a).toNat)
      case atStart => exact ⟨i + 1, Nat.le_refl _, i1, by go_num, o0, ho0H.out.kept (by (try simp only [ext_ext]); repeat (first | exact Kept.refl _ | apply Kept.alloc | apply Kept.drew | apply kept_add | apply Kept.ext)), hr1H.out, hk0H.out.trans (by (try simp only [ext_ext]); repeat (first | exact Kept.refl _ | apply Kept.alloc | apply Kept.drew | apply kept_add | apply Kept.ext))⟩
      case round =>
        obtain ⟨w1, hw1⟩ : ∃ w1, w1 = wr := ⟨_, rfl⟩
        subst hw1
        obtain ⟨j, hlj, hj, rfl, o1, ho1, hrem1, hk1⟩ := hrel
        have ho1H := hid ho1
        have hrem1H := hid hrem1
        have hk1H := hid hk1
        have hlo1 : o1.length ≤ 4096 := by have := hTH.out; rw [← hrem1] at this; simp at this; omega
        obtain ⟨ao1, cap1, rfl, _, _⟩ := ho1.reads
        by_cases hlt1 : j < n
        · have j1 : j + 1 ≤ n := hlt1
          obtain ⟨R2, hR2⟩ : ∃ R, R = qdO xs (chF n (n - (j + 1)) 3 [(i : Int)]) ++ R1 := ⟨_, rfl⟩
          have hr2H := hid (show (o1 ++ qdO xs (chF n (n - (j + 1)) 2 [(i : Int), (j : Int)])) ++ R2 = TOT by
            have e : chF n (n - j) 3 [(i : Int)] = chF n (n - (j + 1)) 2 [(i : Int), (j : Int)] ++ chF n (n - (j + 1)) 3 [(i : Int)] := chF_at hlt1 2 [(i : Int)]
            rw [hR2, ← hrem1, e, qdO_app]; simp only [List.append_assoc])
          have hR2H := hid hR2
          clear ho1 hrem1 hk1 hR2
          go_wp2
          go_loopw [7, 4] (fun a u wr => ∃ k : Nat, j + 1 ≤ k ∧ k ≤ n ∧ a = .int .i64 (k : Int) ∧ ∃ out, OwnC w.heap.size wr u out ∧ (out ++ qdO xs (chF n (n - k) 2 [(i : Int), (j : Int)])) ++ R2 = TOT ∧ Kept w wr) (fun a _ _ => n - (intOf a).toNat)
          case atStart => exact ⟨j + 1, Nat.le_refl _, j1, by go_num, o1, ho1H.out.kept (by (try simp only [ext_ext]); repeat (first | exact Kept.refl _ | apply Kept.alloc | apply Kept.drew | apply kept_add | apply Kept.ext)), hr2H.out, hk1H.out.trans (by (try simp only [ext_ext]); repeat (first | exact Kept.refl _ | apply Kept.alloc | apply Kept.drew | apply kept_add | apply Kept.ext))⟩
          case round =>
            obtain ⟨w2, hw2⟩ : ∃ w2, w2 = wr := ⟨_, rfl⟩
            subst hw2
            obtain ⟨k, hlk, hk, rfl, o2, ho2, hrem2, hk2⟩ := hrel
            have ho2H := hid ho2
            have hrem2H := hid hrem2
            have hk2H := hid hk2
            have hlo2 : o2.length ≤ 4096 := by have := hTH.out; rw [← hrem2] at this; simp at this; omega
            obtain ⟨ao2, cap2, rfl, _, _⟩ := ho2.reads
            by_cases hlt2 : k < n
            · have k1 : k + 1 ≤ n := hlt2
              obtain ⟨R3, hR3⟩ : ∃ R, R = qdO xs (chF n (n - (k + 1)) 2 [(i : Int), (j : Int)]) ++ R2 := ⟨_, rfl⟩
              have hr3H := hid (show (o2 ++ qdO xs (chF n (n - (k + 1)) 1 [(i : Int), (j : Int), (k : Int)])) ++ R3 = TOT by
                have e : chF n (n - k) 2 [(i : Int), (j : Int)] = chF n (n - (k + 1)) 1 [(i : Int), (j : Int), (k : Int)] ++ chF n (n - (k + 1)) 2 [(i : Int), (j : Int)] := chF_at hlt2 1 [(i : Int), (j : Int)]
                rw [hR3, ← hrem2, e, qdO_app]; simp only [List.append_assoc])
              have hR3H := hid hR3
              clear ho2 hrem2 hk2 hR3
              go_wp2
              go_loopw [8, 4] (fun a u wr => ∃ l : Nat, k + 1 ≤ l ∧ l ≤ n ∧ a = .int .i64 (l : Int) ∧ ∃ out, OwnC w.heap.size wr u out ∧ (out ++ qdO xs (chF n (n - l) 1 [(i : Int), (j : Int), (k : Int)])) ++ R3 = TOT ∧ Kept w wr) (fun a _ _ => n - (intOf a).toNat)
              case atStart => exact ⟨k + 1, Nat.le_refl _, k1, by go_num, o2, ho2H.out.kept (by (try simp only [ext_ext]); repeat (first | exact Kept.refl _ | apply Kept.alloc | apply Kept.drew | apply kept_add | apply Kept.ext)), hr3H.out, hk2H.out.trans (by (try simp only [ext_ext]); repeat (first | exact Kept.refl _ | apply Kept.alloc | apply Kept.drew | apply kept_add | apply Kept.ext))⟩
              case round =>
                obtain ⟨w3, hw3⟩ : ∃ w3, w3 = wr := ⟨_, rfl⟩
                subst hw3
                obtain ⟨l, hll, hl, rfl, o3, ho3, hrem3, hk3⟩ := hrel
                have ho3H := hid ho3
                have hrem3H := hid hrem3
                have hk3H := hid hk3
                have hlo3 : o3.length ≤ 4096 := by have := hTH.out; rw [← hrem3] at this; simp at this; omega
                obtain ⟨ao3, cap3, rfl, _, _⟩ := ho3.reads
                by_cases hlt3 : l < n
                · have hx3 := hxH.out w3 hk3
                  have hni := hnH.out
                  obtain ⟨g, off, rfl, hg, a1, a2, a3, a4⟩ := hx3 i (by omega)
                  obtain ⟨_, _, e1, _, b1, b2, b3, b4⟩ := hx3 j (by omega)
                  cases e1
                  obtain ⟨_, _, e2, _, c1, c2, c3, c4⟩ := hx3 k (by omega)
                  cases e2
                  obtain ⟨_, _, e3, _, d1, d2, d3, d4⟩ := hx3 l (by omega)
                  cases e3
                  have hM := hid (fun w' => show Calls Try.prog 29 #[(cx xs i).v, (cx xs j).v, (cx xs k).v, (cx xs l).v] w' (RetC w' (mdO (pk xs [(i : Int), (j : Int), (k : Int), (l : Int)]))) from l10Middles_any _ _ _ _ (hcH.out i (by omega)) (hcH.out j (by omega)) (hcH.out k (by omega)) (hcH.out l (by omega)) w')
                  have hqd : qdP xs [(i : Int), (j : Int), (k : Int), (l : Int)] = decide (0 < (mdO (pk xs [(i : Int), (j : Int), (k : Int), (l : Int)])).length) := rfl
                  obtain ⟨M, hMM⟩ : ∃ M, M = mdO (pk xs [(i : Int), (j : Int), (k : Int), (l : Int)]) := ⟨_, rfl⟩
                  rw [← hMM] at hM hqd
                  have i0 : (i : Int) < (n : Int) := by omega
                  have j0 : (j : Int) < (n : Int) := by omega
                  have k0 : (k : Int) < (n : Int) := by omega
                  have l0 : (l : Int) < (n : Int) := by omega
                  have i9 : i < n := by omega
                  have j9 : j < n := by omega
                  have k9 : k < n := by omega
                  have ee : chF n (n - l) 1 [(i : Int), (j : Int), (k : Int)] = [[(i : Int), (j : Int), (k : Int), (l : Int)]] ++ chF n (n - (l + 1)) 1 [(i : Int), (j : Int), (k : Int)] := by
                    have e := chF_at hlt3 0 [(i : Int), (j : Int), (k : Int)]
                    rw [chF_zero] at e
                    exact e
                  rw [ee, qdO_app] at hrem3
                  clear hx3 hMM ee ho3 hk3 hni
                  cases hq : qdP xs [(i : Int), (j : Int), (k : Int), (l : Int)] with
                  | true =>
                    have hone : qdO xs [[(i : Int), (j : Int), (k : Int), (l : Int)]] = [⟨(i : Int), (j : Int), (k : Int), (l : Int)⟩] := by simp only [qdO, List.filter_cons, hq, if_true, List.filter_nil, List.map_cons, List.map_nil]; rfl
                    have hnx := hid (show ((o3 ++ [(⟨(i : Int), (j : Int), (k : Int), (l : Int)⟩ : Card)]) ++ qdO xs (chF n (n - (l + 1)) 1 [(i : Int), (j : Int), (k : Int)])) ++ R3 = TOT by rw [← hrem3, hone]; simp only [List.append_assoc])
                    have hpos : (0 : Int) < (M.length : Int) := by rw [hq] at hqd; have := of_decide_eq_true hqd.symm; omega
                    clear hq hrem3 hone hqd
                    go_wp2_with (first | (refine wp_region_ext_tail 16 (by kernel_rfl) (by kernel_rfl) ?_; simp only [List.take_succ_cons, List.take_zero, List.drop_succ_cons, List.drop_zero]; (repeat (go_big_quiet_step ((fail)))); refine wpQuiet_tail fun z => ?_) | (go_at_call 29; refine Calls.mono (hM.out _) ?_; rintro e w9 ⟨v9, rfl, ho9, k9⟩; obtain ⟨ao9, cap9, rfl, _, _⟩ := ho9.reads; have K9 := hid (show Kept w3 w9 from Kept.trans (by (try simp only [ext_ext]); repeat (first | assumption | exact Kept.refl _ | apply Kept.alloc | apply Kept.drew | apply kept_add | apply Kept.ext)) k9)) | (at_builtin; refine wpList_append_card_at rfl _ _ rfl w w.heap.size _ o3 rfl (ho3H.out.kept (K9.out.trans (by (try simp only [ext_ext]); repeat (first | exact Kept.refl _ | apply Kept.alloc | apply Kept.drew | apply kept_add | apply Kept.ext)))) (hk3H.out.trans (K9.out.trans (by (try simp only [ext_ext]); repeat (first | exact Kept.refl _ | apply Kept.alloc | apply Kept.drew | apply kept_add | apply Kept.ext)))) (Nat.le_refl _) (Kept.below (hk3H.out.trans (K9.out.trans (by (try simp only [ext_ext]); repeat (first | exact Kept.refl _ | apply Kept.alloc | apply Kept.drew | apply kept_add | apply Kept.ext))))).size _ _ (⟨(i : Int), (j : Int), (k : Int), (l : Int)⟩ : Card) rfl (cardCells_new (⟨(i : Int), (j : Int), (k : Int), (l : Int)⟩ : Card) (by simp)) (by omega) ?_; intro v5 w5 ho5 hk5 hg5 hat5))
                    go_roundw
                    case rel => exact ⟨l + 1, by omega, by omega, by go_num, _, ho5, hnx.out, hk5⟩
                    case measure => simp [intOf]; omega
                  | false =>
                    have hone : qdO xs [[(i : Int), (j : Int), (k : Int), (l : Int)]] = [] := by simp only [qdO, List.filter_cons, hq, List.filter_nil]; rfl
                    have hnx := hid (show (o3 ++ qdO xs (chF n (n - (l + 1)) 1 [(i : Int), (j : Int), (k : Int)])) ++ R3 = TOT by rw [← hrem3, hone]; simp only [List.nil_append])
                    have hpos : ¬ (0 : Int) < (M.length : Int) := by rw [hq] at hqd; have := of_decide_eq_false hqd.symm; omega
                    clear hq hrem3 hone hqd
                    go_wp2_with (first | (refine wp_region_ext_tail 16 (by kernel_rfl) (by kernel_rfl) ?_; simp only [List.take_succ_cons, List.take_zero, List.drop_succ_cons, List.drop_zero]; (repeat (go_big_quiet_step ((fail)))); refine wpQuiet_tail fun z => ?_) | (go_at_call 29; refine Calls.mono (hM.out _) ?_; rintro e w9 ⟨v9, rfl, ho9, k9⟩; obtain ⟨ao9, cap9, rfl, _, _⟩ := ho9.reads; have K9 := hid (show Kept w3 w9 from Kept.trans (by (try simp only [ext_ext]); repeat (first | assumption | exact Kept.refl _ | apply Kept.alloc | apply Kept.drew | apply kept_add | apply Kept.ext)) k9)))
                    go_roundw
                    case rel => exact ⟨l + 1, by omega, by omega, by go_num, _, ho3H.out.kept (K9.out.trans (by (try simp only [ext_ext]); repeat (first | exact Kept.refl _ | apply Kept.alloc | apply Kept.drew | apply kept_add | apply Kept.ext))), hnx.out, hk3H.out.trans (K9.out.trans (by (try simp only [ext_ext]); repeat (first | exact Kept.refl _ | apply Kept.alloc | apply Kept.drew | apply kept_add | apply Kept.ext)))⟩
                    case measure => simp [intOf]; omega
                · obtain rfl : l = n := by omega
                  have hnx3 := hid (show (o3 ++ qdO xs (chF l (l - (k + 1)) 2 [(i : Int), (j : Int)])) ++ R2 = TOT by
                    rw [Nat.sub_self, chF_none, hR3H.out] at hrem3
                    rw [← hrem3]; simp [qdO])
                  clear ho3 hrem3 hk3
                  go_wp2
                  go_roundw
                  case rel => exact ⟨k + 1, by omega, by omega, by go_num, _, ho3H.out.kept (by (try simp only [ext_ext]); repeat (first | exact Kept.refl _ | apply Kept.alloc | apply Kept.drew | apply kept_add | apply Kept.ext)), hnx3.out, hk3H.out.trans (by (try simp only [ext_ext]); repeat (first | exact Kept.refl _ | apply Kept.alloc | apply Kept.drew | apply kept_add | apply Kept.ext))⟩
                  case measure => simp [intOf]; omega
            · obtain rfl : k = n := by omega
              have hnx2 := hid (show (o2 ++ qdO xs (chF k (k - (j + 1)) 3 [(i : Int)])) ++ R1 = TOT by
                rw [Nat.sub_self, chF_none, hR2H.out] at hrem2
                rw [← hrem2]; simp [qdO])
              clear ho2 hrem2 hk2
              go_wp2
              go_roundw
              case rel => exact ⟨j + 1, by omega, by omega, by go_num, _, ho2H.out.kept (by (try simp only [ext_ext]); repeat (first | exact Kept.refl _ | apply Kept.alloc | apply Kept.drew | apply kept_add | apply Kept.ext)), hnx2.out, hk2H.out.trans (by (try simp only [ext_ext]); repeat (first | exact Kept.refl _ | apply Kept.alloc | apply Kept.drew | apply kept_add | apply Kept.ext))⟩
              case measure => simp [intOf]; omega
        · obtain rfl : j = n := by omega
          have hnx1 := hid (show (o1 ++ qdO xs (chF j (j - (i + 1)) 4 ([] : List Int))) = TOT by
            rw [Nat.sub_self, chF_none, hR1H.out] at hrem1
            rw [← hrem1]; simp [qdO])
          clear ho1 hrem1 hk1
          go_wp2
          go_roundw
          case rel => exact ⟨i + 1, by omega, by go_num, _, ho1H.out.kept (by (try simp only [ext_ext]); repeat (first | exact Kept.refl _ | apply Kept.alloc | apply Kept.drew | apply kept_add | apply Kept.ext)), hnx1.out, hk1H.out.trans (by (try simp only [ext_ext]); repeat (first | exact Kept.refl _ | apply Kept.alloc | apply Kept.drew | apply kept_add | apply Kept.ext))⟩
          case measure => simp [intOf]; omega
    · obtain rfl : i = n := by omega
      have hfin := hid (show o0 = TOT by rw [← hrem0, Nat.sub_self, chF_none]; simp [qdO])
      clear ho0 hrem0 hk0
      go_wp2
      refine bodyPost_ret (v := .tuple #[.slice ao0 o0.length cap0, .bool true]) (by simp [results, Try.results8, go_sem]) rfl ?_
      exact ⟨_, rfl, by rw [← hfin.out]; exact ho0H.out.kept (by (try simp only [ext_ext]); repeat (first | exact Kept.refl _ | apply Kept.alloc | apply Kept.drew | apply kept_add | apply Kept.ext)), hk0H.out.trans (by (try simp only [ext_ext]); repeat (first | exact Kept.refl _ | apply Kept.alloc | apply Kept.drew | apply kept_add | apply Kept.ext))⟩
set_option maxHeartbeats 1000000 in
theorem walk_FnExactQuadsIn (ao : Option Addr) (xs : List Card) (cap : Nat) {w : World} (hx : CardsAt w ao xs) (hl : xs.length ≤ maxLen) (_ : World) :
    Calls Try.prog 3 #[.slice ao xs.length cap] w fun e w' => e = .returned (.bool true) ∧ Kept w w' := by
  have hl' : xs.length ≤ 9223372036854775807 := by unfold maxLen at hl; omega
  by_cases hn : xs.length ≤ 1048576
  · obtain ⟨ok, ls, hS, hI, hll⟩ : ∃ ok ls, (∀ ao cap w, CardsAt w ao xs → xs.length ≤ cap → Calls Try.prog 8 #[.slice ao xs.length cap] w (RetCT w ok ls)) ∧ (∀ ao cap w, CardsAt w ao xs → xs.length ≤ cap → Calls Try.prog 10 #[.slice ao xs.length cap] w (RetCT w ok ls)) ∧ ls.length ≤ 1048576 := by
      cases hg : twB xs with
      | false => exact ⟨false, [], fun _ _ _ hx _ => sQuadsIn_no _ _ _ _ hx hn hg, fun _ _ _ hx hc => iQuadsIn_no _ _ _ _ hx hn hg, by simp⟩
      | true => exact ⟨true, qdO xs (qdAll xs), fun _ _ _ hx hc => sQuadsIn_yes _ _ _ _ hx hc hg, fun _ _ _ hx hc => iQuadsIn_yes _ _ _ _ hx hg, Nat.le_trans (qdO_len xs _) (Nat.le_trans (qdAll_len (twB_of hg).2) (by omega))⟩
    have p1 : ¬ ((1 : Int) + (xs.length : Int) * 4 < 0) := by omega
    have p2 : ¬ ((1 : Int) + (ls.length : Int) * 4 < 0) := by omega
    go_enter Try.func3, Try.ntmps3
    go_wp2_with (first | (go_at_call 7; refine Calls.mono (szIntA4S_any _ _ _ hl' _) ?_; rintro e w' ⟨rfl, rfl⟩))
    (go_at_call 9; refine Calls.mono (toIntA4S_any _ _ _ _ hx hn) ?_; rintro e w1 ⟨v1, rfl, ho1, k1⟩)
    obtain ⟨a1, c1, rfl, hx1, hc1⟩ := ho1.reads
    go_wp2_with (fail)
    (go_at_call 8; refine Calls.mono (hS _ _ _ hx1 hc1) ?_; rintro e w2 ⟨v2, rfl, ho2, k2⟩)
    have hx2 := hx.kept (k1.trans k2)
    go_wp2_with (fail)
    (go_at_call 9; refine Calls.mono (toIntA4S_any _ _ _ _ hx2 hn) ?_; rintro e w3 ⟨v3, rfl, ho3, k3⟩)
    obtain ⟨a3, c3, rfl, hx3, hc3⟩ := ho3.reads
    go_wp2_with (fail)
    (go_at_call 10; refine Calls.mono (hI _ _ _ hx3 hc3) ?_; rintro e w4 ⟨v4, rfl, ho4, k4⟩)
    have n43 : ∀ g, v4.ownBlock = some g → (Value.slice a3 xs.length c3).ownBlock ≠ some g := fun g h h' => by have := (ho4.lt g h).1; have := (ho3.lt g h').2; omega
    have n23 : ∀ g, v2.ownBlock = some g → (Value.slice a3 xs.length c3).ownBlock ≠ some g := fun g h h' => by have := (ho2.lt g h).2; have := (ho3.lt g h').1; omega
    have n24 : ∀ g, v2.ownBlock = some g → v4.ownBlock ≠ some g := fun g h h' => by have := (ho2.lt g h).2; have := (ho4.lt g h').1; have := k3.below.size; omega
    go_wp2_with (fail)
    (go_at_call 11; refine Calls.mono (eqC_any _ _ _ _ _ _ ho4 ((ho2.kept k3).kept k4) hll) ?_; rintro e w5 ⟨rfl, k5⟩)
    have hx5 := hx2.kept (k3.trans (k4.trans k5))
    go_wp2_with (fail)
    (go_at_call 9; refine Calls.mono (toIntA4S_any _ _ _ _ hx5 hn) ?_; rintro e w6 ⟨v6, rfl, ho6, k6⟩)
    obtain ⟨a6, c6, rfl, hx6, hc6⟩ := ho6.reads
    have hx36 := hx3.kept (k4.trans (k5.trans k6))
    go_wp2_with (fail)
    (go_at_call 11; refine Calls.mono (eqIntA4S_any _ _ _ _ _ _ _ hx36 hx6 hn hn) ?_; rintro e w7 ⟨rfl, k7⟩)
    have K7 : Kept w w7 := k1.trans (k2.trans (k3.trans (k4.trans (k5.trans (k6.trans k7)))))
    have s2 : w.heap.size ≤ w2.heap.size := (k1.trans k2).below.size
    have s3 : w.heap.size ≤ w3.heap.size := (k1.trans (k2.trans k3)).below.size
    go_wp2_with (fail)
    (go_at_call 12; refine Calls.mono (markIntA4S_any _ _ _ _ 1 _ (ho3.kept (k4.trans (k5.trans (k6.trans k7)))) hn (by decide) (by decide)) ?_; rintro e w8 ⟨rfl, _, g8⟩)
    have ho48 := (ho4.kept (k5.trans (k6.trans k7))).grown g8 n43
    have ho28 := (ho2.kept (k3.trans (k4.trans (k5.trans (k6.trans k7))))).grown g8 n23
    have K8 : Kept w w8 := K7.grown g8 fun k hk => Nat.le_trans s2 (ho3.lt k hk).1
    go_wp2_with (fail)
    (go_at_call 11; refine Calls.mono (eqC_any _ _ _ _ _ _ ho48 ho28 hll) ?_; rintro e w9 ⟨rfl, k9⟩)
    go_wp2_with (fail)
    (go_at_call 12; refine Calls.mono (markIntA4S_any _ _ _ _ 1 _ (ho48.kept k9) hll (by decide) (by decide)) ?_; rintro e w10 ⟨rfl, ho10, g10⟩)
    have K10 : Kept w w10 := (K8.trans k9).grown g10 fun k hk => Nat.le_trans s3 (ho4.lt k hk).1
    go_wp2_with (fail)
    (go_at_call 13; refine Calls.mono (heldIntA4S_any _ _ _ 1 _ ho10 hll (by decide) (by decide)) ?_; rintro e w11 ⟨rfl, k11⟩)
    have hx11 := hx.kept (K10.trans k11)
    go_wp2_with (fail)
    (go_at_call 9; refine Calls.mono (toIntA4S_any _ _ _ _ hx11 hn) ?_; rintro e w12 ⟨v12, rfl, ho12, k12⟩)
    obtain ⟨a12, c12, rfl, hx12, hc12⟩ := ho12.reads
    go_wp2_with (fail)
    (go_at_call 10; refine Calls.mono (hI _ _ _ hx12 hc12) ?_; rintro e w13 ⟨v13, rfl, ho13, k13⟩)
    have ho213 := (((ho28.kept k9).grown g10 n24).kept (k11.trans (k12.trans k13)))
    go_wp2_with (fail)
    (go_at_call 11; refine Calls.mono (eqC_any _ _ _ _ _ _ ho13 ho213 hll) ?_; rintro e w14 ⟨rfl, k14⟩)
    go_wp2_with (fail)
    (go_at_call 13; refine Calls.mono (heldIntA4S_any _ _ _ 1 _ (row_kept ho10 (k11.trans (k12.trans (k13.trans k14)))) hll (by decide) (by decide)) ?_; rintro e w15 ⟨rfl, k15⟩)
    go_wp2_with (fail)
    go_ret
    exact ⟨rfl, K10.trans (k11.trans (k12.trans (k13.trans (k14.trans k15))))⟩
  · go_enter Try.func3, Try.ntmps3
    go_wp2_with (first | (go_at_call 7; refine Calls.mono (szIntA4S_any _ _ _ hl' _) ?_; rintro e w' ⟨rfl, rfl⟩))
    go_ret
    exact ⟨rfl, (by (try simp only [ext_ext]); repeat (first | exact Kept.refl _ | apply Kept.alloc | apply Kept.drew | apply kept_add | apply Kept.ext))⟩
end Go.Proofs.Ytenmnipgnjaheaa
