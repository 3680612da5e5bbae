/- Walk: the law of GhostsIn. -/
import Derived.Test.YtinoohckfhhbfaaT66
import Derived.Test.YtinoohckfhhbfaaL60
import Derived.Test.YtinoohckfhhbfaaT28
namespace Go.Proofs.Ytinoohckfhhbfaa
open Go.RowKit
theorem ghO_app (xs : List Card) (a b : List (List Int)) : ghO xs (a ++ b) = ghO xs a ++ ghO xs b := by simp [ghO]
def tenB (xs : List Card) : Bool := isHand xs && decide (xs.length ≤ 10)
theorem tenB_of {xs : List Card} (h : tenB xs = true) : isHand xs = true ∧ xs.length ≤ 10 := by simpa [tenB] using h
abbrev ghAll (xs : List Card) : List (List Int) := chF xs.length xs.length 6 []
theorem ghAll_len {xs : List Card} (h : xs.length ≤ 10) : (ghAll xs).length ≤ 1024 := by
  have h1 := chF_pow xs.length xs.length 6 []
  have h2 : (2 : Nat) ^ xs.length ≤ 2 ^ 10 := Nat.pow_le_pow_right (by omega) h
  have h3 : (2 : Nat) ^ 10 = 1024 := by decide
  show (chF xs.length xs.length 6 []).length ≤ 1024
  omega
theorem iGhostsIn_no (ao : Option Addr) (cap : Nat) (xs : List Card) (w : World) (hx : CardsAt w ao xs) (hl : xs.length ≤ 1048576) (h : tenB xs = false) :
    Calls Try.prog 33 #[.slice ao xs.length cap] w (RetST w false []) := by
  cases hh : isHand xs with
  | false =>
    go_enter Try.func33, Try.ntmps33
    go_wp2_with (first | (go_at_call 56; refine Calls.mono (IsHand_any _ _ _ _ (by first | assumption | exact CardsAt.kept (by assumption) (by (try simp only [ext_ext]); repeat (first | exact Kept.refl _ | apply Kept.alloc | apply Kept.drew | apply kept_add | apply Kept.ext))) hl) ?_; rintro e w' ⟨rfl, y, rfl⟩))
    refine bodyPost_ret (v := .tuple #[.slice none 0 0, .bool false]) (by simp [results, Try.results33, go_sem]) rfl ?_
    exact ⟨_, rfl, ownS_none _ _, (by (try simp only [ext_ext]); repeat (first | exact Kept.refl _ | apply Kept.alloc | apply Kept.drew | apply kept_add | apply Kept.ext))⟩
  | true =>
    have h10 : ¬ xs.length ≤ 10 := by simpa [tenB, hh] using h
    have hgt : (10 : Int) < (xs.length : Int) := by omega
    go_enter Try.func33, Try.ntmps33
    go_wp2_with (first | (go_at_call 56; refine Calls.mono (IsHand_any _ _ _ _ (by first | assumption | exact CardsAt.kept (by assumption) (by (try simp only [ext_ext]); repeat (first | exact Kept.refl _ | apply Kept.alloc | apply Kept.drew | apply kept_add | apply Kept.ext))) hl) ?_; rintro e w' ⟨rfl, y, rfl⟩))
    refine bodyPost_ret (v := .tuple #[.slice none 0 0, .bool false]) (by simp [results, Try.results33, go_sem]) rfl ?_
    exact ⟨_, rfl, ownS_none _ _, (by (try simp only [ext_ext]); repeat (first | exact Kept.refl _ | apply Kept.alloc | apply Kept.drew | apply kept_add | apply Kept.ext))⟩
theorem sGhostsIn_no (ao : Option Addr) (cap : Nat) (xs : List Card) (w : World) (hx : CardsAt w ao xs) (hl : xs.length ≤ 1048576) (h : tenB xs = false) :
    Calls Try.prog 32 #[.slice ao xs.length cap] w (RetST w false []) := by
  cases hh : isHand xs with
  | false =>
    go_enter Try.func32, Try.ntmps32
    go_wp2_with (first | (go_at_call 40; refine Calls.mono (l2Hand_any _ _ _ _ (by first | assumption | exact CardsAt.kept (by assumption) (by (try simp only [ext_ext]); repeat (first | exact Kept.refl _ | apply Kept.alloc | apply Kept.drew | apply kept_add | apply Kept.ext))) hl) ?_; rintro e w' ⟨rfl, y, rfl⟩))
    refine bodyPost_ret (v := .tuple #[.slice (some ⟨w.heap.size, 0, none⟩) 0 0, .bool false]) (by simp [results, Try.results32, go_sem]) rfl ?_
    exact ⟨_, rfl, ownS_nil (Nat.le_refl _) ((ext_heap _ _ _ (by simp)).trans (heap_at rfl)), (by (try simp only [ext_ext]); repeat (first | exact Kept.refl _ | apply Kept.alloc | apply Kept.drew | apply kept_add | apply Kept.ext))⟩
  | true =>
    have h10 : ¬ xs.length ≤ 10 := by simpa [tenB, hh] using h
    have hgt : (10 : Int) < (xs.length : Int) := by omega
    go_enter Try.func32, Try.ntmps32
    go_wp2_with (first | (go_at_call 40; refine Calls.mono (l2Hand_any _ _ _ _ (by first | assumption | exact CardsAt.kept (by assumption) (by (try simp only [ext_ext]); repeat (first | exact Kept.refl _ | apply Kept.alloc | apply Kept.drew | apply kept_add | apply Kept.ext))) hl) ?_; rintro e w' ⟨rfl, y, rfl⟩))
    refine bodyPost_ret (v := .tuple #[.slice (some ⟨w.heap.size, 0, none⟩) 0 0, .bool false]) (by simp [results, Try.results32, go_sem]) rfl ?_
    exact ⟨_, rfl, ownS_nil (Nat.le_refl _) ((ext_heap _ _ _ (by simp)).trans (heap_at rfl)), (by (try simp only [ext_ext]); repeat (first | exact Kept.refl _ | apply Kept.alloc | apply Kept.drew | apply kept_add | apply Kept.ext))⟩
set_option maxHeartbeats 1000000 in
theorem iGhostsIn_yes (ao : Option Addr) (cap : Nat) (xs : List Card) (w : World) (hx : CardsAt w ao xs) (hg : tenB xs = true) :
    Calls Try.prog 33 #[.slice ao xs.length cap] w (RetST w true (ghO xs (ghAll xs))) := by
  obtain ⟨hh, h10⟩ := tenB_of hg
  have hl27 : xs.length ≤ 27 := by omega
  have hc := areC_hand hh
  have hd := distC_hand hh
  have hlen := ghAll_len h10
  have hH := hid (fun w' (hk : Kept w w') => IsHand_any ao cap xs w' (hx.kept hk) (by omega))
  rw [hh] at hH
  have hgt : ¬ (10 : Int) < (xs.length : Int) := by omega
  obtain ⟨W, hW⟩ : ∃ W, W = w.alloc (.cells #[.slice ao xs.length cap] 29) := ⟨_, rfl⟩
  have kW : Kept w W := by rw [hW]; exact (by (try simp only [ext_ext]); repeat (first | exact Kept.refl _ | apply Kept.alloc | apply Kept.drew | apply kept_add | apply Kept.ext))
  have hWs := hid (show W.heap.size = w.heap.size + 1 by rw [hW]; simp)
  have hWc := hid (show W.cell? ⟨w.heap.size, 0, none⟩ = some (.slice ao xs.length cap) by rw [hW]; simp [go_sem])
  have hxW := hid (hx.kept kW)
  have kWH := hid kW
  have hWH := hid hW
  clear hx hW kW
  go_enter Try.func33, Try.ntmps33
  go_wp2_with (first | (go_at_call 56; refine Calls.mono (hH.out _ (by (try simp only [ext_ext]); repeat (first | exact Kept.refl _ | apply Kept.alloc | apply Kept.drew | apply kept_add | apply Kept.ext)) ) ?_; rintro e w' ⟨rfl, y, rfl⟩))
  rw [← hWH.out]
  have hsz := hWs.out
  have hI : GhI xs W (w.heap.size + 1 + y.os.length + 1) [] (some (w.heap.size + 1 + y.os.length)) (((ext W y).alloc (.cells #[] 86)).alloc (.cells #[.slice (some ⟨w.heap.size + 1 + y.os.length, 0, none⟩) 0 0] 56)) := by
    refine ⟨(by (try simp only [ext_ext]); repeat (first | exact Kept.refl _ | apply Kept.alloc | apply Kept.drew | apply kept_add | apply Kept.ext)), by omega, .slice (some ⟨w.heap.size + 1 + y.os.length, 0, none⟩) 0 0, heap_at (by simp [hsz]), ?_, rfl, fun e => by have := Option.some.inj e; omega⟩
    exact ownS_nil (by omega) (heap_past (by simp [hsz]) (heap_at (by simp [hsz])))
  have hIH := hid hI
  clear hI hsz
  go_wp2_with (fail)
  (go_at_call 57; refine Calls.mono (choices_GI (w.heap.size + 1 + y.os.length + 1) _ _ (ghAll xs) (GhI xs W (w.heap.size + 1 + y.os.length + 1)) (fun h r w w' H hk => H.kept hk) (fun h r w H => H.lt) (fun h p r w' u hp H hu => ghost1_any xs W _ w.heap.size ao cap (by have := hWs.out; omega) hWc.out hxW.out hl27 hc hd h p r w' u (pre_mem hp) (by have := pre_len hp; omega) H hu) xs.length (by omega) 6 [] [] [] (some (w.heap.size + 1 + y.os.length)) _ _ 6 rfl (by simp) (fun i hi => by simp at hi) (by simp [fromL]) hIH.out (.inl ⟨rfl, rfl⟩)) ?_; rintro e w2 ⟨rfl, r2, hI2, _⟩)
  obtain ⟨k2, _, v2, h3, h4, _⟩ := hI2
  have hcell := cell_of_row w2 (w.heap.size + 1 + y.os.length + 1) 0 _ _ (0, 0) h3
  simp only [List.getElem?_toArray, List.getElem?_cons_zero] at hcell
  have h4H := hid (show OwnS W.heap.size w2 v2 (ghO xs (ghAll xs)) by simpa [fromL] using h4)
  clear h4 h3
  go_wp2_with (fail)
  refine bodyPost_ret (v := .tuple #[v2, .bool true]) (by simp [results, Try.results33, go_sem]) rfl ?_
  exact ⟨_, rfl, h4H.out.mono (by have := hWs.out; omega), kWH.out.trans k2⟩
theorem OwnR.grown {B : Nat} {w w' : World} {v : Value} {ll : List (List Int)} {r : Option Nat} (h : OwnR B w v ll) (hg : w.grownBy w' r) (hr : ∀ g, r = some g → ∃ cur, w.heap[g]? = some (.cells cur 86 (0, 0))) : OwnR B w' v ll := by
  have hrow := fun g hg => h.row g hg
  obtain ⟨vs, h1, h2, h3⟩ := h
  refine ⟨vs, World.ownsRow.kept h1 hg ?_, h2, fun i hi => ?_⟩
  · cases hu : v.ownBlock with
    | none => exact .inl rfl
    | some g =>
      refine .inr fun e => ?_
      obtain ⟨c1, e1⟩ := hrow g hu
      obtain ⟨c2, e2⟩ := hr g e.symm
      rw [e1] at e2
      exact absurd e2 (by simp)
  · obtain ⟨u, hu, g, cap, cur, e1, e2, e3⟩ := h3 i hi
    refine ⟨u, hu, g, cap, cur, e1, (hg.block g (Array.getElem?_eq_some_iff.1 e2).1 fun e => ?_).trans e2, e3⟩
    obtain ⟨c2, e4⟩ := hr g e.symm
    rw [e2] at e4
    exact absurd e4 (by simp)
theorem OwnS.row {B : Nat} {w : World} {v : Value} {ls : List Sx} (h : OwnS B w v ls) (g : Nat) (hg : v.ownBlock = some g) : ∃ cur, w.heap[g]? = some (.cells cur 86 (0, 0)) := by
  rcases h.2 with ⟨e, _⟩ | ⟨g', cap, cur, e, hb, hh, _⟩
  · rw [e] at hg; cases hg
  · rw [e] at hg
    cases hg
    exact ⟨cur, hh⟩
def plF (p : List Int) (k j : Nat) : Int := if j < k then ix p j else 0
theorem plF_next (p : List Int) (k : Nat) : tab 6 (upd (plF p k) k (ix p k)) = tab 6 (plF p (k + 1)) := tab_congr fun j _ => by
  unfold upd plF
  by_cases e : j = k
  · rw [if_pos e, if_pos (by omega), e]
  · rw [if_neg e]
    by_cases h : j < k
    · rw [if_pos h, if_pos (by omega)]
    · rw [if_neg h, if_neg (by omega)]
theorem plF_zero (p : List Int) : tab 6 (plF p 0) = #[.int .i64 0, .int .i64 0, .int .i64 0, .int .i64 0, .int .i64 0, .int .i64 0] := rfl
theorem six_cells {w : World} {g : Nat} {t : TypeId} {p : List Int} (h : w.heap[g]? = some (.cells (tab 6 (plF p 6)) t (0, 0))) : SxCells w g 0 (sxP p) := by
  have q := fun i (hi : i < 6) => show w.cell? ⟨g, i, none⟩ = some (.int .i64 (ix p i)) from by
    rw [cell_of_row w g i _ _ (0, 0) h, tab_get _ hi, plF, if_pos hi]
  exact ⟨q 0 (by omega), q 1 (by omega), q 2 (by omega), q 3 (by omega), q 4 (by omega), q 5 (by omega)⟩
theorem drop_lz (ll : List (List Int)) (k : Nat) (h : k < ll.length) : ll.drop k = [lz ll k] ++ ll.drop (k + 1) := by
  have e : lz ll k = ll[k] := by simp [lz, h]
  rw [e]; exact List.drop_eq_getElem_cons h
theorem lz_mem {ll : List (List Int)} {k : Nat} (h : k < ll.length) : lz ll k ∈ ll := by
  have e : lz ll k = ll[k] := by simp [lz, h]
  rw [e]; exact List.getElem_mem h
set_option maxHeartbeats 4000000 in
set_option maxRecDepth 20000 in
theorem sGhostsIn_yes (ao : Option Addr) (cap : Nat) (xs : List Card) (w : World) (hx : CardsAt w ao xs) (hcap : xs.length ≤ cap) (hg : tenB xs = true) :
    Calls Try.prog 32 #[.slice ao xs.length cap] w (RetST w true (ghO xs (ghAll xs))) := by
  obtain ⟨hh, h10⟩ := tenB_of hg
  have hc := areC_hand hh
  have hlen := hid (ghAll_len h10)
  have hH := hid (fun w' (hk : Kept w w') => l2Hand_any ao cap xs w' (hx.kept hk) (by omega))
  rw [hh] at hH
  have hgt : ¬ (10 : Int) < (xs.length : Int) := by omega
  have hC := hid (fun w' (g : Nat) => l10Choose_all xs.length h10 6 6 0 [] 0 (some ⟨g, 0, none⟩) 0 w' rfl (by omega) rfl (by omega) (by omega) (fun i hi => by simp at hi) (fun e => by cases e))
  simp only [Nat.sub_zero] at hC
  have hsix := hid (fun p (hp : p ∈ ghAll xs) => chF_six hp)
  obtain ⟨ALL, hALL⟩ : ∃ A, A = ghAll xs := ⟨_, rfl⟩
  rw [← hALL] at hlen hsix ⊢
  change Hid (∀ w' g, Calls Try.prog 69 #[.int .i64 xs.length, .int .i64 0, .int .i64 6, .slice (some ⟨g, 0, none⟩) 0 0] w' (RetR w' (ghAll xs))) at hC
  rw [← hALL] at hC
  obtain ⟨TOT, hTOT⟩ : ∃ T, T = ghO xs ALL := ⟨_, rfl⟩
  have hTl : TOT.length ≤ 1024 := by rw [hTOT]; exact Nat.le_trans (ghO_len xs ALL) hlen.out
  rw [← hTOT]
  have hTOTH := hid hTOT
  have hTH := hid hTl
  have hxH := hid (fun w' (hk : Kept w w') => hx.kept hk)
  have hcH := hid hc
  clear hx hALL hTOT hc hTl hg hh
  go_enter Try.func32, Try.ntmps32
  go_wp2_with (first | (go_at_call 40; refine Calls.mono (hH.out _ (by (try simp only [ext_ext]); repeat (first | exact Kept.refl _ | apply Kept.alloc | apply Kept.drew | apply kept_add | apply Kept.ext)) ) ?_; rintro e w' ⟨rfl, y, rfl⟩))
  (go_at_call 69; refine Calls.mono (hC.out _ _) ?_; rintro e w4 ⟨v4, rfl, ho4, hn4, k4⟩)
  have K4 : Kept w w4 := Kept.trans (by (try simp only [ext_ext]); repeat (first | exact Kept.refl _ | apply Kept.alloc | apply Kept.drew | apply kept_add | apply Kept.ext)) k4
  obtain ⟨aA, cA, rfl, _, _⟩ := ho4.reads
  have hs4 := hid (show OwnR w.heap.size w4 (.slice aA ALL.length cA) ALL from ho4.mono (by simp <;> omega))
  have K4H := hid K4
  have hAl : ALL.length ≤ 1024 := hlen.out
  have ho0 := hid (show OwnS w.heap.size w4 (.slice (some ⟨w.heap.size, 0, none⟩) 0 0) [] from (ownS_nil (Nat.le_refl _) (((show Kept (w.alloc (.cells #[] 86)) w4 from Kept.trans (by (try simp only [ext_ext]); repeat (first | exact Kept.refl _ | apply Kept.alloc | apply Kept.drew | apply kept_add | apply Kept.ext)) k4).below.block w.heap.size (by simp)).trans (heap_at rfl))))
  clear ho4 hn4 k4 K4
  go_wp2_with (fail)
  go_loopw [6, 4] (fun a v wr => ∃ i : Nat, i ≤ ALL.length ∧ a = .int .i64 i ∧ ∃ out, OwnS w.heap.size wr v out ∧ OwnR w.heap.size wr (.slice aA ALL.length cA) ALL ∧ out ++ ghO xs (ALL.drop i) = TOT ∧ Kept w wr) (fun a _ _ => ALL.length - (intOf a).toNat)
  case atStart => exact ⟨0, Nat.zero_le _, rfl, [], ho0.out.kept (by (try simp only [ext_ext]); repeat (first | exact Kept.refl _ | apply Kept.alloc | apply Kept.drew | apply kept_add | apply Kept.ext)), hs4.out.kept (by (try simp only [ext_ext]); repeat (first | exact Kept.refl _ | apply Kept.alloc | apply Kept.drew | apply kept_add | apply Kept.ext)), by rw [hTOTH.out]; simp, K4H.out.trans (by (try simp only [ext_ext]); repeat (first | exact Kept.refl _ | apply Kept.alloc | apply Kept.drew | apply kept_add | apply Kept.ext))⟩
  case round =>
    obtain ⟨i, hi, rfl, out, ho, hal, hrem, hkw⟩ := hrel
    have hoH := hid ho
    have halH := hid hal
    have hremH := hid hrem
    have hkwH := hid hkw
    have hlo : out.length ≤ 1024 := by have := hTH.out; rw [← hrem] at this; simp at this; omega
    obtain ⟨oo, ocap, rfl, _, _⟩ := ho.reads
    clear ho hal hrem hkw
    by_cases hlt : i < ALL.length
    · obtain ⟨p, hp⟩ : ∃ p, p = lz ALL i := ⟨_, rfl⟩
      have hdr := hid (drop_lz ALL i hlt)
      obtain ⟨hp6, hpl, hpa⟩ := hsix.out p (by rw [hp]; exact lz_mem hlt)
      obtain ⟨_, _, hv, _, hcs⟩ := halH.out.reads
      cases hv
      obtain ⟨ga, u, rfl, hga, hcu, hei⟩ := hcs i hlt
      clear hcs
      rw [← hp] at hei hdr
      have hei0 := hei
      obtain ⟨ge, cape, rfl, hge, hints⟩ := hei.ints
      rw [hp6] at hcu
      have hF := hid (show ∀ w', Kept wr w' → w'.cell? ⟨ga, i, none⟩ = some (.slice (some ⟨ge, 0, none⟩) 6 cape) from fun w' hk => (hk.below.cell (p := ⟨ga, i, none⟩) hga).trans hcu)
      have hI2 := hid (fun w' (hk : Kept wr w') => hints.kept hk)
      have hp6H := hid hp6
      have hplH := hid hpl
      have hcy := hid (areC_pk hcH.out hpl)
      have hyl := hid (show (pk xs p).length = 6 by rw [pk_len, hp6])
      have hgp : Hid (ghP xs p = goT (pk xs p) 5) := hid rfl
      clear hei hei0 hints hp hp6 hpl hpa
      obtain ⟨w0, hw0⟩ : ∃ w0, w0 = wr := ⟨_, rfl⟩
      subst hw0
      go_wp2
      go_loopw [9, 7] (fun a v wr => ∃ k : Nat, k ≤ 6 ∧ a = .int .i64 k ∧ OwnC w0.heap.size wr v (pk xs (p.take k)) ∧ v.ownBlock ≠ some (w0.heap.size + 1) ∧ wr.heap[w0.heap.size + 1]? = some (.cells (tab 6 (plF p k)) 86 (0, 0)) ∧ Kept w0 wr) (fun a _ _ => 6 - (intOf a).toNat)
      case atStart => exact ⟨0, by omega, rfl, show OwnC _ _ _ [] from ownC_nil (Nat.le_refl _) (heap_past (by simp) (heap_at rfl)), (fun e => by have := Option.some.inj e; simp at this), by rw [plF_zero]; exact heap_at (by simp), (by (try simp only [ext_ext]); repeat (first | exact Kept.refl _ | apply Kept.alloc | apply Kept.drew | apply kept_add | apply Kept.ext))⟩
      case round =>
        obtain ⟨k, hk, rfl, ho7, hne, htab, hkw2⟩ := hrel
        have ho7H := hid ho7
        have hneH := hid hne
        have htabH := hid htab
        have hkw2H := hid hkw2
        have hsz2 : w0.heap.size + 1 < wr.heap.size := (Array.getElem?_eq_some_iff.1 htab).1
        clear ho7 hne htab hkw2
        by_cases hlt2 : k < 6
        · obtain ⟨q, hq, hqe⟩ := plB_nat hplH.out (i := k) (by rw [hp6H.out]; exact hlt2)
          have hck := hid (show ∀ w'', Kept w0 w'' → w''.cell? ⟨ge, k, none⟩ = some (.int .i64 q) from fun w'' hk => by
            obtain ⟨_, _, he, _, h1⟩ := (hI2.out w'' hk) k (by rw [hp6H.out]; exact hlt2)
            cases he
            rw [Nat.zero_add, hqe] at h1
            exact h1)
          have c1 := hck.out wr hkw2H.out
          have c2 := hF.out wr hkw2H.out
          obtain ⟨gx, offx, rfl, hgx, e1, e2, e3, e4⟩ := (hxH.out wr (hkwH.out.trans hkw2H.out)) q hq
          have hxr := hid (fun w'' (hk : Kept w0 w'') => hxH.out w'' (hkwH.out.trans hk))
          have hnx := hid (pk_next (xs := xs) (show k < p.length by rw [hp6H.out]; exact hlt2) hqe)
          have hlen := hid (show (pk xs (p.take k)).length ≤ 1048576 by rw [pk_len, List.length_take]; omega)
          have hqeH := hid hqe
          have hge2 : ge < wr.heap.size := Nat.lt_of_lt_of_le hge hkw2H.out.below.size
          have hga2 : ga < wr.heap.size := Nat.lt_of_lt_of_le hga hkw2H.out.below.size
          clear hqe
          go_wp2_with (first | (at_builtin; refine wpList_append_card_at rfl _ _ rfl w0 w0.heap.size _ (pk xs (p.take k)) rfl (ho7H.out.kept (by (try simp only [ext_ext]); repeat (first | exact Kept.refl _ | apply Kept.alloc | apply Kept.drew | apply kept_add | apply Kept.ext))) (hkw2H.out.trans (by (try simp only [ext_ext]); repeat (first | exact Kept.refl _ | apply Kept.alloc | apply Kept.drew | apply kept_add | apply Kept.ext))) (Nat.le_refl _) (Kept.below (hkw2H.out.trans (by (try simp only [ext_ext]); repeat (first | exact Kept.refl _ | apply Kept.alloc | apply Kept.drew | apply kept_add | apply Kept.ext)))).size _ _ (cx xs q) rfl (cardCells_new _ (by simp)) hlen.out ?_; intro v5 w5 ho5 hk5 hg5 hat5; have htab5 := (hg5.block (w0.heap.size + 1) (by simp; omega) (fun e => hneH.out e.symm)).trans (((Kept.below (show Kept wr _ from (by (try simp only [ext_ext]); repeat (first | exact Kept.refl _ | apply Kept.alloc | apply Kept.drew | apply kept_add | apply Kept.ext)))).block (w0.heap.size + 1) hsz2).trans htabH.out); have hc5 := cell_of_row w5 (w0.heap.size + 1) k _ _ (0, 0) htab5; rw [tab_get _ hlt2] at hc5; have hf5 := frozen_of_row w5 (w0.heap.size + 1) k _ _ htab5; have d1 := hck.out w5 hk5; have d2 := hF.out w5 hk5; have hat6 : v5.ownBlock ≠ some (w0.heap.size + 1) := by (rcases hat5 with e | e); (rw [e]; exact hneH.out); (rw [e]; intro e2; have := Option.some.inj e2; simp at this; omega)))
          go_roundw
          case rel =>
            refine ⟨k + 1, by omega, by go_num, ?_, hat6, ?_, Kept.setCell hk5 (by show w0.heap.size ≤ w0.heap.size + 1; omega) _⟩
            · rw [hnx.out]
              exact ho5.grown (grown_setCell (grown_refl _ (some (w0.heap.size + 1))) (p := ⟨w0.heap.size + 1, k, none⟩) rfl _) (fun g hg e => hat6 (hg.trans e.symm))
            · rw [heap_setCell_same _ _ _ _ _ _ htab5, tab_set, ← plF_next, hqeH.out]
          case measure => simp [intOf]; omega
        · obtain rfl : k = 6 := by omega
          have htk : p.take 6 = p := by rw [← hp6H.out]; exact List.take_length
          rw [htk] at ho7H
          obtain ⟨ao7, cap7, hv7, hx7, hcap7⟩ := ho7H.out.reads
          rw [hyl.out] at hv7 hcap7
          subst hv7
          have hT := hid (fun w'' (g : Nat) (hk : Kept wr w'') => l10_six ao7 cap7 g (pk xs p) 6 w'' hyl.out rfl hcap7 hcy.out (hx7.kept hk))
          rw [← hgp.out] at hT
          clear hx7 ho7H htk
          go_wp2_with (fail)
          (go_at_call 41; refine Calls.mono (hT.out _ _ (by (try simp only [ext_ext]); repeat (first | exact Kept.refl _ | apply Kept.alloc | apply Kept.drew | apply kept_add | apply Kept.ext))) ?_; rintro e w6 ⟨rfl, k6⟩)
          have K6 := hid (show Kept wr w6 from Kept.trans (by (try simp only [ext_ext]); repeat (first | exact Kept.refl _ | apply Kept.alloc | apply Kept.drew | apply kept_add | apply Kept.ext)) k6)
          obtain ⟨c0, c1, c2, c3, c4, c5⟩ := six_cells ((K6.out.below.block (w0.heap.size + 1) hsz2).trans htabH.out)
          have hs6 : w0.heap.size + 1 < w6.heap.size := Nat.lt_of_lt_of_le hsz2 K6.out.below.size
          have kr6 := hid (hkw2H.out.trans K6.out)
          clear k6
          cases hgg : ghP xs p with
          | true =>
            have hone := hid (show ghO xs [p] = [sxP p] by simp [ghO, hgg])
            clear hgg
            go_wp2_with (first | (at_builtin; refine wpList_append_sx_at rfl _ _ rfl w w.heap.size (.slice oo out.length ocap) out rfl (hoH.out.kept (kr6.out.trans (by (try simp only [ext_ext]); repeat (first | exact Kept.refl _ | apply Kept.alloc | apply Kept.drew | apply kept_add | apply Kept.ext)))) (hkwH.out.trans (kr6.out.trans (by (try simp only [ext_ext]); repeat (first | exact Kept.refl _ | apply Kept.alloc | apply Kept.drew | apply kept_add | apply Kept.ext)))) (Nat.le_refl _) (Kept.below (hkwH.out.trans (kr6.out.trans (by (try simp only [ext_ext]); repeat (first | exact Kept.refl _ | apply Kept.alloc | apply Kept.drew | apply kept_add | apply Kept.ext))))).size _ _ (sxP p) rfl (sxCells_new _ (by simp)) (by omega) ?_; intro v8 w8 ho8 hk8 hg8 hat8; have hal8 := (halH.out.kept (kr6.out.trans (by (try simp only [ext_ext]); repeat (first | exact Kept.refl _ | apply Kept.alloc | apply Kept.drew | apply kept_add | apply Kept.ext)))).grown hg8 (fun g hg => (hoH.out.kept (kr6.out.trans (by (try simp only [ext_ext]); repeat (first | exact Kept.refl _ | apply Kept.alloc | apply Kept.drew | apply kept_add | apply Kept.ext)))).row g hg)))
            go_roundw
            case rel => exact ⟨i + 1, hlt, by go_num, out ++ [sxP p], ho8, hal8, by rw [← hremH.out, hdr.out, ghO_app, hone.out, List.append_assoc], hk8⟩
            case measure => simp [intOf]; omega
          | false =>
            have hone := hid (show ghO xs [p] = [] by simp [ghO, hgg])
            clear hgg
            go_wp2_with (fail)
            go_roundw
            case rel => exact ⟨i + 1, hlt, by go_num, out, hoH.out.kept (kr6.out.trans (by (try simp only [ext_ext]); repeat (first | exact Kept.refl _ | apply Kept.alloc | apply Kept.drew | apply kept_add | apply Kept.ext))), halH.out.kept (kr6.out.trans (by (try simp only [ext_ext]); repeat (first | exact Kept.refl _ | apply Kept.alloc | apply Kept.drew | apply kept_add | apply Kept.ext))), by rw [← hremH.out, hdr.out, ghO_app, hone.out, List.nil_append], hkwH.out.trans (kr6.out.trans (by (try simp only [ext_ext]); repeat (first | exact Kept.refl _ | apply Kept.alloc | apply Kept.drew | apply kept_add | apply Kept.ext)))⟩
            case measure => simp [intOf]; omega
    · obtain rfl : i = ALL.length := by omega
      have hfin := hid (show out = TOT by rw [← hremH.out]; simp [ghO])
      go_wp2
      refine bodyPost_ret (v := .tuple #[.slice oo out.length ocap, .bool true]) (by simp [results, Try.results32, go_sem]) rfl ?_
      exact ⟨_, rfl, by rw [← hfin.out]; exact hoH.out.kept (by (try simp only [ext_ext]); repeat (first | exact Kept.refl _ | apply Kept.alloc | apply Kept.drew | apply kept_add | apply Kept.ext)), hkwH.out.trans (by (try simp only [ext_ext]); repeat (first | exact Kept.refl _ | apply Kept.alloc | apply Kept.drew | apply kept_add | apply Kept.ext))⟩
set_option maxHeartbeats 1000000 in
theorem walk_FnExactGhostsIn (ao : Option Addr) (xs : List Card) (cap : Nat) {w : World} (hx : CardsAt w ao xs) (hl : xs.length ≤ maxLen) (_ : World) :
    Calls Try.prog 8 #[.slice ao xs.length cap] w fun e w' => e = .returned (.bool true) ∧ Kept w w' := by
  have hl' : xs.length ≤ 9223372036854775807 := by unfold maxLen at hl; omega
  by_cases hn : xs.length ≤ 1048576
  · obtain ⟨ok, ls, hS, hI, hll⟩ : ∃ ok ls, (∀ ao cap w, CardsAt w ao xs → xs.length ≤ cap → Calls Try.prog 32 #[.slice ao xs.length cap] w (RetST w ok ls)) ∧ (∀ ao cap w, CardsAt w ao xs → xs.length ≤ cap → Calls Try.prog 33 #[.slice ao xs.length cap] w (RetST w ok ls)) ∧ ls.length ≤ 1048576 := by
      cases hg : tenB xs with
      | false => exact ⟨false, [], fun _ _ _ hx _ => sGhostsIn_no _ _ _ _ hx hn hg, fun _ _ _ hx hc => iGhostsIn_no _ _ _ _ hx hn hg, by simp⟩
      | true => exact ⟨true, ghO xs (ghAll xs), fun _ _ _ hx hc => sGhostsIn_yes _ _ _ _ hx hc hg, fun _ _ _ hx hc => iGhostsIn_yes _ _ _ _ hx hg, Nat.le_trans (ghO_len xs _) (Nat.le_trans (ghAll_len (tenB_of hg).2) (by omega))⟩
    have p1 : ¬ ((1 : Int) + (xs.length : Int) * 4 < 0) := by omega
    have p2 : ¬ ((1 : Int) + (ls.length : Int) * 6 < 0) := by omega
    go_enter Try.func8, Try.ntmps8
    go_wp2_with (first | (go_at_call 13; refine Calls.mono (szIntA4S_any _ _ _ hl' _) ?_; rintro e w' ⟨rfl, rfl⟩))
    (go_at_call 15; refine Calls.mono (toIntA4S_any _ _ _ _ hx hn) ?_; rintro e w1 ⟨v1, rfl, ho1, k1⟩)
    obtain ⟨a1, c1, rfl, hx1, hc1⟩ := ho1.reads
    go_wp2_with (fail)
    (go_at_call 32; refine Calls.mono (hS _ _ _ hx1 hc1) ?_; rintro e w2 ⟨v2, rfl, ho2, k2⟩)
    have hx2 := hx.kept (k1.trans k2)
    go_wp2_with (fail)
    (go_at_call 15; refine Calls.mono (toIntA4S_any _ _ _ _ hx2 hn) ?_; rintro e w3 ⟨v3, rfl, ho3, k3⟩)
    obtain ⟨a3, c3, rfl, hx3, hc3⟩ := ho3.reads
    go_wp2_with (fail)
    (go_at_call 33; refine Calls.mono (hI _ _ _ hx3 hc3) ?_; rintro e w4 ⟨v4, rfl, ho4, k4⟩)
    have n43 : ∀ g, v4.ownBlock = some g → (Value.slice a3 xs.length c3).ownBlock ≠ some g := fun g h h' => by have := (ho4.lt g h).1; have := (ho3.lt g h').2; omega
    have n23 : ∀ g, v2.ownBlock = some g → (Value.slice a3 xs.length c3).ownBlock ≠ some g := fun g h h' => by have := (ho2.lt g h).2; have := (ho3.lt g h').1; omega
    have n24 : ∀ g, v2.ownBlock = some g → v4.ownBlock ≠ some g := fun g h h' => by have := (ho2.lt g h).2; have := (ho4.lt g h').1; have := k3.below.size; omega
    go_wp2_with (fail)
    (go_at_call 34; refine Calls.mono (eqS_any _ _ _ _ _ _ ho4 ((ho2.kept k3).kept k4) hll) ?_; rintro e w5 ⟨rfl, k5⟩)
    have hx5 := hx2.kept (k3.trans (k4.trans k5))
    go_wp2_with (fail)
    (go_at_call 15; refine Calls.mono (toIntA4S_any _ _ _ _ hx5 hn) ?_; rintro e w6 ⟨v6, rfl, ho6, k6⟩)
    obtain ⟨a6, c6, rfl, hx6, hc6⟩ := ho6.reads
    have hx36 := hx3.kept (k4.trans (k5.trans k6))
    go_wp2_with (fail)
    (go_at_call 17; refine Calls.mono (eqIntA4S_any _ _ _ _ _ _ _ hx36 hx6 hn hn) ?_; rintro e w7 ⟨rfl, k7⟩)
    have K7 : Kept w w7 := k1.trans (k2.trans (k3.trans (k4.trans (k5.trans (k6.trans k7)))))
    have s2 : w.heap.size ≤ w2.heap.size := (k1.trans k2).below.size
    have s3 : w.heap.size ≤ w3.heap.size := (k1.trans (k2.trans k3)).below.size
    go_wp2_with (fail)
    (go_at_call 26; refine Calls.mono (markIntA4S_any _ _ _ _ 1 _ (ho3.kept (k4.trans (k5.trans (k6.trans k7)))) hn (by decide) (by decide)) ?_; rintro e w8 ⟨rfl, _, g8⟩)
    have ho48 := (ho4.kept (k5.trans (k6.trans k7))).grown g8 n43
    have ho28 := (ho2.kept (k3.trans (k4.trans (k5.trans (k6.trans k7))))).grown g8 n23
    have K8 : Kept w w8 := K7.grown g8 fun k hk => Nat.le_trans s2 (ho3.lt k hk).1
    go_wp2_with (fail)
    (go_at_call 34; refine Calls.mono (eqS_any _ _ _ _ _ _ ho48 ho28 hll) ?_; rintro e w9 ⟨rfl, k9⟩)
    go_wp2_with (fail)
    (go_at_call 35; refine Calls.mono (markIntA6S_any _ _ _ _ 1 _ (ho48.kept k9) hll (by decide) (by decide)) ?_; rintro e w10 ⟨rfl, ho10, g10⟩)
    have K10 : Kept w w10 := (K8.trans k9).grown g10 fun k hk => Nat.le_trans s3 (ho4.lt k hk).1
    go_wp2_with (fail)
    (go_at_call 36; refine Calls.mono (heldIntA6S_any _ _ _ 1 _ ho10 hll (by decide) (by decide)) ?_; rintro e w11 ⟨rfl, k11⟩)
    have hx11 := hx.kept (K10.trans k11)
    go_wp2_with (fail)
    (go_at_call 15; refine Calls.mono (toIntA4S_any _ _ _ _ hx11 hn) ?_; rintro e w12 ⟨v12, rfl, ho12, k12⟩)
    obtain ⟨a12, c12, rfl, hx12, hc12⟩ := ho12.reads
    go_wp2_with (fail)
    (go_at_call 33; refine Calls.mono (hI _ _ _ hx12 hc12) ?_; rintro e w13 ⟨v13, rfl, ho13, k13⟩)
    have ho213 := (((ho28.kept k9).grown g10 n24).kept (k11.trans (k12.trans k13)))
    go_wp2_with (fail)
    (go_at_call 34; refine Calls.mono (eqS_any _ _ _ _ _ _ ho13 ho213 hll) ?_; rintro e w14 ⟨rfl, k14⟩)
    go_wp2_with (fail)
    (go_at_call 36; refine Calls.mono (heldIntA6S_any _ _ _ 1 _ (row_kept ho10 (k11.trans (k12.trans (k13.trans k14)))) hll (by decide) (by decide)) ?_; rintro e w15 ⟨rfl, k15⟩)
    go_wp2_with (fail)
    go_ret
    exact ⟨rfl, K10.trans (k11.trans (k12.trans (k13.trans (k14.trans k15))))⟩
  · go_enter Try.func8, Try.ntmps8
    go_wp2_with (first | (go_at_call 13; refine Calls.mono (szIntA4S_any _ _ _ hl' _) ?_; rintro e w' ⟨rfl, rfl⟩))
    go_ret
    exact ⟨rfl, (by (try simp only [ext_ext]); repeat (first | exact Kept.refl _ | apply Kept.alloc | apply Kept.drew | apply kept_add | apply Kept.ext))⟩
end Go.Proofs.Ytinoohckfhhbfaa
