/- Contracts: the reference's search for a parting into pairs whose third cards are a line. -/
import Derived.Test.YtinoohckfhhbfaaT61
namespace Go.Proofs.Ytinoohckfhhbfaa
open Go.RowKit
theorem step_append_cardO {ops : Array Oper} {o : Oper} {a : Act} {K : Act → World → Prop} {Q : Exit → Act → World → Prop} {E : Prop} {w : World} (hgd : o.guard = none) (s x : Operand)
    (ho : o.op = .call { callee := .builtin .append, args := #[s, x], argTypes := #[29, 29] }) (W : World) (B : Nat) (v : Value) (cs : List Card) (hs : a.eval s = v) (hown : OwnC B w v cs) (hk : Kept W w) (hWB : W.heap.size ≤ B) (hBw : B ≤ w.heap.size)
    (g cap : Nat) (c : Card) (hx : a.eval x = .slice (some ⟨g, 0, none⟩) 1 cap) (hc : CardCells w g 0 c) (hl : cs.length ≤ 1048)
    (h : ∀ v' w', OwnC B w' v' (cs ++ [c]) → Kept W w' → K (a.put o.dst v') w') : if Region.wanted o (yielded ops a.tmps) = true then Oper.wp Try.prog o a w K Q else E := by
  have hg : g < w.heap.size := by
    rcases Nat.lt_or_ge g w.heap.size with h' | h'
    · exact h'
    · have := hc.1
      simp [World.cell?, Array.getElem?_eq_none h'] at this
  refine step_append_card1 hgd s x ho W B v cs hs hown hk hWB hBw ⟨g, 0, none⟩ 1 cap [c] hx rfl (fun i hi => ?_) (by omega) h
  obtain rfl : i = 0 := by simp at hi; omega
  exact ⟨g, 0, rfl, hg, hc⟩
theorem l10_zero (ts : List Card) (hcap : Nat) (ho : Option Addr) (tao : Option Addr) (tcap tl : Nat) (w : World) (hl : ts.length = tl) (h3 : tl = 3) (hct : areC ts) (hxt : CardsAt w tao ts) :
    Calls Try.prog 41 #[.slice ho 0 hcap, .slice tao 3 tcap] w fun e w' => e = .returned (.bool (thF 0 [] ts)) ∧ Kept w w' := by
  obtain ⟨g, off, rfl, hg, a0, a1, a2, a3⟩ := hxt 0 (by omega)
  obtain ⟨_, _, he, _, b0, b1, b2, b3⟩ := hxt 1 (by omega)
  cases he
  obtain ⟨_, _, he, _, c0, c1, c2, c3⟩ := hxt 2 (by omega)
  cases he
  simp only [Nat.zero_mul, Nat.one_mul, Nat.add_zero] at a0 a1 a2 a3 b0 b1 b2 b3
  have hA := hct 0 (by omega)
  have hB := hct 1 (by omega)
  have hv : Hid (thF 0 [] ts = lineC (cx ts 0) (cx ts 1) (cx ts 2)) := hid rfl
  clear hct hxt hl h3
  go_enter Try.func41, Try.ntmps41
  go_wp2_with (first | (refine wp_region_ext (by kernel_rfl) (by kernel_rfl) ?_; (repeat (go_big_quiet_step (((first | (go_at_call 74; first | exact ext_call (l2Line_any _ _ _ hA hB _) | exact ext_call2 (l2Line_any _ _ _ hA hB _))))))); refine wpQuiet_end fun z => ?_))
  go_ret
  exact ⟨ret_of (by rw [hv.out]; rfl), (by (try simp only [ext_ext]); repeat (first | exact Kept.refl _ | apply Kept.alloc | apply Kept.drew | apply kept_add | apply Kept.ext))⟩
set_option maxHeartbeats 2000000 in
set_option maxRecDepth 20000 in
theorem l10_step (m : Nat) (hm : m ≤ 2)
    (ih : ∀ (h ts : List Card) (n tl : Nat) (ho : Option Addr) (hcap : Nat) (tao : Option Addr) (tcap : Nat) (w : World), h.length = n → n = 2 * m → ts.length = tl → tl + m = 3 → areC h → areC ts → n ≤ hcap → CardsAt w ho h → CardsAt w tao ts → (tao = none → tl = 0 ∧ tcap = 0) →
      Calls Try.prog 41 #[.slice ho n hcap, .slice tao tl tcap] w fun e w' => e = .returned (.bool (thF m h ts)) ∧ Kept w w')
    (h ts : List Card) (n tl : Nat) (ho : Option Addr) (hcap : Nat) (tao : Option Addr) (tcap : Nat) (w : World) (hn : h.length = n) (hn2 : n = 2 * m + 2) (htl : ts.length = tl) (ht3 : tl + (m + 1) = 3) (hch : areC h) (hct : areC ts) (hcp : n ≤ hcap) (hxh : CardsAt w ho h) (hxt : CardsAt w tao ts) (ht0 : tao = none → tl = 0 ∧ tcap = 0) :
    Calls Try.prog 41 #[.slice ho n hcap, .slice tao tl tcap] w fun e w' => e = .returned (.bool (thF (m + 1) h ts)) ∧ Kept w w' := by
  obtain ⟨g, off, rfl, hg, a0, a1, a2, a3⟩ := hxh 0 (by omega)
  simp only [Nat.zero_mul, Nat.add_zero] at a0 a1 a2 a3
  have hn2H := hid hn2
  have hnge : 2 ≤ n := by omega
  have hn6 : n ≤ 6 := by omega
  have hne : ((n : Int) == 0) = false := by simp; omega
  have hne2 : ¬ (n : Int) = 0 := by omega
  have hnH := hid hn
  have htlH := hid htl
  have ht3H := hid ht3
  have ht0H := hid ht0
  have ihH := hid ih
  have hchH := hid hch
  have hctH := hid hct
  have hxhH := hid hxh
  have hxtH := hid hxt
  clear ih hn hn2 htl ht3 ht0 hch hct hxh hxt
  go_enter Try.func41, Try.ntmps41
  go_wp2
  go_loopw [5] (fun s5 wr => ∃ k : Nat, k + 1 ≤ n ∧ s5 = .int .i64 ((k + 1 : Nat) : Int) ∧ thU m h ts k = false ∧ Kept w wr) (fun s5 _ => n - (intOf s5).toNat)
  case atStart => exact ⟨0, by omega, rfl, rfl, (by (try simp only [ext_ext]); repeat (first | exact Kept.refl _ | apply Kept.alloc | apply Kept.drew | apply kept_add | apply Kept.ext))⟩
  case round =>
    obtain ⟨k, hk, rfl, hf, z, rfl⟩ := hrel
    have hfH := hid hf
    have hnx := hid (thU_next m h ts k)
    clear hf
    by_cases hlt : k + 1 < n
    · obtain ⟨_, _, he, _, b0, b1, b2, b3⟩ := hxhH.out (k + 1) (by rw [hnH.out]; omega)
      cases he
      have hC0 := hchH.out 0 (by rw [hnH.out]; omega)
      have hCk := hchH.out (k + 1) (by rw [hnH.out]; omega)
      have hS := hid (fun w' (hk : Kept w w') => show w'.cell? ⟨g, off, none⟩ = some (.int .i64 (cx h 0).a) ∧ w'.cell? ⟨g, off + 1, none⟩ = some (.int .i64 (cx h 0).b) ∧ w'.cell? ⟨g, off + 2, none⟩ = some (.int .i64 (cx h 0).c) ∧ w'.cell? ⟨g, off + 3, none⟩ = some (.int .i64 (cx h 0).d) ∧ w'.cell? ⟨g, off + (k + 1) * 4, none⟩ = some (.int .i64 (cx h (k + 1)).a) ∧ w'.cell? ⟨g, off + (k + 1) * 4 + 1, none⟩ = some (.int .i64 (cx h (k + 1)).b) ∧ w'.cell? ⟨g, off + (k + 1) * 4 + 2, none⟩ = some (.int .i64 (cx h (k + 1)).c) ∧ w'.cell? ⟨g, off + (k + 1) * 4 + 3, none⟩ = some (.int .i64 (cx h (k + 1)).d) from ⟨(hk.below.cell (p := ⟨_, _, none⟩) hg).trans a0, (hk.below.cell (p := ⟨_, _, none⟩) hg).trans a1, (hk.below.cell (p := ⟨_, _, none⟩) hg).trans a2, (hk.below.cell (p := ⟨_, _, none⟩) hg).trans a3, (hk.below.cell (p := ⟨_, _, none⟩) hg).trans b0, (hk.below.cell (p := ⟨_, _, none⟩) hg).trans b1, (hk.below.cell (p := ⟨_, _, none⟩) hg).trans b2, (hk.below.cell (p := ⟨_, _, none⟩) hg).trans b3⟩)
      have hD1 := hid (fun w' (hk : Kept w w') => l2Drop_any g off hcap n (k + 1) h w' hnH.out hlt (by omega) hcp (hxhH.out.kept hk))
      obtain ⟨n1, hn1⟩ : ∃ n1, n = n1 + 1 := ⟨n - 1, by omega⟩
      have hl1 := hid (show (h.eraseIdx (k + 1)).length = n1 by rw [List.length_eraseIdx, if_pos (by rw [hnH.out]; omega), hnH.out]; omega)
      have hl2 := hid (show ((h.eraseIdx (k + 1)).eraseIdx 0).length = n1 - 1 by rw [List.length_eraseIdx, if_pos (by rw [hl1.out]; omega), hl1.out])
      have hn1b : 1 ≤ n1 ∧ n1 ≤ 5 := by omega
      have hn1m := hid (show n1 - 1 = 2 * m by have := hn2H.out; omega)
      clear hn1
      have hi0 : (0 : Int) < (n : Int) := by omega
      have hi1 : (k : Int) + 1 < (n : Int) := by omega
      have hi2 : (0 : Int) ≤ (k : Int) + 1 := by omega
      have hi3 : 0 < n := by omega
      have hc1 := hid (areC_erase (areC_erase hchH.out (k + 1)) 0)
      obtain ⟨t, ht⟩ : ∃ t, t = thirdC (cx h 0) (cx h (k + 1)) := ⟨_, rfl⟩
      have htC : isCard t = true := by rw [ht]; exact isCard_third hC0 hCk
      have hye := hid (fun e => thU_yes (m := m) (h := h) (ts := ts) (k := k) (by have := hn2H.out; omega) e)
      have hT := hid (fun w' => l2Third_any (cx h 0) (cx h (k + 1)) hC0 hCk w')
      rw [← ht] at hnx hye hT
      clear ht
      obtain ⟨rs, hrs⟩ : ∃ rs, rs = (h.eraseIdx (k + 1)).eraseIdx 0 := ⟨_, rfl⟩
      obtain ⟨q1, hq1⟩ : ∃ q1, q1 = h.eraseIdx (k + 1) := ⟨_, rfl⟩
      rw [← hrs] at hnx hye hl2 hc1
      rw [← hq1] at hl1 hD1 hrs
      have hrsH := hid hrs
      obtain ⟨b, hb⟩ : ∃ b, b = thF m rs (ts ++ [t]) := ⟨_, rfl⟩
      rw [← hb] at hnx hye
      have hbH := hid hb
      clear hrs hq1 hb
      go_wp2_with (fail)
      (go_at_call 78; refine Calls.mono (hD1.out _ (by (try simp only [ext_ext]); repeat (first | exact Kept.refl _ | apply Kept.alloc | apply Kept.drew | apply kept_add | apply Kept.ext))) ?_; rintro e w1 ⟨v1, rfl, ho1, k1⟩)
      have K1 := hid (show Kept w w1 from Kept.trans (by (try simp only [ext_ext]); repeat (first | exact Kept.refl _ | apply Kept.alloc | apply Kept.drew | apply kept_add | apply Kept.ext)) k1)
      obtain ⟨g1, cap1, rfl, hcap1⟩ : ∃ g1 cap1, v1 = .slice (some ⟨g1, 0, none⟩) n1 cap1 ∧ n1 ≤ cap1 := by
        have hn := hl1.out
        rcases ho1.2 with ⟨_, h0⟩ | ⟨g', cap', cur, e, hb, hg, hc, _⟩
        · omega
        · exact ⟨g', cap', by rw [e, hn], by omega⟩
      have hx1 := hid (show CardsAt w1 (some ⟨g1, 0, none⟩) q1 by
        obtain ⟨_, _, hv, hx, _⟩ := ho1.reads
        rw [hl1.out] at hv
        cases hv; exact hx)
      clear ho1 k1
      have hD2 := hid (fun w' (hk : Kept w1 w') => l2Drop_any g1 0 cap1 n1 0 q1 w' hl1.out (by omega) (by omega) hcap1 (hx1.out.kept hk))
      rw [← hrsH.out] at hD2
      go_wp2_with (fail)
      (go_at_call 78; refine Calls.mono (hD2.out _ (by (try simp only [ext_ext]); repeat (first | exact Kept.refl _ | apply Kept.alloc | apply Kept.drew | apply kept_add | apply Kept.ext))) ?_; rintro e w2 ⟨v2, rfl, ho2, k2⟩)
      have K2 := hid (K1.out.trans (Kept.trans (by (try simp only [ext_ext]); repeat (first | exact Kept.refl _ | apply Kept.alloc | apply Kept.drew | apply kept_add | apply Kept.ext)) k2))
      obtain ⟨ao2, cap2, rfl, hx2, hcap2⟩ := ho2.reads
      rw [hl2.out] at hcap2
      rw [hl2.out]
      have hO := hid (fun w' (hk : Kept w2 w') => l2OwnA_any ts tl tao tcap w' htlH.out (hxtH.out.kept (K2.out.trans hk)) ht0H.out (by have := ht3H.out; omega))
      have hR := hid (fun w' (tl' : Nat) (ao5 : Option Addr) (cap5 : Nat) (hl5 : tl' = ts.length + 1) (hk : Kept w2 w') (hx5 : CardsAt w' ao5 (ts ++ [t])) (h05 : ao5 = none → tl' = 0 ∧ cap5 = 0) => ihH.out rs (ts ++ [t]) (n1 - 1) tl' ao2 cap2 ao5 cap5 w' hl2.out hn1m.out (by rw [hl5, List.length_append, List.length_singleton]) (by have := htlH.out; have := ht3H.out; omega) hc1.out (areC_mem.2 fun c hc => by
        rw [List.mem_append, List.mem_singleton] at hc
        rcases hc with hc | rfl
        · exact areC_mem.1 hctH.out c hc
        · exact htC) hcap2 (hx2.kept hk) hx5 h05)
      rw [← hbH.out] at hR
      clear ho2 k2 hD2 hx1 hD1
      cases b with
      | true =>
        go_upto_region 7 with (fail)
        go_region_held3 (fun w' => w'.cell? ⟨g, off, none⟩ = some (.int .i64 (cx h 0).a) ∧ w'.cell? ⟨g, off + 1, none⟩ = some (.int .i64 (cx h 0).b) ∧ w'.cell? ⟨g, off + 2, none⟩ = some (.int .i64 (cx h 0).c) ∧ w'.cell? ⟨g, off + 3, none⟩ = some (.int .i64 (cx h 0).d) ∧ w'.cell? ⟨g, off + (k + 1) * 4, none⟩ = some (.int .i64 (cx h (k + 1)).a) ∧ w'.cell? ⟨g, off + (k + 1) * 4 + 1, none⟩ = some (.int .i64 (cx h (k + 1)).b) ∧ w'.cell? ⟨g, off + (k + 1) * 4 + 2, none⟩ = some (.int .i64 (cx h (k + 1)).c) ∧ w'.cell? ⟨g, off + (k + 1) * 4 + 3, none⟩ = some (.int .i64 (cx h (k + 1)).d))
            (exact hS.out _ (K2.out.trans (by (try simp only [ext_ext]); repeat (first | assumption | exact Kept.refl _ | apply Kept.alloc | apply Kept.drew | apply kept_add | apply Kept.ext))))
            (first | (refine step_append_cardO rfl _ _ rfl w2 _ v3 ts rfl (ho3.kept (by (try simp only [ext_ext]); repeat (first | exact Kept.refl _ | apply Kept.alloc | apply Kept.drew | apply kept_add | apply Kept.ext))) (Kept.trans K3 (by (try simp only [ext_ext]); repeat (first | exact Kept.refl _ | apply Kept.alloc | apply Kept.drew | apply kept_add | apply Kept.ext))) (by first | exact Nat.le_refl _ | (simp; done) | (simp; omega)) (by have := k3.below.size; (try simp at this ⊢); omega) _ _ t rfl hcc (by have := htlH.out; have := ht3H.out; omega) ?_; intro v' w4 hown4 k4; obtain ⟨ao5, cap5, rfl, hx5, hcap5⟩ := hown4.reads) | (refine step_append_cardO rfl _ _ rfl w2 _ v3 ts rfl (ho3.kept (by (try simp only [ext_ext]); repeat (first | exact Kept.refl _ | apply Kept.alloc | apply Kept.drew | apply kept_add | apply Kept.ext))) (Kept.trans K3 (by (try simp only [ext_ext]); repeat (first | exact Kept.refl _ | apply Kept.alloc | apply Kept.drew | apply kept_add | apply Kept.ext))) (by first | exact Nat.le_refl _ | (simp; done) | (simp; omega)) (by have := k3.below.size; (try simp at this ⊢); omega) _ _ t rfl (cardCells_new _ (by simp)) (by have := htlH.out; have := ht3H.out; omega) ?_; intro v' w4 hown4 k4; obtain ⟨ao5, cap5, rfl, hx5, hcap5⟩ := hown4.reads) | (go_at_call 79; refine Calls.mono (hO.out _ (by (try simp only [ext_ext]); repeat (first | exact Kept.refl _ | apply Kept.alloc | apply Kept.drew | apply kept_add | apply Kept.ext))) ?_; rintro e w3 ⟨v3, rfl, ho3, k3⟩; have K3 := Kept.trans (show Kept w2 _ from (by (try simp only [ext_ext]); repeat (first | exact Kept.refl _ | apply Kept.alloc | apply Kept.drew | apply kept_add | apply Kept.ext))) k3; first | have hcc := cardCells_kept (cardCells_new t rfl) (by simp) k3 | skip) | (go_at_call 80; refine Calls.mono (hT.out _) ?_; rintro e w' ⟨rfl, y, rfl⟩) | (go_at_call 41; refine Calls.mono (hR.out _ _ _ _ (by simp) k4 hx5 (fun e => by obtain ⟨_, _, he, _⟩ := hx5 0 (by simp); rw [e] at he; cases he)) ?_; rintro e w6 ⟨rfl, k6⟩; have K6 := Kept.trans k4 k6; dsimp only))
        all_goals
          go_wp2_with (fail)
          go_ret
          exact ⟨ret_of (by rw [hye.out (by first | rfl | trivial)]; rfl), (K2.out.trans k4).trans (Kept.trans k6 (by (try simp only [ext_ext]); repeat (first | exact Kept.refl _ | apply Kept.alloc | apply Kept.drew | apply kept_add | apply Kept.ext)))⟩
      | false =>
        go_upto_region 7 with (fail)
        go_region_held3 (fun w' => w'.cell? ⟨g, off, none⟩ = some (.int .i64 (cx h 0).a) ∧ w'.cell? ⟨g, off + 1, none⟩ = some (.int .i64 (cx h 0).b) ∧ w'.cell? ⟨g, off + 2, none⟩ = some (.int .i64 (cx h 0).c) ∧ w'.cell? ⟨g, off + 3, none⟩ = some (.int .i64 (cx h 0).d) ∧ w'.cell? ⟨g, off + (k + 1) * 4, none⟩ = some (.int .i64 (cx h (k + 1)).a) ∧ w'.cell? ⟨g, off + (k + 1) * 4 + 1, none⟩ = some (.int .i64 (cx h (k + 1)).b) ∧ w'.cell? ⟨g, off + (k + 1) * 4 + 2, none⟩ = some (.int .i64 (cx h (k + 1)).c) ∧ w'.cell? ⟨g, off + (k + 1) * 4 + 3, none⟩ = some (.int .i64 (cx h (k + 1)).d))
            (exact hS.out _ (K2.out.trans (by (try simp only [ext_ext]); repeat (first | assumption | exact Kept.refl _ | apply Kept.alloc | apply Kept.drew | apply kept_add | apply Kept.ext))))
            (first | (refine step_append_cardO rfl _ _ rfl w2 _ v3 ts rfl (ho3.kept (by (try simp only [ext_ext]); repeat (first | exact Kept.refl _ | apply Kept.alloc | apply Kept.drew | apply kept_add | apply Kept.ext))) (Kept.trans K3 (by (try simp only [ext_ext]); repeat (first | exact Kept.refl _ | apply Kept.alloc | apply Kept.drew | apply kept_add | apply Kept.ext))) (by first | exact Nat.le_refl _ | (simp; done) | (simp; omega)) (by have := k3.below.size; (try simp at this ⊢); omega) _ _ t rfl hcc (by have := htlH.out; have := ht3H.out; omega) ?_; intro v' w4 hown4 k4; obtain ⟨ao5, cap5, rfl, hx5, hcap5⟩ := hown4.reads) | (refine step_append_cardO rfl _ _ rfl w2 _ v3 ts rfl (ho3.kept (by (try simp only [ext_ext]); repeat (first | exact Kept.refl _ | apply Kept.alloc | apply Kept.drew | apply kept_add | apply Kept.ext))) (Kept.trans K3 (by (try simp only [ext_ext]); repeat (first | exact Kept.refl _ | apply Kept.alloc | apply Kept.drew | apply kept_add | apply Kept.ext))) (by first | exact Nat.le_refl _ | (simp; done) | (simp; omega)) (by have := k3.below.size; (try simp at this ⊢); omega) _ _ t rfl (cardCells_new _ (by simp)) (by have := htlH.out; have := ht3H.out; omega) ?_; intro v' w4 hown4 k4; obtain ⟨ao5, cap5, rfl, hx5, hcap5⟩ := hown4.reads) | (go_at_call 79; refine Calls.mono (hO.out _ (by (try simp only [ext_ext]); repeat (first | exact Kept.refl _ | apply Kept.alloc | apply Kept.drew | apply kept_add | apply Kept.ext))) ?_; rintro e w3 ⟨v3, rfl, ho3, k3⟩; have K3 := Kept.trans (show Kept w2 _ from (by (try simp only [ext_ext]); repeat (first | exact Kept.refl _ | apply Kept.alloc | apply Kept.drew | apply kept_add | apply Kept.ext))) k3; first | have hcc := cardCells_kept (cardCells_new t rfl) (by simp) k3 | skip) | (go_at_call 80; refine Calls.mono (hT.out _) ?_; rintro e w' ⟨rfl, y, rfl⟩) | (go_at_call 41; refine Calls.mono (hR.out _ _ _ _ (by simp) k4 hx5 (fun e => by obtain ⟨_, _, he, _⟩ := hx5 0 (by simp); rw [e] at he; cases he)) ?_; rintro e w6 ⟨rfl, k6⟩; have K6 := Kept.trans k4 k6; dsimp only))
        all_goals
          go_wp2_with (fail)
          go_roundw
          case rel => exact ⟨k + 1, by omega, by go_num, by rw [hnx.out, hfH.out]; rfl, (K2.out.trans k4).trans (Kept.trans k6 (by (try simp only [ext_ext]); repeat (first | exact Kept.refl _ | apply Kept.alloc | apply Kept.drew | apply kept_add | apply Kept.ext)))⟩
          case measure => simp [intOf]; omega
    · have he := hid (show thF (m + 1) h ts = false by
        have e : k = 2 * m + 1 := by have := hn2H.out; omega
        have := hfH.out
        rw [e] at this
        exact this)
      go_wp2
      go_ret
      exact ⟨ret_of (by rw [he.out]; rfl), (by (try simp only [ext_ext]); repeat (first | exact Kept.refl _ | apply Kept.alloc | apply Kept.drew | apply kept_add | apply Kept.ext))⟩
end Go.Proofs.Ytinoohckfhhbfaa
