/- Contracts: the program's middles of four cards. -/
import Derived.Test.YtenmnipgnjaheaaT83
import Derived.Test.YtenmnipgnjaheaaT28
namespace Go.Proofs.Ytenmnipgnjaheaa
open Go.RowKit
/-- The middles by the first card and another one. -/
def midK (q : List Card) (k : Nat) : List Card := mid1 (cx q 0) (cx q k) (cx (rstTo q k 4) 0) (cx (rstTo q k 4) 1)
def midTo (q : List Card) (k : Nat) : List Card := (List.range k).flatMap fun j => midK q (j + 1)
theorem midTo_next (q : List Card) (k : Nat) : midTo q (k + 1) = midTo q k ++ midK q (k + 1) := by simp [midTo, List.range_succ]
theorem midTo_len (q : List Card) (k : Nat) : (midTo q k).length ≤ k := by
  induction k with
  | zero => simp [midTo]
  | succ k ih =>
    rw [midTo_next, List.length_append]
    have := mid1_len (cx q 0) (cx q (k + 1)) (cx (rstTo q (k + 1) 4) 0) (cx (rstTo q (k + 1) 4) 1)
    unfold midK; omega
theorem midTo_all (a b c d : Card) : midTo [a, b, c, d] 3 = midL a b c d := by
  have e1 : midK [a, b, c, d] 1 = mid1 a b c d := rfl
  have e2 : midK [a, b, c, d] 2 = mid1 a c b d := rfl
  have e3 : midK [a, b, c, d] 3 = mid1 a d b c := rfl
  rw [midTo_next, midTo_next, midTo_next, e1, e2, e3]
  simp [midTo, midL]
theorem rst4_len (a b c d : Card) {k : Nat} (h0 : 1 ≤ k) (h3 : k ≤ 3) : (rstTo [a, b, c, d] k 4).length = 2 := by
  obtain rfl | rfl | rfl : k = 1 ∨ k = 2 ∨ k = 3 := by omega
  all_goals rfl
theorem rst4_card {q : List Card} (h : areC q) (hn : q.length = 4) (k : Nat) : areC (rstTo q k 4) := areC_mem.2 fun c hc => by
  simp only [rstTo, List.mem_map, List.mem_filter, List.mem_range] at hc
  obtain ⟨i, ⟨hi, _⟩, rfl⟩ := hc
  exact h i (by omega)
abbrev qv (a b c d : Card) : Value := .agg #[.int .i64 a.a, .int .i64 a.b, .int .i64 a.c, .int .i64 a.d, .int .i64 b.a, .int .i64 b.b, .int .i64 b.c, .int .i64 b.d, .int .i64 c.a, .int .i64 c.b, .int .i64 c.c, .int .i64 c.d, .int .i64 d.a, .int .i64 d.b, .int .i64 d.c, .int .i64 d.d]
theorem areC4 {a b c d : Card} (ha : isCard a = true) (hb : isCard b = true) (hc : isCard c = true) (hd : isCard d = true) : areC [a, b, c, d] := areC_mem.2 fun x hx => by
  simp only [List.mem_cons, List.not_mem_nil, or_false] at hx
  rcases hx with rfl | rfl | rfl | rfl <;> assumption
/-- A row of cards in memory of its own, behind an address. -/
def MidO (W : World) (L : List Card) (s : Value) (wx : World) : Prop := ∃ g cap n, s = .slice (some ⟨g, 0, none⟩) n cap ∧ L.length = n ∧ OwnC W.heap.size wx s L ∧ Kept W wx
theorem ownC_addr {B : Nat} {w : World} {v : Value} {cs : List Card} (h : OwnC B w v cs) (hn : 0 < cs.length) : ∃ g cap, v = .slice (some ⟨g, 0, none⟩) cs.length cap := by
  rcases h.2 with ⟨_, h0⟩ | ⟨g, cap, cur, e, _⟩
  · omega
  · exact ⟨g, cap, e⟩
set_option maxHeartbeats 2000000 in
set_option maxRecDepth 20000 in
theorem middles_walk (a b c d : Card) (ha : isCard a = true) (hb : isCard b = true) (hc : isCard c = true) (hd : isCard d = true) (hdist : distC (midL a b c d)) (w : World) :
    Calls Try.prog 33 #[qv a b c d] w (RetC w (srt (midL a b c d))) := by
  obtain ⟨W, hW⟩ : ∃ W, W = w.alloc (.cells #[.int .i64 a.a, .int .i64 a.b, .int .i64 a.c, .int .i64 a.d, .int .i64 b.a, .int .i64 b.b, .int .i64 b.c, .int .i64 b.d, .int .i64 c.a, .int .i64 c.b, .int .i64 c.c, .int .i64 c.d, .int .i64 d.a, .int .i64 d.b, .int .i64 d.c, .int .i64 d.d] 55) := ⟨_, rfl⟩
  obtain ⟨q, hq⟩ : ∃ q, q = [a, b, c, d] := ⟨_, rfl⟩
  have hxq := hid (show CardsAt W (some ⟨w.heap.size, 0, none⟩) q by rw [hW, hq]; exact cardsAt_block (cs := [a, b, c, d]) (heap_at rfl))
  have kW := hid (show Kept w W by rw [hW]; exact (by (try simp only [ext_ext]); repeat (first | exact Kept.refl _ | apply Kept.alloc | apply Kept.drew | apply kept_add | apply Kept.ext)))
  have hsz := hid (show W.heap.size = w.heap.size + 1 by rw [hW]; simp)
  have hWH := hid hW
  have hqc := hid (show areC q by rw [hq]; exact areC4 ha hb hc hd)
  have hql := hid (show q.length = 4 by rw [hq]; rfl)
  have hall := hid (show midTo q 3 = midL a b c d by rw [hq]; exact midTo_all a b c d)
  have hrl := hid (fun k h0 h3 => show (rstTo q k 4).length = 2 by rw [hq]; exact rst4_len a b c d (k := k) h0 h3)
  have hmc := hid (midL_card ha hb hc hd)
  have hmd := hid hdist
  clear hW hq hdist
  go_enter Try.func33, Try.ntmps33
  go_wp2
  rw [← hWH.out]
  have h0 : MidO W [] (.slice (some ⟨w.heap.size + 1, 0, none⟩) 0 0) (W.alloc (.cells #[] 48)) := ⟨_, _, _, rfl, rfl, ownC_nil (by have := hsz.out; omega) (heap_at (by rw [hsz.out])), (by (try simp only [ext_ext]); repeat (first | exact Kept.refl _ | apply Kept.alloc | apply Kept.drew | apply kept_add | apply Kept.ext))⟩
  have h0H := hid h0
  clear h0
  go_loopw [4, 3] (fun s4 s3 wr => ∃ k : Nat, k ≤ 3 ∧ s4 = .int .i64 ((k : Int) + 1) ∧ MidO W (midTo q k) s3 wr) (fun s4 _ _ => 4 - (intOf s4).toNat)
  case atStart => exact ⟨0, by omega, rfl, h0H.out⟩
  case round =>
    obtain ⟨w0, hw0⟩ : ∃ w0, w0 = wr := ⟨_, rfl⟩
    subst hw0
    obtain ⟨k, hk, rfl, g3, cap3, n3, rfl, hn3, ho3, k3⟩ := hrel
    have hn3H := hid hn3
    have ho3H := hid ho3
    have k3H := hid k3
    have hnx := hid (midTo_next q k)
    have hlen := hid (midTo_len q k)
    clear hn3 ho3
    by_cases hlt : k < 3
    · have hxq0 := hid (hxq.out.kept k3)
      have hk4 : (k : Int) + 1 < 4 := by omega
      clear k3
      go_wp2
      go_loopw [6, 5] (fun s6 s5 wr => ∃ i : Nat, 1 ≤ i ∧ i ≤ 4 ∧ s6 = .int .i64 i ∧ OwnC w0.heap.size wr s5 (rstTo q (k + 1) i) ∧ Kept w0 wr) (fun s6 _ _ => 4 - (intOf s6).toNat)
      case atStart => exact ⟨1, by omega, by omega, rfl, show OwnC _ _ _ [] from ownC_nil (by simp) (heap_at (by simp)), (by (try simp only [ext_ext]); repeat (first | exact Kept.refl _ | apply Kept.alloc | apply Kept.drew | apply kept_add | apply Kept.ext))⟩
      case round =>
        obtain ⟨i, hi1, hi4, rfl, hown, z, rfl⟩ := hrel
        have hownH := hid hown
        clear hown
        have hlen5 := hid (rstTo_len q (k + 1) i)
        by_cases hlt2 : i < 4
        · by_cases hik : i = k + 1
          · have hno := hid (rstTo_no q (i := k + 1))
            subst hik
            go_wp2
            go_roundw
            case rel => exact ⟨k + 1 + 1, by omega, by omega, by go_num, by rw [hno.out]; exact hownH.out.kept (by (try simp only [ext_ext]); repeat (first | exact Kept.refl _ | apply Kept.alloc | apply Kept.drew | apply kept_add | apply Kept.ext)), (by (try simp only [ext_ext]); repeat (first | exact Kept.refl _ | apply Kept.alloc | apply Kept.drew | apply kept_add | apply Kept.ext))⟩
            case measure => simp [intOf]; omega
          · have hyes := hid (rstTo_yes q hi1 hik)
            have hne : ((i : Int) != (k : Int) + 1) = true := by simp; omega
            have hne2 : ¬ (i : Int) = (k : Int) + 1 := by omega
            obtain ⟨_, _, he, hgq, c0, c1, c2, c3⟩ := hxq0.out i (by rw [hql.out]; omega)
            cases he
            simp only [Nat.zero_add] at c0 c1 c2 c3
            go_wp2_with (first | (at_builtin; refine wpList_append_card rfl _ _ rfl w0 _ _ rfl (hownH.out.kept (by (try simp only [ext_ext]); repeat (first | exact Kept.refl _ | apply Kept.alloc | apply Kept.drew | apply kept_add | apply Kept.ext))) (by (try simp only [ext_ext]); repeat (first | exact Kept.refl _ | apply Kept.alloc | apply Kept.drew | apply kept_add | apply Kept.ext)) _ _ (cx q i) rfl (cardCells_new _ (by simp)) (by have := hlen5.out; omega) ?_; intro v' z' hown'))
            go_roundw
            case rel => exact ⟨i + 1, by omega, by omega, by go_num, by rw [hyes.out]; exact hown', (by (try simp only [ext_ext]); repeat (first | exact Kept.refl _ | apply Kept.alloc | apply Kept.drew | apply kept_add | apply Kept.ext))⟩
            case measure => simp [intOf]; omega
        · obtain rfl : i = 4 := by omega
          have hrl2 := hid (hrl.out (k + 1) (by omega) (by omega))
          have hrc := hid (rst4_card hqc.out hql.out (k + 1))
          have hmk : midK q (k + 1) = mid1 (cx q 0) (cx q (k + 1)) (cx (rstTo q (k + 1) 4) 0) (cx (rstTo q (k + 1) 4) 1) := rfl
          obtain ⟨r, hr⟩ : ∃ r, r = rstTo q (k + 1) 4 := ⟨_, rfl⟩
          rw [← hr] at hownH hrl2 hrc hmk
          clear hr hlen5
          obtain ⟨g5, cap5, rfl⟩ : ∃ g5 cap5, u5 = .slice (some ⟨g5, 0, none⟩) 2 cap5 := by
            have := ownC_addr hownH.out (by rw [hrl2.out]; omega)
            rwa [hrl2.out] at this
          have hxr := hid (show CardsAt (ext w0 z) (some ⟨g5, 0, none⟩) r by
            obtain ⟨_, _, hv, hx, _⟩ := hownH.out.reads
            rw [hrl2.out] at hv
            cases hv; exact hx)
          clear hownH
          obtain ⟨_, _, he, hgq, a0, a1, a2, a3⟩ := hxq0.out 0 (by rw [hql.out]; omega)
          cases he
          obtain ⟨_, _, he, _, b0, b1, b2, b3⟩ := hxq0.out (k + 1) (by rw [hql.out]; omega)
          cases he
          simp only [Nat.zero_mul, Nat.zero_add] at a0 a1 a2 a3 b0 b1 b2 b3
          have hC0 := hqc.out 0 (by rw [hql.out]; omega)
          have hCk := hqc.out (k + 1) (by rw [hql.out]; omega)
          have hO0 := hrc.out 0 (by rw [hrl2.out]; omega)
          have hO1 := hrc.out 1 (by rw [hrl2.out]; omega)
          have hS := hid (fun w' (hk : Kept w0 w') => show w'.cell? ⟨w.heap.size, 0, none⟩ = some (.int .i64 (cx q 0).a) ∧ w'.cell? ⟨w.heap.size, 1, none⟩ = some (.int .i64 (cx q 0).b) ∧ w'.cell? ⟨w.heap.size, 2, none⟩ = some (.int .i64 (cx q 0).c) ∧ w'.cell? ⟨w.heap.size, 3, none⟩ = some (.int .i64 (cx q 0).d) ∧ w'.cell? ⟨w.heap.size, (k + 1) * 4, none⟩ = some (.int .i64 (cx q (k + 1)).a) ∧ w'.cell? ⟨w.heap.size, (k + 1) * 4 + 1, none⟩ = some (.int .i64 (cx q (k + 1)).b) ∧ w'.cell? ⟨w.heap.size, (k + 1) * 4 + 2, none⟩ = some (.int .i64 (cx q (k + 1)).c) ∧ w'.cell? ⟨w.heap.size, (k + 1) * 4 + 3, none⟩ = some (.int .i64 (cx q (k + 1)).d) from ⟨(hk.below.cell (p := ⟨_, _, none⟩) hgq).trans a0, (hk.below.cell (p := ⟨_, _, none⟩) hgq).trans a1, (hk.below.cell (p := ⟨_, _, none⟩) hgq).trans a2, (hk.below.cell (p := ⟨_, _, none⟩) hgq).trans a3, (hk.below.cell (p := ⟨_, _, none⟩) hgq).trans b0, (hk.below.cell (p := ⟨_, _, none⟩) hgq).trans b1, (hk.below.cell (p := ⟨_, _, none⟩) hgq).trans b2, (hk.below.cell (p := ⟨_, _, none⟩) hgq).trans b3⟩)
          go_upto_region 11 with (fail)
          go_cut [7] from 9 to 45 (fun s7 wx => ∃ g7, s7 = .pointer (some ⟨g7, 0, none⟩) ∧ g7 < wx.heap.size ∧ CardCells wx g7 0 (thirdC (cx q 0) (cx q (k + 1))) ∧ Kept (ext w0 z) wx)
          case first =>
            go_region_held (fun w' => w'.cell? ⟨w.heap.size, 0, none⟩ = some (.int .i64 (cx q 0).a) ∧ w'.cell? ⟨w.heap.size, 1, none⟩ = some (.int .i64 (cx q 0).b) ∧ w'.cell? ⟨w.heap.size, 2, none⟩ = some (.int .i64 (cx q 0).c) ∧ w'.cell? ⟨w.heap.size, 3, none⟩ = some (.int .i64 (cx q 0).d) ∧ w'.cell? ⟨w.heap.size, (k + 1) * 4, none⟩ = some (.int .i64 (cx q (k + 1)).a) ∧ w'.cell? ⟨w.heap.size, (k + 1) * 4 + 1, none⟩ = some (.int .i64 (cx q (k + 1)).b) ∧ w'.cell? ⟨w.heap.size, (k + 1) * 4 + 2, none⟩ = some (.int .i64 (cx q (k + 1)).c) ∧ w'.cell? ⟨w.heap.size, (k + 1) * 4 + 3, none⟩ = some (.int .i64 (cx q (k + 1)).d))
              (exact hS.out _ (by (try simp only [ext_ext]); repeat (first | exact Kept.refl _ | apply Kept.alloc | apply Kept.drew | apply kept_add | apply Kept.ext)))
              (first | (go_at_call 62; refine Calls.mono (third_any _ _ hC0 hCk _) ?_; rintro e w' ⟨rfl, y, rfl⟩))
            all_goals
              go_wp2_with (fail)
              go_meet
            all_goals first | exact ⟨_, rfl, by simp, cardCells_new _ (by simp), (by (try simp only [ext_ext]); repeat (first | exact Kept.refl _ | apply Kept.alloc | apply Kept.drew | apply kept_add | apply Kept.ext))⟩ | exact ⟨_, rfl, by simp <;> omega, cardCells_ext _ _ (by simp), (by (try simp only [ext_ext]); repeat (first | exact Kept.refl _ | apply Kept.alloc | apply Kept.drew | apply kept_add | apply Kept.ext))⟩
          case rest =>
            obtain ⟨g7, rfl, hg7, hc7, k7⟩ := hcut
            obtain ⟨w7, hw7⟩ : ∃ w7, w7 = wc := ⟨_, rfl⟩
            subst hw7
            have k07 := hid (show Kept w0 w7 from Kept.trans (by (try simp only [ext_ext]); repeat (first | exact Kept.refl _ | apply Kept.alloc | apply Kept.drew | apply kept_add | apply Kept.ext)) k7)
            have hc7H := hid hc7
            obtain ⟨p0, p1, p2, p3⟩ := hc7
            obtain ⟨_, _, he, hg5, d0, d1, d2, d3⟩ := (hxr.out.kept k7) 0 (by rw [hrl2.out]; omega)
            cases he
            obtain ⟨_, _, he, _, f0, f1, f2, f3⟩ := (hxr.out.kept k7) 1 (by rw [hrl2.out]; omega)
            cases he
            simp only [Nat.zero_mul, Nat.one_mul, Nat.add_zero, Nat.zero_add, Nat.reduceAdd] at p0 p1 p2 p3 d0 d1 d2 d3 f0 f1 f2 f3
            obtain ⟨e, he⟩ : ∃ e, e = decide (thirdC (cx q 0) (cx q (k + 1)) = thirdC (cx r 0) (cx r 1)) := ⟨_, rfl⟩
            have heH := hid he
            have hmkH := hid hmk
            have htC := isCard_third hC0 hCk
            clear he hmk k7 hxr hS a0 a1 a2 a3 b0 b1 b2 b3
            obtain ⟨t, ht⟩ : ∃ t, t = thirdC (cx q 0) (cx q (k + 1)) := ⟨_, rfl⟩
            rw [← ht] at p0 p1 p2 p3 heH hc7H htC
            have htH := hid ht
            clear ht
            obtain ⟨R0, hR0⟩ : ∃ R0, R0 = cx r 0 := ⟨_, rfl⟩
            obtain ⟨R1, hR1⟩ : ∃ R1, R1 = cx r 1 := ⟨_, rfl⟩
            rw [← hR0] at d0 d1 d2 d3 heH hO0 hmkH
            rw [← hR1] at f0 f1 f2 f3 heH hO1 hmkH
            clear hR0 hR1
            go_upto_if 41 with (first | (refine wp_region_ext (by kernel_rfl) (by kernel_rfl) ?_; (repeat (go_big_quiet_step (((first | (go_at_call 62; first | exact ext_call (third_any _ _ hO0 hO1 _) | exact ext_call2 (third_any _ _ hO0 hO1 _))))))); refine wpQuiet_end fun z => ?_))
            try rw [← heH.out]
            cases e with
            | true =>
              have h1 := hid (show midK q (k + 1) = [t] by rw [hmkH.out, htH.out]; exact mid1_yes (by rw [← htH.out]; exact heH.out.symm))
              go_wp2_with (first | (at_builtin; refine wpList_append_card_at rfl _ _ rfl W W.heap.size _ (midTo q k) rfl (ho3H.out.kept (k07.out.trans (by (try simp only [ext_ext]); repeat (first | exact Kept.refl _ | apply Kept.alloc | apply Kept.drew | apply kept_add | apply Kept.ext)))) (k3H.out.trans (k07.out.trans (by (try simp only [ext_ext]); repeat (first | exact Kept.refl _ | apply Kept.alloc | apply Kept.drew | apply kept_add | apply Kept.ext)))) (Nat.le_refl _) (Kept.below (k3H.out.trans (k07.out.trans (by (try simp only [ext_ext]); repeat (first | exact Kept.refl _ | apply Kept.alloc | apply Kept.drew | apply kept_add | apply Kept.ext))))).size _ _ t rfl (cardCells_new _ (by simp)) (by have := hlen.out; omega) ?_; intro v' w8 hown' k8 g8 hat))
              have hmid : MidO W (midTo q k ++ [t]) v' w8 := by
                obtain ⟨g9, cap9, hv⟩ := ownC_addr hown' (by simp)
                exact ⟨g9, cap9, _, hv, rfl, hown', k8⟩
              clear hown' k8 g8 hat
              go_roundw
              case rel => exact ⟨k + 1, by omega, by go_num, by rw [hnx.out, h1.out]; exact hmid⟩
              case measure => simp [intOf]; omega
            | false =>
              have h1 := hid (show midK q (k + 1) = [] by rw [hmkH.out]; exact mid1_no (by rw [← htH.out]; exact heH.out.symm))
              go_wp2_with (fail)
              go_roundw
              case rel => exact ⟨k + 1, by omega, by go_num, by rw [hnx.out, h1.out, List.append_nil]; exact ⟨g3, cap3, n3, rfl, hn3H.out, ho3H.out.kept (k07.out.trans (by (try simp only [ext_ext]); repeat (first | exact Kept.refl _ | apply Kept.alloc | apply Kept.drew | apply kept_add | apply Kept.ext))), k3H.out.trans (k07.out.trans (by (try simp only [ext_ext]); repeat (first | exact Kept.refl _ | apply Kept.alloc | apply Kept.drew | apply kept_add | apply Kept.ext)))⟩⟩
              case measure => simp [intOf]; omega
    · obtain rfl : k = 3 := by omega
      have hn3' : (midL a b c d).length = n3 := by rw [← hall.out]; exact hn3H.out
      have ho3' := ho3H.out
      rw [hall.out] at ho3'
      have hS := hid (fun w' (hk : Kept w0 w') => sorted_any g3 0 cap3 n3 (midL a b c d) w' ((show CardsAt w0 (some ⟨g3, 0, none⟩) (midL a b c d) by
        obtain ⟨_, _, hv, hx, _⟩ := ho3'.reads
        cases hv; exact hx).kept hk) hn3' hmc.out (by have := midL_len a b c d; omega))
      clear ho3' hn3' k3
      go_wp2_with (fail)
      (go_at_call 63; refine Calls.mono (hS.out _ (by (try simp only [ext_ext]); repeat (first | exact Kept.refl _ | apply Kept.alloc | apply Kept.drew | apply kept_add | apply Kept.ext))) ?_; rintro e w9 ⟨zs, v9, rfl, ho9, k9, hz, _⟩)
      obtain rfl := hz hmd.out
      have ho9H := hid ho9
      have k9H := hid k9
      have hs9 := hid ((show Kept w _ from kW.out.trans (k3H.out.trans (by (try simp only [ext_ext]); repeat (first | exact Kept.refl _ | apply Kept.alloc | apply Kept.drew | apply kept_add | apply Kept.ext)))).below.size)
      clear ho9 k9 hS hz
      obtain ⟨ao9, cap9, rfl, _, _⟩ := ho9H.out.reads
      go_wp2_with (fail)
      refine bodyPost_ret (v := .slice ao9 (srt (midL a b c d)).length cap9) (by simp [results, Try.results33, go_sem]) rfl ?_
      exact ⟨_, rfl, OwnC.mono ho9H.out hs9.out, kW.out.trans (k3H.out.trans (Kept.trans (by (try simp only [ext_ext]); repeat (first | exact Kept.refl _ | apply Kept.alloc | apply Kept.drew | apply kept_add | apply Kept.ext)) k9H.out))⟩
end Go.Proofs.Ytenmnipgnjaheaa
