/- Contracts: the program's lines in the direction of a card. -/
import Derived.Test.YtmdnnejaipdkhabT68
namespace Go.Proofs.Ytmdnnejaipdkhab
open Go.RowKit
theorem row3_new {w : World} {g : Nat} {a b d : Int} (h : g = w.heap.size) : Row3 (w.alloc (.cells #[.int .i64 a, .int .i64 b, .int .i64 d] 65)) g a b d := heap_at h
theorem row3_ext {w : World} {g : Nat} {a b d : Int} (y : More) (h : g = w.heap.size) : Row3 (ext (w.alloc (.cells #[.int .i64 a, .int .i64 b, .int .i64 d] 65)) y) g a b d := (row3_new h).kept ⟨y, rfl⟩
theorem ccExt {W : World} {g : Nat} {t : TypeId} (c : Card) (y : More) (h : g = W.heap.size) : CardCells (ext (W.alloc (.cells #[.int .i64 c.a, .int .i64 c.b, .int .i64 c.c, .int .i64 c.d] t)) y) g 0 c :=
  cc_kept (cardCells_new c h) (by rw [h]; simp) ⟨y, rfl⟩
theorem cc_find {W w' : World} {g : Nat} {t : TypeId} {c : Card} (h : g = W.heap.size) (hk : Kept (W.alloc (.cells #[.int .i64 c.a, .int .i64 c.b, .int .i64 c.c, .int .i64 c.d] t)) w') : CardCells w' g 0 c := cc_kept (cardCells_new c h) (by rw [h]; simp) hk
theorem row_find {W w' : World} {g : Nat} {a b d : Int} (h : g = W.heap.size) (hk : Kept (W.alloc (.cells #[.int .i64 a, .int .i64 b, .int .i64 d] 65)) w') : Row3 w' g a b d := (row3_new h).kept hk
theorem areC2 {x c : Card} (hx : isCard x = true) (hc : isCard c = true) : areC [x, c] := fun i hi => by
  obtain rfl | rfl : i = 0 ∨ i = 1 := by simp at hi; omega
  · exact hx
  · exact hc
theorem cards2_new {w : World} {g : Nat} (x c : Card) (h : g = w.heap.size) : CardsAt (w.alloc (.cells #[.int .i64 x.a, .int .i64 x.b, .int .i64 x.c, .int .i64 x.d, .int .i64 c.a, .int .i64 c.b, .int .i64 c.c, .int .i64 c.d] 29)) (some ⟨g, 0, none⟩) [x, c] :=
  cardsAt_block (e := 29) (fr := (0, 0)) (heap_at h)
theorem cards_find {W w' : World} {g : Nat} {x c : Card} (h : g = W.heap.size) (hk : Kept (W.alloc (.cells #[.int .i64 x.a, .int .i64 x.b, .int .i64 x.c, .int .i64 x.d, .int .i64 c.a, .int .i64 c.b, .int .i64 c.c, .int .i64 c.d] 29)) w') : CardsAt w' (some ⟨g, 0, none⟩) [x, c] := (cards2_new x c h).kept hk
set_option maxHeartbeats 4000000 in
set_option maxRecDepth 20000 in
theorem iDeckParting_yes (c : Card) (w : World) (h : dirB c = true) :
    Calls Try.prog 13 #[c.v] w (RetLT w true (dpL c 81)) := by
  obtain ⟨hc, hz⟩ : isCard c = true ∧ (numC c == 0) = false := by simpa [dirB] using h
  have hL := hid (IsCard_any c)
  rw [hc] at hL
  obtain ⟨W, hW⟩ : ∃ W, W = w.alloc (.cells #[.int .i64 c.a, .int .i64 c.b, .int .i64 c.c, .int .i64 c.d] 29) := ⟨_, rfl⟩
  have hWs := hid (show W.heap.size = w.heap.size + 1 by rw [hW]; simp)
  have hWc := hid (show CardCells W w.heap.size 0 c by rw [hW]; exact cardCells_new c rfl)
  have kWH := hid (show Kept w W by rw [hW]; exact (by (try simp only [ext_ext]); repeat (first | exact Kept.refl _ | apply Kept.alloc | apply Kept.drew | apply kept_add | apply Kept.ext)))
  have hWH := hid hW
  have h0H := hid hz
  clear hW h hz
  go_enter Try.func13, Try.ntmps13
  have h0 := h0H.out
  go_wp2_with (first | (go_at_call 40; refine Calls.mono (hL.out _) ?_; rintro e w' ⟨rfl, y, rfl⟩) | (go_at_call 31; refine Calls.mono (number_any _ hc _) ?_; rintro e w' ⟨rfl, y, rfl⟩))
  clear h0
  rw [← hWH.out]
  have hsz := hWs.out
  go_loopw [17, 4] (fun a v wr => ∃ n : Nat, n ≤ 81 ∧ a = .int .i64 n ∧ OwnL W.heap.size wr v (dpL c n) ∧ Kept W wr) (fun a _ _ => 81 - (intOf a).toNat)
  case atStart => exact ⟨0, by omega, rfl, show OwnL _ _ _ [] from ownL_nil (by omega) (heap_at (by simp [hsz] <;> omega)), (by (try simp only [ext_ext]); repeat (first | exact Kept.refl _ | apply Kept.alloc | apply Kept.drew | apply kept_add | apply Kept.ext))⟩
  case round =>
    obtain ⟨n, hn, rfl, ho, hkw⟩ := hrel
    have hoH := hid ho
    have hkwH := hid hkw
    have hlen := hid (dpL_len c n)
    have hnx := hid (dpL_next c n)
    have hSc := hid (show ∀ w', Kept wr w' → w'.cell? ⟨w.heap.size, 0, none⟩ = some (.int .i64 c.a) ∧ w'.cell? ⟨w.heap.size, 1, none⟩ = some (.int .i64 c.b) ∧ w'.cell? ⟨w.heap.size, 2, none⟩ = some (.int .i64 c.c) ∧ w'.cell? ⟨w.heap.size, 3, none⟩ = some (.int .i64 c.d) from fun w' hk => by
      obtain ⟨c0, c1, c2, c3⟩ := cc_kept hWc.out (by omega) (hkw.trans hk)
      exact ⟨c0, by simpa using c1, by simpa using c2, by simpa using c3⟩)
    have hbs : w.heap.size < wr.heap.size := by have := hkw.below.size; omega
    obtain ⟨c0, c1, c2, c3⟩ := hSc.out wr (Kept.refl _)
    clear ho hkw
    by_cases hlt : n < 81
    · obtain ⟨x, hxe⟩ : ∃ x, x = cardN n := ⟨_, rfl⟩
      have hxC : isCard x = true := by rw [hxe]; exact isCard_cardN (by omega) (by omega)
      have hA := hid (fun w' => card_any (n : Int) (by omega) (by omega) w')
      have hdr : Hid (dpR c n = if (n : Int) < numC (sumA (cardN n) c) ∧ (n : Int) < numC (sumA (sumA (cardN n) c) c) then [⟨n, min (numC (sumA (cardN n) c)) (numC (sumA (sumA (cardN n) c) c)), max (numC (sumA (cardN n) c)) (numC (sumA (sumA (cardN n) c) c))⟩] else []) := hid rfl
      rw [← hxe] at hA hdr
      clear hxe
      have hyC := isCard_sumA x c
      obtain ⟨y1, hy1⟩ : ∃ y1, y1 = sumA x c := ⟨_, rfl⟩
      have hS1 := hid (show ∀ ao cap w', CardsAt w' ao [x, c] → Calls Try.prog 41 #[.slice ao 2 cap] w' fun e w'' => e = .returned y1.v ∧ Kept w' w'' from fun ao cap w' hx => by
        rw [hy1, ← sumC_two x c hxC]
        exact sum_any ao cap [x, c] w' hx (by simp) (areC2 hxC hc))
      rw [← hy1] at hyC hdr
      clear hy1
      have hy2C := isCard_sumA y1 c
      obtain ⟨y2, hy2⟩ : ∃ y2, y2 = sumA y1 c := ⟨_, rfl⟩
      have hS2 := hid (show ∀ ao cap w', CardsAt w' ao [y1, c] → Calls Try.prog 41 #[.slice ao 2 cap] w' fun e w'' => e = .returned y2.v ∧ Kept w' w'' from fun ao cap w' hx => by
        rw [hy2, ← sumC_two y1 c hyC]
        exact sum_any ao cap [y1, c] w' hx (by simp) (areC2 hyC hc))
      rw [← hy2] at hy2C hdr
      clear hy2
      have hb1 := numC_bd hyC
      have hb2 := numC_bd hy2C
      go_upto_region 7 with (fail)
      go_cut [6] from 18 to 48 (fun s6 wx => ∃ g6, s6 = .pointer (some ⟨g6, 0, none⟩) ∧ g6 < wx.heap.size ∧ CardCells wx g6 0 y1 ∧ Kept wr wx)
      case first =>
        go_region_held (fun w' => w'.cell? ⟨w.heap.size, 0, none⟩ = some (.int .i64 c.a) ∧ w'.cell? ⟨w.heap.size, 1, none⟩ = some (.int .i64 c.b) ∧ w'.cell? ⟨w.heap.size, 2, none⟩ = some (.int .i64 c.c) ∧ w'.cell? ⟨w.heap.size, 3, none⟩ = some (.int .i64 c.d))
          (exact hSc.out _ (by (try simp only [ext_ext]); repeat (first | exact Kept.refl _ | apply Kept.alloc | apply Kept.drew | apply kept_add | apply Kept.ext)))
          (first | (go_at_call 42; refine Calls.mono (hA.out _) ?_; rintro e w' ⟨rfl, y, rfl⟩) | (go_at_call 41; refine Calls.mono (hS1.out _ _ _ (by (apply cards_find); (case hk => repeat (first | exact Kept.refl _ | apply Kept.alloc | apply Kept.ext)); (case h => first | (simp; done) | (simp; omega)))) ?_; rintro e w' ⟨rfl, y, rfl⟩))
        all_goals
          go_wp2_with (fail)
          go_meet
        all_goals
          refine ⟨_, rfl, ?sz, ?cc, (by (try simp only [ext_ext]); repeat (first | exact Kept.refl _ | apply Kept.alloc | apply Kept.drew | apply kept_add | apply Kept.ext))⟩
          case sz => first | omega | (simp; done) | (simp; omega)
          case cc =>
            apply cc_find
            case hk => repeat (first | exact Kept.refl _ | apply Kept.alloc | apply Kept.ext)
            case h => first | (simp; done) | (simp; omega)
      case rest =>
        obtain ⟨g6, rfl, hg6, hc6, k6⟩ := hcut
        obtain ⟨w6, hw6⟩ : ∃ w6, w6 = wc := ⟨_, rfl⟩
        subst hw6
        have k6H := hid k6
        have hS6 := hid (show ∀ w', Kept w6 w' → w'.cell? ⟨w.heap.size, 0, none⟩ = some (.int .i64 c.a) ∧ w'.cell? ⟨w.heap.size, 1, none⟩ = some (.int .i64 c.b) ∧ w'.cell? ⟨w.heap.size, 2, none⟩ = some (.int .i64 c.c) ∧ w'.cell? ⟨w.heap.size, 3, none⟩ = some (.int .i64 c.d) ∧ w'.cell? ⟨g6, 0, none⟩ = some (.int .i64 y1.a) ∧ w'.cell? ⟨g6, 1, none⟩ = some (.int .i64 y1.b) ∧ w'.cell? ⟨g6, 2, none⟩ = some (.int .i64 y1.c) ∧ w'.cell? ⟨g6, 3, none⟩ = some (.int .i64 y1.d) from fun w' hk => by
          obtain ⟨e0, e1, e2, e3⟩ := hSc.out w' (k6H.out.trans hk)
          obtain ⟨d0, d1, d2, d3⟩ := cc_kept hc6 hg6 hk
          exact ⟨e0, e1, e2, e3, d0, by simpa using d1, by simpa using d2, by simpa using d3⟩)
        have hbs6 : w.heap.size < w6.heap.size := Nat.lt_of_lt_of_le hbs k6.below.size
        obtain ⟨e0, e1, e2, e3, d0, d1, d2, d3⟩ := hS6.out w6 (Kept.refl _)
        clear hc6 k6 c0 c1 c2 c3
        go_upto_region 8 with (fail)
        go_cut [7] from 18 to 48 (fun s7 wx => ∃ g7, s7 = .pointer (some ⟨g7, 0, none⟩) ∧ w6.heap.size ≤ g7 ∧ Row3 wx g7 n (numC y1) (numC y2) ∧ Kept w6 wx)
        case first =>
          go_region_held (fun w' => w'.cell? ⟨w.heap.size, 0, none⟩ = some (.int .i64 c.a) ∧ w'.cell? ⟨w.heap.size, 1, none⟩ = some (.int .i64 c.b) ∧ w'.cell? ⟨w.heap.size, 2, none⟩ = some (.int .i64 c.c) ∧ w'.cell? ⟨w.heap.size, 3, none⟩ = some (.int .i64 c.d) ∧ w'.cell? ⟨g6, 0, none⟩ = some (.int .i64 y1.a) ∧ w'.cell? ⟨g6, 1, none⟩ = some (.int .i64 y1.b) ∧ w'.cell? ⟨g6, 2, none⟩ = some (.int .i64 y1.c) ∧ w'.cell? ⟨g6, 3, none⟩ = some (.int .i64 y1.d))
            (exact hS6.out _ (by (try simp only [ext_ext]); repeat (first | exact Kept.refl _ | apply Kept.alloc | apply Kept.drew | apply kept_add | apply Kept.ext)))
            (first | (go_at_call 31; refine Calls.mono (number_any _ (by assumption) _) ?_; rintro e w' ⟨rfl, y, rfl⟩) | (go_at_call 41; refine Calls.mono (hS2.out _ _ _ (by (apply cards_find); (case hk => repeat (first | exact Kept.refl _ | apply Kept.alloc | apply Kept.ext)); (case h => first | (simp; done) | (simp; omega)))) ?_; rintro e w' ⟨rfl, y, rfl⟩))
          all_goals
            go_wp2_with (fail)
            go_meet
          all_goals
            refine ⟨_, rfl, ?sz, ?cc, (by (try simp only [ext_ext]); repeat (first | exact Kept.refl _ | apply Kept.alloc | apply Kept.drew | apply kept_add | apply Kept.ext))⟩
            case sz => first | omega | (simp; done) | (simp; omega)
            case cc =>
              apply row_find
              case hk => repeat (first | exact Kept.refl _ | apply Kept.alloc | apply Kept.ext)
              case h => first | (simp; done) | (simp; omega)
        case rest =>
          obtain ⟨g7, rfl, hg7, hr7, k7⟩ := hcut
          obtain ⟨w7, hw7⟩ : ∃ w7, w7 = wc := ⟨_, rfl⟩
          subst hw7
          have hr7H := hid hr7
          have k7H := hid (k6H.out.trans k7)
          obtain ⟨r0, r1, r2, _, _, _⟩ := hr7.cells
          have hg7s : g7 < w7.heap.size := (Array.getElem?_eq_some_iff.1 hr7).1
          have hg7w : wr.heap.size ≤ g7 := Nat.le_trans k6H.out.below.size hg7
          clear hr7 k7
          generalize hP : numC y1 = P at *
          generalize hQ : numC y2 = Q at *
          clear hP hQ
          by_cases q1 : (n : Int) < P
          · by_cases q2 : (n : Int) < Q
            · have hone := hid (show dpR c n = [⟨n, min P Q, max P Q⟩] by rw [hdr.out, if_pos ⟨q1, q2⟩])
              have q3 : (n : Int) < min P Q := by omega
              have hSo := hid (fun w' (hk : Kept w7 w') => sort3_any g7 n P Q w' (hr7H.out.kept hk) q1 q2)
              clear hr7H
              go_wp2_with (fail)
              all_goals
                clear r0 r1 r2
                (go_at_call 43; refine Calls.mono (hSo.out _ (by (try simp only [ext_ext]); repeat (first | exact Kept.refl _ | apply Kept.alloc | apply Kept.drew | apply kept_add | apply Kept.ext))) ?_; rintro e w8 ⟨rfl, hr8, g8⟩)
                have K8 := hid (k7H.out.grown g8 (fun k e => by cases e; exact hg7w))
                obtain ⟨r0, r1, r2, _, _, _⟩ := hr8.cells
                have hg8s : g7 < w8.heap.size := (Array.getElem?_eq_some_iff.1 hr8).1
                clear hr8 g8
                go_wp2_with (first | (at_builtin; refine wpList_append_ln_at rfl _ _ rfl W W.heap.size _ (dpL c n) rfl (hoH.out.kept (K8.out.trans (by (try simp only [ext_ext]); repeat (first | exact Kept.refl _ | apply Kept.alloc | apply Kept.drew | apply kept_add | apply Kept.ext)))) (hkwH.out.trans (K8.out.trans (by (try simp only [ext_ext]); repeat (first | exact Kept.refl _ | apply Kept.alloc | apply Kept.drew | apply kept_add | apply Kept.ext)))) (Nat.le_refl _) (Kept.below (hkwH.out.trans (K8.out.trans (by (try simp only [ext_ext]); repeat (first | exact Kept.refl _ | apply Kept.alloc | apply Kept.drew | apply kept_add | apply Kept.ext))))).size _ _ ⟨n, min P Q, max P Q⟩ rfl (lnCells_new (⟨n, min P Q, max P Q⟩ : Ln) (by simp)) (by have := hlen.out; omega) ?_; intro v' w9 hown1 hk1 hg1 hat1))
                go_roundw
                case rel => exact ⟨n + 1, hlt, by go_num, by rw [hnx.out, hone.out]; exact hown1, hk1⟩
                case measure => simp [intOf]; omega
            · have hone := hid (show dpR c n = [] by rw [hdr.out, if_neg (fun e => q2 e.2)])
              have q3 : ¬ (n : Int) < min P Q := by omega
              go_wp2_with (fail)
              all_goals
                go_roundw
                case rel => exact ⟨n + 1, hlt, by go_num, by rw [hnx.out, hone.out, List.append_nil]; exact hoH.out.kept (k7H.out.trans (by (try simp only [ext_ext]); repeat (first | exact Kept.refl _ | apply Kept.alloc | apply Kept.drew | apply kept_add | apply Kept.ext))), hkwH.out.trans (k7H.out.trans (by (try simp only [ext_ext]); repeat (first | exact Kept.refl _ | apply Kept.alloc | apply Kept.drew | apply kept_add | apply Kept.ext)))⟩
                case measure => simp [intOf]; omega
          · have hone := hid (show dpR c n = [] by rw [hdr.out, if_neg (fun e => q1 e.1)])
            have q3 : ¬ (n : Int) < min P Q := by omega
            go_wp2_with (fail)
            all_goals
              go_roundw
              case rel => exact ⟨n + 1, hlt, by go_num, by rw [hnx.out, hone.out, List.append_nil]; exact hoH.out.kept (k7H.out.trans (by (try simp only [ext_ext]); repeat (first | exact Kept.refl _ | apply Kept.alloc | apply Kept.drew | apply kept_add | apply Kept.ext))), hkwH.out.trans (k7H.out.trans (by (try simp only [ext_ext]); repeat (first | exact Kept.refl _ | apply Kept.alloc | apply Kept.drew | apply kept_add | apply Kept.ext)))⟩
              case measure => simp [intOf]; omega
    · obtain rfl : n = 81 := by omega
      obtain ⟨oo, ocap, hv, _, _⟩ := hoH.out.reads
      subst hv
      go_wp2
      refine bodyPost_ret (v := .tuple #[.slice oo (dpL c 81).length ocap, .bool true]) (by simp [results, Try.results13, go_sem]) rfl ?_
      exact ⟨_, rfl, (hoH.out.kept (by (try simp only [ext_ext]); repeat (first | exact Kept.refl _ | apply Kept.alloc | apply Kept.drew | apply kept_add | apply Kept.ext))).mono (by omega), kWH.out.trans (hkwH.out.trans (by (try simp only [ext_ext]); repeat (first | exact Kept.refl _ | apply Kept.alloc | apply Kept.drew | apply kept_add | apply Kept.ext)))⟩
end Go.Proofs.Ytmdnnejaipdkhab
