/- The span of cards: the plain law; the reference's search (spec.l6Span). -/
import Derived.Test.YtenmnipgnjaheaaT76
import Derived.Test.YtenmnipgnjaheaaC7
import Derived.Test.YtenmnipgnjaheaaT8
import Derived.Deep.CutRange
import Derived.Deep.RegionHeld
namespace Go.Proofs.Ytenmnipgnjaheaa
open Go.RowKit
theorem thirdC_sym (x y : Card) : thirdC x y = thirdC y x := by
  have h : ∀ x y : Int, thirdT x y = thirdT y x := fun x y => by unfold thirdT; omega
  simp only [thirdC, h]
theorem isCard_thirdS {x y : Card} (hx : isCard x = true) (hy : isCard y = true) : isCard (thirdC x y) = true := by
  obtain ⟨x1, x2, x3, x4⟩ := isCard_of hx
  obtain ⟨y1, y2, y3, y4⟩ := isCard_of hy
  simp only [isCard, thirdC, thirdT, Bool.and_eq_true]
  exact ⟨⟨⟨inB_t (by omega) (by omega), inB_t (by omega) (by omega)⟩, inB_t (by omega) (by omega)⟩, inB_t (by omega) (by omega)⟩
/-- The table of places, behind the first k cards. -/
def placesF (xs : List Card) : Nat → Nat → Int
  | 0 => fun _ => 0
  | k + 1 => upd (placesF xs k) (numC (cx xs k)).toNat (k + 1)
/-- A set that holds the third card of any two of its own. -/
def ClosedS (S : Card → Prop) : Prop := ∀ a b, S a → S b → a ≠ b → S (thirdC a b)
/-- A card of the span. -/
def inSpan (xs : List Card) (c : Card) : Prop := ∀ S : Card → Prop, ClosedS S → (∀ d, d ∈ xs → S d) → S c
open Classical in
noncomputable def spanC (xs : List Card) : List Card := srtP fun c => decide (inSpan xs c)
theorem spanC_asc (xs : List Card) : Asc (spanC xs) := srtP_asc _
theorem spanC_len (xs : List Card) : (spanC xs).length ≤ 81 := srtP_len _
theorem spanC_mem (xs : List Card) (c : Card) : c ∈ spanC xs ↔ isCard c = true ∧ inSpan xs c := by
  unfold spanC
  rw [srtP_mem]
  simp only [decide_eq_true_eq]
theorem spanC_cards {xs : List Card} : ∀ c ∈ spanC xs, isCard c = true := fun c h => ((spanC_mem xs c).1 h).1
theorem inSpan_base {xs : List Card} {c : Card} (h : c ∈ xs) : inSpan xs c := fun _ _ hb => hb c h
theorem inSpan_third {xs : List Card} {a b : Card} (ha : inSpan xs a) (hb : inSpan xs b) (hne : a ≠ b) : inSpan xs (thirdC a b) := fun S hc hx => hc a b (ha S hc hx) (hb S hc hx) hne
theorem srt_span {xs zs : List Card} (hz : ∀ c ∈ zs, isCard c = true) (hb : ∀ c ∈ xs, c ∈ zs) (hs : ∀ c ∈ zs, inSpan xs c) (hp : ∀ i k, k < i → i < zs.length → thirdC (cx zs i) (cx zs k) ∈ zs) : srt zs = spanC xs := by
  have hcl : ClosedS (fun c => c ∈ zs) := fun a b ha hb hne => by
    obtain ⟨i, hi, rfl⟩ := List.getElem_of_mem ha
    obtain ⟨j, hj, rfl⟩ := List.getElem_of_mem hb
    rw [← cx_get _ _ hi, ← cx_get _ _ hj] at hne ⊢
    rcases Nat.lt_trichotomy i j with h | h | h
    · rw [thirdC_sym]; exact hp j i h hj
    · subst h; exact absurd rfl hne
    · exact hp i j h hi
  refine asc_unique (srt_asc zs) (spanC_asc xs) fun c => ?_
  rw [srt_mem hz, spanC_mem]
  exact ⟨fun h => ⟨hz c h, hs c h⟩, fun h => h.2 _ hcl hb⟩
def lenOf : Value → Nat
  | .slice _ n _ => n
  | _ => 0
/-- What the reference's search knows of its list, up to a place. -/
structure SpanI (xs zs : List Card) (i : Nat) : Prop where
  asc : Asc zs
  cards : ∀ c ∈ zs, isCard c = true
  base : ∀ c ∈ xs, c ∈ zs
  sub : ∀ c ∈ zs, inSpan xs c
  done : ∀ a b, b < a → a < i → thirdC (cx zs a) (cx zs b) ∈ zs
theorem SpanI.len {xs zs : List Card} {i : Nat} (h : SpanI xs zs i) : zs.length ≤ 81 := by rw [← srt_self h.cards h.asc]; exact srt_len _
theorem SpanI.next {xs zs : List Card} {i : Nat} (h : SpanI xs zs i) (hd : ∀ b, b < i → thirdC (cx zs i) (cx zs b) ∈ zs) : SpanI xs zs (i + 1) :=
  ⟨h.asc, h.cards, h.base, h.sub, fun a b hab ha => if e : a < i then h.done a b hab e else by rw [show a = i by omega] at hab ⊢; exact hd b hab⟩
theorem SpanI.put {xs zs : List Card} {i k : Nat} (h : SpanI xs zs i) (hk : k < i) (hi : i < zs.length) : SpanI xs (srt (thirdC (cx zs i) (cx zs k) :: zs)) 0 := by
  have hall : ∀ c ∈ thirdC (cx zs i) (cx zs k) :: zs, isCard c = true := fun c hc => by
    rcases List.mem_cons.1 hc with rfl | hc
    · exact isCard_thirdS (h.cards _ (cx_mem hi)) (h.cards _ (cx_mem (by omega)))
    · exact h.cards c hc
  refine ⟨srt_asc _, srt_cards, fun c hc => (srt_mem hall c).2 (List.mem_cons_of_mem _ (h.base c hc)), fun c hc => ?_, fun a b _ ha => by omega⟩
  rcases List.mem_cons.1 ((srt_mem hall c).1 hc) with rfl | hc
  · refine inSpan_third (h.sub _ (cx_mem hi)) (h.sub _ (cx_mem (by omega))) fun e => ?_
    have := asc_lt h.asc hk hi
    rw [e] at this; omega
  · exact h.sub c hc
theorem put_longer {zs : List Card} (hz : ∀ c ∈ zs, isCard c = true) (ha : Asc zs) {c : Card} (hc : isCard c = true) (hn : ¬ c ∈ zs) : zs.length < (srt (c :: zs)).length := by
  have hall : ∀ d ∈ c :: zs, isCard d = true := fun d hd => by
    rcases List.mem_cons.1 hd with rfl | hd
    · exact hc
    · exact hz d hd
  have hp : (srt (c :: zs)).Perm (c :: zs) := (List.perm_ext_iff_of_nodup (asc_nodup (srt_asc _)) (List.nodup_cons.2 ⟨hn, asc_nodup ha⟩)).2 (srt_mem hall)
  rw [hp.length_eq, List.length_cons]; omega
theorem cardCells_extS {W : World} {g : Nat} {t : TypeId} (c : Card) (y : More) (h : g = W.heap.size) : CardCells (ext (W.alloc (.cells #[.int .i64 c.a, .int .i64 c.b, .int .i64 c.c, .int .i64 c.d] t)) y) g 0 c :=
  cardCells_kept (cardCells_new c h) (by rw [h]; simp) ⟨y, rfl⟩
theorem lenOf_slice (a : Option Addr) (n c : Nat) : lenOf (.slice a n c) = n := rfl
set_option maxHeartbeats 2000000 in
set_option maxRecDepth 20000 in
theorem l6Span_any (ao : Option Addr) (cap n : Nat) (cs : List Card) (w : World) (hx : CardsAt w ao cs) (hn : cs.length = n) (hcs : ∀ c ∈ cs, isCard c = true) (hl : n ≤ 1000) :
    Calls Try.prog 65 #[.slice ao n cap] w (RetP w (spanC cs)) := by
  have hS0 := hid (fun (w' : World) (hk : Kept w w') => l2Sorted_any ao cap n cs w' (hx.kept hk) hn hcs hl)
  have hcsH := hid hcs
  clear hx hn hcs
  go_enter Try.func65, Try.ntmps65
  go_wp2_with (fail)
  (go_at_call 81; refine Calls.mono (hS0.out _ (by (try simp only [ext_ext]); repeat (first | exact Kept.refl _ | apply Kept.alloc | apply Kept.drew | apply kept_add | apply Kept.ext))) ?_; rintro e w1 ⟨g1, c1, rfl, ho1, k1⟩)
  have hk1 := hid (show Kept w w1 from Kept.trans (by (try simp only [ext_ext]); repeat (first | exact Kept.refl _ | apply Kept.alloc | apply Kept.drew | apply kept_add | apply Kept.ext)) k1)
  have ho1H := hid (show OwnC w.heap.size w1 _ _ from ho1)
  have hI0 : SpanI cs (srt cs) 0 := ⟨srt_asc _, srt_cards, fun c h => (srt_mem hcsH.out c).2 h, fun c h => inSpan_base ((srt_mem hcsH.out c).1 h), fun a b _ h => by omega⟩
  have hI0H := hid hI0
  clear ho1 k1 hS0 hI0
  go_wp2_with (fail)
  go_loopw [3, 4] (fun v s4 wr => ∃ (i : Nat) (zs : List Card) (g c : Nat), SpanI cs zs i ∧ i ≤ zs.length ∧ v = .slice (some ⟨g, 0, none⟩) zs.length c ∧ s4 = .int .i64 (i : Int) ∧ OwnC w.heap.size wr (.slice (some ⟨g, 0, none⟩) zs.length c) zs ∧ Kept w wr) (fun v s4 _ => (81 - lenOf v) * 100 + (lenOf v - (intOf s4).toNat))
  case atStart => exact ⟨0, _, g1, c1, hI0H.out, by omega, rfl, by go_num, ho1H.out, hk1.out⟩
  case round =>
    obtain ⟨w0, hw0⟩ : ∃ w0, w0 = wr := ⟨_, rfl⟩
    subst hw0
    obtain ⟨i, zs, g, c, hI, hi, rfl, rfl, ho, hk⟩ := hrel
    have hIH := hid hI
    have hoH := hid ho
    have hkH := hid hk
    obtain ⟨m, hm⟩ : ∃ m, m = zs.length := ⟨_, rfl⟩
    have hm81 : m ≤ 81 := by rw [hm]; exact hI.len
    have hmH := hid hm
    clear hI ho hk
    by_cases hlt : i < zs.length
    · go_wp2_with (fail)
      go_loopw [3, 4, 5] (fun v s4 s5 wr => ∃ (j b : Nat) (ys : List Card) (g c : Nat), SpanI cs ys j ∧ j < ys.length ∧ b ≤ j ∧ (∀ b', b' < b → thirdC (cx ys j) (cx ys b') ∈ ys) ∧ ((ys.length = m ∧ j = i) ∨ m < ys.length) ∧ v = .slice (some ⟨g, 0, none⟩) ys.length c ∧ s4 = .int .i64 (j : Int) ∧ s5 = .int .i64 (b : Int) ∧ OwnC w.heap.size wr (.slice (some ⟨g, 0, none⟩) ys.length c) ys ∧ Kept w wr) (fun v s4 s5 _ => (81 - lenOf v) * 100 + ((intOf s4).toNat - (intOf s5).toNat))
      case atStart => exact ⟨i, 0, zs, g, c, hIH.out, hlt, by omega, fun b h => by omega, .inl ⟨hmH.out.symm, rfl⟩, rfl, by go_num, by go_num, hoH.out.kept (by (try simp only [ext_ext]); repeat (first | exact Kept.refl _ | apply Kept.alloc | apply Kept.drew | apply kept_add | apply Kept.ext)), hkH.out.trans (by (try simp only [ext_ext]); repeat (first | exact Kept.refl _ | apply Kept.alloc | apply Kept.drew | apply kept_add | apply Kept.ext))⟩
      case round =>
        obtain ⟨j, b, ys, g, c, hI, hj, hb, hd, hgr, rfl, rfl, rfl, ho, hk⟩ := hrel
        have hJ := hid hI
        have hJo := hid ho
        have hJk := hid hk
        have hJd := hid hd
        have hgrH := hid hgr
        have hy81 := hI.len
        obtain ⟨l, hl⟩ : ∃ l, l = ys.length := ⟨_, rfl⟩
        have hlH := hid hl
        have hxy := ho.cardsN rfl
        have hcp := hid (ho.capN rfl)
        rw [← hl] at hj hy81 hgr ⊢
        by_cases hbl : b < j
        · obtain ⟨_, _, e1, hg, a1, a2, a3, a4⟩ := hxy j (by rw [← hl]; exact hj)
          cases e1
          obtain ⟨_, _, e1, _, b1, b2, b3, b4⟩ := hxy b (by rw [← hl]; omega)
          cases e1
          simp only [Nat.zero_add] at a1 a2 a3 a4 b1 b2 b3 b4
          have hcj := hI.cards _ (cx_mem (by rw [← hl]; exact hj : j < ys.length))
          have hcb := hI.cards _ (cx_mem (by rw [← hl]; omega : b < ys.length))
          have hxyH := hid hxy
          have hb1 : b < l := by omega
          obtain ⟨t, ht⟩ : ∃ t, t = thirdC (cx ys j) (cx ys b) := ⟨_, rfl⟩
          have htC : isCard t = true := by rw [ht]; exact isCard_thirdS hcj hcb
          have hT := hid (fun w' => l2Third_any (cx ys j) (cx ys b) hcj hcb w')
          rw [← ht] at hT
          have htH := hid ht
          have hS := hid (fun w' (hk : Kept wr w') => show w'.cell? ⟨g, j * 4, none⟩ = some (.int .i64 (cx ys j).a) ∧ w'.cell? ⟨g, j * 4 + 1, none⟩ = some (.int .i64 (cx ys j).b) ∧ w'.cell? ⟨g, j * 4 + 2, none⟩ = some (.int .i64 (cx ys j).c) ∧ w'.cell? ⟨g, j * 4 + 3, none⟩ = some (.int .i64 (cx ys j).d) ∧ w'.cell? ⟨g, b * 4, none⟩ = some (.int .i64 (cx ys b).a) ∧ w'.cell? ⟨g, b * 4 + 1, none⟩ = some (.int .i64 (cx ys b).b) ∧ w'.cell? ⟨g, b * 4 + 2, none⟩ = some (.int .i64 (cx ys b).c) ∧ w'.cell? ⟨g, b * 4 + 3, none⟩ = some (.int .i64 (cx ys b).d) from ⟨(hk.below.cell (p := ⟨_, _, none⟩) hg).trans a1, (hk.below.cell (p := ⟨_, _, none⟩) hg).trans a2, (hk.below.cell (p := ⟨_, _, none⟩) hg).trans a3, (hk.below.cell (p := ⟨_, _, none⟩) hg).trans a4, (hk.below.cell (p := ⟨_, _, none⟩) hg).trans b1, (hk.below.cell (p := ⟨_, _, none⟩) hg).trans b2, (hk.below.cell (p := ⟨_, _, none⟩) hg).trans b3, (hk.below.cell (p := ⟨_, _, none⟩) hg).trans b4⟩)
          clear hI ho hk hd hgr hxy hl ht
          go_upto_region 8 with (fail)
          go_cut [6] from 15 to 35 (fun s6 wx => ∃ g7, s6 = .pointer (some ⟨g7, 0, none⟩) ∧ g7 < wx.heap.size ∧ CardCells wx g7 0 t ∧ Kept wr wx)
          case first =>
            go_region_held (fun w' => w'.cell? ⟨g, j * 4, none⟩ = some (.int .i64 (cx ys j).a) ∧ w'.cell? ⟨g, j * 4 + 1, none⟩ = some (.int .i64 (cx ys j).b) ∧ w'.cell? ⟨g, j * 4 + 2, none⟩ = some (.int .i64 (cx ys j).c) ∧ w'.cell? ⟨g, j * 4 + 3, none⟩ = some (.int .i64 (cx ys j).d) ∧ w'.cell? ⟨g, b * 4, none⟩ = some (.int .i64 (cx ys b).a) ∧ w'.cell? ⟨g, b * 4 + 1, none⟩ = some (.int .i64 (cx ys b).b) ∧ w'.cell? ⟨g, b * 4 + 2, none⟩ = some (.int .i64 (cx ys b).c) ∧ w'.cell? ⟨g, b * 4 + 3, none⟩ = some (.int .i64 (cx ys b).d)) (exact hS.out _ (by (try simp only [ext_ext]); repeat (first | exact Kept.refl _ | apply Kept.alloc | apply Kept.drew | apply kept_add | apply Kept.ext))) (first | (go_at_call 36; refine Calls.mono (hT.out _) ?_; rintro e w' ⟨rfl, y, rfl⟩))
            all_goals
              go_wp2_with (fail)
              go_meet
            all_goals first | exact ⟨_, rfl, by simp, cardCells_new _ (by simp), (by (try simp only [ext_ext]); repeat (first | exact Kept.refl _ | apply Kept.alloc | apply Kept.drew | apply kept_add | apply Kept.ext))⟩ | exact ⟨_, rfl, by simp <;> omega, cardCells_extS _ _ (by simp), (by (try simp only [ext_ext]); repeat (first | exact Kept.refl _ | apply Kept.alloc | apply Kept.drew | apply kept_add | apply Kept.ext))⟩
          case rest =>
            obtain ⟨g7, rfl, hg7, hc7, k7⟩ := hcut
            obtain ⟨w7, hw7⟩ : ∃ w7, w7 = wc := ⟨_, rfl⟩
            subst hw7
            have k7H := hid k7
            have hH := hid (fun w' (hk : Kept w7 w') => l2Has_any (some ⟨g, 0, none⟩) c ys t w' (hxyH.out.kept (k7.trans hk)) (by rw [← hlH.out]; omega))
            rw [← hlH.out] at hH
            obtain ⟨q1, q2, q3, q4⟩ := hc7
            by_cases hhas : t ∈ ys
            · rw [show hasC ys t = true by rw [hasC_mem]; exact decide_eq_true hhas] at hH
              clear k7
              go_wp2_with (first | (go_at_call 37; refine Calls.mono (hH.out _ ((by (try simp only [ext_ext]); repeat (first | exact Kept.refl _ | apply Kept.alloc | apply Kept.drew | apply kept_add | apply Kept.ext)))) ?_; rintro e w' ⟨rfl, y, rfl⟩))
              go_roundw
              case rel => exact ⟨j, b + 1, ys, g, c, hJ.out, by rw [← hlH.out]; exact hj, by omega, fun b' hb' => if e : b' < b then hJd.out b' e else by rw [show b' = b by omega, ← htH.out]; exact hhas, hgrH.out, by rw [← hlH.out], by go_num, by go_num, hJo.out.kept (k7H.out.trans (by (try simp only [ext_ext]); repeat (first | exact Kept.refl _ | apply Kept.alloc | apply Kept.drew | apply kept_add | apply Kept.ext))), hJk.out.trans (k7H.out.trans (by (try simp only [ext_ext]); repeat (first | exact Kept.refl _ | apply Kept.alloc | apply Kept.drew | apply kept_add | apply Kept.ext)))⟩
              case measure => simp [intOf, lenOf]; omega
            · rw [show hasC ys t = false by rw [hasC_mem]; exact decide_eq_false hhas] at hH
              have hP := hid (fun w' (hk : Kept w7 w') => l2Put_any g 0 c l ys t w' (hxyH.out.kept (k7.trans hk)) hlH.out.symm hJ.out.cards hJ.out.asc htC (by omega) (by rw [hlH.out]; exact hcp.out))
              have hnew := hid (hJ.out.put hbl (by rw [← hlH.out]; exact hj))
              rw [← htH.out] at hnew
              have hlong := hid (put_longer hJ.out.cards hJ.out.asc htC hhas)
              clear k7
              go_wp2_with (first | (go_at_call 37; refine Calls.mono (hH.out _ ((by (try simp only [ext_ext]); repeat (first | exact Kept.refl _ | apply Kept.alloc | apply Kept.drew | apply kept_add | apply Kept.ext)))) ?_; rintro e w' ⟨rfl, y, rfl⟩))
              (go_at_call 60; refine Calls.mono (hP.out _ (by (try simp only [ext_ext]); repeat (first | exact Kept.refl _ | apply Kept.alloc | apply Kept.drew | apply kept_add | apply Kept.ext))) ?_; rintro e w8 ⟨g8, c8, rfl, ho8, k8⟩)
              have hk8 := hid (hJk.out.trans (k7H.out.trans (Kept.trans (show Kept w7 _ from (by (try simp only [ext_ext]); repeat (first | exact Kept.refl _ | apply Kept.alloc | apply Kept.drew | apply kept_add | apply Kept.ext))) k8)))
              have ho8H := hid (OwnC.mono ho8 ((hJk.out.trans (k7H.out.trans (show Kept w7 _ from (by (try simp only [ext_ext]); repeat (first | exact Kept.refl _ | apply Kept.alloc | apply Kept.drew | apply kept_add | apply Kept.ext))))).below.size))
              clear ho8 k8 hP
              obtain ⟨l8, hl8⟩ : ∃ l8, l8 = (srt (t :: ys)).length := ⟨_, rfl⟩
              have hl8b : l < l8 ∧ l8 ≤ 81 := by rw [hl8, hlH.out]; exact ⟨hlong.out, srt_len _⟩
              have hl8H := hid hl8
              have hml : m ≤ l := by have := hgrH.out; have := hlH.out; omega
              rw [← hl8]
              clear hl8
              go_wp2_with (fail)
              go_roundw
              case rel => exact ⟨0, 0, _, g8, c8, hnew.out, by rw [← hl8H.out]; omega, by omega, fun b' hb' => by omega, .inr (by rw [← hl8H.out]; omega), by rw [← hl8H.out], by go_num, by go_num, by rw [hl8H.out] at *; exact ho8H.out, hk8.out⟩
              case measure => simp [intOf, lenOf]; omega
        · obtain rfl : b = j := by omega
          have hnx := hid (hI.next hd)
          clear hI ho hk hd hxy
          go_wp2_with (fail)
          go_roundw
          case rel => exact ⟨b + 1, ys, g, c, hnx.out, by rw [← hlH.out]; omega, by rw [← hlH.out], by go_num, hJo.out.kept (by (try simp only [ext_ext]); repeat (first | exact Kept.refl _ | apply Kept.alloc | apply Kept.drew | apply kept_add | apply Kept.ext)), hJk.out.trans (by (try simp only [ext_ext]); repeat (first | exact Kept.refl _ | apply Kept.alloc | apply Kept.drew | apply kept_add | apply Kept.ext))⟩
          case measure =>
            have := hgrH.out
            have := hlH.out
            simp [intOf, lenOf]; omega
    · have hfin := hid (show zs = spanC cs by
        have hI := hIH.out
        rw [← srt_self hI.cards hI.asc]
        exact srt_span hI.cards hI.base hI.sub (fun a b hb ha => hI.done a b hb (by omega)))
      go_wp2
      refine bodyPost_ret (v := .slice (some ⟨g, 0, none⟩) zs.length c) (by simp [results, Try.results65, go_sem]) rfl ?_
      rw [← hfin.out]
      exact ⟨g, c, rfl, hoH.out.kept (by (try simp only [ext_ext]); repeat (first | exact Kept.refl _ | apply Kept.alloc | apply Kept.drew | apply kept_add | apply Kept.ext)), hkH.out.trans (by (try simp only [ext_ext]); repeat (first | exact Kept.refl _ | apply Kept.alloc | apply Kept.drew | apply kept_add | apply Kept.ext))⟩
end Go.Proofs.Ytenmnipgnjaheaa
