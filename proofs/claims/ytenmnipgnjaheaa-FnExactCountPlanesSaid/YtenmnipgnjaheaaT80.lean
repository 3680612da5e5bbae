/- The planes of a hand: seventy-two threes of cards for each. Plain law: the count. -/
import Derived.Test.YtenmnipgnjaheaaT79
namespace Go.Proofs.Ytenmnipgnjaheaa
open Go.RowKit
theorem thirdT_turn {a b c : Int} (ha : 0 ≤ a ∧ a ≤ 2) (hb : 0 ≤ b ∧ b ≤ 2) (hc : 0 ≤ c ∧ c ≤ 2) : thirdT a b = c ↔ thirdT a c = b := by unfold thirdT; omega
theorem thirdC_turn {x y z : Card} (hx : isCard x = true) (hy : isCard y = true) (hz : isCard z = true) : thirdC x y = z ↔ thirdC x z = y := by
  obtain ⟨x1, x2, x3, x4⟩ := isCard_of hx
  obtain ⟨y1, y2, y3, y4⟩ := isCard_of hy
  obtain ⟨z1, z2, z3, z4⟩ := isCard_of hz
  constructor
  · intro e
    have ea := congrArg Card.a e
    have eb := congrArg Card.b e
    have ec := congrArg Card.c e
    have ed := congrArg Card.d e
    exact cardEq ((thirdT_turn x1 y1 z1).1 ea) ((thirdT_turn x2 y2 z2).1 eb) ((thirdT_turn x3 y3 z3).1 ec) ((thirdT_turn x4 y4 z4).1 ed)
  · intro e
    have ea := congrArg Card.a e
    have eb := congrArg Card.b e
    have ec := congrArg Card.c e
    have ed := congrArg Card.d e
    exact cardEq ((thirdT_turn x1 y1 z1).2 ea) ((thirdT_turn x2 y2 z2).2 eb) ((thirdT_turn x3 y3 z3).2 ec) ((thirdT_turn x4 y4 z4).2 ed)
theorem planeC_iff (x y z : Card) : planeC x y z = true ↔ (isCard x = true ∧ isCard y = true ∧ isCard z = true) ∧ (x ≠ y ∧ x ≠ z ∧ y ≠ z) ∧ thirdC x y ≠ z := by
  simp only [planeC, lineC, Bool.and_eq_true, Bool.not_eq_true', decide_eq_false_iff_not]
  constructor
  · rintro ⟨⟨⟨⟨⟨⟨a, b⟩, c⟩, d⟩, e⟩, f⟩, g⟩
    exact ⟨⟨a, b, c⟩, ⟨d, e, f⟩, fun h => by simp [d, h] at g⟩
  · rintro ⟨⟨a, b, c⟩, ⟨d, e, f⟩, g⟩
    exact ⟨⟨⟨⟨⟨⟨a, b⟩, c⟩, d⟩, e⟩, f⟩, by simp [g]⟩
theorem planeC_12 (x y z : Card) : planeC x y z = planeC y x z := by
  rw [Bool.eq_iff_iff, planeC_iff, planeC_iff, thirdC_sym x y]
  exact ⟨fun ⟨⟨a, b, c⟩, ⟨d, e, f⟩, g⟩ => ⟨⟨b, a, c⟩, ⟨fun h => d h.symm, f, e⟩, g⟩, fun ⟨⟨a, b, c⟩, ⟨d, e, f⟩, g⟩ => ⟨⟨b, a, c⟩, ⟨fun h => d h.symm, f, e⟩, g⟩⟩
theorem planeC_23 (x y z : Card) : planeC x y z = planeC x z y := by
  rw [Bool.eq_iff_iff, planeC_iff, planeC_iff]
  constructor
  · rintro ⟨⟨a, b, c⟩, ⟨d, e, f⟩, g⟩
    exact ⟨⟨a, c, b⟩, ⟨e, d, fun h => f h.symm⟩, fun h => g ((thirdC_turn a b c).2 h)⟩
  · rintro ⟨⟨a, b, c⟩, ⟨d, e, f⟩, g⟩
    exact ⟨⟨a, c, b⟩, ⟨e, d, fun h => f h.symm⟩, fun h => g ((thirdC_turn a b c).2 h)⟩
/-- The first card of a plane that is no line with its first two. -/
def nth3 (L : List Card) : Card := cx L (if cx L 2 = thirdC (cx L 0) (cx L 1) then 3 else 2)
/-- Three cards stand for their plane, and it lies in a hand. -/
noncomputable def canB (h : List Card) (a b c : Card) : Bool := planeC a b c && decide (∀ p ∈ spanC [a, b, c], p ∈ h) && decide (cx (spanC [a, b, c]) 0 = a ∧ cx (spanC [a, b, c]) 1 = b ∧ nth3 (spanC [a, b, c]) = c)
/-- Three cards have a plane, and it lies in a hand. -/
def goodB (h : List Card) (x y z : Card) : Bool := planeC x y z && decide (∀ p ∈ planeL x y z, p ∈ h)
theorem goodB_12 (h : List Card) (x y z : Card) : goodB h x y z = goodB h y x z := by
  unfold goodB
  rw [planeC_12 x y z]
  cases hp : planeC y x z with
  | false => rfl
  | true =>
    have hq : planeC x y z = true := by rw [planeC_12]; exact hp
    obtain ⟨a, b, c⟩ := plane_base hq
    have hm := plane_same hq hp b a c
    simp only [hm]
theorem goodB_23 (h : List Card) (x y z : Card) : goodB h x y z = goodB h x z y := by
  unfold goodB
  rw [planeC_23 x y z]
  cases hp : planeC x z y with
  | false => rfl
  | true =>
    have hq : planeC x y z = true := by rw [planeC_23]; exact hp
    obtain ⟨a, b, c⟩ := plane_base hq
    have hm := plane_same hq hp a c b
    simp only [hm]
theorem can_of {h : List Card} {a b c : Card} (hc : canB h a b c = true) : planeC a b c = true ∧ (∀ p ∈ spanC [a, b, c], p ∈ h) ∧ cx (spanC [a, b, c]) 0 = a ∧ cx (spanC [a, b, c]) 1 = b ∧ nth3 (spanC [a, b, c]) = c := by
  simp only [canB, Bool.and_eq_true, decide_eq_true_eq] at hc
  exact ⟨hc.1.1, hc.1.2, hc.2⟩
theorem nth3_at {L : List Card} : ∃ n, (n = 2 ∨ n = 3) ∧ nth3 L = cx L n ∧ (n = 3 → cx L 2 = thirdC (cx L 0) (cx L 1)) ∧ (n = 2 → cx L 2 ≠ thirdC (cx L 0) (cx L 1)) := by
  unfold nth3
  by_cases e : cx L 2 = thirdC (cx L 0) (cx L 1)
  · exact ⟨3, .inr rfl, by rw [if_pos e], fun _ => e, fun h => by omega⟩
  · exact ⟨2, .inl rfl, by rw [if_neg e], fun h => by omega, fun _ => e⟩
/-- The three that stand for a plane. -/
theorem can_lead {h : List Card} {x y z : Card} (hg : goodB h x y z = true) : canB h (cx (spanC [x, y, z]) 0) (cx (spanC [x, y, z]) 1) (nth3 (spanC [x, y, z])) = true ∧ x ∈ planeL (cx (spanC [x, y, z]) 0) (cx (spanC [x, y, z]) 1) (nth3 (spanC [x, y, z])) ∧ y ∈ planeL (cx (spanC [x, y, z]) 0) (cx (spanC [x, y, z]) 1) (nth3 (spanC [x, y, z])) ∧ z ∈ planeL (cx (spanC [x, y, z]) 0) (cx (spanC [x, y, z]) 1) (nth3 (spanC [x, y, z])) ∧ cx (spanC [x, y, z]) 0 ∈ h ∧ cx (spanC [x, y, z]) 1 ∈ h ∧ nth3 (spanC [x, y, z]) ∈ h := by
  simp only [goodB, Bool.and_eq_true, decide_eq_true_eq] at hg
  obtain ⟨hp, hh⟩ := hg
  have hlen := span_plane_len hp
  have hmem := span_plane_mem hp
  have hasc := spanC_asc [x, y, z]
  have hcards : ∀ c ∈ spanC [x, y, z], isCard c = true := spanC_cards
  obtain ⟨L, hL⟩ : ∃ L, L = spanC [x, y, z] := ⟨_, rfl⟩
  rw [← hL] at hlen hmem hasc hcards ⊢
  obtain ⟨n, hn, hnt, h3, h2⟩ := nth3_at (L := L)
  have hnl : n < L.length := by omega
  have lt01 := asc_lt hasc (i := 0) (j := 1) (by omega) (by omega)
  have lt1n := asc_lt hasc (i := 1) (j := n) (by omega) hnl
  have m0 : cx L 0 ∈ L := cx_mem (by omega)
  have m1 : cx L 1 ∈ L := cx_mem (by omega)
  have mn : cx L n ∈ L := cx_mem hnl
  rw [hnt]
  have hq : planeC (cx L 0) (cx L 1) (cx L n) = true := by
    rw [planeC_iff]
    refine ⟨⟨hcards _ m0, hcards _ m1, hcards _ mn⟩, ⟨fun e => ?_, fun e => ?_, fun e => ?_⟩, fun e => ?_⟩
    · rw [e] at lt01; omega
    · rw [← e] at lt1n; omega
    · rw [e] at lt1n; omega
    · rcases hn with rfl | rfl
      · exact h2 rfl e.symm
      · have := asc_lt hasc (i := 2) (j := 3) (by omega) (by omega)
        rw [h3 rfl, e] at this; omega
  have hs := plane_same hp hq ((hmem _).1 m0) ((hmem _).1 m1) ((hmem _).1 mn)
  have hsp := plane_same_span hp hq ((hmem _).1 m0) ((hmem _).1 m1) ((hmem _).1 mn)
  obtain ⟨bx, by', bz⟩ := plane_base hp
  refine ⟨?_, (hs x).2 bx, (hs y).2 by', (hs z).2 bz, hh _ ((hmem _).1 m0), hh _ ((hmem _).1 m1), hh _ ((hmem _).1 mn)⟩
  simp only [canB, Bool.and_eq_true, decide_eq_true_eq]
  rw [hsp, ← hL]
  exact ⟨⟨hq, fun p hp' => hh p ((hmem p).1 hp')⟩, rfl, rfl, hnt⟩
theorem can_eq {h : List Card} {x y z a b c : Card} (hp : planeC x y z = true) (hc : canB h a b c = true) (hx : x ∈ planeL a b c) (hy : y ∈ planeL a b c) (hz : z ∈ planeL a b c) : a = cx (spanC [x, y, z]) 0 ∧ b = cx (spanC [x, y, z]) 1 ∧ c = nth3 (spanC [x, y, z]) := by
  obtain ⟨hq, _, e0, e1, e2⟩ := can_of hc
  rw [plane_same_span hq hp hx hy hz]
  exact ⟨e0.symm, e1.symm, e2.symm⟩
/-- Three cards lie in the plane of three others, which stand for it. -/
noncomputable def linkB (h : List Card) (x y z a b c : Card) : Bool := goodB h x y z && canB h a b c && decide (x ∈ planeL a b c ∧ y ∈ planeL a b c ∧ z ∈ planeL a b c)
theorem link_one {h : List Card} (hd : h.Nodup) (x y z : Card) : (if goodB h x y z = true then 1 else 0) = L3 h (fun a b c => if linkB h x y z a b c = true then 1 else 0) := by
  cases hg : goodB h x y z with
  | false =>
    rw [if_neg (by simp)]
    exact (L1_zero fun a _ => L1_zero fun b _ => L1_zero fun c _ => if_neg (by simp [linkB, hg])).symm
  | true =>
    rw [if_pos rfl]
    have hp : planeC x y z = true := by simp only [goodB, Bool.and_eq_true] at hg; exact hg.1
    obtain ⟨hc, hx, hy, hz, h0, h1, hn⟩ := can_lead hg
    have key : ∀ a b c, linkB h x y z a b c = true → a = cx (spanC [x, y, z]) 0 ∧ b = cx (spanC [x, y, z]) 1 ∧ c = nth3 (spanC [x, y, z]) := fun a b c hl => by
      simp only [linkB, Bool.and_eq_true, decide_eq_true_eq] at hl
      exact can_eq hp hl.1.2 hl.2.1 hl.2.2.1 hl.2.2.2
    have hl : linkB h x y z (cx (spanC [x, y, z]) 0) (cx (spanC [x, y, z]) 1) (nth3 (spanC [x, y, z])) = true := by
      simp only [linkB, Bool.and_eq_true, decide_eq_true_eq]
      exact ⟨⟨hg, hc⟩, hx, hy, hz⟩
    unfold L3
    rw [L1_one hd h0 fun a _ hne => L1_zero fun b _ => L1_zero fun c _ => if_neg fun e => hne (key a b c e).1]
    rw [L1_one hd h1 fun b _ hne => L1_zero fun c _ => if_neg fun e => hne (key _ b c e).2.1]
    rw [L1_one hd hn fun c _ hne => if_neg fun e => hne (key _ _ c e).2.2]
    rw [if_pos hl]
theorem plane_432 {a b c : Card} (hp : planeC a b c = true) : L3 (planeL a b c) (fun x y z => if planeC x y z = true then 1 else 0) = 432 := by
  rw [← nc9_sum]
  unfold L3 planeL
  simp only [L1_map]
  refine L1_congr fun i hi => L1_congr fun j hj => L1_congr fun k hk => ?_
  rw [ptC_plane hp (List.mem_range.1 hi) (List.mem_range.1 hj) (List.mem_range.1 hk)]
theorem link_432 {h : List Card} (hd : h.Nodup) (a b c : Card) : L3 h (fun x y z => if linkB h x y z a b c = true then 1 else 0) = (if canB h a b c = true then 1 else 0) * 432 := by
  cases hc : canB h a b c with
  | false =>
    rw [if_neg (by simp), Nat.zero_mul]
    exact L1_zero fun x _ => L1_zero fun y _ => L1_zero fun z _ => if_neg (by simp [linkB, hc])
  | true =>
    rw [if_pos rfl, Nat.one_mul]
    obtain ⟨hq, hsub, _⟩ := can_of hc
    have hsub' : ∀ p ∈ planeL a b c, p ∈ h := fun p hp => hsub p ((span_plane_mem hq p).2 hp)
    have hn := planeL_nodup hq
    rw [← plane_432 hq]
    have out : ∀ x y z, linkB h x y z a b c = true → x ∈ planeL a b c ∧ y ∈ planeL a b c ∧ z ∈ planeL a b c := fun x y z hl => by
      simp only [linkB, Bool.and_eq_true, decide_eq_true_eq] at hl
      exact hl.2
    unfold L3
    rw [L1_supp hd hn hsub' fun x _ hx => L1_zero fun y _ => L1_zero fun z _ => if_neg fun e => hx (out x y z e).1]
    refine L1_congr fun x hx => ?_
    rw [L1_supp hd hn hsub' fun y _ hy => L1_zero fun z _ => if_neg fun e => hy (out x y z e).2.1]
    refine L1_congr fun y hy => ?_
    rw [L1_supp hd hn hsub' fun z _ hz => if_neg fun e => hz (out x y z e).2.2]
    refine L1_congr fun z hz => ?_
    congr 1
    rw [eq_iff_iff]
    constructor
    · intro hl
      simp only [linkB, goodB, Bool.and_eq_true] at hl
      exact hl.1.1.1
    · intro hp
      simp only [linkB, goodB, Bool.and_eq_true, decide_eq_true_eq]
      exact ⟨⟨⟨hp, fun p hpm => hsub' p ((plane_same hq hp hx hy hz p).1 hpm)⟩, hc⟩, hx, hy, hz⟩
theorem planes_count {h : List Card} (hasc : Asc h) (hcs : ∀ c ∈ h, isCard c = true) : L3 h (fun x y z => if ord3 x y z = true then (if goodB h x y z = true then 1 else 0) else 0) = 72 * L3 h (fun a b c => if canB h a b c = true then 1 else 0) := by
  have hd := asc_nodup hasc
  have e1 := L3_sym (l := h) (G := fun x y z => if goodB h x y z = true then 1 else 0) (fun x hx y hy e => by rw [← cardN_numC (hcs x hx), ← cardN_numC (hcs y hy), e]) (fun x y z => by rw [goodB_12]) (fun x y z => by rw [goodB_23]) (fun x z => by
    rw [if_neg]
    simp [goodB, planeC])
  have e2 : L3 h (fun x y z => if goodB h x y z = true then 1 else 0) = L3 h (fun a b c => if canB h a b c = true then 1 else 0) * 432 := by
    rw [← L3_mul]
    refine Eq.trans ?_ (L3_congr fun a _ b _ c _ => link_432 hd a b c)
    rw [← L3_comm h (fun x y z a b c => if linkB h x y z a b c = true then 1 else 0)]
    exact L3_congr fun x _ y _ z _ => link_one hd x y z
  omega
end Go.Proofs.Ytenmnipgnjaheaa
