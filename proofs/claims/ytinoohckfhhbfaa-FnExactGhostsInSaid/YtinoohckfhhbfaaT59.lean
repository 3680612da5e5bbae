/- Contracts: cards without one of them, in new memory. -/
import Derived.Test.YtinoohckfhhbfaaT50
import Derived.Test.YtinoohckfhhbfaaT18
namespace Go.Proofs.Ytinoohckfhhbfaa
open Go.RowKit
/-- A block whose cards are told by a function, and may be written. -/
def RowW (w : World) (g n : Nat) (f : Nat → Card) : Prop := g < w.heap.size ∧ ∀ t, t < n → CardCells w g (t * 4) (f t) ∧ ∀ q, q < 4 → w.frozen? ⟨g, t * 4 + q, none⟩ = false
theorem RowW.cards {w : World} {g n : Nat} {f : Nat → Card} {cs : List Card} (h : RowW w g n f) (hl : cs.length ≤ n) (hc : ∀ t, t < cs.length → cx cs t = f t) : CardsAt w (some ⟨g, 0, none⟩) cs := fun i hi => by
  refine ⟨g, 0, rfl, h.1, ?_⟩
  rw [Nat.zero_add, hc i hi]
  exact (h.2 i (by omega)).1
theorem RowW.kept {w w' : World} {g n : Nat} {f : Nat → Card} (h : RowW w g n f) (hk : Kept w w') : RowW w' g n f := by
  have hb := hk.below.block g h.1
  refine ⟨Nat.lt_of_lt_of_le h.1 hk.below.size, fun t ht => ?_⟩
  obtain ⟨⟨a, b, c, d⟩, e⟩ := h.2 t ht
  refine ⟨⟨(cell_block hb _).trans a, (cell_block hb _).trans b, (cell_block hb _).trans c, (cell_block hb _).trans d⟩, fun q hq => ?_⟩
  rw [← e q hq]
  simp only [World.frozen?, hb]
theorem sc_other {w : World} {a b : Addr} {v : Value} (h : a ≠ b) : (w.setCell a v).cell? b = w.cell? b := World.cell?_setCell_other _ _ _ _ h
theorem sc_same {w : World} {a : Addr} {v u : Value} (h : w.cell? a = some u) : (w.setCell a v).cell? a = some v := World.cell?_setCell_same _ _ _ h
theorem RowW.set {w : World} {g n : Nat} {f : Nat → Card} (h : RowW w g n f) {i : Nat} (hi : i < n) (c : Card) :
    RowW ((((w.setCell ⟨g, i * 4, none⟩ (.int .i64 c.a)).setCell ⟨g, i * 4 + 1, none⟩ (.int .i64 c.b)).setCell ⟨g, i * 4 + 2, none⟩ (.int .i64 c.c)).setCell ⟨g, i * 4 + 3, none⟩ (.int .i64 c.d)) g n (fun t => if t = i then c else f t) := by
  refine ⟨by simpa using h.1, fun t ht => ?_⟩
  obtain ⟨⟨a, b, cc, d⟩, e⟩ := h.2 t ht
  refine ⟨?_, fun q hq => by simpa using e q hq⟩
  by_cases hti : t = i
  · subst hti
    dsimp only
    rw [if_pos rfl]
    refine ⟨?_, ?_, ?_, ?_⟩
    · rw [sc_other (by simp), sc_other (by simp), sc_other (by simp)]
      exact sc_same a
    · rw [sc_other (by simp), sc_other (by simp)]
      exact sc_same ((sc_other (by simp)).trans b)
    · rw [sc_other (by simp)]
      exact sc_same ((sc_other (by simp)).trans ((sc_other (by simp)).trans cc))
    · exact sc_same ((sc_other (by simp)).trans ((sc_other (by simp)).trans ((sc_other (by simp)).trans d)))
  · dsimp only
    rw [if_neg hti]
    have far : ∀ x y : Nat, x < 4 → y < 4 → (⟨g, i * 4 + x, none⟩ : Addr) ≠ ⟨g, t * 4 + y, none⟩ := fun x y hx hy e => by
      have := congrArg Addr.off e; simp at this; omega
    have far0 : ∀ y : Nat, y < 4 → (⟨g, i * 4, none⟩ : Addr) ≠ ⟨g, t * 4 + y, none⟩ := fun y hy => far 0 y (by omega) hy
    refine ⟨?_, ?_, ?_, ?_⟩
    · show World.cell? _ ⟨g, t * 4 + 0, none⟩ = _
      rw [sc_other (far 3 0 (by omega) (by omega)), sc_other (far 2 0 (by omega) (by omega)), sc_other (far 1 0 (by omega) (by omega)), sc_other (far0 0 (by omega))]
      exact a
    · rw [sc_other (far 3 1 (by omega) (by omega)), sc_other (far 2 1 (by omega) (by omega)), sc_other (far 1 1 (by omega) (by omega)), sc_other (far0 1 (by omega))]
      exact b
    · rw [sc_other (far 3 2 (by omega) (by omega)), sc_other (far 2 2 (by omega) (by omega)), sc_other (far 1 2 (by omega) (by omega)), sc_other (far0 2 (by omega))]
      exact cc
    · rw [sc_other (far 3 3 (by omega) (by omega)), sc_other (far 2 3 (by omega) (by omega)), sc_other (far 1 3 (by omega) (by omega)), sc_other (far0 3 (by omega))]
      exact d
theorem RowW.congr {w : World} {g n : Nat} {f f' : Nat → Card} (h : RowW w g n f) (he : ∀ t, t < n → f t = f' t) : RowW w g n f' := ⟨h.1, fun t ht => by rw [← he t ht]; exact h.2 t ht⟩
/-- Where one card is being taken out: what the row holds. -/
def dkF (cs : List Card) (p i t : Nat) : Card := if t < p then cx cs t else if t < i then cx cs (t + 1) else cx cs t
theorem dkF_start (cs : List Card) (p t : Nat) : cx cs t = dkF cs p p t := by unfold dkF; split <;> simp
theorem dkF_next (cs : List Card) {p i t : Nat} (h : p ≤ i) : (if t = i then cx cs (i + 1) else dkF cs p i t) = dkF cs p (i + 1) t := by
  unfold dkF
  by_cases e : t = i
  · subst e; rw [if_pos rfl, if_neg (by omega), if_pos (by omega)]
  · rw [if_neg e]
    by_cases h1 : t < p
    · rw [if_pos h1, if_pos h1]
    · rw [if_neg h1, if_neg h1]
      by_cases h2 : t < i
      · rw [if_pos h2, if_pos (by omega)]
      · rw [if_neg h2, if_neg (by omega)]
theorem dkF_ahead (cs : List Card) {p i : Nat} (h : p ≤ i) : dkF cs p i (i + 1) = cx cs (i + 1) := by unfold dkF; rw [if_neg (by omega), if_neg (by omega)]
theorem dkF_end (cs : List Card) {p m t : Nat} (hl : cs.length = m + 1) (hp : p ≤ m) (ht : t < m) : cx (cs.eraseIdx p) t = dkF cs p m t := by
  have hle : (cs.eraseIdx p).length = m := by rw [List.length_eraseIdx, if_pos (by omega)]; omega
  rw [cx_get _ _ (by omega), List.getElem_eraseIdx]
  unfold dkF
  split
  · rw [cx_get _ _ (by omega)]
  · rw [cx_get _ _ (by omega)]
theorem ownC_rowW {B : Nat} {w : World} {g cap n : Nat} {cs : List Card} (h : OwnC B w (.slice (some ⟨g, 0, none⟩) n cap) cs) (hn : cs.length = n) : RowW w g n (cx cs) := by
  obtain ⟨ao, cap', hv, hx, _⟩ := h.reads
  cases hv
  rcases h.2 with ⟨e, _⟩ | ⟨g', cap'', cur, e, hb, hg, _⟩
  · cases e
  · cases e
    refine ⟨(Array.getElem?_eq_some_iff.1 hg).1, fun t ht => ⟨?_, fun q _ => frozen_of_row w g _ _ _ hg⟩⟩
    obtain ⟨_, _, he, _, hc⟩ := hx t (by omega)
    cases he
    rw [Nat.zero_add] at hc
    exact hc
theorem run_clear_card (w : World) (b o c : Nat) (ty : TypeId)
    (hc : ∀ j, j < 4 → (w.cell? ⟨b, o + j, none⟩).isSome = true) (hf : ∀ j, j < 4 → w.frozen? ⟨b, o + j, none⟩ = false) :
    (Builtin.clear_ #[29] ty #[.slice (some ⟨b, o, none⟩) 1 c]).run Try.prog w = .ok (.tuple #[]) (w.setCells b o [.int .i64 0, .int .i64 0, .int .i64 0, .int .i64 0]) := by
  have hst := run_storeCells_cells (P := Try.prog) b o [.int .i64 0, .int .i64 0, .int .i64 0, .int .i64 0] 0 w (by simpa using hc) (by simpa using hf) (by intro v hv'; simp at hv'; rw [hv']; rfl)
  simp only [Nat.add_zero] at hst
  have hz : (Builtin.zeroCells (Value.agg #[Value.int .i64 0, .int .i64 0, .int .i64 0, .int .i64 0]).cells 1).toList = [.int .i64 0, .int .i64 0, .int .i64 0, .int .i64 0] := by kernel_rfl
  simp only [Builtin.clear_, run_underlying Try.underlying29, Try.zeroValue22, Sem.run_bind, Sem.run_pure, Result.andThen_ok, hz, hst, List.getElem?_toArray, List.getElem?_cons_zero]
theorem without1_any (B : Nat) (c x : Card) (w : World) (hB : B < w.heap.size) (hc : CardCells w B 0 c) :
    Calls Try.prog 100 #[x.v, .pointer (some ⟨B, 0, none⟩)] w fun e w' => e = .returned (.bool (decide (x = c))) ∧ Kept w w' := by
  obtain ⟨h1, h2, h3, h4⟩ := hc
  go_enter Try.func100, Try.ntmps100
  go_wp2
  go_ret
  exact ⟨rfl, (by (try simp only [ext_ext]); repeat (first | exact Kept.refl _ | apply Kept.alloc | apply Kept.drew | apply kept_add | apply Kept.ext))⟩
theorem cardCells_kept {w w' : World} {g o : Nat} {c : Card} (h : CardCells w g o c) (hg : g < w.heap.size) (hk : Kept w w') : CardCells w' g o c := by
  obtain ⟨a, b, cc, d⟩ := h
  have hb := hk.below.block g hg
  exact ⟨(cell_block hb _).trans a, (cell_block hb _).trans b, (cell_block hb _).trans cc, (cell_block hb _).trans d⟩
theorem indexWithout_any (B : Nat) (c : Card) (ao : Option Addr) (cap n p : Nat) (cs : List Card) (w : World) (hn : cs.length = n) (hB : B < w.heap.size) (hc : CardCells w B 0 c) (hx : CardsAt w ao cs) (hl : n ≤ 1048576) (hp : p < n) (hpc : cx cs p = c) (hne : ∀ j, j < p → cx cs j ≠ c) :
    Calls Try.prog 106 #[.slice ao n cap, .func (.func 100) #[] #[.pointer (some ⟨B, 0, none⟩)]] w fun e w' => e = .returned (.int .i64 p) ∧ Kept w w' := by
  have hcl := hid (fun w' (hk : Kept w w') x => without1_any B c x w' (Nat.lt_of_lt_of_le hB hk.below.size) (cardCells_kept hc hB hk))
  have hpcH := hid hpc
  have hneH := hid hne
  clear hc hpc hne
  subst hn
  go_enter Try.func106, Try.ntmps106
  go_wp2
  go_loopw [8] (fun i wr => ∃ k : Nat, k ≤ p ∧ i = .int .i64 k ∧ Kept w wr) (fun i _ => cs.length - (intOf i).toNat)
  case atStart => exact ⟨0, Nat.zero_le _, rfl, (by (try simp only [ext_ext]); repeat (first | exact Kept.refl _ | apply Kept.alloc | apply Kept.drew | apply kept_add | apply Kept.ext))⟩
  case round =>
    obtain ⟨k, hk, rfl, z, rfl⟩ := hrel
    have hlt : k < cs.length := by omega
    obtain ⟨g, off, rfl, hg, h1, h2, h3, h4⟩ := hx k hlt
    by_cases he : k = p
    · subst he
      have hd : decide (cx cs k = c) = true := decide_eq_true hpcH.out
      have hcl2 := hid (fun w' (hk : Kept w w') => hcl.out w' hk (cx cs k))
      rw [hd] at hcl2
      clear hd hcl
      go_wp2_with (first | (go_at_call 100; refine Calls.mono (hcl2.out _ ((by (try simp only [ext_ext]); repeat (first | exact Kept.refl _ | apply Kept.alloc | apply Kept.drew | apply kept_add | apply Kept.ext)))) ?_; rintro e w' ⟨rfl, y, rfl⟩))
      go_ret
      exact ⟨rfl, (by (try simp only [ext_ext]); repeat (first | exact Kept.refl _ | apply Kept.alloc | apply Kept.drew | apply kept_add | apply Kept.ext))⟩
    · have hd : decide (cx cs k = c) = false := decide_eq_false (hneH.out k (by omega))
      have hcl2 := hid (fun w' (hk : Kept w w') => hcl.out w' hk (cx cs k))
      rw [hd] at hcl2
      clear hd hcl
      go_wp2_with (first | (go_at_call 100; refine Calls.mono (hcl2.out _ ((by (try simp only [ext_ext]); repeat (first | exact Kept.refl _ | apply Kept.alloc | apply Kept.drew | apply kept_add | apply Kept.ext)))) ?_; rintro e w' ⟨rfl, y, rfl⟩))
      go_roundw
      case rel => exact ⟨k + 1, by omega, by go_num, (by (try simp only [ext_ext]); repeat (first | exact Kept.refl _ | apply Kept.alloc | apply Kept.drew | apply kept_add | apply Kept.ext))⟩
      case measure => simp [intOf]; omega
theorem kept_gb {w w' : World} {row : Option Nat} (h : Kept w w') : w.grownBy w' row := ⟨h.below.os, h.below.tape, h.below.output, h.below.size, fun k hk _ => h.below.block k hk⟩
theorem size_sc (g : Nat) : ∀ (vs : List Value) (o : Nat) (w : World), (w.setCells g o vs).heap.size = w.heap.size
  | [], _, _ => rfl
  | v :: vs, o, w => by
    show ((w.setCell ⟨g, o, none⟩ v).setCells g (o + 1) vs).heap.size = _
    rw [size_sc g vs]; simp
theorem cards_block {w w' : World} {g o : Nat} {c : Card} (h : CardCells w g o c) (hb : w'.heap[g]? = w.heap[g]?) : CardCells w' g o c := ⟨(cell_block hb _).trans h.1, (cell_block hb _).trans h.2.1, (cell_block hb _).trans h.2.2.1, (cell_block hb _).trans h.2.2.2⟩
theorem rowW_cleared {w : World} {g m : Nat} {f : Nat → Card} {cs : List Card} (h : RowW w g (m + 1) f) (hl : cs.length = m) (hc : ∀ t, t < m → cx cs t = f t) (vs : List Value) : CardsAt (w.setCells g (m * 4) vs) (some ⟨g, 0, none⟩) cs := fun i hi => by
  refine ⟨g, 0, rfl, by rw [size_sc]; exact h.1, ?_⟩
  obtain ⟨⟨a, b, cc, d⟩, _⟩ := h.2 i (by omega)
  rw [Nat.zero_add, hc i (by omega)]
  have far : ∀ y : Nat, y < 4 → (w.setCells g (m * 4) vs).cell? ⟨g, i * 4 + y, none⟩ = w.cell? ⟨g, i * 4 + y, none⟩ := fun y hy => World.cell?_setCells_out g vs (m * 4) w _ (fun _ _ => .inl (by show i * 4 + y < m * 4; omega))
  exact ⟨(far 0 (by omega)).trans a, (far 1 (by omega)).trans b, (far 2 (by omega)).trans cc, (far 3 (by omega)).trans d⟩
theorem grown_setCells {w w' : World} {g : Nat} (h : w.grownBy w' (some g)) : ∀ (vs : List Value) (o : Nat), w.grownBy (w'.setCells g o vs) (some g) := fun vs => by
  induction vs generalizing w' with
  | nil => exact fun o => h
  | cons v vs ih => exact fun o => ih (grown_setCell h (p := ⟨g, o, none⟩) rfl v) (o + 1)
theorem del_rel {w wr : World} {g n i p : Nat} {cs : List Card} (c : Card) (hcc : c = cx cs (i + 1)) (hr : RowW wr g n (dkF cs p i)) (hg : w.grownBy wr (some g)) (hi : i < n) (hpi : p ≤ i) (w' : World)
    (hk : Kept ((((wr.setCell ⟨g, i * 4, none⟩ (.int .i64 c.a)).setCell ⟨g, i * 4 + 1, none⟩ (.int .i64 c.b)).setCell ⟨g, i * 4 + 2, none⟩ (.int .i64 c.c)).setCell ⟨g, i * 4 + 3, none⟩ (.int .i64 c.d)) w') : RowW w' g n (dkF cs p (i + 1)) ∧ w.grownBy w' (some g) := by
  refine ⟨((hr.set hi c).congr (fun t _ => ?_)).kept hk, ?_⟩
  · rw [hcc]; exact dkF_next cs hpi
  · exact (grown_setCell (grown_setCell (grown_setCell (grown_setCell hg (p := ⟨g, i * 4, none⟩) rfl _) (p := ⟨g, i * 4 + 1, none⟩) rfl _) (p := ⟨g, i * 4 + 2, none⟩) rfl _) (p := ⟨g, i * 4 + 3, none⟩) rfl _).trans (kept_gb hk)
set_option maxHeartbeats 1000000 in
theorem deleteC_any (g cap m p : Nat) (cs : List Card) (c : Card) (B : Nat) (w : World) (hn : cs.length = m + 1) (hcap : m + 1 ≤ cap) (hm : m ≤ 1000) (hp : p ≤ m) (hpc : cx cs p = c) (hne : ∀ j, j ≤ m → j ≠ p → cx cs j ≠ c) (hB : B < w.heap.size) (hBg : B ≠ g) (hc : CardCells w B 0 c) (hrow : RowW w g (m + 1) (cx cs)) :
    Calls Try.prog 99 #[.slice (some ⟨g, 0, none⟩) ((m + 1 : Nat)) cap, .func (.func 100) #[] #[.pointer (some ⟨B, 0, none⟩)]] w fun e w' => e = .returned (.slice (some ⟨g, 0, none⟩) m cap) ∧ CardsAt w' (some ⟨g, 0, none⟩) (cs.eraseIdx p) ∧ w.grownBy w' (some g) := by
  have hI := hid (indexWithout_any B c (some ⟨g, 0, none⟩) cap (m + 1) p cs w hn hB hc (hrow.cards (by omega) (fun t _ => rfl)) (by omega) (by omega) hpc (fun j hj => hne j (by omega) (by omega)))
  have hcl := hid (fun (w' : World) (hk : w.grownBy w' (some g)) x => without1_any B c x w' (Nat.lt_of_lt_of_le hB hk.size) (cards_block hc (hk.block B hB (fun e => hBg (Option.some.inj e)))))
  have hrowH := hid hrow
  have hneH := hid hne
  have hnH := hid hn
  have hp1 : ((p : Int) == -1) = false := beq_eq_false_iff_ne.2 (by omega)
  have hp2 : ¬ ((p : Int) = -1) := by omega
  clear hc hrow hne hpc hn
  go_enter Try.func99, Try.ntmps99
  go_wp2_with (fail)
  (go_at_call 106; refine Calls.mono (hI.out) ?_; rintro e w1 ⟨rfl, k1⟩)
  have hk1 := hid k1
  clear k1 hI
  go_wp2_with (fail)
  go_loopw [5, 6] (fun s5 s6 wr => ∃ i : Nat, p ≤ i ∧ i ≤ m ∧ s5 = .int .i64 i ∧ s6 = .int .i64 ((i + 1 : Nat) : Int) ∧ RowW wr g (m + 1) (dkF cs p i) ∧ w.grownBy wr (some g)) (fun _ s6 _ => m + 1 - (intOf s6).toNat)
  case atStart => exact ⟨p, Nat.le_refl _, hp, rfl, by go_num, (hrowH.out.kept hk1.out).congr (fun t _ => dkF_start cs p t), kept_gb hk1.out⟩
  case round =>
    obtain ⟨i, hpi, him, rfl, rfl, hr, hg⟩ := hrel
    have hrH := hid hr
    have hgH := hid hg
    by_cases hlt : i < m
    · obtain ⟨⟨a1, a2, a3, a4⟩, _⟩ := hr.2 (i + 1) (by omega)
      obtain ⟨⟨b1, b2, b3, b4⟩, f⟩ := hr.2 i (by omega)
      have f0 : wr.frozen? ⟨g, i * 4, none⟩ = false := f 0 (by omega)
      have f1 := f 1 (by omega)
      have f2 := f 2 (by omega)
      have f3 := f 3 (by omega)
      have hgs := hr.1
      rw [dkF_ahead cs hpi] at a1 a2 a3 a4
      have hcl0 := fun (w' : World) (hk : w.grownBy w' (some g)) => hcl.out w' hk (cx cs (i + 1))
      rw [show decide (cx cs (i + 1) = c) = false from decide_eq_false (hneH.out (i + 1) (by omega) (by omega))] at hcl0
      have hcl1 := hid hcl0
      have hwr1 : IntKind.i64.wrap ((i : Int) + 1) = (i : Int) + 1 := Go.IntWalk.i64_in _ ⟨by omega, by omega⟩
      clear hcl0 hcl hr hg f
      go_wp2_with (first | (go_at_call 100; refine Calls.mono (hcl1.out _ (hgH.out.trans (kept_gb (by (try simp only [ext_ext]); repeat (first | exact Kept.refl _ | apply Kept.alloc | apply Kept.drew | apply kept_add | apply Kept.ext)))) ) ?_; rintro e w' ⟨rfl, y, rfl⟩))
      go_roundw
      case rel => exact ⟨i + 1, by omega, hlt, by go_num, by go_num, del_rel (cx cs (i + 1)) rfl hrH.out hgH.out (by omega) hpi _ (Kept.ext (Kept.alloc (Kept.refl _) _) _)⟩
      case measure => simp [intOf]; omega
    · obtain rfl : i = m := by omega
      obtain ⟨⟨b1, b2, b3, b4⟩, f⟩ := hr.2 i (by omega)
      have hclr : ∀ ty, (Builtin.clear_ #[29] ty #[.slice (some ⟨g, i * 4, none⟩) 1 (cap - i)]).run Try.prog wr = .ok (.tuple #[]) (wr.setCells g (i * 4) [.int .i64 0, .int .i64 0, .int .i64 0, .int .i64 0]) := fun ty => run_clear_card wr g (i * 4) (cap - i) ty (fun j hj => by
        obtain rfl | rfl | rfl | rfl : j = 0 ∨ j = 1 ∨ j = 2 ∨ j = 3 := by omega
        · rw [Nat.add_zero, b1]; rfl
        · rw [b2]; rfl
        · rw [b3]; rfl
        · rw [b4]; rfl) (fun j hj => f j hj)
      have hcm : ¬ cap = i := by omega
      have hc1 : (i : Int) ≤ (cap : Int) := by omega
      have hc2 : (i : Int) ≤ (i : Int) + 1 := by omega
      have hc3 : i ≤ cap := by omega
      clear hr hg f b1 b2 b3 b4
      go_wp2
      go_ret
      exact ⟨rfl, rowW_cleared hrH.out (by rw [List.length_eraseIdx, if_pos (by rw [hnH.out]; omega), hnH.out]; omega) (fun t ht => dkF_end cs hnH.out hp ht) _, grown_setCells hgH.out _ _⟩
/-- A slice of cards in new memory. -/
def RetK (W : World) (m : Nat) (cs : List Card) (e : Ending) (w' : World) : Prop := ∃ g cap, e = .returned (.slice (some ⟨g, 0, none⟩) m cap) ∧ CardsAt w' (some ⟨g, 0, none⟩) cs ∧ m ≤ cap ∧ Kept W w'
theorem without_any (g off cap m p : Nat) (cs : List Card) (c : Card) (w : World) (hn : cs.length = m + 1) (hm : m ≤ 1000) (hcap : m + 1 ≤ cap) (hx : CardsAt w (some ⟨g, off, none⟩) cs) (hp : p ≤ m) (hpc : cx cs p = c) (hne : ∀ j, j ≤ m → j ≠ p → cx cs j ≠ c) :
    Calls Try.prog 81 #[.slice (some ⟨g, off, none⟩) ((m + 1 : Nat)) cap, c.v] w (RetK w m (cs.eraseIdx p)) := by
  have hD := hid (fun (w' : World) (hk : Kept w w') => cloneC_any g off cap (m + 1) cs w' (hx.kept hk) hn (by omega) (by omega) hcap)
  have hnH := hid hn
  have hneH := hid hne
  have hpcH := hid hpc
  clear hx hn hne hpc
  go_enter Try.func81, Try.ntmps81
  go_wp2_with (fail)
  (go_at_call 84; refine Calls.mono (hD.out _ (by (try simp only [ext_ext]); repeat (first | exact Kept.refl _ | apply Kept.alloc | apply Kept.drew | apply kept_add | apply Kept.ext))) ?_; rintro e w1 ⟨v, rfl, ho, k1⟩)
  have hB : CardCells w1 w.heap.size 0 c := cardCells_kept (cardCells_new c rfl) (by simp) k1
  have hsz : w.heap.size < w1.heap.size := by have := k1.below.size; simp at this; omega
  obtain ⟨g', cap', rfl, hg', hcap'⟩ : ∃ g' cap', v = .slice (some ⟨g', 0, none⟩) (m + 1) cap' ∧ w.heap.size < g' ∧ m + 1 ≤ cap' := by
    have hn := hnH.out
    rcases ho.2 with ⟨_, h0⟩ | ⟨g', cap', cur, e, hb, hg, hc, _⟩
    · omega
    · exact ⟨g', cap', by rw [e, hn], by simp at hb; omega, by omega⟩
  have hrow := hid (ownC_rowW ho hnH.out)
  have k1H := hid (show Kept w w1 from Kept.trans (by (try simp only [ext_ext]); repeat (first | exact Kept.refl _ | apply Kept.alloc | apply Kept.drew | apply kept_add | apply Kept.ext)) k1)
  clear ho k1
  go_wp2_with (fail)
  (go_at_call 99; refine Calls.mono (deleteC_any g' cap' m p cs c w.heap.size w1 hnH.out hcap' hm hp hpcH.out hneH.out hsz (by omega) hB hrow.out) ?_; rintro e w2 ⟨rfl, hx2, hg2⟩)
  have hx2H := hid hx2
  have hg2H := hid hg2
  clear hx2 hg2
  go_wp2_with (fail)
  refine bodyPost_ret (v := .slice (some ⟨g', 0, none⟩) m cap') (by simp [results, Try.results81, go_sem]) rfl ?_
  exact ⟨g', cap', rfl, hx2H.out, by omega, k1H.out.grown hg2H.out (fun k e => by cases e; omega)⟩
end Go.Proofs.Ytinoohckfhhbfaa
