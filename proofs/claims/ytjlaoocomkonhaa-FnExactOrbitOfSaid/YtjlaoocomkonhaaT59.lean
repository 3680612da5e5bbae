/- Contracts: cards without one of them, in new memory. -/
import Derived.Test.YtjlaoocomkonhaaT50
import Derived.Test.YtjlaoocomkonhaaT18
import Derived.Deep.RegionLaw
import Derived.Deep.AppendLies
import Derived.Laws.AppendOwnNone
namespace Go.Proofs.Ytjlaoocomkonhaa
open Go.RowKit
/-- A block whose cards are told by a function, and may be written. -/
def RowW (w : World) (g n : Nat) (f : Nat → Card) : Prop := g < w.heap.size ∧ ∀ t, t < n → CardCells w g (t * 4) (f t) ∧ ∀ q, q < 4 → w.frozen? ⟨g, t * 4 + q, none⟩ = false
theorem RowW.cards {w : World} {g n : Nat} {f : Nat → Card} {cs : List Card} (h : RowW w g n f) (hl : cs.length ≤ n) (hc : ∀ t, t < cs.length → cx cs t = f t) : CardsAt w (some ⟨g, 0, none⟩) cs := fun i hi => by
  refine ⟨g, 0, rfl, h.1, ?_⟩
  rw [Nat.zero_add, hc i hi]
  exact (h.2 i (by omega)).1
theorem RowW.kept {w w' : World} {g n : Nat} {f : Nat → Card} (h : RowW w g n f) (hk : Kept w w') : RowW w' g n f := by
  have hb := hk.below.block g h.1
  refine ⟨Nat.lt_of_lt_of_le h.1 hk.below.size, fun t ht => ?_⟩
  obtain ⟨⟨a, b, c, d⟩, e⟩ := h.2 t ht
  refine ⟨⟨(cell_block hb _).trans a, (cell_block hb _).trans b, (cell_block hb _).trans c, (cell_block hb _).trans d⟩, fun q hq => ?_⟩
  rw [← e q hq]
  simp only [World.frozen?, hb]
theorem sc_other {w : World} {a b : Addr} {v : Value} (h : a ≠ b) : (w.setCell a v).cell? b = w.cell? b := World.cell?_setCell_other _ _ _ _ h
theorem sc_same {w : World} {a : Addr} {v u : Value} (h : w.cell? a = some u) : (w.setCell a v).cell? a = some v := World.cell?_setCell_same _ _ _ h
theorem RowW.set {w : World} {g n : Nat} {f : Nat → Card} (h : RowW w g n f) {i : Nat} (hi : i < n) (c : Card) :
    RowW ((((w.setCell ⟨g, i * 4, none⟩ (.int .i64 c.a)).setCell ⟨g, i * 4 + 1, none⟩ (.int .i64 c.b)).setCell ⟨g, i * 4 + 2, none⟩ (.int .i64 c.c)).setCell ⟨g, i * 4 + 3, none⟩ (.int .i64 c.d)) g n (fun t => if t = i then c else f t) := by
  refine ⟨by simpa using h.1, fun t ht => ?_⟩
  obtain ⟨⟨a, b, cc, d⟩, e⟩ := h.2 t ht
  refine ⟨?_, fun q hq => by simpa using e q hq⟩
  by_cases hti : t = i
  · subst hti
    dsimp only
    rw [if_pos rfl]
    refine ⟨?_, ?_, ?_, ?_⟩
    · rw [sc_other (by simp), sc_other (by simp), sc_other (by simp)]
      exact sc_same a
    · rw [sc_other (by simp), sc_other (by simp)]
      exact sc_same ((sc_other (by simp)).trans b)
    · rw [sc_other (by simp)]
      exact sc_same ((sc_other (by simp)).trans ((sc_other (by simp)).trans cc))
    · exact sc_same ((sc_other (by simp)).trans ((sc_other (by simp)).trans ((sc_other (by simp)).trans d)))
  · dsimp only
    rw [if_neg hti]
    have far : ∀ x y : Nat, x < 4 → y < 4 → (⟨g, i * 4 + x, none⟩ : Addr) ≠ ⟨g, t * 4 + y, none⟩ := fun x y hx hy e => by
      have := congrArg Addr.off e; simp at this; omega
    have far0 : ∀ y : Nat, y < 4 → (⟨g, i * 4, none⟩ : Addr) ≠ ⟨g, t * 4 + y, none⟩ := fun y hy => far 0 y (by omega) hy
    refine ⟨?_, ?_, ?_, ?_⟩
    · show World.cell? _ ⟨g, t * 4 + 0, none⟩ = _
      rw [sc_other (far 3 0 (by omega) (by omega)), sc_other (far 2 0 (by omega) (by omega)), sc_other (far 1 0 (by omega) (by omega)), sc_other (far0 0 (by omega))]
      exact a
    · rw [sc_other (far 3 1 (by omega) (by omega)), sc_other (far 2 1 (by omega) (by omega)), sc_other (far 1 1 (by omega) (by omega)), sc_other (far0 1 (by omega))]
      exact b
    · rw [sc_other (far 3 2 (by omega) (by omega)), sc_other (far 2 2 (by omega) (by omega)), sc_other (far 1 2 (by omega) (by omega)), sc_other (far0 2 (by omega))]
      exact cc
    · rw [sc_other (far 3 3 (by omega) (by omega)), sc_other (far 2 3 (by omega) (by omega)), sc_other (far 1 3 (by omega) (by omega)), sc_other (far0 3 (by omega))]
      exact d
theorem RowW.congr {w : World} {g n : Nat} {f f' : Nat → Card} (h : RowW w g n f) (he : ∀ t, t < n → f t = f' t) : RowW w g n f' := ⟨h.1, fun t ht => by rw [← he t ht]; exact h.2 t ht⟩
/-- Where one card is being taken out: what the row holds. -/
def dkF (cs : List Card) (p i t : Nat) : Card := if t < p then cx cs t else if t < i then cx cs (t + 1) else cx cs t
theorem dkF_start (cs : List Card) (p t : Nat) : cx cs t = dkF cs p p t := by unfold dkF; split <;> simp
theorem dkF_next (cs : List Card) {p i t : Nat} (h : p ≤ i) : (if t = i then cx cs (i + 1) else dkF cs p i t) = dkF cs p (i + 1) t := by
  unfold dkF
  by_cases e : t = i
  · subst e; rw [if_pos rfl, if_neg (by omega), if_pos (by omega)]
  · rw [if_neg e]
    by_cases h1 : t < p
    · rw [if_pos h1, if_pos h1]
    · rw [if_neg h1, if_neg h1]
      by_cases h2 : t < i
      · rw [if_pos h2, if_pos (by omega)]
      · rw [if_neg h2, if_neg (by omega)]
theorem dkF_ahead (cs : List Card) {p i : Nat} (h : p ≤ i) : dkF cs p i (i + 1) = cx cs (i + 1) := by unfold dkF; rw [if_neg (by omega), if_neg (by omega)]
theorem dkF_end (cs : List Card) {p m t : Nat} (hl : cs.length = m + 1) (hp : p ≤ m) (ht : t < m) : cx (cs.eraseIdx p) t = dkF cs p m t := by
  have hle : (cs.eraseIdx p).length = m := by rw [List.length_eraseIdx, if_pos (by omega)]; omega
  rw [cx_get _ _ (by omega), List.getElem_eraseIdx]
  unfold dkF
  split
  · rw [cx_get _ _ (by omega)]
  · rw [cx_get _ _ (by omega)]
theorem ownC_rowW {B : Nat} {w : World} {g cap n : Nat} {cs : List Card} (h : OwnC B w (.slice (some ⟨g, 0, none⟩) n cap) cs) (hn : cs.length = n) : RowW w g n (cx cs) := by
  obtain ⟨ao, cap', hv, hx, _⟩ := h.reads
  cases hv
  rcases h.2 with ⟨e, _⟩ | ⟨g', cap'', cur, e, hb, hg, _⟩
  · cases e
  · cases e
    refine ⟨(Array.getElem?_eq_some_iff.1 hg).1, fun t ht => ⟨?_, fun q _ => frozen_of_row w g _ _ _ hg⟩⟩
    obtain ⟨_, _, he, _, hc⟩ := hx t (by omega)
    cases he
    rw [Nat.zero_add] at hc
    exact hc
theorem run_clear_card (w : World) (b o c : Nat) (ty : TypeId)
    (hc : ∀ j, j < 4 → (w.cell? ⟨b, o + j, none⟩).isSome = true) (hf : ∀ j, j < 4 → w.frozen? ⟨b, o + j, none⟩ = false) :
    (Builtin.clear_ #[22] ty #[.slice (some ⟨b, o, none⟩) 1 c]).run Try.prog w = .ok (.tuple #[]) (w.setCells b o [.int .i64 0, .int .i64 0, .int .i64 0, .int .i64 0]) := by
  have hst := run_storeCells_cells (P := Try.prog) b o [.int .i64 0, .int .i64 0, .int .i64 0, .int .i64 0] 0 w (by simpa using hc) (by simpa using hf) (by intro v hv'; simp at hv'; rw [hv']; rfl)
  simp only [Nat.add_zero] at hst
  have hz : (Builtin.zeroCells (Value.agg #[Value.int .i64 0, .int .i64 0, .int .i64 0, .int .i64 0]).cells 1).toList = [.int .i64 0, .int .i64 0, .int .i64 0, .int .i64 0] := by kernel_rfl
  simp only [Builtin.clear_, run_underlying Try.underlying22, Try.zeroValue29, Sem.run_bind, Sem.run_pure, Result.andThen_ok, hz, hst, List.getElem?_toArray, List.getElem?_cons_zero]
theorem cardCells_kept {w w' : World} {g o : Nat} {c : Card} (h : CardCells w g o c) (hg : g < w.heap.size) (hk : Kept w w') : CardCells w' g o c := by
  obtain ⟨a, b, cc, d⟩ := h
  have hb := hk.below.block g hg
  exact ⟨(cell_block hb _).trans a, (cell_block hb _).trans b, (cell_block hb _).trans cc, (cell_block hb _).trans d⟩
theorem cards_cells_add {w : World} {ad : Addr} {cs : List Card} (h : CardsAt w (some ad) cs) {j : Nat} {u : Value} (hj : (cells4 cs)[j]? = some u) : w.cell? (ad.add j) = some u := by
  have hlt : j < cs.length * 4 := by rw [← cells4_length]; exact (List.getElem?_eq_some_iff.1 hj).1
  obtain ⟨g, off, he, _⟩ := h 0 (by omega)
  cases he
  rw [Addr.add_lit]
  exact cards_cells h hj
theorem step_append_card1 {ops : Array Oper} {o : Oper} {a : Act} {K : Act → World → Prop} {Q : Exit → Act → World → Prop} {E : Prop} {w : World} (hgd : o.guard = none) (s x : Operand)
    (ho : o.op = .call { callee := .builtin .append, args := #[s, x], argTypes := #[22, 22] }) (W : World) (B : Nat) (v : Value) (cs : List Card) (hs : a.eval s = v) (hown : OwnC B w v cs) (hk : Kept W w) (hWB : W.heap.size ≤ B) (hBw : B ≤ w.heap.size)
    (ad : Addr) (m c : Nat) (ds : List Card) (hx : a.eval x = .slice (some ad) m c) (hm : ds.length = m) (hd : CardsAt w (some ad) ds) (hl : cs.length + m ≤ 1048576)
    (h : ∀ v' w', OwnC B w' v' (cs ++ ds) → Kept W w' → K (a.put o.dst v') w') : if Region.wanted o (yielded ops a.tmps) = true then Oper.wp Try.prog o a w K Q else E := by
  obtain ⟨i, hi, hz, hsz, hb⟩ := info_parts info_card
  have hwt : Region.wanted o (yielded ops a.tmps) = true := by simp [Region.wanted, hgd]
  rw [if_pos hwt]
  obtain ⟨v', w', hr, hown', hg, _, _⟩ := run_append_own_at (P := Try.prog) w B 22 o.type T4 i _ 4 32 Try.underlying22 hi hz hsz hb rfl (by decide) v cs.length (cells4 cs) hown ad m c (cells4 ds) (by rw [cells4_length, hm]) (fun j u hj => cards_cells_add hd hj) (cells4_one ds) (by unfold maxLen; omega) (by omega) hBw
  unfold Oper.wp execOp
  simp only [ho, resolve, invoke, builtin, Sem.run_bind, Sem.run_pure, Result.andThen_ok, List.map_toArray, List.map_cons, List.map_nil, hs, hx, hr]
  refine h v' w' ?_ (hk.grown hg fun k hk => Nat.le_trans hWB (hown.lt k hk).1)
  have e : cells4 (cs ++ ds) = cells4 cs ++ cells4 ds := by simp [cells4]
  unfold OwnC
  rw [e, List.length_append, hm]
  exact hown'
theorem kept_gb {w w' : World} {row : Option Nat} (h : Kept w w') : w.grownBy w' row := ⟨h.below.os, h.below.tape, h.below.output, h.below.size, fun k hk _ => h.below.block k hk⟩
theorem size_sc (g : Nat) : ∀ (vs : List Value) (o : Nat) (w : World), (w.setCells g o vs).heap.size = w.heap.size
  | [], _, _ => rfl
  | v :: vs, o, w => by
    show ((w.setCell ⟨g, o, none⟩ v).setCells g (o + 1) vs).heap.size = _
    rw [size_sc g vs]; simp
theorem cards_block {w w' : World} {g o : Nat} {c : Card} (h : CardCells w g o c) (hb : w'.heap[g]? = w.heap[g]?) : CardCells w' g o c := ⟨(cell_block hb _).trans h.1, (cell_block hb _).trans h.2.1, (cell_block hb _).trans h.2.2.1, (cell_block hb _).trans h.2.2.2⟩
theorem rowW_cleared {w : World} {g m : Nat} {f : Nat → Card} {cs : List Card} (h : RowW w g (m + 1) f) (hl : cs.length = m) (hc : ∀ t, t < m → cx cs t = f t) (vs : List Value) : CardsAt (w.setCells g (m * 4) vs) (some ⟨g, 0, none⟩) cs := fun i hi => by
  refine ⟨g, 0, rfl, by rw [size_sc]; exact h.1, ?_⟩
  obtain ⟨⟨a, b, cc, d⟩, _⟩ := h.2 i (by omega)
  rw [Nat.zero_add, hc i (by omega)]
  have far : ∀ y : Nat, y < 4 → (w.setCells g (m * 4) vs).cell? ⟨g, i * 4 + y, none⟩ = w.cell? ⟨g, i * 4 + y, none⟩ := fun y hy => World.cell?_setCells_out g vs (m * 4) w _ (fun _ _ => .inl (by show i * 4 + y < m * 4; omega))
  exact ⟨(far 0 (by omega)).trans a, (far 1 (by omega)).trans b, (far 2 (by omega)).trans cc, (far 3 (by omega)).trans d⟩
theorem grown_setCells {w w' : World} {g : Nat} (h : w.grownBy w' (some g)) : ∀ (vs : List Value) (o : Nat), w.grownBy (w'.setCells g o vs) (some g) := fun vs => by
  induction vs generalizing w' with
  | nil => exact fun o => h
  | cons v vs ih => exact fun o => ih (grown_setCell h (p := ⟨g, o, none⟩) rfl v) (o + 1)
theorem del_rel {w wr : World} {g n i p : Nat} {cs : List Card} (c : Card) (hcc : c = cx cs (i + 1)) (hr : RowW wr g n (dkF cs p i)) (hg : w.grownBy wr (some g)) (hi : i < n) (hpi : p ≤ i) (w' : World)
    (hk : Kept ((((wr.setCell ⟨g, i * 4, none⟩ (.int .i64 c.a)).setCell ⟨g, i * 4 + 1, none⟩ (.int .i64 c.b)).setCell ⟨g, i * 4 + 2, none⟩ (.int .i64 c.c)).setCell ⟨g, i * 4 + 3, none⟩ (.int .i64 c.d)) w') : RowW w' g n (dkF cs p (i + 1)) ∧ w.grownBy w' (some g) := by
  refine ⟨((hr.set hi c).congr (fun t _ => ?_)).kept hk, ?_⟩
  · rw [hcc]; exact dkF_next cs hpi
  · exact (grown_setCell (grown_setCell (grown_setCell (grown_setCell hg (p := ⟨g, i * 4, none⟩) rfl _) (p := ⟨g, i * 4 + 1, none⟩) rfl _) (p := ⟨g, i * 4 + 2, none⟩) rfl _) (p := ⟨g, i * 4 + 3, none⟩) rfl _).trans (kept_gb hk)
end Go.Proofs.Ytjlaoocomkonhaa
