/- Contracts: cards without one of them, in new memory. Contracts: the order of two cards; cards put in order by the library. Cards in order: the plain law; the row of cards put in order by the library. -/
import Derived.Test.YtjlaoocomkonhaaQ11
import Derived.Test.YtjlaoocomkonhaaQ04
import Derived.Deep.RegionLaw
import Derived.Deep.AppendLies
import Derived.Laws.AppendOwnNone
import Derived.Test.YtjlaoocomkonhaaQ10
import Derived.Shelf.SlSortCmp.QuietGrown
import Derived.Shelf.SlSortCmp.InsertionK
import Derived.Shelf.SlSortCmp.WholeK
namespace Go.Proofs.Ytjlaoocomkonhaa
open Go.RowKit
/-- A block whose cards are told by a function, and may be written. -/
def RowW (w : World) (g n : Nat) (f : Nat → Card) : Prop := g < w.heap.size ∧ ∀ t, t < n → CardCells w g (t * 4) (f t) ∧ ∀ q, q < 4 → w.frozen? ⟨g, t * 4 + q, none⟩ = false
theorem RowW.cards {w : World} {g n : Nat} {f : Nat → Card} {cs : List Card} (h : RowW w g n f) (hl : cs.length ≤ n) (hc : ∀ t, t < cs.length → cx cs t = f t) : CardsAt w (some ⟨g, 0, none⟩) cs := fun i hi => by
  refine ⟨g, 0, rfl, h.1, ?_⟩
  rw [Nat.zero_add, hc i hi]
  exact (h.2 i (by omega)).1
theorem RowW.kept {w w' : World} {g n : Nat} {f : Nat → Card} (h : RowW w g n f) (hk : Kept w w') : RowW w' g n f := by
  have hb := hk.below.block g h.1
  refine ⟨Nat.lt_of_lt_of_le h.1 hk.below.size, fun t ht => ?_⟩
  obtain ⟨⟨a, b, c, d⟩, e⟩ := h.2 t ht
  refine ⟨⟨(cell_block hb _).trans a, (cell_block hb _).trans b, (cell_block hb _).trans c, (cell_block hb _).trans d⟩, fun q hq => ?_⟩
  rw [← e q hq]
  simp only [World.frozen?, hb]
theorem sc_other {w : World} {a b : Addr} {v : Value} (h : a ≠ b) : (w.setCell a v).cell? b = w.cell? b := World.cell?_setCell_other _ _ _ _ h
theorem sc_same {w : World} {a : Addr} {v u : Value} (h : w.cell? a = some u) : (w.setCell a v).cell? a = some v := World.cell?_setCell_same _ _ _ h
theorem RowW.set {w : World} {g n : Nat} {f : Nat → Card} (h : RowW w g n f) {i : Nat} (hi : i < n) (c : Card) :
    RowW ((((w.setCell ⟨g, i * 4, none⟩ (.int .i64 c.a)).setCell ⟨g, i * 4 + 1, none⟩ (.int .i64 c.b)).setCell ⟨g, i * 4 + 2, none⟩ (.int .i64 c.c)).setCell ⟨g, i * 4 + 3, none⟩ (.int .i64 c.d)) g n (fun t => if t = i then c else f t) := by
  refine ⟨by simpa using h.1, fun t ht => ?_⟩
  obtain ⟨⟨a, b, cc, d⟩, e⟩ := h.2 t ht
  refine ⟨?_, fun q hq => by simp <;> exact e q hq⟩
  by_cases hti : t = i
  · subst hti
    dsimp only
    rw [if_pos rfl]
    refine ⟨?_, ?_, ?_, ?_⟩
    · rw [sc_other (by simp), sc_other (by simp), sc_other (by simp)]
      exact sc_same a
    · rw [sc_other (by simp), sc_other (by simp)]
      exact sc_same ((sc_other (by simp)).trans b)
    · rw [sc_other (by simp)]
      exact sc_same ((sc_other (by simp)).trans ((sc_other (by simp)).trans cc))
    · exact sc_same ((sc_other (by simp)).trans ((sc_other (by simp)).trans ((sc_other (by simp)).trans d)))
  · dsimp only
    rw [if_neg hti]
    have far : ∀ x y : Nat, x < 4 → y < 4 → (⟨g, i * 4 + x, none⟩ : Addr) ≠ ⟨g, t * 4 + y, none⟩ := fun x y hx hy e => by
      have := congrArg Addr.off e; simp at this; omega
    have far0 : ∀ y : Nat, y < 4 → (⟨g, i * 4, none⟩ : Addr) ≠ ⟨g, t * 4 + y, none⟩ := fun y hy => far 0 y (by omega) hy
    refine ⟨?_, ?_, ?_, ?_⟩
    · show World.cell? _ ⟨g, t * 4 + 0, none⟩ = _
      rw [sc_other (far 3 0 (by omega) (by omega)), sc_other (far 2 0 (by omega) (by omega)), sc_other (far 1 0 (by omega) (by omega)), sc_other (far0 0 (by omega))]
      exact a
    · rw [sc_other (far 3 1 (by omega) (by omega)), sc_other (far 2 1 (by omega) (by omega)), sc_other (far 1 1 (by omega) (by omega)), sc_other (far0 1 (by omega))]
      exact b
    · rw [sc_other (far 3 2 (by omega) (by omega)), sc_other (far 2 2 (by omega) (by omega)), sc_other (far 1 2 (by omega) (by omega)), sc_other (far0 2 (by omega))]
      exact cc
    · rw [sc_other (far 3 3 (by omega) (by omega)), sc_other (far 2 3 (by omega) (by omega)), sc_other (far 1 3 (by omega) (by omega)), sc_other (far0 3 (by omega))]
      exact d
theorem RowW.congr {w : World} {g n : Nat} {f f' : Nat → Card} (h : RowW w g n f) (he : ∀ t, t < n → f t = f' t) : RowW w g n f' := ⟨h.1, fun t ht => by rw [← he t ht]; exact h.2 t ht⟩
/-- Where one card is being taken out: what the row holds. -/
def dkF (cs : List Card) (p i t : Nat) : Card := if t < p then cx cs t else if t < i then cx cs (t + 1) else cx cs t
theorem dkF_start (cs : List Card) (p t : Nat) : cx cs t = dkF cs p p t := by unfold dkF; split <;> simp
theorem dkF_next (cs : List Card) {p i t : Nat} (h : p ≤ i) : (if t = i then cx cs (i + 1) else dkF cs p i t) = dkF cs p (i + 1) t := by
  unfold dkF
  by_cases e : t = i
  · subst e; rw [if_pos rfl, if_neg (by omega), if_pos (by omega)]
  · rw [if_neg e]
    by_cases h1 : t < p
    · rw [if_pos h1, if_pos h1]
    · rw [if_neg h1, if_neg h1]
      by_cases h2 : t < i
      · rw [if_pos h2, if_pos (by omega)]
      · rw [if_neg h2, if_neg (by omega)]
theorem dkF_ahead (cs : List Card) {p i : Nat} (h : p ≤ i) : dkF cs p i (i + 1) = cx cs (i + 1) := by unfold dkF; rw [if_neg (by omega), if_neg (by omega)]
theorem dkF_end (cs : List Card) {p m t : Nat} (hl : cs.length = m + 1) (hp : p ≤ m) (ht : t < m) : cx (cs.eraseIdx p) t = dkF cs p m t := by
  have hle : (cs.eraseIdx p).length = m := by rw [List.length_eraseIdx, if_pos (by omega)]; omega
  rw [cx_get _ _ (by omega), List.getElem_eraseIdx]
  unfold dkF
  split
  · rw [cx_get _ _ (by omega)]
  · rw [cx_get _ _ (by omega)]
theorem ownC_rowW {B : Nat} {w : World} {g cap n : Nat} {cs : List Card} (h : OwnC B w (.slice (some ⟨g, 0, none⟩) n cap) cs) (hn : cs.length = n) : RowW w g n (cx cs) := by
  obtain ⟨ao, cap', hv, hx, _⟩ := h.reads
  cases hv
  rcases h.2 with ⟨e, _⟩ | ⟨g', cap'', cur, e, hb, hg, _⟩
  · cases e
  · cases e
    refine ⟨(Array.getElem?_eq_some_iff.1 hg).1, fun t ht => ⟨?_, fun q _ => frozen_of_row w g _ _ _ hg⟩⟩
    obtain ⟨_, _, he, _, hc⟩ := hx t (by omega)
    cases he
    rw [Nat.zero_add] at hc
    exact hc
theorem run_clear_card (w : World) (b o c : Nat) (ty : TypeId)
    (hc : ∀ j, j < 4 → (w.cell? ⟨b, o + j, none⟩).isSome = true) (hf : ∀ j, j < 4 → w.frozen? ⟨b, o + j, none⟩ = false) :
    (Builtin.clear_ #[22] ty #[.slice (some ⟨b, o, none⟩) 1 c]).run Try.prog w = .ok (.tuple #[]) (w.setCells b o [.int .i64 0, .int .i64 0, .int .i64 0, .int .i64 0]) := by
  have hst := run_storeCells_cells (P := Try.prog) b o [.int .i64 0, .int .i64 0, .int .i64 0, .int .i64 0] 0 w (by simpa using hc) (by simpa using hf) (by intro v hv'; simp at hv'; rw [hv']; rfl)
  simp only [Nat.add_zero] at hst
  have hz : (Builtin.zeroCells (Value.agg #[Value.int .i64 0, .int .i64 0, .int .i64 0, .int .i64 0]).cells 1).toList = [.int .i64 0, .int .i64 0, .int .i64 0, .int .i64 0] := by kernel_rfl
  simp only [Builtin.clear_, run_underlying Try.underlying22, Try.zeroValue29, Sem.run_bind, Sem.run_pure, Result.andThen_ok, hz, hst, List.getElem?_toArray, List.getElem?_cons_zero]
theorem cardCells_kept {w w' : World} {g o : Nat} {c : Card} (h : CardCells w g o c) (hg : g < w.heap.size) (hk : Kept w w') : CardCells w' g o c := by
  obtain ⟨a, b, cc, d⟩ := h
  have hb := hk.below.block g hg
  exact ⟨(cell_block hb _).trans a, (cell_block hb _).trans b, (cell_block hb _).trans cc, (cell_block hb _).trans d⟩
theorem cards_cells_add {w : World} {ad : Addr} {cs : List Card} (h : CardsAt w (some ad) cs) {j : Nat} {u : Value} (hj : (cells4 cs)[j]? = some u) : w.cell? (ad.add j) = some u := by
  have hlt : j < cs.length * 4 := by rw [← cells4_length]; exact (List.getElem?_eq_some_iff.1 hj).1
  obtain ⟨g, off, he, _⟩ := h 0 (by omega)
  cases he
  rw [Addr.add_lit]
  exact cards_cells h hj
theorem step_append_card1 {ops : Array Oper} {o : Oper} {a : Act} {K : Act → World → Prop} {Q : Exit → Act → World → Prop} {E : Prop} {w : World} (hgd : o.guard = none) (s x : Operand)
    (ho : o.op = .call { callee := .builtin .append, args := #[s, x], argTypes := #[22, 22] }) (W : World) (B : Nat) (v : Value) (cs : List Card) (hs : a.eval s = v) (hown : OwnC B w v cs) (hk : Kept W w) (hWB : W.heap.size ≤ B) (hBw : B ≤ w.heap.size)
    (ad : Addr) (m c : Nat) (ds : List Card) (hx : a.eval x = .slice (some ad) m c) (hm : ds.length = m) (hd : CardsAt w (some ad) ds) (hl : cs.length + m ≤ 1048576)
    (h : ∀ v' w', OwnC B w' v' (cs ++ ds) → Kept W w' → K (a.put o.dst v') w') : if Region.wanted o (yielded ops a.tmps) = true then Oper.wp Try.prog o a w K Q else E := by
  obtain ⟨i, hi, hz, hsz, hb⟩ := info_parts info_card
  have hwt : Region.wanted o (yielded ops a.tmps) = true := by simp [Region.wanted, hgd]
  rw [if_pos hwt]
  obtain ⟨v', w', hr, hown', hg, _, _⟩ := run_append_own_at (P := Try.prog) w B 22 o.type T4 i _ 4 32 Try.underlying22 hi hz hsz hb rfl (by decide) v cs.length (cells4 cs) hown ad m c (cells4 ds) (by rw [cells4_length, hm]) (fun j u hj => cards_cells_add hd hj) (cells4_one ds) (by unfold maxLen; omega) (by omega) hBw
  unfold Oper.wp execOp
  simp only [ho, resolve, invoke, builtin, Sem.run_bind, Sem.run_pure, Result.andThen_ok, List.map_toArray, List.map_cons, List.map_nil, hs, hx, hr]
  refine h v' w' ?_ (hk.grown hg fun k hk => Nat.le_trans hWB (hown.lt k hk).1)
  have e : cells4 (cs ++ ds) = cells4 cs ++ cells4 ds := by simp [cells4]
  unfold OwnC
  rw [e, List.length_append, hm]
  exact hown'
theorem kept_gb {w w' : World} {row : Option Nat} (h : Kept w w') : w.grownBy w' row := ⟨h.below.os, h.below.tape, h.below.output, h.below.size, fun k hk _ => h.below.block k hk⟩
theorem size_sc (g : Nat) : ∀ (vs : List Value) (o : Nat) (w : World), (w.setCells g o vs).heap.size = w.heap.size
  | [], _, _ => rfl
  | v :: vs, o, w => by
    show ((w.setCell ⟨g, o, none⟩ v).setCells g (o + 1) vs).heap.size = _
    rw [size_sc g vs]; simp
theorem cards_block {w w' : World} {g o : Nat} {c : Card} (h : CardCells w g o c) (hb : w'.heap[g]? = w.heap[g]?) : CardCells w' g o c := ⟨(cell_block hb _).trans h.1, (cell_block hb _).trans h.2.1, (cell_block hb _).trans h.2.2.1, (cell_block hb _).trans h.2.2.2⟩
theorem rowW_cleared {w : World} {g m : Nat} {f : Nat → Card} {cs : List Card} (h : RowW w g (m + 1) f) (hl : cs.length = m) (hc : ∀ t, t < m → cx cs t = f t) (vs : List Value) : CardsAt (w.setCells g (m * 4) vs) (some ⟨g, 0, none⟩) cs := fun i hi => by
  refine ⟨g, 0, rfl, by rw [size_sc]; exact h.1, ?_⟩
  obtain ⟨⟨a, b, cc, d⟩, _⟩ := h.2 i (by omega)
  rw [Nat.zero_add, hc i (by omega)]
  have far : ∀ y : Nat, y < 4 → (w.setCells g (m * 4) vs).cell? ⟨g, i * 4 + y, none⟩ = w.cell? ⟨g, i * 4 + y, none⟩ := fun y hy => World.cell?_setCells_out g vs (m * 4) w _ (fun _ _ => .inl (by show i * 4 + y < m * 4; omega))
  exact ⟨(far 0 (by omega)).trans a, (far 1 (by omega)).trans b, (far 2 (by omega)).trans cc, (far 3 (by omega)).trans d⟩
theorem grown_setCells {w w' : World} {g : Nat} (h : w.grownBy w' (some g)) : ∀ (vs : List Value) (o : Nat), w.grownBy (w'.setCells g o vs) (some g) := fun vs => by
  induction vs generalizing w' with
  | nil => exact fun o => h
  | cons v vs ih => exact fun o => ih (grown_setCell h (p := ⟨g, o, none⟩) rfl v) (o + 1)
theorem del_rel {w wr : World} {g n i p : Nat} {cs : List Card} (c : Card) (hcc : c = cx cs (i + 1)) (hr : RowW wr g n (dkF cs p i)) (hg : w.grownBy wr (some g)) (hi : i < n) (hpi : p ≤ i) (w' : World)
    (hk : Kept ((((wr.setCell ⟨g, i * 4, none⟩ (.int .i64 c.a)).setCell ⟨g, i * 4 + 1, none⟩ (.int .i64 c.b)).setCell ⟨g, i * 4 + 2, none⟩ (.int .i64 c.c)).setCell ⟨g, i * 4 + 3, none⟩ (.int .i64 c.d)) w') : RowW w' g n (dkF cs p (i + 1)) ∧ w.grownBy w' (some g) := by
  refine ⟨((hr.set hi c).congr (fun t _ => ?_)).kept hk, ?_⟩
  · rw [hcc]; exact dkF_next cs hpi
  · exact (grown_setCell (grown_setCell (grown_setCell (grown_setCell hg (p := ⟨g, i * 4, none⟩) rfl _) (p := ⟨g, i * 4 + 1, none⟩) rfl _) (p := ⟨g, i * 4 + 2, none⟩) rfl _) (p := ⟨g, i * 4 + 3, none⟩) rfl _).trans (kept_gb hk)
end Go.Proofs.Ytjlaoocomkonhaa
namespace Go.Proofs.Ytjlaoocomkonhaa
open Go.RowKit Go.Sort Go.Shelf
theorem numberX_any (x : Card) (hx : isCard x = true) (W : World) : Calls Try.prog 58 #[x.v] W fun e w' => e = .returned (.int .i64 (numC x)) ∧ ∃ q os, w' = grow (W.drewN q) os := by
  obtain ⟨x1, x2, x3, x4⟩ := isCard_of hx
  obtain ⟨a, b, c, d⟩ := x
  have i0 : ∀ w : World, (Instr.index 29 (.agg #[.int .i64 a, .int .i64 b, .int .i64 c, .int .i64 d]) (.int .i64 0)).run Try.prog w = .ok (.int .i64 a) w := fun _ => by kernel_rfl
  have i1 : ∀ w : World, (Instr.index 29 (.agg #[.int .i64 a, .int .i64 b, .int .i64 c, .int .i64 d]) (.int .i64 1)).run Try.prog w = .ok (.int .i64 b) w := fun _ => by kernel_rfl
  have i2 : ∀ w : World, (Instr.index 29 (.agg #[.int .i64 a, .int .i64 b, .int .i64 c, .int .i64 d]) (.int .i64 2)).run Try.prog w = .ok (.int .i64 c) w := fun _ => by kernel_rfl
  have i3 : ∀ w : World, (Instr.index 29 (.agg #[.int .i64 a, .int .i64 b, .int .i64 c, .int .i64 d]) (.int .i64 3)).run Try.prog w = .ok (.int .i64 d) w := fun _ => by kernel_rfl
  simp only at x1 x2 x3 x4
  go_enter Try.func58, Try.ntmps58
  go_wp2
  refine wp_loop_rounds 5 ?_
  iterate 5
    rw [rounds_succ]
    go_wp2
  go_ret
  exact ⟨ret_of (congrArg (Value.int .i64) (by simp only [numC]; omega)), 0, _, by rw [alloc_eq_grow]; rfl⟩
theorem ckX {w w' : World} {g o : Nat} {c : Card} (h : CardCells w g o c) (hg : g < w.heap.size) (hk : Kept w w') : CardCells w' g o c := by
  obtain ⟨a, b, cc, d⟩ := h
  exact ⟨(hk.below.cell (p := ⟨_, _, none⟩) hg).trans a, (hk.below.cell (p := ⟨_, _, none⟩) hg).trans b, (hk.below.cell (p := ⟨_, _, none⟩) hg).trans cc, (hk.below.cell (p := ⟨_, _, none⟩) hg).trans d⟩
theorem compareX_any (x y : Card) (hx : isCard x = true) (hy : isCard y = true) (W : World) : Calls Try.prog 36 #[x.v, y.v] W fun e w' => e = .returned (.int .i64 (numC x - numC y)) ∧ ∃ q os, w' = grow (W.drewN q) os := by
  have mixed : Try.prog.follows .mixedOrders = true := by kernel_rfl
  have b1 := numC_bd hx
  have b2 := numC_bd hy
  obtain ⟨W2, hW2⟩ : ∃ W2, W2 = (W.alloc (.cells #[.int .i64 x.a, .int .i64 x.b, .int .i64 x.c, .int .i64 x.d] 29)).alloc (.cells #[.int .i64 y.a, .int .i64 y.b, .int .i64 y.c, .int .i64 y.d] 29) := ⟨_, rfl⟩
  have hs : W2.heap.size = W.heap.size + 1 + 1 := by rw [hW2]; simp
  have cell := fun (b : Nat) (hb : b < W2.heap.size) (o : Nat) (v : Value) (h : W2.cell? ⟨b, o, none⟩ = some v) => cell_grown (a := ⟨b, o, none⟩) hb h
  have cx0 : CardCells W2 W.heap.size 0 x := by rw [hW2]; exact ckX (cardCells_new x rfl) (by simp) ((Kept.refl _).alloc _)
  have cy0 : CardCells W2 (W.heap.size + 1) 0 y := by rw [hW2]; exact cardCells_new y (by simp)
  have k0 := cell W.heap.size (by omega) _ _ cx0.1
  have k1 := cell W.heap.size (by omega) _ _ cx0.2.1
  have k2 := cell W.heap.size (by omega) _ _ cx0.2.2.1
  have k3 := cell W.heap.size (by omega) _ _ cx0.2.2.2
  have m0 := cell (W.heap.size + 1) (by omega) _ _ cy0.1
  have m1 := cell (W.heap.size + 1) (by omega) _ _ cy0.2.1
  have m2 := cell (W.heap.size + 1) (by omega) _ _ cy0.2.2.1
  have m3 := cell (W.heap.size + 1) (by omega) _ _ cy0.2.2.2
  simp only [Nat.zero_add] at k1 k2 k3 m1 m2 m3
  have hW2H := hid hW2
  have hwr : IntKind.i64.wrap (numC x - numC y) = numC x - numC y := Go.IntWalk.i64_in _ ⟨by omega, by omega⟩
  clear cell cx0 cy0 hW2
  go_enter Try.func36, Try.ntmps36
  go_wp2_with (fail)
  rw [← hW2H.out]
  go_quiet_grown (first | (go_at_call 58; exact Calls.grown_of (numberX_any _ (by assumption) _)))
  go_wp2_with (fail)
  go_ret
  exact ⟨rfl, nq, #[_] ++ #[_] ++ osq, by rw [hW2H.out, alloc_eq_grow, alloc_eq_grow, grow_grow]; show grow (grow (W.drewN nq) _) osq = _; rw [grow_grow]⟩
end Go.Proofs.Ytjlaoocomkonhaa
namespace Go.Proofs.Ytjlaoocomkonhaa
open Go.RowKit Go.Sort Go.Shelf
/-- Ascending, each once. -/
def Asc (xs : List Card) : Prop := xs.Pairwise fun a b => numC a < numC b
theorem asc_unique : ∀ {xs ys : List Card}, Asc xs → Asc ys → (∀ c, c ∈ xs ↔ c ∈ ys) → xs = ys
  | [], [], _, _, _ => rfl
  | [], y :: ys, _, _, h => by have := (h y).2 (by simp); simp at this
  | x :: xs, [], _, _, h => by have := (h x).1 (by simp); simp at this
  | x :: xs, y :: ys, hx, hy, h => by
    obtain ⟨x1, x2⟩ := List.pairwise_cons.1 hx
    obtain ⟨y1, y2⟩ := List.pairwise_cons.1 hy
    have e : x = y := by
      have a := (h x).1 (by simp)
      have b := (h y).2 (by simp)
      rcases List.mem_cons.1 a with e | a
      · exact e
      · rcases List.mem_cons.1 b with e | b
        · exact e.symm
        · have := y1 x a; have := x1 y b; omega
    subst e
    congr 1
    refine asc_unique x2 y2 fun c => ⟨fun hc => ?_, fun hc => ?_⟩
    · rcases List.mem_cons.1 ((h c).1 (List.mem_cons_of_mem _ hc)) with e | r
      · subst e; have := x1 _ hc; omega
      · exact r
    · rcases List.mem_cons.1 ((h c).2 (List.mem_cons_of_mem _ hc)) with e | r
      · subst e; have := y1 _ hc; omega
      · exact r
/-- All cards with a property, in order. -/
def srtP (p : Card → Bool) : List Card := ((List.range 81).map fun n : Nat => cardN (n : Int)).filter p
theorem srtP_asc (p : Card → Bool) : Asc (srtP p) := by
  refine List.Pairwise.filter _ (List.pairwise_map.2 ?_)
  refine List.Pairwise.imp (fun {a b} (h : a < b) => ?_) List.pairwise_lt_range
  rw [numC_cardN, numC_cardN]; omega
theorem srtP_mem (p : Card → Bool) (c : Card) : c ∈ srtP p ↔ isCard c = true ∧ p c = true := by
  simp only [srtP, List.mem_filter, List.mem_map, List.mem_range]
  constructor
  · rintro ⟨⟨n, hn, rfl⟩, hp⟩
    exact ⟨isCard_cardN (by omega) (by omega), hp⟩
  · rintro ⟨hc, hp⟩
    have hb := numC_bd hc
    exact ⟨⟨(numC c).toNat, by omega, by rw [Int.toNat_of_nonneg hb.1]; exact cardN_numC hc⟩, hp⟩
/-- Cards in order, each once. -/
def srt (xs : List Card) : List Card := srtP fun c => decide (c ∈ xs)
theorem srt_asc (xs : List Card) : Asc (srt xs) := srtP_asc _
theorem srt_mem {xs : List Card} (hc : ∀ c ∈ xs, isCard c = true) (c : Card) : c ∈ srt xs ↔ c ∈ xs := by
  unfold srt
  rw [srtP_mem]
  simp only [decide_eq_true_eq]
  exact ⟨fun h => h.2, fun h => ⟨hc c h, h⟩⟩
theorem srt_self {xs : List Card} (hc : ∀ c ∈ xs, isCard c = true) (ha : Asc xs) : srt xs = xs := asc_unique (srt_asc xs) ha (srt_mem hc)
theorem srt_congr {xs ys : List Card} (h : ∀ c, c ∈ xs ↔ c ∈ ys) : srt xs = srt ys := by unfold srt; simp only [h]
theorem asc_nodup {xs : List Card} (h : Asc xs) : xs.Nodup := List.Pairwise.imp (fun {a b} (h : numC a < numC b) (e : a = b) => by rw [e] at h; omega) h
theorem nodup_dist {xs : List Card} : xs.Nodup ↔ distC xs := by
  constructor
  · intro h i j hi hj he
    rw [cx_get _ _ hi, cx_get _ _ hj] at he
    exact (List.getElem_inj h).1 he
  · intro h
    rw [List.Nodup, List.pairwise_iff_getElem]
    intro i j hi hj hij e
    have := h i j hi hj (by rw [cx_get _ _ hi, cx_get _ _ hj]; exact e)
    omega
def encN (i : Fin 81) : List Value := [.int .i64 (cardN (i.val : Int)).a, .int .i64 (cardN (i.val : Int)).b, .int .i64 (cardN (i.val : Int)).c, .int .i64 (cardN (i.val : Int)).d]
def cfN (i j : Fin 81) : Int := (i.val : Int) - (j.val : Int)
theorem swoN : SWO (ltOf cfN) := by
  constructor <;> (unfold ltOf cfN; simp only [decide_eq_true_eq, decide_eq_false_iff_not]; intros; omega)
theorem holdsN {w : World} {g n : Nat} {d : Array (Fin 81)} (h : RowW w g n (fun t => cardN (d[t]!.val : Int))) (hn : d.size = n) : HoldsK encN 4 w g 0 d := by
  intro j hj
  rw [size_flatK] at hj
  obtain ⟨⟨c1, c2, c3, c4⟩, f⟩ := h.2 (j / 4) (by omega)
  rw [get_flatK _ _ _ _ hj, Nat.zero_add]
  obtain ⟨q, r, rfl, hr⟩ : ∃ q r, j = q * 4 + r ∧ r < 4 := ⟨j / 4, j % 4, by omega, by omega⟩
  have hq : (q * 4 + r) / 4 = q := by omega
  have hm : (q * 4 + r) % 4 = r := by omega
  rw [hq] at c1 c2 c3 c4 f
  rw [hq, hm]
  refine ⟨?_, f r hr⟩
  obtain rfl | rfl | rfl | rfl : r = 0 ∨ r = 1 ∨ r = 2 ∨ r = 3 := by omega
  · exact c1
  · exact c2
  · exact c3
  · exact c4
theorem rowN {w : World} {g n : Nat} {d : Array (Fin 81)} (h : HoldsK encN 4 w g 0 d) (hg : g < w.heap.size) (hn : d.size = n) : RowW w g n (fun t => cardN (d[t]!.val : Int)) := by
  refine ⟨hg, fun t ht => ?_⟩
  have key : ∀ r, r < 4 → w.cell? ⟨g, t * 4 + r, none⟩ = some ((encN d[t]!)[r]!) ∧ w.frozen? ⟨g, t * 4 + r, none⟩ = false := fun r hr => by
    have := h (t * 4 + r) (by rw [size_flatK]; omega)
    rw [get_flatK _ _ _ _ (by omega), Nat.zero_add, show (t * 4 + r) / 4 = t by omega, show (t * 4 + r) % 4 = r by omega] at this
    exact this
  exact ⟨⟨(key 0 (by omega)).1, (key 1 (by omega)).1, (key 2 (by omega)).1, (key 3 (by omega)).1⟩, fun q hq => (key q hq).2⟩
theorem sortK_grown (w : World) (g m : Nat) (dk : Array (Fin 81)) (os : Array Obj) : w.grownBy (sortWorldK encN 4 w g 0 m dk os) (some g) := by
  refine ⟨rfl, rfl, rfl, ?_, fun k hk hne => ?_⟩
  · simp [sortWorldK, grow, putRowK, putRow, mapBlock, ahead]
  · have hne' : ¬ g = k := fun e => hne (by rw [e])
    show ((w.heap.modify g _) ++ os)[k]? = _
    rw [Array.getElem?_append_left (by simpa using hk), Array.getElem?_modify, if_neg hne']
/-- Places in the deck. -/
def plN (c : Card) : Fin 81 := Fin.ofNat 81 (numC c).toNat
theorem plN_card {c : Card} (h : isCard c = true) : cardN ((plN c).val : Int) = c := by
  have hb := numC_bd h
  have e : ((plN c).val : Int) = numC c := by simp [plN, Fin.ofNat]; omega
  rw [e, cardN_numC h]
theorem numC_plN (i : Fin 81) : numC (cardN (i.val : Int)) = (i.val : Int) := numC_cardN
set_option maxRecDepth 20000 in
theorem sortCards_any (g cap n : Nat) (cs : List Card) (w : World) (hc : ∀ c ∈ cs, isCard c = true) (hn : cs.length = n) (hrow : RowW w g n (cx cs)) (hl : n ≤ 1048576) :
    Calls Try.prog 57 #[.slice (some ⟨g, 0, none⟩) n cap, .func (.func 36) #[] #[]] w fun e w' => e = .returned (.tuple #[]) ∧ ∃ zs : List Card, zs.length = n ∧ zs.Perm cs ∧ zs.Pairwise (fun a b => numC a ≤ numC b) ∧ RowW w' g n (cx zs) ∧ w.grownBy w' (some g) := by
  obtain ⟨d, hd⟩ : ∃ d : Array (Fin 81), d = (cs.map plN).toArray := ⟨_, rfl⟩
  have hds : d.size = n := by rw [hd]; simp [hn]
  have hcx : ∀ t, t < n → cx cs t = cardN (d[t]!.val : Int) := fun t ht => by
    have e : d[t]! = plN (cs[t]'(by omega)) := by subst hd; rw [getElem!_pos _ t (by simp; omega)]; simp
    rw [cx_get _ _ (by omega), e]
    exact (plN_card (hc _ (List.getElem_mem _))).symm
  have hH : HoldsK encN 4 w g 0 d := holdsN (hrow.congr hcx) hds
  have hcmp : CmpLays Try.prog 36 #[] encN 4 cfN g 0 d.size w := fun m os dk _ x y => by
    refine Calls.mono (compareX_any (cardN (x.val : Int)) (cardN (y.val : Int)) (isCard_cardN (by omega) (by omega)) (isCard_cardN (by omega) (by omega)) _) ?_
    rintro e w' ⟨rfl, h⟩
    exact ⟨by rw [numC_plN, numC_plN]; rfl, h⟩
  have eg : ∀ args w, (callFunc 36 args).run Try.prog w = .ok (.enter 36 args) w := enters_of Try.func36 (by kernel_rfl) rfl
  have h := AnyQ.slices_SortFunc sortC 4 Try.isAgg29 Try.sizeOf29 encN (fun _ => rfl) (fun x v hv => by simp [encN] at hv; rcases hv with rfl | rfl | rfl | rfl <;> rfl) cfN swoN 36 #[] g 0 cap d w eg hcmp hH hrow.1 (by omega)
  rw [hds] at h
  refine Calls.mono h ?_
  rintro e w' ⟨rfl, d', m, os, hp, hs, rfl⟩
  have hs' : d'.size = n := hp.1.trans hds
  refine ⟨rfl, d'.toList.map (fun i => cardN (i.val : Int)), by simp [hs'], ?_, ?_, ?_, sortK_grown w g m d' os⟩
  · have h3 := hp.2.2
    have e1 : d'.extract 0 n = d' := by rw [← hs']; simp
    have e2 : d.extract 0 n = d := by rw [← hds]; simp
    rw [e1, e2] at h3
    have h4 := h3.map (fun i : Fin 81 => cardN (i.val : Int))
    refine h4.trans ?_
    rw [hd]
    have : ((cs.map plN).map fun i : Fin 81 => cardN (i.val : Int)) = cs := by
      rw [List.map_map]
      conv => rhs; rw [← List.map_id cs]
      exact List.map_congr_left fun c h => plN_card (hc c h)
    simp only [this]; exact List.Perm.refl _
  · rw [List.pairwise_map, List.pairwise_iff_getElem]
    intro i j hi hj hij
    rw [numC_plN, numC_plN]
    have := hs i j (Nat.zero_le _) hij (by simpa [hs'] using hj)
    rw [getElem!_pos d' j (by simpa using hj), getElem!_pos d' i (by simpa using hi)] at this
    have this := of_decide_eq_false (show decide (cfN _ _ < 0) = false from this)
    unfold cfN at this
    have ei : d'.toList[i] = d'[i]'(by simpa using hi) := by simp
    have ej : d'.toList[j] = d'[j]'(by simpa using hj) := by simp
    rw [ei, ej]
    exact Int.not_lt.1 (fun h => this (by omega))
  · refine (rowN (holdsK_sortWorldK encN 4 w g 0 m d d' os hrow.1 hH (hs'.trans hds.symm)) (lt_sortWorldK encN 4 w g 0 m d' os hrow.1) hs').congr fun t ht => ?_
    rw [cx_get _ _ (by simp; omega), getElem!_pos d' t (by omega)]
    simp
end Go.Proofs.Ytjlaoocomkonhaa
