/- Rows of three numbers: slices of them in memory, append, comparison. Contracts: the marks that a law writes into rows, and reads again. Rows that stand aside while another row grows; a filtered list of rows. -/
import Derived.Test.YtjlaoocomkonhaaQ03
import Derived.Maps.AppendAt
namespace Go.Proofs.Ytjlaoocomkonhaa
open Go.RowKit
/-- A line's three places, or any three numbers. -/
structure Ln where
  a : Int
  b : Int
  c : Int
  deriving DecidableEq
abbrev Ln.v (x : Ln) : Value := .agg #[.int .i64 x.a, .int .i64 x.b, .int .i64 x.c]
/-- The row at a place of a list; zeros behind its end. -/
def lx (ls : List Ln) (i : Nat) : Ln := ls.getD i ⟨0, 0, 0⟩
theorem lx_get (ls : List Ln) (i : Nat) (h : i < ls.length) : lx ls i = ls[i] := by simp [lx, h]
theorem lx_mem {ls : List Ln} {i : Nat} (h : i < ls.length) : lx ls i ∈ ls := by rw [lx_get ls i h]; exact List.getElem_mem h
theorem take_lx (ls : List Ln) (k : Nat) (h : k < ls.length) : ls.take (k + 1) = ls.take k ++ [lx ls k] := by
  rw [List.take_succ_eq_append_getElem h, lx_get ls k h]
theorem eq_of_lx {xs ys : List Ln} (h : xs.length = ys.length) (he : ∀ j, j < xs.length → lx xs j = lx ys j) : xs = ys := by
  apply List.ext_getElem h
  intro i h1 h2
  rw [← lx_get xs i h1, ← lx_get ys i h2]
  exact he i h1
def LnCells (w : World) (g off : Nat) (x : Ln) : Prop :=
  w.cell? ⟨g, off, none⟩ = some (.int .i64 x.a) ∧ w.cell? ⟨g, off + 1, none⟩ = some (.int .i64 x.b) ∧ w.cell? ⟨g, off + 2, none⟩ = some (.int .i64 x.c)
/-- A slice's address reads as these rows. -/
def LinesAt (w : World) (ao : Option Addr) (ls : List Ln) : Prop :=
  ∀ i, i < ls.length → ∃ g off, ao = some ⟨g, off, none⟩ ∧ g < w.heap.size ∧ LnCells w g (off + i * 3) (lx ls i)
theorem LinesAt.kept {w w' : World} {ao : Option Addr} {ls : List Ln} (h : LinesAt w ao ls) (hk : Kept w w') : LinesAt w' ao ls := by
  have hb := hk.below
  intro i hi
  obtain ⟨g, off, ha, hg, h1, h2, h3⟩ := h i hi
  exact ⟨g, off, ha, Nat.lt_of_lt_of_le hg hb.size, (hb.cell (p := ⟨_, _, none⟩) hg).trans h1, (hb.cell (p := ⟨_, _, none⟩) hg).trans h2, (hb.cell (p := ⟨_, _, none⟩) hg).trans h3⟩
def cells3 (ls : List Ln) : List Value := ls.flatMap fun x => [.int .i64 x.a, .int .i64 x.b, .int .i64 x.c]
theorem cells3_length (ls : List Ln) : (cells3 ls).length = ls.length * 3 := by
  induction ls with
  | nil => rfl
  | cons x ls ih => simp only [cells3, List.flatMap_cons, List.length_append, List.length_cons] at ih ⊢; simp only [ih]; simp; omega
theorem cells3_get (ls : List Ln) (i : Nat) (h : i < ls.length) :
    (cells3 ls)[i * 3]? = some (.int .i64 (lx ls i).a) ∧ (cells3 ls)[i * 3 + 1]? = some (.int .i64 (lx ls i).b) ∧ (cells3 ls)[i * 3 + 2]? = some (.int .i64 (lx ls i).c) := by
  induction ls generalizing i with
  | nil => simp at h
  | cons x ls ih =>
    have e : cells3 (x :: ls) = [.int .i64 x.a, .int .i64 x.b, .int .i64 x.c] ++ cells3 ls := rfl
    cases i with
    | zero => rw [e]; simp [lx]
    | succ i =>
      have h' := ih i (by simpa using h)
      have ec : lx (x :: ls) (i + 1) = lx ls i := by simp [lx]
      rw [e, ec]
      have l : ∀ j, ([Value.int .i64 x.a, .int .i64 x.b, .int .i64 x.c] ++ cells3 ls)[(i + 1) * 3 + j]? = (cells3 ls)[i * 3 + j]? := fun j => by
        rw [List.getElem?_append_right (by simp; omega)]
        congr 1
        simp; omega
      exact ⟨(l 0).trans h'.1, (l 1).trans h'.2.1, (l 2).trans h'.2.2⟩
theorem linesAt_of_cells {w : World} {g off : Nat} {ls : List Ln} (hg : g < w.heap.size) (h : ∀ j u, (cells3 ls)[j]? = some u → w.cell? ⟨g, off + j, none⟩ = some u) : LinesAt w (some ⟨g, off, none⟩) ls := by
  intro i hi
  obtain ⟨h1, h2, h3⟩ := cells3_get ls i hi
  exact ⟨g, off, rfl, hg, by simpa using h _ _ h1, by simpa [Nat.add_assoc] using h _ _ h2, by simpa [Nat.add_assoc] using h _ _ h3⟩
theorem lnCells_new {w : World} {g : Nat} {t : TypeId} (c : Ln) (h : g = w.heap.size) : LnCells (w.alloc (.cells #[.int .i64 c.a, .int .i64 c.b, .int .i64 c.c] t)) g 0 c := by
  have hh := heap_at (o := .cells #[.int .i64 c.a, .int .i64 c.b, .int .i64 c.c] t) h
  exact ⟨cell_of_row _ g 0 _ t (0, 0) hh, cell_of_row _ g 1 _ t (0, 0) hh, cell_of_row _ g 2 _ t (0, 0) hh⟩
abbrev T3 : TypeId := 30
theorem info_ln : (Try.prog.info? 30).map (fun i => (i.zero, i.size, i.bytes)) = some (some (.agg #[.int .i64 0, .int .i64 0, .int .i64 0]), 3, 24) := by kernel_rfl
/-- A slice of the call's own that holds rows. -/
def OwnL (B : Nat) (w : World) (v : Value) (ls : List Ln) : Prop := w.ownsRow B T3 3 v ls.length (cells3 ls)
theorem OwnL.kept {B : Nat} {w w' : World} {v : Value} {ls : List Ln} (h : OwnL B w v ls) (hk : Kept w w') : OwnL B w' v ls :=
  World.ownsRow.kept h ⟨hk.below.os, hk.below.tape, hk.below.output, hk.below.size, fun k hk' _ => hk.below.block k hk'⟩ (by cases v.ownBlock <;> simp) (row := none)
theorem OwnL.reads {B : Nat} {w : World} {v : Value} {ls : List Ln} (h : OwnL B w v ls) : ∃ ao cap, v = .slice ao ls.length cap ∧ LinesAt w ao ls ∧ ls.length ≤ cap := by
  rcases h.2 with ⟨rfl, h0⟩ | ⟨g, cap, cur, rfl, hb, hg, hn, hm, hs, ht⟩
  · have : ls = [] := List.eq_nil_of_length_eq_zero h0
    subst this
    exact ⟨none, 0, rfl, fun i hi => by simp at hi, Nat.le_refl _⟩
  · refine ⟨_, cap, rfl, linesAt_of_cells (Array.getElem?_eq_some_iff.1 hg).1 fun j u hu => ?_, hn⟩
    have := World.ownsRow.cells h (g := g) rfl j u hu
    rw [Addr.add_lit] at this
    exact this
/-- A call hands back rows in memory of its own. -/
def RetL (W : World) (ls : List Ln) (e : Ending) (w' : World) : Prop := ∃ v, e = .returned v ∧ OwnL W.heap.size w' v ls ∧ Kept W w'
theorem ownL_nil {B g : Nat} {w : World} (hB : B ≤ g) (h : w.heap[g]? = some (.cells #[] T3 (0, 0))) : OwnL B w (.slice (some ⟨g, 0, none⟩) 0 0) [] :=
  ⟨rfl, .inr ⟨g, 0, #[], rfl, hB, h, Nat.le_refl _, by unfold maxLen; omega, rfl, by simp [cells3]⟩⟩
theorem wpList_append_ln {ops : Array Oper} {rest : List Oper} {o : Oper} {a : Act} {Q : Exit → Act → World → Prop} {w : World} (hgd : o.guard = none) (s x : Operand)
    (ho : o.op = .call { callee := .builtin .append, args := #[s, x], argTypes := #[64, 64] }) (W : World) (v : Value) (ls : List Ln) (hs : a.eval s = v) (hown : OwnL W.heap.size w v ls) (hk : Kept W w)
    (g cap : Nat) (c : Ln) (hx : a.eval x = .slice (some ⟨g, 0, none⟩) 1 cap) (hc : LnCells w g 0 c) (hl : ls.length ≤ 1048576)
    (h : ∀ v' z, OwnL W.heap.size (ext W z) v' (ls ++ [c]) → wpList Try.prog ops Q rest (a.put o.dst v') (ext W z)) : wpList Try.prog ops Q (o :: rest) a w := by
  obtain ⟨i, hi, hz, hsz, hb⟩ := info_parts info_ln
  obtain ⟨h0, h1, h2⟩ := hc
  refine wpList_append_own w hgd s x 64 ho W.heap.size T3 i _ 3 24 Try.underlying64 hi hz hsz hb rfl (by decide) v ls.length (cells3 ls) hs hown ⟨g, 0, none⟩ 1 cap
    [.int .i64 c.a, .int .i64 c.b, .int .i64 c.c] hx rfl ?_ ?_ (by unfold maxLen; omega) (by omega) hk.below.size ?_
  · intro j u hj
    match j, hj with
    | 0, hj => simp at hj; subst hj; exact h0
    | 1, hj => simp at hj; subst hj; exact h1
    | 2, hj => simp at hj; subst hj; exact h2
    | j + 3, hj => simp at hj
  · intro u hu
    simp at hu
    rcases hu with rfl | rfl | rfl <;> rfl
  · intro v' w' hown' hg _
    have hk' : Kept W w' := hk.grown hg fun k hk => (hown.lt k hk).1
    obtain ⟨z, rfl⟩ := hk'
    refine h v' z ?_
    have e : cells3 (ls ++ [c]) = cells3 ls ++ [.int .i64 c.a, .int .i64 c.b, .int .i64 c.c] := by simp [cells3]
    unfold OwnL
    rw [e, List.length_append]
    exact hown'
/-- A block aside: a card's cells, not the block of a growing row. -/
def SideC (w : World) (v : Value) (g : Nat) (x : Card) : Prop := g < w.heap.size ∧ CardCells w g 0 x ∧ v.ownBlock ≠ some g
theorem SideC.kept {w w' : World} {v : Value} {g : Nat} {x : Card} (h : SideC w v g x) (hk : Kept w w') : SideC w' v g x := by
  have hb := hk.below
  obtain ⟨hg, ⟨h1, h2, h3, h4⟩, hn⟩ := h
  exact ⟨Nat.lt_of_lt_of_le hg hb.size, ⟨(hb.cell (p := ⟨_, _, none⟩) hg).trans h1, (hb.cell (p := ⟨_, _, none⟩) hg).trans h2, (hb.cell (p := ⟨_, _, none⟩) hg).trans h3, (hb.cell (p := ⟨_, _, none⟩) hg).trans h4⟩, hn⟩
theorem cell_block {w w' : World} {g : Nat} (h : w'.heap[g]? = w.heap[g]?) (o : Nat) : w'.cell? ⟨g, o, none⟩ = w.cell? ⟨g, o, none⟩ := by
  simp only [World.cell?, h]
theorem SideC.grown {w w' : World} {v v' : Value} {g : Nat} {x : Card} (h : SideC w v g x) (hg : w.grownBy w' v.ownBlock) (hv : v'.ownBlock = v.ownBlock ∨ v'.ownBlock = some w.heap.size) : SideC w' v' g x := by
  obtain ⟨hlt, ⟨h1, h2, h3, h4⟩, hn⟩ := h
  have hb : w'.heap[g]? = w.heap[g]? := hg.block g hlt (fun e => hn e.symm)
  refine ⟨Nat.lt_of_lt_of_le hlt hg.size, ⟨(cell_block hb _).trans h1, (cell_block hb _).trans h2, (cell_block hb _).trans h3, (cell_block hb _).trans h4⟩, ?_⟩
  rcases hv with e | e
  · rw [e]; exact hn
  · rw [e]; intro e'; cases e'; omega
/- The rows' type is 30 here. -/
theorem SideC.new {w : World} {v : Value} {B : Nat} {ls : List Ln} {t : TypeId} (c : Card) {g : Nat} (h : OwnL B w v ls) (hg : g = w.heap.size) : SideC (w.alloc (.cells #[.int .i64 c.a, .int .i64 c.b, .int .i64 c.c, .int .i64 c.d] t)) v g c := by
  have hh := heap_at (o := .cells #[.int .i64 c.a, .int .i64 c.b, .int .i64 c.c, .int .i64 c.d] t) hg
  exact ⟨by simp; omega, ⟨cell_of_row _ g 0 _ t (0, 0) hh, cell_of_row _ g 1 _ t (0, 0) hh, cell_of_row _ g 2 _ t (0, 0) hh, cell_of_row _ g 3 _ t (0, 0) hh⟩, fun e => by have := (h.lt _ e).2; omega⟩
theorem OwnL.mono {B B' : Nat} {w : World} {v : Value} {ls : List Ln} (h : OwnL B w v ls) (hB : B' ≤ B) : OwnL B' w v ls := by
  rcases h.2 with h0 | ⟨g, cap, cur, h1, hb, h2⟩
  · exact ⟨h.1, .inl h0⟩
  · exact ⟨h.1, .inr ⟨g, cap, cur, h1, by omega, h2⟩⟩
/-- append of one row; a block aside stands. -/
theorem wpList_append_ln_side {ops : Array Oper} {rest : List Oper} {o : Oper} {a : Act} {Q : Exit → Act → World → Prop} {w : World} (hgd : o.guard = none) (s x : Operand)
    (ho : o.op = .call { callee := .builtin .append, args := #[s, x], argTypes := #[64, 64] }) (W : World) (B : Nat) (v : Value) (ls : List Ln) (hs : a.eval s = v) (hown : OwnL B w v ls) (hk : Kept W w) (hWB : W.heap.size ≤ B) (hBw : B ≤ w.heap.size)
    (g cap : Nat) (c : Ln) (hx : a.eval x = .slice (some ⟨g, 0, none⟩) 1 cap) (hc : LnCells w g 0 c) (hl : ls.length ≤ 1048576)
    (h : ∀ v' w', OwnL B w' v' (ls ++ [c]) → Kept W w' → (∀ g y, SideC w v g y → SideC w' v' g y) → wpList Try.prog ops Q rest (a.put o.dst v') w') : wpList Try.prog ops Q (o :: rest) a w := by
  obtain ⟨i, hi, hz, hsz, hb⟩ := info_parts info_ln
  obtain ⟨h0, h1, h2⟩ := hc
  refine wpList_append_own_at w hgd s x 64 ho B T3 i _ 3 24 Try.underlying64 hi hz hsz hb rfl (by decide) v ls.length (cells3 ls) hs hown ⟨g, 0, none⟩ 1 cap
    [.int .i64 c.a, .int .i64 c.b, .int .i64 c.c] hx rfl ?_ ?_ (by unfold maxLen; omega) (by omega) hBw ?_
  · intro j u hj
    match j, hj with
    | 0, hj => simp at hj; subst hj; exact h0
    | 1, hj => simp at hj; subst hj; exact h1
    | 2, hj => simp at hj; subst hj; exact h2
    | j + 3, hj => simp at hj
  · intro u hu
    simp at hu
    rcases hu with rfl | rfl | rfl <;> rfl
  · intro v' w' hown' hg _ hat
    have hk' : Kept W w' := hk.grown hg fun k hk => Nat.le_trans hWB (hown.lt k hk).1
    refine h v' w' ?_ hk' fun g y hs => hs.grown hg hat
    have e : cells3 (ls ++ [c]) = cells3 ls ++ [.int .i64 c.a, .int .i64 c.b, .int .i64 c.c] := by simp [cells3]
    unfold OwnL
    rw [e, List.length_append]
    exact hown'
end Go.Proofs.Ytjlaoocomkonhaa
namespace Go.Proofs.Ytjlaoocomkonhaa
open Go.RowKit
/-- Numbers that count on. -/
def marks (k : Int) (n : Nat) : List Value := (List.range n).map fun i => Value.int .i64 (k + (i : Nat))
theorem marks_len (k : Int) (n : Nat) : (marks k n).length = n := by simp [marks]
theorem marks_get (k : Int) {n i : Nat} (h : i < n) : (marks k n)[i]? = some (.int .i64 (k + (i : Nat))) := by simp [marks, h]
/-- A row whose first cells are marked. -/
def mkd (k : Int) (cur : Array Value) (t : Nat) : Array Value := (marks k t ++ cur.toList.drop t).toArray
theorem mkd_zero (k : Int) (cur : Array Value) : mkd k cur 0 = cur := by simp [mkd, marks]
theorem mkd_size (k : Int) (cur : Array Value) {t : Nat} (h : t ≤ cur.size) : (mkd k cur t).size = cur.size := by
  simp [mkd, marks_len]; omega
theorem mkd_low (k : Int) (cur : Array Value) {t i : Nat} (h : i < t) : (mkd k cur t)[i]? = some (.int .i64 (k + (i : Nat))) := by
  simp only [mkd, List.getElem?_toArray]
  rw [List.getElem?_append_left (by rw [marks_len]; exact h), marks_get k h]
theorem mkd_high (k : Int) (cur : Array Value) {t i : Nat} (h : t ≤ i) : (mkd k cur t)[i]? = cur[i]? := by
  simp only [mkd, List.getElem?_toArray]
  rw [List.getElem?_append_right (by rw [marks_len]; exact h), marks_len, List.getElem?_drop, show t + (i - t) = i by omega]
  simp
theorem mkd_some (k : Int) {cur : Array Value} {t : Nat} (h : t < cur.size) : ∃ v, (mkd k cur t)[t]? = some v :=
  ⟨_, Array.getElem?_eq_getElem (by rw [mkd_size k cur (by omega)]; exact h)⟩
theorem mkd_set (k : Int) {cur : Array Value} {t : Nat} (h : t < cur.size) : (mkd k cur t).setIfInBounds t (.int .i64 (k + (t : Nat))) = mkd k cur (t + 1) := by
  apply Array.ext_getElem?
  intro i
  rw [Array.getElem?_setIfInBounds, mkd_size k cur (by omega)]
  by_cases hi : t = i
  · subst hi
    rw [if_pos rfl, if_pos h, mkd_low k cur (by omega)]
  · rw [if_neg hi]
    by_cases hl : i < t
    · rw [mkd_low k cur hl, mkd_low k cur (by omega)]
    · rw [mkd_high k cur (by omega), mkd_high k cur (by omega)]
theorem mkd_take (k : Int) (cur : Array Value) (t : Nat) : (mkd k cur t).toList.take t = marks k t := by
  simp only [mkd]
  rw [List.take_append_of_le_length (by rw [marks_len]; exact Nat.le_refl _), List.take_of_length_le (by rw [marks_len]; exact Nat.le_refl _)]
theorem row_kept {w w' : World} {B n len : Nat} {t : TypeId} {v : Value} {cells : List Value} (h : w.ownsRow B t n v len cells) (hk : Kept w w') : w'.ownsRow B t n v len cells :=
  World.ownsRow.kept h ⟨hk.below.os, hk.below.tape, hk.below.output, hk.below.size, fun k hk' _ => hk.below.block k hk'⟩ (by cases v.ownBlock <;> simp) (row := none)
theorem grown_refl (w : World) (row : Option Nat) : w.grownBy w row := ⟨rfl, rfl, rfl, Nat.le_refl _, fun _ _ _ => rfl⟩
theorem grown_setCell {w w' : World} {row : Option Nat} (h : w.grownBy w' row) {p : Addr} (hp : row = some p.block) (u : Value) : w.grownBy (w'.setCell p u) row := by
  subst hp
  refine h.trans ⟨rfl, rfl, rfl, by simp, fun k _ hk => heap_setCell_other _ _ _ _ (fun e => hk (by rw [e]))⟩
theorem markIntA4S_any (v : Value) (n : Nat) (cells : List Value) (B : Nat) (k : Int) (w : World) (h : w.ownsRow B 29 4 v n cells) (hn : n ≤ 1048576) (hk : 0 ≤ k) (hk' : k ≤ 10) :
    Calls Try.prog 12 #[v, .int .i64 k] w fun e w' => e = .returned (.int .i64 (k + n * 4)) ∧ w'.ownsRow B 29 4 v n (marks k (n * 4)) ∧ w.grownBy w' v.ownBlock := by
  rcases h.2 with ⟨rfl, h0⟩ | ⟨g, cap, cur, rfl, hb, hg, hcap, hmax, hs, ht⟩
  · subst h0
    go_enter Try.func12, Try.ntmps12
    go_wp2
    refine wp_loop_rounds 1 ?_
    rw [rounds_succ]
    go_wp2
    go_ret
    exact ⟨ret_of (by simp), ⟨by simp [marks], .inl ⟨rfl, rfl⟩⟩, grown_refl _ _⟩
  · have hgs := (Array.getElem?_eq_some_iff.1 hg).1
    have hown := hid (show ∀ wr : World, wr.heap[g]? = some (.cells (mkd k cur (n * 4)) 29) → wr.ownsRow B 29 4 (.slice (some ⟨g, 0, none⟩) n cap) n (marks k (n * 4)) from fun wr hw => ⟨by simp [marks], .inr ⟨g, cap, _, rfl, hb, hw, hcap, hmax, by rw [mkd_size _ _ (by rw [hs]; exact Nat.mul_le_mul_right _ hcap), hs], mkd_take _ _ _⟩⟩)
    have hsH := hid (show n * 4 ≤ cur.size by rw [hs]; exact Nat.mul_le_mul_right _ hcap)
    clear hs ht hmax hcap
    go_enter Try.func12, Try.ntmps12
    go_wp2
    go_loopw [5, 1] (fun i s wr => ∃ m : Nat, m ≤ n ∧ i = .int .i64 m ∧ s = .int .i64 (k + (m * 4 : Nat)) ∧ wr.heap[g]? = some (.cells (mkd k cur (m * 4)) 29) ∧ w.grownBy wr (some g)) (fun i _ _ => n - (intOf i).toNat)
    case atStart => exact ⟨0, Nat.zero_le _, rfl, by simp, by rw [Nat.zero_mul, mkd_zero]; exact hg, grown_refl _ _⟩
    case round wr =>
      obtain ⟨m, hm, rfl, rfl, hw, hgr⟩ := hrel
      by_cases hlt : m < n
      · have hwH := hid hw
        have hgrH := hid hgr
        clear hw hgr
        go_wp2
        go_loopw [6, 1] (fun j s wr => ∃ q : Nat, q ≤ 4 ∧ j = .int .i64 q ∧ s = .int .i64 (k + (m * 4 + q : Nat)) ∧ wr.heap[g]? = some (.cells (mkd k cur (m * 4 + q)) 29) ∧ w.grownBy wr (some g)) (fun j _ _ => 4 - (intOf j).toNat)
        case atStart => exact ⟨0, Nat.zero_le _, rfl, by simp, hwH.out, hgrH.out⟩
        case round wr =>
          obtain ⟨q, hq, rfl, rfl, hw, hgr⟩ := hrel
          have hwH := hid hw
          have hgrH := hid hgr
          by_cases hlt2 : q < 4
          · have hlen := hid (show m * 4 + q < cur.size by have := hsH.out; omega)
            obtain ⟨v0, hv0⟩ := mkd_some k (cur := cur) (t := m * 4 + q) hlen.out
            have hc := (cell_of_row _ g (m * 4 + q) _ _ (0, 0) hw).trans hv0
            have hf := frozen_of_row _ g (m * 4 + q) _ _ hw
            have hset := hid (mkd_set k (cur := cur) (t := m * 4 + q) hlen.out)
            clear hw hgr hv0
            go_wp2
            go_roundw
            case rel =>
              refine ⟨q + 1, by omega, by go_num, by go_num, ?_, ?_⟩
              · rw [heap_setCell_same _ _ _ _ _ _ hwH.out]
                first | exact congrArg (fun c => some (Obj.cells c 29 (0, 0))) hset.out
              · exact grown_setCell hgrH.out (p := ⟨g, _, none⟩) rfl _
            case measure => simp [intOf]; omega
          · obtain rfl : q = 4 := by omega
            clear hw hgr
            go_wp2
            go_roundw
            case rel => exact ⟨m + 1, hlt, by go_num, by go_num, by rw [Nat.add_mul, Nat.one_mul]; exact hwH.out, hgrH.out⟩
            case measure => simp [intOf]; omega
      · obtain rfl : m = n := by omega
        go_wp2
        go_ret
        exact ⟨ret_of (by simp), hown.out _ hw, hgr⟩
theorem heldIntA4S_any (v : Value) (n : Nat) (B : Nat) (k : Int) (w : World) (h : w.ownsRow B 29 4 v n (marks k (n * 4))) (hn : n ≤ 1048576) (hk : 0 ≤ k) (hk' : k ≤ 10) :
    Calls Try.prog 13 #[v, .int .i64 k] w fun e w' => e = .returned (.int .i64 (k + n * 4)) ∧ Kept w w' := by
  have hcell := fun g (hg : v.ownBlock = some g) => World.ownsRow.cells h (g := g) hg
  rcases h.2 with ⟨rfl, h0⟩ | ⟨g, cap, cur, rfl, hb, hg, hcap, hmax, hs, ht⟩
  · subst h0
    go_enter Try.func13, Try.ntmps13
    go_wp2
    refine wp_loop_rounds 1 ?_
    rw [rounds_succ]
    go_wp2
    go_ret
    exact ⟨ret_of (by simp), (by (try simp only [ext_ext]); repeat (first | exact Kept.refl _ | apply Kept.alloc | apply Kept.drew | apply kept_add | apply Kept.ext))⟩
  · have hgs := (Array.getElem?_eq_some_iff.1 hg).1
    have hcH := hid (hcell g rfl)
    clear hcell hs ht hmax hcap h hg
    go_enter Try.func13, Try.ntmps13
    go_wp2
    go_loopw [5, 1] (fun i s wr => ∃ m : Nat, m ≤ n ∧ i = .int .i64 m ∧ s = .int .i64 (k + (m * 4 : Nat)) ∧ Kept w wr) (fun i _ _ => n - (intOf i).toNat)
    case atStart => exact ⟨0, Nat.zero_le _, rfl, by simp, (by (try simp only [ext_ext]); repeat (first | exact Kept.refl _ | apply Kept.alloc | apply Kept.drew | apply kept_add | apply Kept.ext))⟩
    case round =>
      obtain ⟨m, hm, rfl, rfl, z, rfl⟩ := hrel
      by_cases hlt : m < n
      · go_wp2
        go_loopw [6, 1] (fun j s wr => ∃ q : Nat, q ≤ 4 ∧ j = .int .i64 q ∧ s = .int .i64 (k + (m * 4 + q : Nat)) ∧ Kept w wr) (fun j _ _ => 4 - (intOf j).toNat)
        case atStart => exact ⟨0, Nat.zero_le _, rfl, by simp, (by (try simp only [ext_ext]); repeat (first | exact Kept.refl _ | apply Kept.alloc | apply Kept.drew | apply kept_add | apply Kept.ext))⟩
        case round =>
          obtain ⟨q, hq, rfl, rfl, z, rfl⟩ := hrel
          by_cases hlt2 : q < 4
          · have hc := hcH.out (m * 4 + q) (.int .i64 (k + (m * 4 + q : Nat))) (marks_get k (by omega))
            rw [Addr.add_lit, Nat.zero_add] at hc
            go_wp2
            go_roundw
            case rel => exact ⟨q + 1, by omega, by go_num, by go_num, (by (try simp only [ext_ext]); repeat (first | exact Kept.refl _ | apply Kept.alloc | apply Kept.drew | apply kept_add | apply Kept.ext))⟩
            case measure => simp [intOf]; omega
          · obtain rfl : q = 4 := by omega
            go_wp2
            go_roundw
            case rel => exact ⟨m + 1, hlt, by go_num, by go_num, (by (try simp only [ext_ext]); repeat (first | exact Kept.refl _ | apply Kept.alloc | apply Kept.drew | apply kept_add | apply Kept.ext))⟩
            case measure => simp [intOf]; omega
      · obtain rfl : m = n := by omega
        go_wp2
        go_ret
        exact ⟨ret_of (by simp), (by (try simp only [ext_ext]); repeat (first | exact Kept.refl _ | apply Kept.alloc | apply Kept.drew | apply kept_add | apply Kept.ext))⟩
end Go.Proofs.Ytjlaoocomkonhaa
namespace Go.Proofs.Ytjlaoocomkonhaa
open Go.RowKit
/- The rows' type is 30 here. -/
/-- A row of the call's own that is not the one that grows. -/
def SideL (w : World) (v u : Value) (ls : List Ln) : Prop := (∃ B, OwnL B w u ls) ∧ ∀ g, u.ownBlock = some g → v.ownBlock ≠ some g
theorem SideL.kept {w w' : World} {v u : Value} {ls : List Ln} (h : SideL w v u ls) (hk : Kept w w') : SideL w' v u ls := by
  obtain ⟨⟨B, h⟩, hn⟩ := h
  exact ⟨⟨B, h.kept hk⟩, hn⟩
theorem OwnL.grown {B : Nat} {w w' : World} {u : Value} {row : Option Nat} {ls : List Ln} (h : OwnL B w u ls) (hg : w.grownBy w' row) (hn : ∀ g, u.ownBlock = some g → row ≠ some g) : OwnL B w' u ls := by
  refine World.ownsRow.kept h hg ?_
  cases hu : u.ownBlock with
  | none => exact .inl rfl
  | some g => exact .inr fun e => hn g hu e.symm
theorem SideL.grown {w w' : World} {v v' u : Value} {ls : List Ln} (h : SideL w v u ls) (hg : w.grownBy w' v.ownBlock) (hv : v'.ownBlock = v.ownBlock ∨ v'.ownBlock = some w.heap.size) : SideL w' v' u ls := by
  obtain ⟨⟨B, h⟩, hn⟩ := h
  refine ⟨⟨B, h.grown hg hn⟩, fun g hu => ?_⟩
  rcases hv with e | e
  · rw [e]; exact hn g hu
  · rw [e]; intro e'; cases e'; have := (h.lt _ hu).2; omega
/-- The rows among the first k of which a test says yes. -/
def fil {α : Type} (p : α → Bool) (ls : List α) (k : Nat) : List α := (ls.take k).filter p
theorem fil_zero {α : Type} (p : α → Bool) (ls : List α) : fil p ls 0 = [] := by simp [fil]
theorem fil_all {α : Type} (p : α → Bool) (ls : List α) : fil p ls ls.length = ls.filter p := by simp [fil]
theorem fil_next (p : Ln → Bool) (ls : List Ln) (k : Nat) (h : k < ls.length) : fil p ls (k + 1) = fil p ls k ++ if p (lx ls k) then [lx ls k] else [] := by
  simp only [fil, take_lx ls k h, List.filter_append]
  cases hp : p (lx ls k) <;> simp [hp]
theorem fil_len {α : Type} (p : α → Bool) (ls : List α) (k : Nat) : (fil p ls k).length ≤ ls.length := by
  have h1 := List.length_filter_le p (ls.take k)
  have h2 := List.length_take_le k ls
  have h3 := List.length_take_le' k ls
  unfold fil; omega
/-- append of one row; where the new row lies. -/
theorem wpList_append_ln_at {ops : Array Oper} {rest : List Oper} {o : Oper} {a : Act} {Q : Exit → Act → World → Prop} {w : World} (hgd : o.guard = none) (s x : Operand)
    (ho : o.op = .call { callee := .builtin .append, args := #[s, x], argTypes := #[64, 64] }) (W : World) (B : Nat) (v : Value) (ls : List Ln) (hs : a.eval s = v) (hown : OwnL B w v ls) (hk : Kept W w) (hWB : W.heap.size ≤ B) (hBw : B ≤ w.heap.size)
    (g cap : Nat) (c : Ln) (hx : a.eval x = .slice (some ⟨g, 0, none⟩) 1 cap) (hc : LnCells w g 0 c) (hl : ls.length ≤ 1048576)
    (h : ∀ v' w', OwnL B w' v' (ls ++ [c]) → Kept W w' → w.grownBy w' v.ownBlock → (v'.ownBlock = v.ownBlock ∨ v'.ownBlock = some w.heap.size) → wpList Try.prog ops Q rest (a.put o.dst v') w') : wpList Try.prog ops Q (o :: rest) a w := by
  obtain ⟨i, hi, hz, hsz, hb⟩ := info_parts info_ln
  obtain ⟨h0, h1, h2⟩ := hc
  refine wpList_append_own_at w hgd s x 64 ho B T3 i _ 3 24 Try.underlying64 hi hz hsz hb rfl (by decide) v ls.length (cells3 ls) hs hown ⟨g, 0, none⟩ 1 cap
    [.int .i64 c.a, .int .i64 c.b, .int .i64 c.c] hx rfl ?_ ?_ (by unfold maxLen; omega) (by omega) hBw ?_
  · intro j u hj
    match j, hj with
    | 0, hj => simp at hj; subst hj; exact h0
    | 1, hj => simp at hj; subst hj; exact h1
    | 2, hj => simp at hj; subst hj; exact h2
    | j + 3, hj => simp at hj
  · intro u hu
    simp at hu
    rcases hu with rfl | rfl | rfl <;> rfl
  · intro v' w' hown' hg _ hat
    refine h v' w' ?_ (hk.grown hg fun k hk => Nat.le_trans hWB (hown.lt k hk).1) hg hat
    have e : cells3 (ls ++ [c]) = cells3 ls ++ [.int .i64 c.a, .int .i64 c.b, .int .i64 c.c] := by simp [cells3]
    unfold OwnL
    rw [e, List.length_append]
    exact hown'
end Go.Proofs.Ytjlaoocomkonhaa
