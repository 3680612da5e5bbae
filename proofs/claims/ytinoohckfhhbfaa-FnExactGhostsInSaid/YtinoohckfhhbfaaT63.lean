/- Rows of six numbers: slices of them in memory, append, comparison, marks. -/
import Derived.Test.YtinoohckfhhbfaaT24
import Derived.Test.YtinoohckfhhbfaaT47
import Derived.Deep.RegionLaw
namespace Go.Proofs.Ytinoohckfhhbfaa
open Go.RowKit
/-- Six numbers. -/
structure Sx where
  a : Int
  b : Int
  c : Int
  d : Int
  e : Int
  f : Int
  deriving DecidableEq
abbrev Sx.v (x : Sx) : Value := .agg #[.int .i64 x.a, .int .i64 x.b, .int .i64 x.c, .int .i64 x.d, .int .i64 x.e, .int .i64 x.f]
def sx (ls : List Sx) (i : Nat) : Sx := ls.getD i ⟨0, 0, 0, 0, 0, 0⟩
theorem sx_get (ls : List Sx) (i : Nat) (h : i < ls.length) : sx ls i = ls[i] := by simp [sx, h]
def SxCells (w : World) (g off : Nat) (x : Sx) : Prop :=
  w.cell? ⟨g, off, none⟩ = some (.int .i64 x.a) ∧ w.cell? ⟨g, off + 1, none⟩ = some (.int .i64 x.b) ∧ w.cell? ⟨g, off + 2, none⟩ = some (.int .i64 x.c) ∧ w.cell? ⟨g, off + 3, none⟩ = some (.int .i64 x.d) ∧ w.cell? ⟨g, off + 4, none⟩ = some (.int .i64 x.e) ∧ w.cell? ⟨g, off + 5, none⟩ = some (.int .i64 x.f)
/-- A slice's address reads as these rows. -/
def SixAt (w : World) (ao : Option Addr) (ls : List Sx) : Prop :=
  ∀ i, i < ls.length → ∃ g off, ao = some ⟨g, off, none⟩ ∧ g < w.heap.size ∧ SxCells w g (off + i * 6) (sx ls i)
theorem SixAt.kept {w w' : World} {ao : Option Addr} {ls : List Sx} (h : SixAt w ao ls) (hk : Kept w w') : SixAt w' ao ls := by
  have hb := hk.below
  intro i hi
  obtain ⟨g, off, ha, hg, h1, h2, h3, h4, h5, h6⟩ := h i hi
  exact ⟨g, off, ha, Nat.lt_of_lt_of_le hg hb.size, (hb.cell (p := ⟨_, _, none⟩) hg).trans h1, (hb.cell (p := ⟨_, _, none⟩) hg).trans h2, (hb.cell (p := ⟨_, _, none⟩) hg).trans h3, (hb.cell (p := ⟨_, _, none⟩) hg).trans h4, (hb.cell (p := ⟨_, _, none⟩) hg).trans h5, (hb.cell (p := ⟨_, _, none⟩) hg).trans h6⟩
def cells6 (ls : List Sx) : List Value := ls.flatMap fun x => [.int .i64 x.a, .int .i64 x.b, .int .i64 x.c, .int .i64 x.d, .int .i64 x.e, .int .i64 x.f]
theorem cells6_length (ls : List Sx) : (cells6 ls).length = ls.length * 6 := by
  induction ls with
  | nil => rfl
  | cons x ls ih => simp only [cells6, List.flatMap_cons, List.length_append, List.length_cons] at ih ⊢; simp only [ih]; simp; omega
theorem cells6_get (ls : List Sx) (i : Nat) (h : i < ls.length) :
    (cells6 ls)[i * 6]? = some (.int .i64 (sx ls i).a) ∧ (cells6 ls)[i * 6 + 1]? = some (.int .i64 (sx ls i).b) ∧ (cells6 ls)[i * 6 + 2]? = some (.int .i64 (sx ls i).c) ∧ (cells6 ls)[i * 6 + 3]? = some (.int .i64 (sx ls i).d) ∧ (cells6 ls)[i * 6 + 4]? = some (.int .i64 (sx ls i).e) ∧ (cells6 ls)[i * 6 + 5]? = some (.int .i64 (sx ls i).f) := by
  induction ls generalizing i with
  | nil => simp at h
  | cons x ls ih =>
    have e : cells6 (x :: ls) = [.int .i64 x.a, .int .i64 x.b, .int .i64 x.c, .int .i64 x.d, .int .i64 x.e, .int .i64 x.f] ++ cells6 ls := rfl
    cases i with
    | zero => rw [e]; simp [sx]
    | succ i =>
      have h' := ih i (by simpa using h)
      have ec : sx (x :: ls) (i + 1) = sx ls i := by simp [sx]
      rw [e, ec]
      have l : ∀ j, ([Value.int .i64 x.a, .int .i64 x.b, .int .i64 x.c, .int .i64 x.d, .int .i64 x.e, .int .i64 x.f] ++ cells6 ls)[(i + 1) * 6 + j]? = (cells6 ls)[i * 6 + j]? := fun j => by
        rw [List.getElem?_append_right (by simp; omega)]
        congr 1
        simp; omega
      exact ⟨(l 0).trans h'.1, (l 1).trans h'.2.1, (l 2).trans h'.2.2.1, (l 3).trans h'.2.2.2.1, (l 4).trans h'.2.2.2.2.1, (l 5).trans h'.2.2.2.2.2⟩
theorem sixAt_of_cells {w : World} {g off : Nat} {ls : List Sx} (hg : g < w.heap.size) (h : ∀ j u, (cells6 ls)[j]? = some u → w.cell? ⟨g, off + j, none⟩ = some u) : SixAt w (some ⟨g, off, none⟩) ls := by
  intro i hi
  obtain ⟨h1, h2, h3, h4, h5, h6⟩ := cells6_get ls i hi
  exact ⟨g, off, rfl, hg, by simpa using h _ _ h1, by simpa [Nat.add_assoc] using h _ _ h2, by simpa [Nat.add_assoc] using h _ _ h3, by simpa [Nat.add_assoc] using h _ _ h4, by simpa [Nat.add_assoc] using h _ _ h5, by simpa [Nat.add_assoc] using h _ _ h6⟩
theorem sxCells_new {w : World} {g : Nat} {t : TypeId} (c : Sx) (h : g = w.heap.size) : SxCells (w.alloc (.cells #[.int .i64 c.a, .int .i64 c.b, .int .i64 c.c, .int .i64 c.d, .int .i64 c.e, .int .i64 c.f] t)) g 0 c := by
  have hh := heap_at (o := .cells #[.int .i64 c.a, .int .i64 c.b, .int .i64 c.c, .int .i64 c.d, .int .i64 c.e, .int .i64 c.f] t) h
  exact ⟨cell_of_row _ g 0 _ t (0, 0) hh, cell_of_row _ g 1 _ t (0, 0) hh, cell_of_row _ g 2 _ t (0, 0) hh, cell_of_row _ g 3 _ t (0, 0) hh, cell_of_row _ g 4 _ t (0, 0) hh, cell_of_row _ g 5 _ t (0, 0) hh⟩
abbrev T6x : TypeId := 86
theorem info_sx : (Try.prog.info? 86).map (fun i => (i.zero, i.size, i.bytes)) = some (some (.agg #[.int .i64 0, .int .i64 0, .int .i64 0, .int .i64 0, .int .i64 0, .int .i64 0]), 6, 48) := by kernel_rfl
/-- A slice of the call's own that holds rows. -/
def OwnS (B : Nat) (w : World) (v : Value) (ls : List Sx) : Prop := w.ownsRow B T6x 6 v ls.length (cells6 ls)
theorem OwnS.kept {B : Nat} {w w' : World} {v : Value} {ls : List Sx} (h : OwnS B w v ls) (hk : Kept w w') : OwnS B w' v ls :=
  World.ownsRow.kept h ⟨hk.below.os, hk.below.tape, hk.below.output, hk.below.size, fun k hk' _ => hk.below.block k hk'⟩ (by cases v.ownBlock <;> simp) (row := none)
theorem OwnS.reads {B : Nat} {w : World} {v : Value} {ls : List Sx} (h : OwnS B w v ls) : ∃ ao cap, v = .slice ao ls.length cap ∧ SixAt w ao ls ∧ ls.length ≤ cap := by
  rcases h.2 with ⟨rfl, h0⟩ | ⟨g, cap, cur, rfl, hb, hg, hn, hm, hs, ht⟩
  · have : ls = [] := List.eq_nil_of_length_eq_zero h0
    subst this
    exact ⟨none, 0, rfl, fun i hi => by simp at hi, Nat.le_refl _⟩
  · refine ⟨_, cap, rfl, sixAt_of_cells (Array.getElem?_eq_some_iff.1 hg).1 fun j u hu => ?_, hn⟩
    have := World.ownsRow.cells h (g := g) rfl j u hu
    rw [Addr.add_lit] at this
    exact this
theorem OwnS.mono {B B' : Nat} {w : World} {v : Value} {ls : List Sx} (h : OwnS B w v ls) (hB : B' ≤ B) : OwnS B' w v ls := by
  rcases h.2 with h0 | ⟨g, cap, cur, h1, hb, h2⟩
  · exact ⟨h.1, .inl h0⟩
  · exact ⟨h.1, .inr ⟨g, cap, cur, h1, by omega, h2⟩⟩
theorem OwnS.grown {B : Nat} {w w' : World} {u : Value} {row : Option Nat} {ls : List Sx} (h : OwnS B w u ls) (hg : w.grownBy w' row) (hn : ∀ g, u.ownBlock = some g → row ≠ some g) : OwnS B w' u ls := by
  refine World.ownsRow.kept h hg ?_
  cases hu : u.ownBlock with
  | none => exact .inl rfl
  | some g => exact .inr fun e => hn g hu e.symm
def RetST (W : World) (ok : Bool) (ls : List Sx) (e : Ending) (w' : World) : Prop := ∃ v, e = .returned (.tuple #[v, .bool ok]) ∧ OwnS W.heap.size w' v ls ∧ Kept W w'
theorem ownS_nil {B g : Nat} {w : World} (hB : B ≤ g) (h : w.heap[g]? = some (.cells #[] T6x (0, 0))) : OwnS B w (.slice (some ⟨g, 0, none⟩) 0 0) [] :=
  ⟨rfl, .inr ⟨g, 0, #[], rfl, hB, h, Nat.le_refl _, by unfold maxLen; omega, rfl, by simp [cells6]⟩⟩
theorem ownS_none (B : Nat) (w : World) : OwnS B w (.slice none 0 0) [] := ⟨rfl, .inl ⟨rfl, rfl⟩⟩
theorem wpList_append_sx_at {ops : Array Oper} {rest : List Oper} {o : Oper} {a : Act} {Q : Exit → Act → World → Prop} {w : World} (hgd : o.guard = none) (s x : Operand)
    (ho : o.op = .call { callee := .builtin .append, args := #[s, x], argTypes := #[56, 56] }) (W : World) (B : Nat) (v : Value) (ls : List Sx) (hs : a.eval s = v) (hown : OwnS B w v ls) (hk : Kept W w) (hWB : W.heap.size ≤ B) (hBw : B ≤ w.heap.size)
    (g cap : Nat) (c : Sx) (hx : a.eval x = .slice (some ⟨g, 0, none⟩) 1 cap) (hc : SxCells w g 0 c) (hl : ls.length ≤ 1048576)
    (h : ∀ v' w', OwnS B w' v' (ls ++ [c]) → Kept W w' → w.grownBy w' v.ownBlock → (v'.ownBlock = v.ownBlock ∨ v'.ownBlock = some w.heap.size) → wpList Try.prog ops Q rest (a.put o.dst v') w') : wpList Try.prog ops Q (o :: rest) a w := by
  obtain ⟨i, hi, hz, hsz, hb⟩ := info_parts info_sx
  obtain ⟨h0, h1, h2, h3, h4, h5⟩ := hc
  refine wpList_append_own_at w hgd s x 56 ho B T6x i _ 6 48 Try.underlying56 hi hz hsz hb rfl (by decide) v ls.length (cells6 ls) hs hown ⟨g, 0, none⟩ 1 cap
    [.int .i64 c.a, .int .i64 c.b, .int .i64 c.c, .int .i64 c.d, .int .i64 c.e, .int .i64 c.f] hx rfl ?_ ?_ (by unfold maxLen; omega) (by omega) hBw ?_
  · intro j u hj
    match j, hj with
    | 0, hj => simp at hj; subst hj; exact h0
    | 1, hj => simp at hj; subst hj; exact h1
    | 2, hj => simp at hj; subst hj; exact h2
    | 3, hj => simp at hj; subst hj; exact h3
    | 4, hj => simp at hj; subst hj; exact h4
    | 5, hj => simp at hj; subst hj; exact h5
    | j + 6, hj => simp at hj
  · intro u hu
    simp at hu
    rcases hu with rfl | rfl | rfl | rfl | rfl | rfl <;> rfl
  · intro v' w' hown' hg _ hat
    refine h v' w' ?_ (hk.grown hg fun k hk => Nat.le_trans hWB (hown.lt k hk).1) hg hat
    have e : cells6 (ls ++ [c]) = cells6 ls ++ [.int .i64 c.a, .int .i64 c.b, .int .i64 c.c, .int .i64 c.d, .int .i64 c.e, .int .i64 c.f] := by simp [cells6]
    unfold OwnS
    rw [e, List.length_append]
    exact hown'
theorem step_append_sxAt {ops : Array Oper} {o : Oper} {a : Act} {K : Act → World → Prop} {Q : Exit → Act → World → Prop} {E : Prop} {w : World} (hgd : o.guard = none) (s x : Operand)
    (ho : o.op = .call { callee := .builtin .append, args := #[s, x], argTypes := #[56, 56] }) (B : Nat) (v : Value) (ls : List Sx) (hs : a.eval s = v) (hown : OwnS B w v ls) (hBw : B ≤ w.heap.size)
    (g cap : Nat) (c : Sx) (hx : a.eval x = .slice (some ⟨g, 0, none⟩) 1 cap) (hc : SxCells w g 0 c) (hl : ls.length ≤ 1048576)
    (h : ∀ g' cap' w', OwnS B w' (.slice (some ⟨g', 0, none⟩) (ls.length + 1) cap') (ls ++ [c]) → w.grownBy w' v.ownBlock → (v.ownBlock = some g' ∨ g' = w.heap.size) → K (a.put o.dst (.slice (some ⟨g', 0, none⟩) (ls.length + 1) cap')) w') : if Region.wanted o (yielded ops a.tmps) = true then Oper.wp Try.prog o a w K Q else E := by
  obtain ⟨i, hi, hz, hsz, hb⟩ := info_parts info_sx
  obtain ⟨h0, h1, h2, h3, h4, h5⟩ := hc
  refine step_append_lies w hgd s x 56 ho B T6x i _ 6 48 Try.underlying56 hi hz hsz hb rfl (by decide) v ls.length (cells6 ls) hs hown ⟨g, 0, none⟩ 1 cap
    [.int .i64 c.a, .int .i64 c.b, .int .i64 c.c, .int .i64 c.d, .int .i64 c.e, .int .i64 c.f] hx rfl ?_ ?_ (by omega) (by unfold maxLen; omega) (by omega) hBw w.heap.size rfl ?_
  · intro j u hj
    match j, hj with
    | 0, hj => simp at hj; subst hj; exact h0
    | 1, hj => simp at hj; subst hj; exact h1
    | 2, hj => simp at hj; subst hj; exact h2
    | 3, hj => simp at hj; subst hj; exact h3
    | 4, hj => simp at hj; subst hj; exact h4
    | 5, hj => simp at hj; subst hj; exact h5
    | j + 6, hj => simp at hj
  · intro u hu
    simp at hu
    rcases hu with rfl | rfl | rfl | rfl | rfl | rfl <;> rfl
  · intro g' cap' w' hown' hg hat _
    refine h _ _ w' ?_ hg hat
    have e : cells6 (ls ++ [c]) = cells6 ls ++ [.int .i64 c.a, .int .i64 c.b, .int .i64 c.c, .int .i64 c.d, .int .i64 c.e, .int .i64 c.f] := by simp [cells6]
    unfold OwnS
    rw [e, List.length_append]
    exact hown'
theorem eqIntA6_any (x : Sx) (w : World) : Calls Try.prog 72 #[x.v, x.v] w fun e w' => e = .returned (.bool true) ∧ Kept w w' := by
  go_enter Try.func72, Try.ntmps72
  go_wp2
  refine wp_loop_rounds 7 ?_
  iterate 7
    (all_goals try rw [rounds_succ])
    go_wp2_with (first | (refine wp_region_ext (by kernel_rfl) (by kernel_rfl) ?_; (repeat (go_big_quiet_step (fail))); refine wpQuiet_end fun z => ?_))
  all_goals
    go_ret
    exact ⟨rfl, (by (try simp only [ext_ext]); repeat (first | exact Kept.refl _ | apply Kept.alloc | apply Kept.drew | apply kept_add | apply Kept.ext))⟩
theorem eqS_any (v u : Value) (B B' : Nat) (ls : List Sx) (w : World) (h : OwnS B w v ls) (h' : OwnS B' w u ls) (hl : ls.length ≤ 1048576) :
    Calls Try.prog 34 #[v, u] w fun e w' => e = .returned (.bool true) ∧ Kept w w' := by
  obtain ⟨ao, cap, rfl, hx, _⟩ := h.reads
  obtain ⟨bo, cap', rfl, hy, _⟩ := h'.reads
  clear h h'
  go_enter Try.func34, Try.ntmps34
  go_wp2
  go_loopw [5] (fun i wr => ∃ k : Nat, k ≤ ls.length ∧ i = .int .i64 k ∧ Kept w wr) (fun i _ => ls.length - (intOf i).toNat)
  case atStart => exact ⟨0, Nat.zero_le _, rfl, (by (try simp only [ext_ext]); repeat (first | exact Kept.refl _ | apply Kept.alloc | apply Kept.drew | apply kept_add | apply Kept.ext))⟩
  case round =>
    obtain ⟨k, hk, rfl, z, rfl⟩ := hrel
    by_cases hlt : k < ls.length
    · obtain ⟨g, off, rfl, hg, h1, h2, h3, h4, h5, h6⟩ := hx k hlt
      obtain ⟨g', off', rfl, hg', p1, p2, p3, p4, p5, p6⟩ := hy k hlt
      go_wp2_with (first | (refine wp_region_ext (by kernel_rfl) (by kernel_rfl) ?_; (repeat (go_big_quiet_step (((go_at_call 72; first | exact ext_call (eqIntA6_any (sx ls k) _) | exact ext_call2 (eqIntA6_any (sx ls k) _)))))); refine wpQuiet_end fun z => ?_))
      go_roundw
      case rel => exact ⟨k + 1, hlt, by go_num, (by (try simp only [ext_ext]); repeat (first | exact Kept.refl _ | apply Kept.alloc | apply Kept.drew | apply kept_add | apply Kept.ext))⟩
      case measure => simp [intOf]; omega
    · obtain rfl : k = ls.length := by omega
      go_wp2
      go_ret
      exact ⟨rfl, (by (try simp only [ext_ext]); repeat (first | exact Kept.refl _ | apply Kept.alloc | apply Kept.drew | apply kept_add | apply Kept.ext))⟩
theorem markIntA6S_any (v : Value) (n : Nat) (cells : List Value) (B : Nat) (k : Int) (w : World) (h : w.ownsRow B 86 6 v n cells) (hn : n ≤ 1048576) (hk : 0 ≤ k) (hk' : k ≤ 10) :
    Calls Try.prog 35 #[v, .int .i64 k] w fun e w' => e = .returned (.int .i64 (k + n * 6)) ∧ w'.ownsRow B 86 6 v n (marks k (n * 6)) ∧ w.grownBy w' v.ownBlock := by
  rcases h.2 with ⟨rfl, h0⟩ | ⟨g, cap, cur, rfl, hb, hg, hcap, hmax, hs, ht⟩
  · subst h0
    go_enter Try.func35, Try.ntmps35
    go_wp2
    refine wp_loop_rounds 1 ?_
    rw [rounds_succ]
    go_wp2
    go_ret
    exact ⟨ret_of (by simp), ⟨by simp [marks], .inl ⟨rfl, rfl⟩⟩, grown_refl _ _⟩
  · have hgs := (Array.getElem?_eq_some_iff.1 hg).1
    have hown := hid (show ∀ wr : World, wr.heap[g]? = some (.cells (mkd k cur (n * 6)) 86) → wr.ownsRow B 86 6 (.slice (some ⟨g, 0, none⟩) n cap) n (marks k (n * 6)) from fun wr hw => ⟨by simp [marks], .inr ⟨g, cap, _, rfl, hb, hw, hcap, hmax, by rw [mkd_size _ _ (by rw [hs]; exact Nat.mul_le_mul_right _ hcap), hs], mkd_take _ _ _⟩⟩)
    have hsH := hid (show n * 6 ≤ cur.size by rw [hs]; exact Nat.mul_le_mul_right _ hcap)
    clear hs ht hmax hcap
    go_enter Try.func35, Try.ntmps35
    go_wp2
    go_loopw [5, 1] (fun i s wr => ∃ m : Nat, m ≤ n ∧ i = .int .i64 m ∧ s = .int .i64 (k + (m * 6 : Nat)) ∧ wr.heap[g]? = some (.cells (mkd k cur (m * 6)) 86) ∧ w.grownBy wr (some g)) (fun i _ _ => n - (intOf i).toNat)
    case atStart => exact ⟨0, Nat.zero_le _, rfl, by simp, by rw [Nat.zero_mul, mkd_zero]; exact hg, grown_refl _ _⟩
    case round wr =>
      obtain ⟨m, hm, rfl, rfl, hw, hgr⟩ := hrel
      by_cases hlt : m < n
      · have hwH := hid hw
        have hgrH := hid hgr
        clear hw hgr
        go_wp2
        go_loopw [6, 1] (fun j s wr => ∃ q : Nat, q ≤ 6 ∧ j = .int .i64 q ∧ s = .int .i64 (k + (m * 6 + q : Nat)) ∧ wr.heap[g]? = some (.cells (mkd k cur (m * 6 + q)) 86) ∧ w.grownBy wr (some g)) (fun j _ _ => 6 - (intOf j).toNat)
        case atStart => exact ⟨0, Nat.zero_le _, rfl, by simp, hwH.out, hgrH.out⟩
        case round wr =>
          obtain ⟨q, hq, rfl, rfl, hw, hgr⟩ := hrel
          have hwH := hid hw
          have hgrH := hid hgr
          by_cases hlt2 : q < 6
          · have hlen := hid (show m * 6 + q < cur.size by have := hsH.out; omega)
            obtain ⟨v0, hv0⟩ := mkd_some k (cur := cur) (t := m * 6 + q) hlen.out
            have hc := (cell_of_row _ g (m * 6 + q) _ _ (0, 0) hw).trans hv0
            have hf := frozen_of_row _ g (m * 6 + q) _ _ hw
            have hset := hid (mkd_set k (cur := cur) (t := m * 6 + q) hlen.out)
            clear hw hgr hv0
            go_wp2
            go_roundw
            case rel =>
              refine ⟨q + 1, by omega, by go_num, by go_num, ?_, ?_⟩
              · rw [heap_setCell_same _ _ _ _ _ _ hwH.out]
                first | exact congrArg (fun c => some (Obj.cells c 86 (0, 0))) hset.out
              · exact grown_setCell hgrH.out (p := ⟨g, _, none⟩) rfl _
            case measure => simp [intOf]; omega
          · obtain rfl : q = 6 := by omega
            clear hw hgr
            go_wp2
            go_roundw
            case rel => exact ⟨m + 1, hlt, by go_num, by go_num, by rw [Nat.add_mul, Nat.one_mul]; exact hwH.out, hgrH.out⟩
            case measure => simp [intOf]; omega
      · obtain rfl : m = n := by omega
        go_wp2
        go_ret
        exact ⟨ret_of (by simp), hown.out _ hw, hgr⟩
theorem heldIntA6S_any (v : Value) (n : Nat) (B : Nat) (k : Int) (w : World) (h : w.ownsRow B 86 6 v n (marks k (n * 6))) (hn : n ≤ 1048576) (hk : 0 ≤ k) (hk' : k ≤ 10) :
    Calls Try.prog 36 #[v, .int .i64 k] w fun e w' => e = .returned (.int .i64 (k + n * 6)) ∧ Kept w w' := by
  have hcell := fun g (hg : v.ownBlock = some g) => World.ownsRow.cells h (g := g) hg
  rcases h.2 with ⟨rfl, h0⟩ | ⟨g, cap, cur, rfl, hb, hg, hcap, hmax, hs, ht⟩
  · subst h0
    go_enter Try.func36, Try.ntmps36
    go_wp2
    refine wp_loop_rounds 1 ?_
    rw [rounds_succ]
    go_wp2
    go_ret
    exact ⟨ret_of (by simp), (by (try simp only [ext_ext]); repeat (first | exact Kept.refl _ | apply Kept.alloc | apply Kept.drew | apply kept_add | apply Kept.ext))⟩
  · have hgs := (Array.getElem?_eq_some_iff.1 hg).1
    have hcH := hid (hcell g rfl)
    clear hcell hs ht hmax hcap h hg
    go_enter Try.func36, Try.ntmps36
    go_wp2
    go_loopw [5, 1] (fun i s wr => ∃ m : Nat, m ≤ n ∧ i = .int .i64 m ∧ s = .int .i64 (k + (m * 6 : Nat)) ∧ Kept w wr) (fun i _ _ => n - (intOf i).toNat)
    case atStart => exact ⟨0, Nat.zero_le _, rfl, by simp, (by (try simp only [ext_ext]); repeat (first | exact Kept.refl _ | apply Kept.alloc | apply Kept.drew | apply kept_add | apply Kept.ext))⟩
    case round =>
      obtain ⟨m, hm, rfl, rfl, z, rfl⟩ := hrel
      by_cases hlt : m < n
      · go_wp2
        go_loopw [6, 1] (fun j s wr => ∃ q : Nat, q ≤ 6 ∧ j = .int .i64 q ∧ s = .int .i64 (k + (m * 6 + q : Nat)) ∧ Kept w wr) (fun j _ _ => 6 - (intOf j).toNat)
        case atStart => exact ⟨0, Nat.zero_le _, rfl, by simp, (by (try simp only [ext_ext]); repeat (first | exact Kept.refl _ | apply Kept.alloc | apply Kept.drew | apply kept_add | apply Kept.ext))⟩
        case round =>
          obtain ⟨q, hq, rfl, rfl, z, rfl⟩ := hrel
          by_cases hlt2 : q < 6
          · have hc := hcH.out (m * 6 + q) (.int .i64 (k + (m * 6 + q : Nat))) (marks_get k (by omega))
            rw [Addr.add_lit, Nat.zero_add] at hc
            go_wp2
            go_roundw
            case rel => exact ⟨q + 1, by omega, by go_num, by go_num, (by (try simp only [ext_ext]); repeat (first | exact Kept.refl _ | apply Kept.alloc | apply Kept.drew | apply kept_add | apply Kept.ext))⟩
            case measure => simp [intOf]; omega
          · obtain rfl : q = 6 := by omega
            go_wp2
            go_roundw
            case rel => exact ⟨m + 1, hlt, by go_num, by go_num, (by (try simp only [ext_ext]); repeat (first | exact Kept.refl _ | apply Kept.alloc | apply Kept.drew | apply kept_add | apply Kept.ext))⟩
            case measure => simp [intOf]; omega
      · obtain rfl : m = n := by omega
        go_wp2
        go_ret
        exact ⟨ret_of (by simp), (by (try simp only [ext_ext]); repeat (first | exact Kept.refl _ | apply Kept.alloc | apply Kept.drew | apply kept_add | apply Kept.ext))⟩
end Go.Proofs.Ytinoohckfhhbfaa
