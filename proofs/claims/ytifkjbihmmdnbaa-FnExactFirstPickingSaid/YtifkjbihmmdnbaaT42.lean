/- Pickings: the lists that a search visits; rows of three ints that lie apart from one block; append onto a full row. -/
import Derived.Test.YtifkjbihmmdnbaaT14
import Derived.Test.YtifkjbihmmdnbaaT19
import Derived.Test.YtifkjbihmmdnbaaT20
import Derived.Test.YtifkjbihmmdnbaaT31
import Derived.Deep.RegionHeld3
import Derived.Deep.RegionLawGrows
import Derived.Deep.AppendLies
namespace Go.Proofs.Ytifkjbihmmdnbaa
open Go.RowKit
/-- The pickings behind the first one. -/
def visT : List Ln → List Ln → List (List Ln)
  | [], _ => []
  | a :: ls, b => (if hitL b a = true then [] else (b ++ [a]) :: visT ls (b ++ [a])) ++ visT ls b
/-- All pickings that begin with some lines, in the order of the search. -/
def visL (ls b : List Ln) : List (List Ln) := b :: visT ls b
theorem visT_hit {a : Ln} {ls b : List Ln} (h : hitL b a = true) : visT (a :: ls) b = visT ls b := by simp [visT, h]
theorem visT_free {a : Ln} {ls b : List Ln} (h : hitL b a = false) : visT (a :: ls) b = visL ls (b ++ [a]) ++ visT ls b := by simp [visT, visL, h]
theorem drop_lx (ls : List Ln) (k : Nat) (h : k < ls.length) : ls.drop k = lx ls k :: ls.drop (k + 1) := by rw [lx_get _ _ h]; exact List.drop_eq_getElem_cons h
theorem visT_len : ∀ (ls b : List Ln), (visT ls b).length + 1 ≤ 2 ^ ls.length
  | [], _ => by simp [visT]
  | a :: ls, b => by
    have h1 := visT_len ls (b ++ [a])
    have h2 := visT_len ls b
    unfold visT
    simp only [List.length_append, List.length_cons, Nat.pow_succ]
    split <;> simp <;> omega
theorem kept_grown {w w' : World} {row : Option Nat} (h : Kept w w') : w.grownBy w' row := ⟨h.below.os, h.below.tape, h.below.output, h.below.size, fun k hk _ => h.below.block k hk⟩
theorem lines_block {w w' : World} {g off : Nat} {ls : List Ln} (h : LinesAt w (some ⟨g, off, none⟩) ls) (hs : w.heap.size ≤ w'.heap.size) (hb : w'.heap[g]? = w.heap[g]?) : LinesAt w' (some ⟨g, off, none⟩) ls := by
  intro i hi
  obtain ⟨g', off', he, hg, h1, h2, h3⟩ := h i hi
  cases he
  exact ⟨g, off, rfl, Nat.lt_of_lt_of_le hg hs, (cell_block hb _).trans h1, (cell_block hb _).trans h2, (cell_block hb _).trans h3⟩
theorem lines_cells {w : World} {g off : Nat} {ls : List Ln} (h : LinesAt w (some ⟨g, off, none⟩) ls) {j : Nat} {u : Value} (hj : (cells3 ls)[j]? = some u) : w.cell? ⟨g, off + j, none⟩ = some u := by
  have hlt : j < ls.length * 3 := by rw [← cells3_length]; exact (List.getElem?_eq_some_iff.1 hj).1
  obtain ⟨_, _, he, _, h1, h2, h3⟩ := h (j / 3) (by omega)
  cases he
  obtain ⟨c1, c2, c3⟩ := cells3_get ls (j / 3) (by omega)
  obtain e | e | e : j % 3 = 0 ∨ j % 3 = 1 ∨ j % 3 = 2 := by omega
  · rw [show j = j / 3 * 3 by omega] at hj ⊢
    rw [c1] at hj; cases hj
    exact h1
  · rw [show j = j / 3 * 3 + 1 by omega] at hj ⊢
    rw [c2] at hj; cases hj
    rw [← Nat.add_assoc]
    exact h2
  · rw [show j = j / 3 * 3 + 2 by omega] at hj ⊢
    rw [c3] at hj; cases hj
    rw [← Nat.add_assoc]
    exact h3
/-- A slice that reads as lines and does not lie in a certain block. -/
def PickAt (c : Nat) (w : World) (v : Value) (ls : List Ln) : Prop :=
  (v = .slice none 0 0 ∧ ls = []) ∨ ∃ g off cap, v = .slice (some ⟨g, off, none⟩) ls.length cap ∧ g ≠ c ∧ g < w.heap.size ∧ LinesAt w (some ⟨g, off, none⟩) ls ∧ ls.length ≤ cap
theorem PickAt.grown {c : Nat} {w w' : World} {v : Value} {ls : List Ln} (h : PickAt c w v ls) (hg : w.grownBy w' (some c)) : PickAt c w' v ls := by
  rcases h with h | ⟨g, off, cap, rfl, h1, h2, h3, h4⟩
  · exact .inl h
  · exact .inr ⟨g, off, cap, rfl, h1, Nat.lt_of_lt_of_le h2 hg.size, lines_block h3 hg.size (hg.block g h2 fun e => h1 (Option.some.inj e)), h4⟩
theorem PickAt.kept {c : Nat} {w w' : World} {v : Value} {ls : List Ln} (h : PickAt c w v ls) (hk : Kept w w') : PickAt c w' v ls := h.grown (kept_grown hk)
theorem PickAt.lines {c : Nat} {w : World} {ao : Option Addr} {n cap : Nat} {ls : List Ln} (h : PickAt c w (.slice ao n cap) ls) : LinesAt w ao ls := by
  rcases h with ⟨e, e2⟩ | ⟨g, off, cap', e, _, _, h3, _⟩
  · rw [e2]; exact fun i hi => by simp at hi
  · cases e; exact h3
theorem PickAt.drop {c : Nat} {w : World} {g off n cap : Nat} {ls : List Ln} (h : PickAt c w (.slice (some ⟨g, off, none⟩) n cap) ls) {k : Nat} (hk : k ≤ n) : PickAt c w (.slice (if cap = k then some ⟨g, off, none⟩ else some ⟨g, off + k * 3, none⟩) (n - k) (cap - k)) (ls.drop k) := by
  rcases h with ⟨e, e2⟩ | ⟨g, off, cap', e, h1, h2, h3, h4⟩
  · cases e
  · cases e
    by_cases hc : cap = k
    · rw [if_pos hc]
      have h0 : ls.drop k = [] := List.drop_eq_nil_of_le (by omega)
      refine .inr ⟨g, off, cap - k, by rw [h0]; simp; omega, h1, h2, fun i hi => ?_, by rw [h0]; simp⟩
      rw [h0] at hi
      exact absurd hi (Nat.not_lt_zero _)
    · rw [if_neg hc]
      refine .inr ⟨g, off + k * 3, cap - k, by rw [List.length_drop], h1, h2, fun i hi => ?_, by rw [List.length_drop]; omega⟩
      rw [List.length_drop] at hi
      obtain ⟨_, _, he, _, q1, q2, q3⟩ := h3 (k + i) (by omega)
      cases he
      have e : lx (ls.drop k) i = lx ls (k + i) := by simp [lx]
      refine ⟨g, off + k * 3, rfl, h2, ?_⟩
      unfold LnCells
      rw [e, show off + k * 3 + i * 3 = off + (k + i) * 3 by rw [Nat.add_mul]; omega]
      exact ⟨q1, q2, q3⟩
theorem lnCells_grown {w w' : World} {row : Option Nat} {g o : Nat} {l : Ln} (h : LnCells w g o l) (hg : w.grownBy w' row) (hs : g < w.heap.size) (hr : row ≠ some g) : LnCells w' g o l := by
  have hb := hg.block g hs (Ne.symm hr)
  exact ⟨(cell_block hb _).trans h.1, (cell_block hb _).trans h.2.1, (cell_block hb _).trans h.2.2⟩
theorem OwnL.pick {B c : Nat} {w : World} {v : Value} {ls : List Ln} (h : OwnL B w v ls) (hc : c < B) : PickAt c w v ls := by
  obtain ⟨ao, cap, hv, hx, hl⟩ := h.reads
  rcases h.2 with ⟨rfl, h0⟩ | ⟨g, cap', cur, rfl, hb, hg, _⟩
  · exact .inl ⟨rfl, List.eq_nil_of_length_eq_zero h0⟩
  · cases hv
    exact .inr ⟨g, 0, _, rfl, by omega, (Array.getElem?_eq_some_iff.1 hg).1, hx, hl⟩
theorem step_append_lnF {ops : Array Oper} {o : Oper} {a : Act} {K : Act → World → Prop} {Q : Exit → Act → World → Prop} {E : Prop} {w : World} (hgd : o.guard = none) (s x : Operand)
    (ho : o.op = .call { callee := .builtin .append, args := #[s, x], argTypes := #[31, 31] }) (b : List Ln) (n : Nat) (hn : b.length = n) (c cp : Nat) (ao : Option Addr) (hp : PickAt c w (.slice ao n cp) b) (hs : a.eval s = .slice ao n n)
    (g cap : Nat) (l : Ln) (hx : a.eval x = .slice (some ⟨g, 0, none⟩) 1 cap) (hc : LnCells w g 0 l) (hl : b.length ≤ 1048576)
    (h : ∀ v' w', OwnL w.heap.size w' v' (b ++ [l]) → Kept w w' → K (a.put o.dst v') w') : if Region.wanted o (yielded ops a.tmps) = true then Oper.wp Try.prog o a w K Q else E := by
  obtain ⟨i, hi, hz, hsz, hb⟩ := info_parts info_ln
  obtain ⟨h0, h1, h2⟩ := hc
  subst hn
  refine step_append_grows hgd s x 31 ho T3 i _ 3 24 Try.underlying31 hi hz hsz hb rfl (by decide) ao b.length b.length (cells3 b) hs ?_ (cells3_length b) ?_ ⟨g, 0, none⟩ 1 cap
    [.int .i64 l.a, .int .i64 l.b, .int .i64 l.c] hx rfl ?_ ?_ (by omega) (by unfold maxLen; omega) (by omega) ?_
  · intro e
    rcases hp with ⟨hv, hb0⟩ | ⟨g', off, cap', hv, _⟩
    · rw [hb0]; exact ⟨rfl, rfl⟩
    · rw [e] at hv; cases hv
  · intro bb e j u hj
    rcases hp with ⟨hv, hb0⟩ | ⟨g', off, cap', hv, _, _, hL, _⟩
    · rw [e] at hv; cases hv
    · rw [e] at hv; cases hv
      rw [Addr.add_lit]
      exact lines_cells hL hj
  · intro j u hj
    match j, hj with
    | 0, hj => simp at hj; subst hj; exact h0
    | 1, hj => simp at hj; subst hj; exact h1
    | 2, hj => simp at hj; subst hj; exact h2
    | j + 3, hj => simp at hj
  · intro u hu
    simp at hu
    rcases hu with rfl | rfl | rfl <;> rfl
  · intro v' w' hown hg
    refine h v' w' ?_ ((Kept.refl w).grown hg fun k hk => by cases hk)
    have e : cells3 (b ++ [l]) = cells3 b ++ [.int .i64 l.a, .int .i64 l.b, .int .i64 l.c] := by simp [cells3]
    unfold OwnL
    rw [e, List.length_append]
    exact hown
theorem pick1_any (B : Nat) (a l : Ln) (w : World) (hB : B < w.heap.size) (hc : LnCells w B 0 a) :
    Calls Try.prog 72 #[l.v, .pointer (some ⟨B, 0, none⟩)] w fun e w' => e = .returned (.bool (decide (0 < comI a l))) ∧ Kept w w' := by
  obtain ⟨h1, h2, h3⟩ := hc
  go_enter Try.func72, Try.ntmps72
  go_wp2_with (first | (go_at_call 68; refine Calls.mono (common_any a l _) ?_; rintro e w' ⟨rfl, y, rfl⟩))
  go_ret
  exact ⟨rfl, (by (try simp only [ext_ext]); repeat (first | exact Kept.refl _ | apply Kept.alloc | apply Kept.drew | apply kept_add | apply Kept.ext))⟩
theorem indexPick_any (B : Nat) (a : Ln) (ao : Option Addr) (cap : Nat) (ls : List Ln) (w : World) (hB : B < w.heap.size) (hc : LnCells w B 0 a) (hx : LinesAt w ao ls) (hl : ls.length ≤ 1048576) :
    Calls Try.prog 69 #[.slice ao ls.length cap, .func (.func 72) #[] #[.pointer (some ⟨B, 0, none⟩)]] w fun e w' => e = .returned (.int .i64 (idxOf (fun b => decide (0 < comI a b)) ls)) ∧ Kept w w' := by
  have hcl := hid (fun w' (hk : Kept w w') l => pick1_any B a l w' (Nat.lt_of_lt_of_le hB hk.below.size) ⟨(hk.below.cell (p := ⟨_, _, none⟩) hB).trans hc.1, (hk.below.cell (p := ⟨_, _, none⟩) hB).trans hc.2.1, (hk.below.cell (p := ⟨_, _, none⟩) hB).trans hc.2.2⟩)
  clear hc
  go_enter Try.func69, Try.ntmps69
  go_wp2
  go_loopw [8] (fun i wr => ∃ k : Nat, k ≤ ls.length ∧ i = .int .i64 k ∧ (∀ j, j < k → decide (0 < comI a (lx ls j)) = false) ∧ Kept w wr) (fun i _ => ls.length - (intOf i).toNat)
  case atStart => exact ⟨0, Nat.zero_le _, rfl, fun j hj => absurd hj (Nat.not_lt_zero _), (by (try simp only [ext_ext]); repeat (first | exact Kept.refl _ | apply Kept.alloc | apply Kept.drew | apply kept_add | apply Kept.ext))⟩
  case round =>
    obtain ⟨k, hk, rfl, hn, z, rfl⟩ := hrel
    have hnH := hid hn
    clear hn
    by_cases hlt : k < ls.length
    · obtain ⟨g, off, rfl, hg, h1, h2, h3⟩ := hx k hlt
      go_wp2_with (first | (go_at_call 72; refine Calls.mono (hcl.out _ ((by (try simp only [ext_ext]); repeat (first | exact Kept.refl _ | apply Kept.alloc | apply Kept.drew | apply kept_add | apply Kept.ext))) (lx ls k)) ?_; rintro e w' ⟨rfl, y, rfl⟩))
      · rename_i h
        go_ret
        exact ⟨ret_of (by rw [idxOf_some (d := ⟨0, 0, 0⟩) hlt (decide_eq_true (show 0 < comI a (lx ls k) by simpa using h)) hnH.out]; rfl), (by (try simp only [ext_ext]); repeat (first | exact Kept.refl _ | apply Kept.alloc | apply Kept.drew | apply kept_add | apply Kept.ext))⟩
      · rename_i h
        go_roundw
        case rel =>
          refine ⟨k + 1, hlt, by go_num, fun j hj => ?_, (by (try simp only [ext_ext]); repeat (first | exact Kept.refl _ | apply Kept.alloc | apply Kept.drew | apply kept_add | apply Kept.ext))⟩
          rcases Nat.lt_or_eq_of_le (Nat.le_of_lt_succ hj) with h' | rfl
          · exact hnH.out j h'
          · exact decide_eq_false (by simpa using h)
        case measure => simp [intOf]; omega
    · go_wp2
      go_ret
      exact ⟨ret_of (by rw [idxOf_none (d := ⟨0, 0, 0⟩) fun j hj => hnH.out j (by omega)]; rfl), (by (try simp only [ext_ext]); repeat (first | exact Kept.refl _ | apply Kept.alloc | apply Kept.drew | apply kept_add | apply Kept.ext))⟩
theorem containsPick_any (B : Nat) (a : Ln) (ao : Option Addr) (cap : Nat) (ls : List Ln) (w : World) (hB : B < w.heap.size) (hc : LnCells w B 0 a) (hx : LinesAt w ao ls) (hl : ls.length ≤ 1048576) :
    Calls Try.prog 49 #[.slice ao ls.length cap, .func (.func 72) #[] #[.pointer (some ⟨B, 0, none⟩)]] w fun e w' => e = .returned (.bool (hitL ls a)) ∧ Kept w w' := by
  have hi := hid (indexPick_any B a ao cap ls w hB hc hx hl)
  go_enter Try.func49, Try.ntmps49
  go_wp2_with (first | (go_at_call 69; refine Calls.mono (hi.out) ?_; rintro e w' ⟨rfl, y, rfl⟩))
  go_ret
  exact ⟨ret_of (congrArg Value.bool (idxOf_any _ ls)), (by (try simp only [ext_ext]); repeat (first | exact Kept.refl _ | apply Kept.alloc | apply Kept.drew | apply kept_add | apply Kept.ext))⟩
end Go.Proofs.Ytifkjbihmmdnbaa
