/- Rows of numbers of the call's own: append, comparison, marks. Choices: the lists that a search visits; rows of numbers that lie apart from two blocks; append onto a full row. Contracts: the place of a number among numbers, whether it is there. -/
import Derived.Test.YtjlaoocomkonhaaQ04
import Derived.Deep.RegionHeld3
import Derived.Deep.RegionLawGrows
import Derived.Deep.AppendLies
import Derived.Test.YtjlaoocomkonhaaQ02
namespace Go.Proofs.Ytjlaoocomkonhaa
open Go.RowKit
abbrev vals1 (zs : List Int) : List Value := zs.map (Value.int .i64)
theorem info_i64 : (Try.prog.info? 3).map (fun i => (i.zero, i.size, i.bytes)) = some (some (.int .i64 0), 1, 8) := by kernel_rfl
/-- A slice of the call's own that holds numbers. -/
def OwnI (B : Nat) (w : World) (v : Value) (zs : List Int) : Prop := w.ownsRow B 3 1 v zs.length (vals1 zs)
theorem OwnI.kept {B : Nat} {w w' : World} {v : Value} {zs : List Int} (h : OwnI B w v zs) (hk : Kept w w') : OwnI B w' v zs := row_kept h hk
theorem OwnI.reads {B : Nat} {w : World} {v : Value} {zs : List Int} (h : OwnI B w v zs) : ∃ ao cap, v = .slice ao zs.length cap ∧ IntsAt w ao zs ∧ zs.length ≤ cap := by
  rcases h.2 with ⟨rfl, h0⟩ | ⟨g, cap, cur, rfl, hb, hg, hn, hm, hs, ht⟩
  · have : zs = [] := List.eq_nil_of_length_eq_zero h0
    subst this
    exact ⟨none, 0, rfl, fun i hi => by simp at hi, Nat.le_refl _⟩
  · refine ⟨_, cap, rfl, fun i hi => ⟨g, 0, rfl, (Array.getElem?_eq_some_iff.1 hg).1, ?_⟩, hn⟩
    have := World.ownsRow.cells h (g := g) rfl i (.int .i64 (ix zs i)) (by simp [ix, hi])
    rw [Addr.add_lit] at this
    exact this
theorem OwnI.mono {B B' : Nat} {w : World} {v : Value} {zs : List Int} (h : OwnI B w v zs) (hB : B' ≤ B) : OwnI B' w v zs := by
  rcases h.2 with h0 | ⟨g, cap, cur, h1, hb, h2⟩
  · exact ⟨h.1, .inl h0⟩
  · exact ⟨h.1, .inr ⟨g, cap, cur, h1, by omega, h2⟩⟩
theorem OwnI.grown {B : Nat} {w w' : World} {u : Value} {row : Option Nat} {zs : List Int} (h : OwnI B w u zs) (hg : w.grownBy w' row) (hn : ∀ g, u.ownBlock = some g → row ≠ some g) : OwnI B w' u zs := by
  refine World.ownsRow.kept h hg ?_
  cases hu : u.ownBlock with
  | none => exact .inl rfl
  | some g => exact .inr fun e => hn g hu e.symm
def RetI (W : World) (zs : List Int) (e : Ending) (w' : World) : Prop := ∃ v, e = .returned v ∧ OwnI W.heap.size w' v zs ∧ Kept W w'
def RetIT (W : World) (ok : Bool) (zs : List Int) (e : Ending) (w' : World) : Prop := ∃ v, e = .returned (.tuple #[v, .bool ok]) ∧ OwnI W.heap.size w' v zs ∧ Kept W w'
theorem ownI_none (B : Nat) (w : World) : OwnI B w (.slice none 0 0) [] := ⟨rfl, .inl ⟨rfl, rfl⟩⟩
theorem ownI_nil {B g : Nat} {w : World} (hB : B ≤ g) (h : w.heap[g]? = some (.cells #[] 3 (0, 0))) : OwnI B w (.slice (some ⟨g, 0, none⟩) 0 0) [] :=
  ⟨rfl, .inr ⟨g, 0, #[], rfl, hB, h, Nat.le_refl _, by unfold maxLen; omega, rfl, by simp⟩⟩
/-- A row aside of the one that grows. -/
def Aside (v u : Value) : Prop := ∀ g, u.ownBlock = some g → v.ownBlock ≠ some g
theorem wpList_append_int {ops : Array Oper} {rest : List Oper} {o : Oper} {a : Act} {Q : Exit → Act → World → Prop} {w : World} (hgd : o.guard = none) (s x : Operand)
    (ho : o.op = .call { callee := .builtin .append, args := #[s, x], argTypes := #[38, 38] }) (W : World) (B : Nat) (v : Value) (zs : List Int) (hs : a.eval s = v) (hown : OwnI B w v zs) (hk : Kept W w) (hWB : W.heap.size ≤ B) (hBw : B ≤ w.heap.size)
    (g cap : Nat) (c : Int) (hx : a.eval x = .slice (some ⟨g, 0, none⟩) 1 cap) (hc : w.cell? ⟨g, 0, none⟩ = some (.int .i64 c)) (hl : zs.length ≤ 1048576)
    (h : ∀ v' w', OwnI B w' v' (zs ++ [c]) → Kept W w' → w.grownBy w' v.ownBlock → (v'.ownBlock = v.ownBlock ∨ v'.ownBlock = some w.heap.size) → wpList Try.prog ops Q rest (a.put o.dst v') w') : wpList Try.prog ops Q (o :: rest) a w := by
  obtain ⟨i, hi, hz, hsz, hb⟩ := info_parts info_i64
  refine wpList_append_own_at w hgd s x 38 ho B 3 i _ 1 8 Try.underlying38 hi hz hsz hb rfl (by decide) v zs.length (vals1 zs) hs hown ⟨g, 0, none⟩ 1 cap
    [.int .i64 c] hx rfl ?_ ?_ (by unfold maxLen; omega) (by omega) hBw ?_
  · intro j u hj
    match j, hj with
    | 0, hj => simp at hj; subst hj; exact hc
    | j + 1, hj => simp at hj
  · intro u hu
    simp at hu
    rcases hu with rfl; rfl
  · intro v' w' hown' hg _ hat
    refine h v' w' ?_ (hk.grown hg fun k hk => Nat.le_trans hWB (hown.lt k hk).1) hg hat
    unfold OwnI
    rw [List.length_append, vals1, List.map_append]
    exact hown'
theorem eqI_any (v u : Value) (B B' : Nat) (zs : List Int) (w : World) (h : OwnI B w v zs) (h' : OwnI B' w u zs) (hl : zs.length ≤ 1048576) :
    Calls Try.prog 19 #[v, u] w fun e w' => e = .returned (.bool true) ∧ Kept w w' := by
  obtain ⟨ao, cap, rfl, hx, _⟩ := h.reads
  obtain ⟨bo, cap', rfl, hy, _⟩ := h'.reads
  clear h h'
  go_enter Try.func19, Try.ntmps19
  go_wp2
  go_loopw [5] (fun i wr => ∃ k : Nat, k ≤ zs.length ∧ i = .int .i64 k ∧ Kept w wr) (fun i _ => zs.length - (intOf i).toNat)
  case atStart => exact ⟨0, Nat.zero_le _, rfl, (by (try simp only [ext_ext]); repeat (first | exact Kept.refl _ | apply Kept.alloc | apply Kept.drew | apply kept_add | apply Kept.ext))⟩
  case round =>
    obtain ⟨k, hk, rfl, z, rfl⟩ := hrel
    by_cases hlt : k < zs.length
    · obtain ⟨g, off, rfl, hg, h1⟩ := hx k hlt
      obtain ⟨g', off', rfl, hg', p1⟩ := hy k hlt
      go_wp2_with (first | (refine wp_region_ext (by kernel_rfl) (by kernel_rfl) ?_; (repeat (go_big_quiet_step (fail))); refine wpQuiet_end fun z => ?_))
      go_roundw
      case rel => exact ⟨k + 1, hlt, by go_num, (by (try simp only [ext_ext]); repeat (first | exact Kept.refl _ | apply Kept.alloc | apply Kept.drew | apply kept_add | apply Kept.ext))⟩
      case measure => simp [intOf]; omega
    · obtain rfl : k = zs.length := by omega
      go_wp2
      go_ret
      exact ⟨rfl, (by (try simp only [ext_ext]); repeat (first | exact Kept.refl _ | apply Kept.alloc | apply Kept.drew | apply kept_add | apply Kept.ext))⟩
theorem markIntS_any (v : Value) (n : Nat) (cells : List Value) (B : Nat) (k : Int) (w : World) (h : w.ownsRow B 3 1 v n cells) (hn : n ≤ 1048576) (hk : 0 ≤ k) (hk' : k ≤ 10) :
    Calls Try.prog 20 #[v, .int .i64 k] w fun e w' => e = .returned (.int .i64 (k + n)) ∧ w'.ownsRow B 3 1 v n (marks k n) ∧ w.grownBy w' v.ownBlock := by
  rcases h.2 with ⟨rfl, h0⟩ | ⟨g, cap, cur, rfl, hb, hg, hcap, hmax, hs, ht⟩
  · subst h0
    go_enter Try.func20, Try.ntmps20
    go_wp2
    refine wp_loop_rounds 1 ?_
    rw [rounds_succ]
    go_wp2
    go_ret
    exact ⟨ret_of (by simp), ⟨by simp [marks], .inl ⟨rfl, rfl⟩⟩, grown_refl _ _⟩
  · have hgs := (Array.getElem?_eq_some_iff.1 hg).1
    have hs' : n ≤ cur.size := by omega
    have hown := hid (show ∀ wr : World, wr.heap[g]? = some (.cells (mkd k cur n) 3) → wr.ownsRow B 3 1 (.slice (some ⟨g, 0, none⟩) n cap) n (marks k n) from fun wr hw => ⟨by simp [marks], .inr ⟨g, cap, _, rfl, hb, hw, hcap, hmax, by rw [mkd_size _ _ hs', hs], by rw [Nat.mul_one]; exact mkd_take _ _ _⟩⟩)
    have hsH := hid hs'
    clear hs ht hmax hcap hs'
    go_enter Try.func20, Try.ntmps20
    go_wp2
    go_loopw [5, 1] (fun i s wr => ∃ m : Nat, m ≤ n ∧ i = .int .i64 m ∧ s = .int .i64 (k + m) ∧ wr.heap[g]? = some (.cells (mkd k cur m) 3) ∧ w.grownBy wr (some g)) (fun i _ _ => n - (intOf i).toNat)
    case atStart => exact ⟨0, Nat.zero_le _, rfl, by simp, by rw [mkd_zero]; exact hg, grown_refl _ _⟩
    case round wr =>
      obtain ⟨m, hm, rfl, rfl, hw, hgr⟩ := hrel
      by_cases hlt : m < n
      · have hwH := hid hw
        have hgrH := hid hgr
        have hlen := hid (show m < cur.size by have := hsH.out; omega)
        obtain ⟨v0, hv0⟩ := mkd_some k (cur := cur) (t := m) hlen.out
        have hc := (cell_of_row _ g m _ _ (0, 0) hw).trans hv0
        have hf := frozen_of_row _ g m _ _ hw
        have hset := hid (mkd_set k (cur := cur) (t := m) hlen.out)
        clear hw hgr hv0
        go_wp2
        go_roundw
        case rel =>
          refine ⟨m + 1, by omega, by go_num, by go_num, ?_, ?_⟩
          · rw [heap_setCell_same _ _ _ _ _ _ hwH.out]
            exact congrArg (fun c => some (Obj.cells c 3 (0, 0))) hset.out
          · exact grown_setCell hgrH.out (p := ⟨g, _, none⟩) rfl _
        case measure => simp [intOf]; omega
      · obtain rfl : m = n := by omega
        go_wp2
        go_ret
        exact ⟨rfl, hown.out _ hw, hgr⟩
theorem heldIntS_any (v : Value) (n : Nat) (B : Nat) (k : Int) (w : World) (h : w.ownsRow B 3 1 v n (marks k n)) (hn : n ≤ 1048576) (hk : 0 ≤ k) (hk' : k ≤ 10) :
    Calls Try.prog 21 #[v, .int .i64 k] w fun e w' => e = .returned (.int .i64 (k + n)) ∧ Kept w w' := by
  have hcell := fun g (hg : v.ownBlock = some g) => World.ownsRow.cells h (g := g) hg
  rcases h.2 with ⟨rfl, h0⟩ | ⟨g, cap, cur, rfl, hb, hg, hcap, hmax, hs, ht⟩
  · subst h0
    go_enter Try.func21, Try.ntmps21
    go_wp2
    refine wp_loop_rounds 1 ?_
    rw [rounds_succ]
    go_wp2
    go_ret
    exact ⟨ret_of (by simp), (by (try simp only [ext_ext]); repeat (first | exact Kept.refl _ | apply Kept.alloc | apply Kept.drew | apply kept_add | apply Kept.ext))⟩
  · have hgs := (Array.getElem?_eq_some_iff.1 hg).1
    have hcH := hid (hcell g rfl)
    clear hcell hs ht hmax hcap h hg
    go_enter Try.func21, Try.ntmps21
    go_wp2
    go_loopw [5, 1] (fun i s wr => ∃ m : Nat, m ≤ n ∧ i = .int .i64 m ∧ s = .int .i64 (k + m) ∧ Kept w wr) (fun i _ _ => n - (intOf i).toNat)
    case atStart => exact ⟨0, Nat.zero_le _, rfl, by simp, (by (try simp only [ext_ext]); repeat (first | exact Kept.refl _ | apply Kept.alloc | apply Kept.drew | apply kept_add | apply Kept.ext))⟩
    case round =>
      obtain ⟨m, hm, rfl, rfl, z, rfl⟩ := hrel
      by_cases hlt : m < n
      · have hc := hcH.out m (.int .i64 (k + (m : Nat))) (marks_get k hlt)
        rw [Addr.add_lit, Nat.zero_add] at hc
        go_wp2
        go_roundw
        case rel => exact ⟨m + 1, by omega, by go_num, by go_num, (by (try simp only [ext_ext]); repeat (first | exact Kept.refl _ | apply Kept.alloc | apply Kept.drew | apply kept_add | apply Kept.ext))⟩
        case measure => simp [intOf]; omega
      · obtain rfl : m = n := by omega
        go_wp2
        go_ret
        exact ⟨rfl, (by (try simp only [ext_ext]); repeat (first | exact Kept.refl _ | apply Kept.alloc | apply Kept.drew | apply kept_add | apply Kept.ext))⟩
end Go.Proofs.Ytjlaoocomkonhaa
namespace Go.Proofs.Ytjlaoocomkonhaa
open Go.RowKit
/-- All choices of m more of the last d places of n, behind some, in the order of the search. -/
def chF (n : Nat) : Nat → Nat → List Int → List (List Int)
  | _, 0, l => [l]
  | 0, _ + 1, _ => []
  | d + 1, m + 1, l => chF n d m (l ++ [((n - (d + 1) : Nat) : Int)]) ++ chF n d (m + 1) l
theorem chF_zero (n d : Nat) (l : List Int) : chF n d 0 l = [l] := by cases d <;> rfl
theorem chF_none (n m : Nat) (l : List Int) : chF n 0 (m + 1) l = [] := rfl
theorem chF_next (n d m : Nat) (l : List Int) : chF n (d + 1) (m + 1) l = chF n d m (l ++ [((n - (d + 1) : Nat) : Int)]) ++ chF n d (m + 1) l := rfl
theorem chF_at {n k : Nat} (hk : k < n) (m : Nat) (l : List Int) : chF n (n - k) (m + 1) l = chF n (n - (k + 1)) m (l ++ [(k : Int)]) ++ chF n (n - (k + 1)) (m + 1) l := by
  rw [show n - k = (n - (k + 1)) + 1 by omega, chF_next, show n - (n - (k + 1) + 1) = k by omega]
/-- Where the next place begins. -/
def fromL (l : List Int) : Nat := if l = [] then 0 else (ix l (l.length - 1) + 1).toNat
theorem fromL_app (l : List Int) (k : Nat) : fromL (l ++ [(k : Int)]) = k + 1 := by
  unfold fromL
  rw [if_neg (by simp)]
  have : ix (l ++ [(k : Int)]) ((l ++ [(k : Int)]).length - 1) = k := by simp [ix]
  rw [this]; omega
/-- All blocks but two stand; one of the two may have moved to new memory. -/
def Fr (c : Nat) (r r' : Option Nat) (w w' : World) : Prop :=
  w'.os = w.os ∧ w'.tape = w.tape ∧ w'.output = w.output ∧ w.heap.size ≤ w'.heap.size ∧ (∀ k, k < w.heap.size → k ≠ c → r ≠ some k → w'.heap[k]? = w.heap[k]?) ∧ (r' = r ∨ ∃ g, r' = some g ∧ w.heap.size ≤ g)
theorem Fr.trans {c : Nat} {r r' r'' : Option Nat} {w w' w'' : World} (h : Fr c r r' w w') (k : Fr c r' r'' w' w'') : Fr c r r'' w w'' := by
  obtain ⟨a1, a2, a3, a4, a5, a6⟩ := h
  obtain ⟨b1, b2, b3, b4, b5, b6⟩ := k
  refine ⟨b1.trans a1, b2.trans a2, b3.trans a3, by omega, fun k hk h1 h2 => ?_, ?_⟩
  · rw [b5 k (by omega) h1 ?_, a5 k hk h1 h2]
    rcases a6 with rfl | ⟨g, rfl, hg⟩
    · exact h2
    · intro e; cases e; omega
  · rcases b6 with rfl | ⟨g, rfl, hg⟩
    · exact a6
    · exact .inr ⟨g, rfl, by omega⟩
theorem Kept.fr {c : Nat} {r : Option Nat} {w w' : World} (h : Kept w w') : Fr c r r w w' := ⟨h.below.os, h.below.tape, h.below.output, h.below.size, fun k hk _ _ => h.below.block k hk, .inl rfl⟩
theorem Kept.of_fr {a w w' : World} {c : Nat} {r r' : Option Nat} (h : Kept a w) (hf : Fr c r r' w w') (hc : a.heap.size ≤ c) (hr : ∀ g, r = some g → a.heap.size ≤ g) : Kept a w' := by
  have hb := h.below
  obtain ⟨a1, a2, a3, a4, a5, _⟩ := hf
  refine .of_below ⟨a1.trans hb.os, a2.trans hb.tape, a3.trans hb.output, Nat.le_trans hb.size a4, fun k hk => ?_⟩
  rw [a5 k (Nat.lt_of_lt_of_le hk hb.size) (by omega) (fun e => by have := hr k e; omega)]
  exact hb.block k hk
/-- A slice that reads as numbers and lies in neither of two blocks. -/
def ListAt (c : Nat) (r : Option Nat) (w : World) (v : Value) (l : List Int) : Prop :=
  (v = .slice none 0 0 ∧ l = []) ∨ ∃ g off cap, v = .slice (some ⟨g, off, none⟩) l.length cap ∧ g ≠ c ∧ r ≠ some g ∧ g < w.heap.size ∧ IntsAt w (some ⟨g, off, none⟩) l ∧ l.length ≤ cap
theorem ints_block {w w' : World} {g off : Nat} {l : List Int} (h : IntsAt w (some ⟨g, off, none⟩) l) (hs : w.heap.size ≤ w'.heap.size) (hb : w'.heap[g]? = w.heap[g]?) : IntsAt w' (some ⟨g, off, none⟩) l := by
  intro i hi
  obtain ⟨g', off', he, hg, h1⟩ := h i hi
  cases he
  exact ⟨g, off, rfl, Nat.lt_of_lt_of_le hg hs, (cell_block hb _).trans h1⟩
theorem ListAt.fr {c : Nat} {r r' : Option Nat} {w w' : World} {v : Value} {l : List Int} (h : ListAt c r w v l) (hf : Fr c r r' w w') : ListAt c r' w' v l := by
  obtain ⟨_, _, _, a4, a5, a6⟩ := hf
  rcases h with h | ⟨g, off, cap, rfl, h1, h2, h3, h4, h5⟩
  · exact .inl h
  · refine .inr ⟨g, off, cap, rfl, h1, ?_, Nat.lt_of_lt_of_le h3 a4, ints_block h4 a4 (a5 g h3 h1 h2), h5⟩
    rcases a6 with rfl | ⟨q, rfl, hq⟩
    · exact h2
    · intro e; cases e; omega
theorem ListAt.kept {c : Nat} {r : Option Nat} {w w' : World} {v : Value} {l : List Int} (h : ListAt c r w v l) (hk : Kept w w') : ListAt c r w' v l := h.fr hk.fr
theorem ListAt.ints {c : Nat} {r : Option Nat} {w : World} {ao : Option Addr} {n cap : Nat} {l : List Int} (h : ListAt c r w (.slice ao n cap) l) : IntsAt w ao l := by
  rcases h with ⟨e, e2⟩ | ⟨g, off, cap', e, _, _, _, h3, _⟩
  · rw [e2]; exact fun i hi => by simp at hi
  · cases e; exact h3
theorem ListAt.form {c : Nat} {r : Option Nat} {w : World} {v : Value} {l : List Int} (h : ListAt c r w v l) : ∃ ao cap, v = .slice ao l.length cap ∧ l.length ≤ cap := by
  rcases h with ⟨rfl, rfl⟩ | ⟨g, off, cap, rfl, _, _, _, _, h5⟩
  · exact ⟨none, 0, rfl, Nat.le_refl _⟩
  · exact ⟨_, _, rfl, h5⟩
theorem OwnI.list {B c : Nat} {r : Option Nat} {w : World} {v : Value} {l : List Int} (h : OwnI B w v l) (hc : c < B) (hr : ∀ g, r = some g → g < B) : ListAt c r w v l := by
  obtain ⟨ao, cap, hv, hx, hl⟩ := h.reads
  rcases h.2 with ⟨rfl, h0⟩ | ⟨g, cap', cur, rfl, hb, hg, _⟩
  · exact .inl ⟨rfl, List.eq_nil_of_length_eq_zero h0⟩
  · cases hv
    exact .inr ⟨g, 0, _, rfl, by omega, fun e => by have := hr g e; omega, (Array.getElem?_eq_some_iff.1 hg).1, hx, hl⟩
theorem wpList_append_intF {ops : Array Oper} {rest : List Oper} {o : Oper} {a : Act} {Q : Exit → Act → World → Prop} {w : World} (hgd : o.guard = none) (s x : Operand)
    (ho : o.op = .call { callee := .builtin .append, args := #[s, x], argTypes := #[38, 38] }) (b : List Int) (n : Nat) (hn : b.length = n) (c : Nat) (r : Option Nat) (cp : Nat) (ao : Option Addr) (hp : ListAt c r w (.slice ao n cp) b) (hs : a.eval s = .slice ao n n)
    (g cap : Nat) (l : Int) (hx : a.eval x = .slice (some ⟨g, 0, none⟩) 1 cap) (hc : w.cell? ⟨g, 0, none⟩ = some (.int .i64 l)) (hl : b.length ≤ 1048576)
    (h : ∀ v' w', OwnI w.heap.size w' v' (b ++ [l]) → Kept w w' → wpList Try.prog ops Q rest (a.put o.dst v') w') : wpList Try.prog ops Q (o :: rest) a w := by
  obtain ⟨i, hi, hz, hsz, hb⟩ := info_parts info_i64
  subst hn
  refine wpList_append_grows w hgd s x 38 ho 3 i _ 1 8 Try.underlying38 hi hz hsz hb rfl (by decide) ao b.length b.length (vals1 b) hs ?_ (by simp [vals1]) ?_ ⟨g, 0, none⟩ 1 cap
    [.int .i64 l] hx rfl ?_ ?_ (by omega) (by unfold maxLen; omega) (by omega) ?_
  · intro e
    rcases hp with ⟨hv, hb0⟩ | ⟨g', off, cap', hv, _⟩
    · rw [hb0]; exact ⟨rfl, rfl⟩
    · rw [e] at hv; cases hv
  · intro bb e j u hj
    rcases hp with ⟨hv, hb0⟩ | ⟨g', off, cap', hv, _, _, _, hL, _⟩
    · rw [e] at hv; cases hv
    · rw [e] at hv; cases hv
      rw [Addr.add_lit]
      have hlt : j < b.length := by
        have := (List.getElem?_eq_some_iff.1 hj).1
        simpa [vals1] using this
      obtain ⟨_, _, he, _, h1⟩ := hL j hlt
      cases he
      rw [h1]
      rw [← hj, ix_get _ _ hlt]
      simp [vals1, hlt]
  · intro j u hj
    match j, hj with
    | 0, hj => simp at hj; subst hj; exact hc
    | j + 1, hj => simp at hj
  · intro u hu
    simp at hu
    rcases hu with rfl; rfl
  · intro v' w' hown hg
    refine h v' w' ?_ ((Kept.refl w).grown hg fun k hk => by cases hk)
    unfold OwnI
    rw [List.length_append]
    simpa [vals1] using hown
theorem pre_mem {α : Type} {h t : List α} {p : α} (hp : h ++ [p] <+: t) : p ∈ t := by
  obtain ⟨s, rfl⟩ := hp; simp
theorem pre_len {α : Type} {h t : List α} {p : α} (hp : h ++ [p] <+: t) : h.length < t.length := by
  obtain ⟨s, rfl⟩ := hp; simp
end Go.Proofs.Ytjlaoocomkonhaa
namespace Go.Proofs.Ytjlaoocomkonhaa
open Go.RowKit
theorem indexInts_any (ao : Option Addr) (cap : Nat) (xs : List Int) (v : Int) (w : World) (hx : IntsAt w ao xs) (hl : xs.length ≤ 1048576) :
    Calls Try.prog 76 #[.slice ao xs.length cap, .int .i64 v] w fun e w' => e = .returned (.int .i64 (idxOf (fun x => decide (x = v)) xs)) ∧ Kept w w' := by
  go_enter Try.func76, Try.ntmps76
  go_wp2
  go_loopw [8] (fun i wr => ∃ k : Nat, k ≤ xs.length ∧ i = .int .i64 k ∧ (∀ j, j < k → decide (ix xs j = v) = false) ∧ Kept w wr) (fun i _ => xs.length - (intOf i).toNat)
  case atStart => exact ⟨0, Nat.zero_le _, rfl, fun j hj => absurd hj (Nat.not_lt_zero _), (by (try simp only [ext_ext]); repeat (first | exact Kept.refl _ | apply Kept.alloc | apply Kept.drew | apply kept_add | apply Kept.ext))⟩
  case round =>
    obtain ⟨k, hk, rfl, hn, z, rfl⟩ := hrel
    have hnH := hid hn
    clear hn
    by_cases hlt : k < xs.length
    · obtain ⟨g, off, rfl, hg, h1⟩ := hx k hlt
      go_wp2_with (first | (refine wp_region_ext (by kernel_rfl) (by kernel_rfl) ?_; (repeat (go_big_quiet_step (fail))); refine wpQuiet_end fun z => ?_))
      · rename_i h
        go_ret
        exact ⟨ret_of (by rw [idxOf_some (d := 0) hlt (by first | exact decide_eq_true h.symm | exact decide_eq_true (of_decide_eq_true h).symm) hnH.out]; rfl), (by (try simp only [ext_ext]); repeat (first | exact Kept.refl _ | apply Kept.alloc | apply Kept.drew | apply kept_add | apply Kept.ext))⟩
      · rename_i h
        go_roundw
        case rel =>
          refine ⟨k + 1, hlt, by go_num, fun j hj => ?_, (by (try simp only [ext_ext]); repeat (first | exact Kept.refl _ | apply Kept.alloc | apply Kept.drew | apply kept_add | apply Kept.ext))⟩
          rcases Nat.lt_or_eq_of_le (Nat.le_of_lt_succ hj) with h' | rfl
          · exact hnH.out j h'
          · first | exact decide_eq_false (fun e => h e.symm) | exact decide_eq_false (fun e => of_decide_eq_false h e.symm)
        case measure => simp [intOf]; omega
    · go_wp2
      go_ret
      exact ⟨ret_of (by rw [idxOf_none (d := 0) fun j hj => hnH.out j (by omega)]; rfl), (by (try simp only [ext_ext]); repeat (first | exact Kept.refl _ | apply Kept.alloc | apply Kept.drew | apply kept_add | apply Kept.ext))⟩
theorem indexIntsN (ao : Option Addr) (cap n : Nat) (xs : List Int) (v : Int) (w : World) (hx : IntsAt w ao xs) (hl : xs.length = n) (hb : n ≤ 1048576) :
    Calls Try.prog 76 #[.slice ao n cap, .int .i64 v] w fun e w' => e = .returned (.int .i64 (idxOf (fun x => decide (x = v)) xs)) ∧ Kept w w' := by
  subst hl
  exact indexInts_any ao cap xs v w hx hb
theorem containsInts_any (ao : Option Addr) (cap : Nat) (xs : List Int) (v : Int) (w : World) (hx : IntsAt w ao xs) (hl : xs.length ≤ 1048576) :
    Calls Try.prog 67 #[.slice ao xs.length cap, .int .i64 v] w fun e w' => e = .returned (.bool (xs.any fun x => decide (x = v))) ∧ Kept w w' := by
  go_enter Try.func67, Try.ntmps67
  go_wp2_with (first | (go_at_call 76; refine Calls.mono (indexInts_any _ _ _ _ _ hx hl) ?_; rintro e w' ⟨rfl, y, rfl⟩))
  go_ret
  exact ⟨ret_of (congrArg Value.bool (idxOf_any _ _)), (by (try simp only [ext_ext]); repeat (first | exact Kept.refl _ | apply Kept.alloc | apply Kept.drew | apply kept_add | apply Kept.ext))⟩
theorem containsIntsN (ao : Option Addr) (cap n : Nat) (xs : List Int) (v : Int) (w : World) (hx : IntsAt w ao xs) (hl : xs.length = n) (hb : n ≤ 1048576) :
    Calls Try.prog 67 #[.slice ao n cap, .int .i64 v] w fun e w' => e = .returned (.bool (xs.any fun x => decide (x = v))) ∧ Kept w w' := by
  subst hl
  exact containsInts_any ao cap xs v w hx hb
end Go.Proofs.Ytjlaoocomkonhaa
