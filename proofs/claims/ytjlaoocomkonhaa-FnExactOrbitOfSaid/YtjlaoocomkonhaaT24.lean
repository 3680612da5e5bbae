/- Rows of numbers of the call's own: append, comparison, marks. -/
import Derived.Test.YtjlaoocomkonhaaT18
import Derived.Test.YtjlaoocomkonhaaT20
namespace Go.Proofs.Ytjlaoocomkonhaa
open Go.RowKit
abbrev vals1 (zs : List Int) : List Value := zs.map (Value.int .i64)
theorem info_i64 : (Try.prog.info? 3).map (fun i => (i.zero, i.size, i.bytes)) = some (some (.int .i64 0), 1, 8) := by kernel_rfl
/-- A slice of the call's own that holds numbers. -/
def OwnI (B : Nat) (w : World) (v : Value) (zs : List Int) : Prop := w.ownsRow B 3 1 v zs.length (vals1 zs)
theorem OwnI.kept {B : Nat} {w w' : World} {v : Value} {zs : List Int} (h : OwnI B w v zs) (hk : Kept w w') : OwnI B w' v zs := row_kept h hk
theorem OwnI.reads {B : Nat} {w : World} {v : Value} {zs : List Int} (h : OwnI B w v zs) : ∃ ao cap, v = .slice ao zs.length cap ∧ IntsAt w ao zs ∧ zs.length ≤ cap := by
  rcases h.2 with ⟨rfl, h0⟩ | ⟨g, cap, cur, rfl, hb, hg, hn, hm, hs, ht⟩
  · have : zs = [] := List.eq_nil_of_length_eq_zero h0
    subst this
    exact ⟨none, 0, rfl, fun i hi => by simp at hi, Nat.le_refl _⟩
  · refine ⟨_, cap, rfl, fun i hi => ⟨g, 0, rfl, (Array.getElem?_eq_some_iff.1 hg).1, ?_⟩, hn⟩
    have := World.ownsRow.cells h (g := g) rfl i (.int .i64 (ix zs i)) (by simp [ix, hi])
    rw [Addr.add_lit] at this
    exact this
theorem OwnI.mono {B B' : Nat} {w : World} {v : Value} {zs : List Int} (h : OwnI B w v zs) (hB : B' ≤ B) : OwnI B' w v zs := by
  rcases h.2 with h0 | ⟨g, cap, cur, h1, hb, h2⟩
  · exact ⟨h.1, .inl h0⟩
  · exact ⟨h.1, .inr ⟨g, cap, cur, h1, by omega, h2⟩⟩
theorem OwnI.grown {B : Nat} {w w' : World} {u : Value} {row : Option Nat} {zs : List Int} (h : OwnI B w u zs) (hg : w.grownBy w' row) (hn : ∀ g, u.ownBlock = some g → row ≠ some g) : OwnI B w' u zs := by
  refine World.ownsRow.kept h hg ?_
  cases hu : u.ownBlock with
  | none => exact .inl rfl
  | some g => exact .inr fun e => hn g hu e.symm
def RetI (W : World) (zs : List Int) (e : Ending) (w' : World) : Prop := ∃ v, e = .returned v ∧ OwnI W.heap.size w' v zs ∧ Kept W w'
def RetIT (W : World) (ok : Bool) (zs : List Int) (e : Ending) (w' : World) : Prop := ∃ v, e = .returned (.tuple #[v, .bool ok]) ∧ OwnI W.heap.size w' v zs ∧ Kept W w'
theorem ownI_none (B : Nat) (w : World) : OwnI B w (.slice none 0 0) [] := ⟨rfl, .inl ⟨rfl, rfl⟩⟩
theorem ownI_nil {B g : Nat} {w : World} (hB : B ≤ g) (h : w.heap[g]? = some (.cells #[] 3 (0, 0))) : OwnI B w (.slice (some ⟨g, 0, none⟩) 0 0) [] :=
  ⟨rfl, .inr ⟨g, 0, #[], rfl, hB, h, Nat.le_refl _, by unfold maxLen; omega, rfl, by simp⟩⟩
/-- A row aside of the one that grows. -/
def Aside (v u : Value) : Prop := ∀ g, u.ownBlock = some g → v.ownBlock ≠ some g
theorem wpList_append_int {ops : Array Oper} {rest : List Oper} {o : Oper} {a : Act} {Q : Exit → Act → World → Prop} {w : World} (hgd : o.guard = none) (s x : Operand)
    (ho : o.op = .call { callee := .builtin .append, args := #[s, x], argTypes := #[38, 38] }) (W : World) (B : Nat) (v : Value) (zs : List Int) (hs : a.eval s = v) (hown : OwnI B w v zs) (hk : Kept W w) (hWB : W.heap.size ≤ B) (hBw : B ≤ w.heap.size)
    (g cap : Nat) (c : Int) (hx : a.eval x = .slice (some ⟨g, 0, none⟩) 1 cap) (hc : w.cell? ⟨g, 0, none⟩ = some (.int .i64 c)) (hl : zs.length ≤ 1048576)
    (h : ∀ v' w', OwnI B w' v' (zs ++ [c]) → Kept W w' → w.grownBy w' v.ownBlock → (v'.ownBlock = v.ownBlock ∨ v'.ownBlock = some w.heap.size) → wpList Try.prog ops Q rest (a.put o.dst v') w') : wpList Try.prog ops Q (o :: rest) a w := by
  obtain ⟨i, hi, hz, hsz, hb⟩ := info_parts info_i64
  refine wpList_append_own_at w hgd s x 38 ho B 3 i _ 1 8 Try.underlying38 hi hz hsz hb rfl (by decide) v zs.length (vals1 zs) hs hown ⟨g, 0, none⟩ 1 cap
    [.int .i64 c] hx rfl ?_ ?_ (by unfold maxLen; omega) (by omega) hBw ?_
  · intro j u hj
    match j, hj with
    | 0, hj => simp at hj; subst hj; exact hc
    | j + 1, hj => simp at hj
  · intro u hu
    simp at hu
    rcases hu with rfl; rfl
  · intro v' w' hown' hg _ hat
    refine h v' w' ?_ (hk.grown hg fun k hk => Nat.le_trans hWB (hown.lt k hk).1) hg hat
    unfold OwnI
    rw [List.length_append, vals1, List.map_append]
    exact hown'
theorem eqI_any (v u : Value) (B B' : Nat) (zs : List Int) (w : World) (h : OwnI B w v zs) (h' : OwnI B' w u zs) (hl : zs.length ≤ 1048576) :
    Calls Try.prog 19 #[v, u] w fun e w' => e = .returned (.bool true) ∧ Kept w w' := by
  obtain ⟨ao, cap, rfl, hx, _⟩ := h.reads
  obtain ⟨bo, cap', rfl, hy, _⟩ := h'.reads
  clear h h'
  go_enter Try.func19, Try.ntmps19
  go_wp2
  go_loopw [5] (fun i wr => ∃ k : Nat, k ≤ zs.length ∧ i = .int .i64 k ∧ Kept w wr) (fun i _ => zs.length - (intOf i).toNat)
  case atStart => exact ⟨0, Nat.zero_le _, rfl, (by (try simp only [ext_ext]); repeat (first | exact Kept.refl _ | apply Kept.alloc | apply Kept.drew | apply kept_add | apply Kept.ext))⟩
  case round =>
    obtain ⟨k, hk, rfl, z, rfl⟩ := hrel
    by_cases hlt : k < zs.length
    · obtain ⟨g, off, rfl, hg, h1⟩ := hx k hlt
      obtain ⟨g', off', rfl, hg', p1⟩ := hy k hlt
      go_wp2_with (first | (refine wp_region_ext (by kernel_rfl) (by kernel_rfl) ?_; (repeat (go_big_quiet_step (fail))); refine wpQuiet_end fun z => ?_))
      go_roundw
      case rel => exact ⟨k + 1, hlt, by go_num, (by (try simp only [ext_ext]); repeat (first | exact Kept.refl _ | apply Kept.alloc | apply Kept.drew | apply kept_add | apply Kept.ext))⟩
      case measure => simp [intOf]; omega
    · obtain rfl : k = zs.length := by omega
      go_wp2
      go_ret
      exact ⟨rfl, (by (try simp only [ext_ext]); repeat (first | exact Kept.refl _ | apply Kept.alloc | apply Kept.drew | apply kept_add | apply Kept.ext))⟩
theorem markIntS_any (v : Value) (n : Nat) (cells : List Value) (B : Nat) (k : Int) (w : World) (h : w.ownsRow B 3 1 v n cells) (hn : n ≤ 1048576) (hk : 0 ≤ k) (hk' : k ≤ 10) :
    Calls Try.prog 20 #[v, .int .i64 k] w fun e w' => e = .returned (.int .i64 (k + n)) ∧ w'.ownsRow B 3 1 v n (marks k n) ∧ w.grownBy w' v.ownBlock := by
  rcases h.2 with ⟨rfl, h0⟩ | ⟨g, cap, cur, rfl, hb, hg, hcap, hmax, hs, ht⟩
  · subst h0
    go_enter Try.func20, Try.ntmps20
    go_wp2
    refine wp_loop_rounds 1 ?_
    rw [rounds_succ]
    go_wp2
    go_ret
    exact ⟨ret_of (by simp), ⟨by simp [marks], .inl ⟨rfl, rfl⟩⟩, grown_refl _ _⟩
  · have hgs := (Array.getElem?_eq_some_iff.1 hg).1
    have hs' : n ≤ cur.size := by omega
    have hown := hid (show ∀ wr : World, wr.heap[g]? = some (.cells (mkd k cur n) 3) → wr.ownsRow B 3 1 (.slice (some ⟨g, 0, none⟩) n cap) n (marks k n) from fun wr hw => ⟨by simp [marks], .inr ⟨g, cap, _, rfl, hb, hw, hcap, hmax, by rw [mkd_size _ _ hs', hs], by rw [Nat.mul_one]; exact mkd_take _ _ _⟩⟩)
    have hsH := hid hs'
    clear hs ht hmax hcap hs'
    go_enter Try.func20, Try.ntmps20
    go_wp2
    go_loopw [5, 1] (fun i s wr => ∃ m : Nat, m ≤ n ∧ i = .int .i64 m ∧ s = .int .i64 (k + m) ∧ wr.heap[g]? = some (.cells (mkd k cur m) 3) ∧ w.grownBy wr (some g)) (fun i _ _ => n - (intOf i).toNat)
    case atStart => exact ⟨0, Nat.zero_le _, rfl, by simp, by rw [mkd_zero]; exact hg, grown_refl _ _⟩
    case round wr =>
      obtain ⟨m, hm, rfl, rfl, hw, hgr⟩ := hrel
      by_cases hlt : m < n
      · have hwH := hid hw
        have hgrH := hid hgr
        have hlen := hid (show m < cur.size by have := hsH.out; omega)
        obtain ⟨v0, hv0⟩ := mkd_some k (cur := cur) (t := m) hlen.out
        have hc := (cell_of_row _ g m _ _ (0, 0) hw).trans hv0
        have hf := frozen_of_row _ g m _ _ hw
        have hset := hid (mkd_set k (cur := cur) (t := m) hlen.out)
        clear hw hgr hv0
        go_wp2
        go_roundw
        case rel =>
          refine ⟨m + 1, by omega, by go_num, by go_num, ?_, ?_⟩
          · rw [heap_setCell_same _ _ _ _ _ _ hwH.out]
            exact congrArg (fun c => some (Obj.cells c 3 (0, 0))) hset.out
          · exact grown_setCell hgrH.out (p := ⟨g, _, none⟩) rfl _
        case measure => simp [intOf]; omega
      · obtain rfl : m = n := by omega
        go_wp2
        go_ret
        exact ⟨rfl, hown.out _ hw, hgr⟩
theorem heldIntS_any (v : Value) (n : Nat) (B : Nat) (k : Int) (w : World) (h : w.ownsRow B 3 1 v n (marks k n)) (hn : n ≤ 1048576) (hk : 0 ≤ k) (hk' : k ≤ 10) :
    Calls Try.prog 21 #[v, .int .i64 k] w fun e w' => e = .returned (.int .i64 (k + n)) ∧ Kept w w' := by
  have hcell := fun g (hg : v.ownBlock = some g) => World.ownsRow.cells h (g := g) hg
  rcases h.2 with ⟨rfl, h0⟩ | ⟨g, cap, cur, rfl, hb, hg, hcap, hmax, hs, ht⟩
  · subst h0
    go_enter Try.func21, Try.ntmps21
    go_wp2
    refine wp_loop_rounds 1 ?_
    rw [rounds_succ]
    go_wp2
    go_ret
    exact ⟨ret_of (by simp), (by (try simp only [ext_ext]); repeat (first | exact Kept.refl _ | apply Kept.alloc | apply Kept.drew | apply kept_add | apply Kept.ext))⟩
  · have hgs := (Array.getElem?_eq_some_iff.1 hg).1
    have hcH := hid (hcell g rfl)
    clear hcell hs ht hmax hcap h hg
    go_enter Try.func21, Try.ntmps21
    go_wp2
    go_loopw [5, 1] (fun i s wr => ∃ m : Nat, m ≤ n ∧ i = .int .i64 m ∧ s = .int .i64 (k + m) ∧ Kept w wr) (fun i _ _ => n - (intOf i).toNat)
    case atStart => exact ⟨0, Nat.zero_le _, rfl, by simp, (by (try simp only [ext_ext]); repeat (first | exact Kept.refl _ | apply Kept.alloc | apply Kept.drew | apply kept_add | apply Kept.ext))⟩
    case round =>
      obtain ⟨m, hm, rfl, rfl, z, rfl⟩ := hrel
      by_cases hlt : m < n
      · have hc := hcH.out m (.int .i64 (k + (m : Nat))) (marks_get k hlt)
        rw [Addr.add_lit, Nat.zero_add] at hc
        go_wp2
        go_roundw
        case rel => exact ⟨m + 1, by omega, by go_num, by go_num, (by (try simp only [ext_ext]); repeat (first | exact Kept.refl _ | apply Kept.alloc | apply Kept.drew | apply kept_add | apply Kept.ext))⟩
        case measure => simp [intOf]; omega
      · obtain rfl : m = n := by omega
        go_wp2
        go_ret
        exact ⟨rfl, (by (try simp only [ext_ext]); repeat (first | exact Kept.refl _ | apply Kept.alloc | apply Kept.drew | apply kept_add | apply Kept.ext))⟩
end Go.Proofs.Ytjlaoocomkonhaa
