/- Rows of numbers of the call's own: append, comparison, marks. -/
import Derived.Test.YtmdnnejaipdkhaaT18
import Derived.Test.YtmdnnejaipdkhaaT20
namespace Go.Proofs.Ytmdnnejaipdkhaa
open Go.RowKit
abbrev vals1 (zs : List Int) : List Value := zs.map (Value.int .i64)
theorem info_i64 : (Try.prog.info? 3).map (fun i => (i.zero, i.size, i.bytes)) = some (some (.int .i64 0), 1, 8) := by kernel_rfl
/-- A slice of the call's own that holds numbers. -/
def OwnI (B : Nat) (w : World) (v : Value) (zs : List Int) : Prop := w.ownsRow B 3 1 v zs.length (vals1 zs)
theorem OwnI.kept {B : Nat} {w w' : World} {v : Value} {zs : List Int} (h : OwnI B w v zs) (hk : Kept w w') : OwnI B w' v zs := row_kept h hk
theorem OwnI.reads {B : Nat} {w : World} {v : Value} {zs : List Int} (h : OwnI B w v zs) : ∃ ao cap, v = .slice ao zs.length cap ∧ IntsAt w ao zs ∧ zs.length ≤ cap := by
  rcases h.2 with ⟨rfl, h0⟩ | ⟨g, cap, cur, rfl, hb, hg, hn, hm, hs, ht⟩
  · have : zs = [] := List.eq_nil_of_length_eq_zero h0
    subst this
    exact ⟨none, 0, rfl, fun i hi => by simp at hi, Nat.le_refl _⟩
  · refine ⟨_, cap, rfl, fun i hi => ⟨g, 0, rfl, (Array.getElem?_eq_some_iff.1 hg).1, ?_⟩, hn⟩
    have := World.ownsRow.cells h (g := g) rfl i (.int .i64 (ix zs i)) (by simp [ix, hi])
    rw [Addr.add_lit] at this
    exact this
theorem OwnI.mono {B B' : Nat} {w : World} {v : Value} {zs : List Int} (h : OwnI B w v zs) (hB : B' ≤ B) : OwnI B' w v zs := by
  rcases h.2 with h0 | ⟨g, cap, cur, h1, hb, h2⟩
  · exact ⟨h.1, .inl h0⟩
  · exact ⟨h.1, .inr ⟨g, cap, cur, h1, by omega, h2⟩⟩
theorem OwnI.grown {B : Nat} {w w' : World} {u : Value} {row : Option Nat} {zs : List Int} (h : OwnI B w u zs) (hg : w.grownBy w' row) (hn : ∀ g, u.ownBlock = some g → row ≠ some g) : OwnI B w' u zs := by
  refine World.ownsRow.kept h hg ?_
  cases hu : u.ownBlock with
  | none => exact .inl rfl
  | some g => exact .inr fun e => hn g hu e.symm
def RetI (W : World) (zs : List Int) (e : Ending) (w' : World) : Prop := ∃ v, e = .returned v ∧ OwnI W.heap.size w' v zs ∧ Kept W w'
def RetIT (W : World) (ok : Bool) (zs : List Int) (e : Ending) (w' : World) : Prop := ∃ v, e = .returned (.tuple #[v, .bool ok]) ∧ OwnI W.heap.size w' v zs ∧ Kept W w'
theorem ownI_none (B : Nat) (w : World) : OwnI B w (.slice none 0 0) [] := ⟨rfl, .inl ⟨rfl, rfl⟩⟩
theorem ownI_nil {B g : Nat} {w : World} (hB : B ≤ g) (h : w.heap[g]? = some (.cells #[] 3 (0, 0))) : OwnI B w (.slice (some ⟨g, 0, none⟩) 0 0) [] :=
  ⟨rfl, .inr ⟨g, 0, #[], rfl, hB, h, Nat.le_refl _, by unfold maxLen; omega, rfl, by simp⟩⟩
/-- A row aside of the one that grows. -/
def Aside (v u : Value) : Prop := ∀ g, u.ownBlock = some g → v.ownBlock ≠ some g
theorem wpList_append_int {ops : Array Oper} {rest : List Oper} {o : Oper} {a : Act} {Q : Exit → Act → World → Prop} {w : World} (hgd : o.guard = none) (s x : Operand)
    (ho : o.op = .call { callee := .builtin .append, args := #[s, x], argTypes := #[41, 41] }) (W : World) (B : Nat) (v : Value) (zs : List Int) (hs : a.eval s = v) (hown : OwnI B w v zs) (hk : Kept W w) (hWB : W.heap.size ≤ B) (hBw : B ≤ w.heap.size)
    (g cap : Nat) (c : Int) (hx : a.eval x = .slice (some ⟨g, 0, none⟩) 1 cap) (hc : w.cell? ⟨g, 0, none⟩ = some (.int .i64 c)) (hl : zs.length ≤ 1048576)
    (h : ∀ v' w', OwnI B w' v' (zs ++ [c]) → Kept W w' → w.grownBy w' v.ownBlock → (v'.ownBlock = v.ownBlock ∨ v'.ownBlock = some w.heap.size) → wpList Try.prog ops Q rest (a.put o.dst v') w') : wpList Try.prog ops Q (o :: rest) a w := by
  obtain ⟨i, hi, hz, hsz, hb⟩ := info_parts info_i64
  refine wpList_append_own_at w hgd s x 41 ho B 3 i _ 1 8 Try.underlying41 hi hz hsz hb rfl (by decide) v zs.length (vals1 zs) hs hown ⟨g, 0, none⟩ 1 cap
    [.int .i64 c] hx rfl ?_ ?_ (by unfold maxLen; omega) (by omega) hBw ?_
  · intro j u hj
    match j, hj with
    | 0, hj => simp at hj; subst hj; exact hc
    | j + 1, hj => simp at hj
  · intro u hu
    simp at hu
    rcases hu with rfl; rfl
  · intro v' w' hown' hg _ hat
    refine h v' w' ?_ (hk.grown hg fun k hk => Nat.le_trans hWB (hown.lt k hk).1) hg hat
    unfold OwnI
    rw [List.length_append, vals1, List.map_append]
    exact hown'
end Go.Proofs.Ytmdnnejaipdkhaa
