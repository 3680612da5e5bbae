/- Contracts: the reference's list of all choices. -/
import Derived.Test.YtinoohckfhhbfaaT64
namespace Go.Proofs.Ytinoohckfhhbfaa
open Go.RowKit
theorem info_li : (Try.prog.info? 38).map (fun i => (i.zero, i.size, i.bytes)) = some (some (.slice none 0 0), 1, 24) := by kernel_rfl
/-- A slice of numbers that lies in a block of its own kind. -/
def EI (w : World) (v : Value) (l : List Int) : Prop := ∃ g cap cur, v = .slice (some ⟨g, 0, none⟩) l.length cap ∧ w.heap[g]? = some (.cells cur 3 (0, 0)) ∧ cur.toList.take l.length = vals1 l ∧ l.length ≤ cap
theorem EI.kept {w w' : World} {v : Value} {l : List Int} (h : EI w v l) (hk : Kept w w') : EI w' v l := by
  obtain ⟨g, cap, cur, h1, h2, h3⟩ := h
  exact ⟨g, cap, cur, h1, (hk.below.block g (Array.getElem?_eq_some_iff.1 h2).1).trans h2, h3⟩
theorem EI.grown {w w' : World} {v : Value} {l : List Int} {r : Option Nat} (h : EI w v l) (hg : w.grownBy w' r) (hr : ∀ g, r = some g → ∃ cur, w.heap[g]? = some (.cells cur 38 (0, 0))) : EI w' v l := by
  obtain ⟨g, cap, cur, h1, h2, h3⟩ := h
  refine ⟨g, cap, cur, h1, (hg.block g (Array.getElem?_eq_some_iff.1 h2).1 fun e => ?_).trans h2, h3⟩
  obtain ⟨cur', h4⟩ := hr g e.symm
  rw [h2] at h4
  simp at h4
theorem EI.ints {w : World} {v : Value} {l : List Int} (h : EI w v l) : ∃ g cap, v = .slice (some ⟨g, 0, none⟩) l.length cap ∧ g < w.heap.size ∧ IntsAt w (some ⟨g, 0, none⟩) l := by
  obtain ⟨g, cap, cur, h1, h2, h3, _⟩ := h
  refine ⟨g, cap, h1, (Array.getElem?_eq_some_iff.1 h2).1, fun i hi => ⟨g, 0, rfl, (Array.getElem?_eq_some_iff.1 h2).1, ?_⟩⟩
  rw [Nat.zero_add, cell_of_row w g i _ _ (0, 0) h2]
  have h4 : (vals1 l)[i]? = some (.int .i64 (ix l i)) := by simp [vals1, ix, hi]
  rw [← h3] at h4
  rw [List.getElem?_take, if_pos hi] at h4
  simpa using h4
theorem OwnI.ei {B : Nat} {w : World} {v : Value} {l : List Int} (h : OwnI B w v l) (hn : v ≠ .slice none 0 0) : EI w v l := by
  rcases h.2 with ⟨e, _⟩ | ⟨g, cap, cur, e, hb, hg, hc, hm, hs, ht⟩
  · exact absurd e hn
  · exact ⟨g, cap, cur, e, hg, by simpa using ht, hc⟩
def lz (ll : List (List Int)) (i : Nat) : List Int := ll.getD i []
/-- A slice of the call's own that holds slices of numbers. -/
def OwnR (B : Nat) (w : World) (v : Value) (ll : List (List Int)) : Prop := ∃ vs : List Value, w.ownsRow B 38 1 v ll.length vs ∧ vs.length = ll.length ∧ ∀ i, i < ll.length → ∃ u, vs[i]? = some u ∧ EI w u (lz ll i)
theorem OwnR.kept {B : Nat} {w w' : World} {v : Value} {ll : List (List Int)} (h : OwnR B w v ll) (hk : Kept w w') : OwnR B w' v ll := by
  obtain ⟨vs, h1, h2, h3⟩ := h
  refine ⟨vs, row_kept h1 hk, h2, fun i hi => ?_⟩
  obtain ⟨u, hu, he⟩ := h3 i hi
  exact ⟨u, hu, he.kept hk⟩
theorem OwnR.mono {B B' : Nat} {w : World} {v : Value} {ll : List (List Int)} (h : OwnR B w v ll) (hB : B' ≤ B) : OwnR B' w v ll := by
  obtain ⟨vs, h, h2⟩ := h
  rcases h.2 with h0 | ⟨g, cap, cur, h1, hb, h3⟩
  · exact ⟨vs, ⟨h.1, .inl h0⟩, h2⟩
  · exact ⟨vs, ⟨h.1, .inr ⟨g, cap, cur, h1, by omega, h3⟩⟩, h2⟩
theorem OwnR.lt {B : Nat} {w : World} {v : Value} {ll : List (List Int)} (h : OwnR B w v ll) (g : Nat) (hg : v.ownBlock = some g) : B ≤ g ∧ g < w.heap.size := by
  obtain ⟨vs, h1, _⟩ := h
  exact h1.lt g hg
theorem OwnR.row {B : Nat} {w : World} {v : Value} {ll : List (List Int)} (h : OwnR B w v ll) (g : Nat) (hg : v.ownBlock = some g) : ∃ cur, w.heap[g]? = some (.cells cur 38 (0, 0)) := by
  obtain ⟨vs, h1, _⟩ := h
  rcases h1.2 with ⟨e, _⟩ | ⟨g', cap, cur, e, hb, hh, _⟩
  · rw [e] at hg; cases hg
  · rw [e] at hg
    cases hg
    exact ⟨cur, hh⟩
theorem OwnR.reads {B : Nat} {w : World} {v : Value} {ll : List (List Int)} (h : OwnR B w v ll) : ∃ ao cap, v = .slice ao ll.length cap ∧ ll.length ≤ cap ∧ ∀ i, i < ll.length → ∃ g u, ao = some ⟨g, 0, none⟩ ∧ g < w.heap.size ∧ w.cell? ⟨g, i, none⟩ = some u ∧ EI w u (lz ll i) := by
  obtain ⟨vs, h1, h2, h3⟩ := h
  rcases h1.2 with ⟨rfl, h0⟩ | ⟨g, cap, cur, rfl, hb, hg, hn, hm, hs, ht⟩
  · exact ⟨none, 0, by rw [h0], by omega, fun i hi => by omega⟩
  · refine ⟨_, cap, rfl, hn, fun i hi => ?_⟩
    obtain ⟨u, hu, he⟩ := h3 i hi
    have := World.ownsRow.cells h1 (g := g) rfl i u hu
    rw [Addr.add_lit, Nat.zero_add] at this
    exact ⟨g, u, rfl, (Array.getElem?_eq_some_iff.1 hg).1, this, he⟩
theorem ownR_nil {B g : Nat} {w : World} (hB : B ≤ g) (h : w.heap[g]? = some (.cells #[] 38 (0, 0))) : OwnR B w (.slice (some ⟨g, 0, none⟩) 0 0) [] :=
  ⟨[], ⟨rfl, .inr ⟨g, 0, #[], rfl, hB, h, Nat.le_refl _, by unfold maxLen; omega, rfl, by simp⟩⟩, rfl, fun i hi => by simp at hi⟩
theorem ownR_one {B g : Nat} {w : World} {u : Value} {l : List Int} (hB : B ≤ g) (h : w.heap[g]? = some (.cells #[u] 38 (0, 0))) (he : EI w u l) : OwnR B w (.slice (some ⟨g, 0, none⟩) 1 1) [l] :=
  ⟨[u], ⟨rfl, .inr ⟨g, 1, #[u], rfl, hB, h, Nat.le_refl _, by unfold maxLen; omega, rfl, by simp⟩⟩, rfl, fun i hi => by
    obtain rfl : i = 0 := by simp at hi; omega
    exact ⟨u, rfl, he⟩⟩
def RetR (W : World) (ll : List (List Int)) (e : Ending) (w' : World) : Prop := ∃ v, e = .returned v ∧ OwnR W.heap.size w' v ll ∧ v ≠ .slice none 0 0 ∧ Kept W w'
theorem wpList_append_rows {ops : Array Oper} {rest : List Oper} {o : Oper} {a : Act} {Q : Exit → Act → World → Prop} {w : World} (hgd : o.guard = none) (s x : Operand)
    (ho : o.op = .call { callee := .builtin .append, args := #[s, x], argTypes := #[84, 84] }) (W : World) (B : Nat) (v : Value) (ll : List (List Int)) (hs : a.eval s = v) (hown : OwnR B w v ll) (hk : Kept W w) (hWB : W.heap.size ≤ B) (hBw : B ≤ w.heap.size)
    (B' : Nat) (v2 : Value) (l2 : List (List Int)) (hx : a.eval x = v2) (hown2 : OwnR B' w v2 l2) (hnn : v2 ≠ .slice none 0 0) (hv : v ≠ .slice none 0 0) (hl : ll.length + l2.length ≤ 1048576)
    (h : ∀ v' w', OwnR B w' v' (ll ++ l2) → v' ≠ .slice none 0 0 → Kept W w' → wpList Try.prog ops Q rest (a.put o.dst v') w') : wpList Try.prog ops Q (o :: rest) a w := by
  obtain ⟨i, hi, hz, hsz, hb⟩ := info_parts info_li
  have hrow := fun g hg => hown.row g hg
  obtain ⟨vs, h1, h2, h3⟩ := hown
  obtain ⟨us, q1, q2, q3⟩ := hown2
  obtain ⟨g2, cap2, rfl⟩ : ∃ g2 cap2, v2 = .slice (some ⟨g2, 0, none⟩) l2.length cap2 := by
    rcases q1.2 with ⟨e, _⟩ | ⟨g', cap, cur, e, _⟩
    · exact absurd e hnn
    · exact ⟨g', cap, e⟩
  refine wpList_append_own_at w hgd s x 84 ho B 38 i _ 1 24 Try.underlying84 hi hz hsz hb rfl (by decide) v ll.length vs hs h1 ⟨g2, 0, none⟩ l2.length cap2
    us hx (by rw [q2, Nat.mul_one]) (fun j u hj => World.ownsRow.cells q1 (g := g2) rfl j u hj) ?_ (by unfold maxLen; omega) (by omega) hBw ?_
  · intro u hu
    obtain ⟨j, hj, rfl⟩ := List.getElem_of_mem hu
    obtain ⟨u', hu', g, cap, cur, e, _⟩ := q3 j (by omega)
    rw [List.getElem?_eq_getElem hj] at hu'
    rw [Option.some.inj hu', e]
    rfl
  · intro v' w' hown' hg hnil _
    refine h v' w' ⟨vs ++ us, by rw [List.length_append]; exact hown', by rw [List.length_append, List.length_append, h2, q2], fun j hj => ?_⟩ (fun e => hv (hnil.1 e).1) (hk.grown hg fun k hk => Nat.le_trans hWB (h1.lt k hk).1)
    by_cases hlt : j < ll.length
    · obtain ⟨u, hu, he⟩ := h3 j hlt
      refine ⟨u, by rw [List.getElem?_append_left (by omega)]; exact hu, ?_⟩
      have e : lz (ll ++ l2) j = lz ll j := by simp [lz, List.getD, List.getElem?_append_left hlt]
      rw [e]; exact he.grown hg hrow
    · rw [List.length_append] at hj
      obtain ⟨u, hu, he⟩ := q3 (j - ll.length) (by omega)
      refine ⟨u, by rw [List.getElem?_append_right (by omega), h2]; exact hu, ?_⟩
      have e : lz (ll ++ l2) j = lz l2 (j - ll.length) := by simp [lz, List.getD, List.getElem?_append_right (Nat.le_of_not_lt hlt)]
      rw [e]; exact he.grown hg hrow
end Go.Proofs.Ytinoohckfhhbfaa
