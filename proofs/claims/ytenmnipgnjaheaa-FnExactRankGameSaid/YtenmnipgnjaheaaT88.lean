/- Contracts: a game's players in order. -/
import Derived.Test.YtenmnipgnjaheaaT87
import Derived.Test.YtenmnipgnjaheaaT56
import Derived.Test.YtenmnipgnjaheaaT40
import Derived.Deep.RegionHeld3
import Derived.Deep.CutRange
namespace Go.Proofs.Ytenmnipgnjaheaa
open Go.RowKit
theorem intCell_new {w : World} {g : Nat} {t : TypeId} (c : Int) (h : g = w.heap.size) : (w.alloc (.cells #[.int .i64 c] t)).cell? ⟨g, 0, none⟩ = some (.int .i64 c) := by
  rw [cell_of_row _ g 0 _ t (0, 0) (heap_at h)]; rfl
theorem intCell_kept {w w' : World} {g : Nat} {v : Value} (h : w.cell? ⟨g, 0, none⟩ = some v) (hg : g < w.heap.size) (hk : Kept w w') : w'.cell? ⟨g, 0, none⟩ = some v := (hk.below.cell (p := ⟨g, 0, none⟩) hg).trans h
theorem vals1_one (zs : List Int) : ∀ u ∈ vals1 zs, u.oneCell' = true := fun u hu => by
  simp only [vals1, List.mem_map] at hu
  obtain ⟨x, _, rfl⟩ := hu
  rfl
theorem ints_cells_add {w : World} {ad : Addr} {cs : List Int} (h : IntsAt w (some ad) cs) {j : Nat} {u : Value} (hj : (vals1 cs)[j]? = some u) : w.cell? (ad.add j) = some u := by
  have hlt : j < cs.length := by
    have := (List.getElem?_eq_some_iff.1 hj).1
    simpa [vals1] using this
  obtain ⟨g, off, he, _, h1⟩ := h j hlt
  cases he
  rw [Addr.add_lit, h1, ← hj, ix_get _ _ hlt]
  simp [vals1, hlt]
theorem step_append_intsA {ops : Array Oper} {o : Oper} {a : Act} {K : Act → World → Prop} {Q : Exit → Act → World → Prop} {E : Prop} {w : World} (hgd : o.guard = none) (s x : Operand)
    (ho : o.op = .call { callee := .builtin .append, args := #[s, x], argTypes := #[33, 33] }) (W : World) (B : Nat) (v : Value) (cs : List Int) (hs : a.eval s = v) (hown : OwnI B w v cs) (hk : Kept W w) (hWB : W.heap.size ≤ B) (hBw : B ≤ w.heap.size)
    (ad : Addr) (m c : Nat) (ds : List Int) (hx : a.eval x = .slice (some ad) m c) (hm : ds.length = m) (hd : IntsAt w (some ad) ds) (hl : cs.length + m ≤ 1048576)
    (h : ∀ v' w', OwnI B w' v' (cs ++ ds) → Kept W w' → K (a.put o.dst v') w') : if Region.wanted o (yielded ops a.tmps) = true then Oper.wp Try.prog o a w K Q else E := by
  obtain ⟨i, hi, hz, hsz, hb⟩ := info_parts info_i64
  have hwt : Region.wanted o (yielded ops a.tmps) = true := by simp [Region.wanted, hgd]
  rw [if_pos hwt]
  obtain ⟨v', w', hr, hown', hg, _, _⟩ := run_append_own_at (P := Try.prog) w B 33 o.type 3 i _ 1 8 Try.underlying33 hi hz hsz hb rfl (by decide) v cs.length (vals1 cs) hown ad m c (vals1 ds) (by simp [vals1, hm]) (fun j u hj => ints_cells_add hd hj) (vals1_one ds) (by unfold maxLen; omega) (by omega) hBw
  unfold Oper.wp execOp
  simp only [ho, resolve, invoke, builtin, Sem.run_bind, Sem.run_pure, Result.andThen_ok, List.map_toArray, List.map_cons, List.map_nil, hs, hx, hr]
  refine h v' w' ?_ (hk.grown hg fun k hk => Nat.le_trans hWB (hown.lt k hk).1)
  have e : vals1 (cs ++ ds) = vals1 cs ++ vals1 ds := by simp [vals1]
  unfold OwnI
  rw [e, List.length_append, hm]
  exact hown'
theorem ints_dropA {w : World} {g off n cap : Nat} {cs : List Int} (h : IntsAt w (some ⟨g, off, none⟩) cs) (hn : cs.length = n) (hc : n ≤ cap) (k : Nat) : IntsAt w (if cap = k then some ⟨g, off, none⟩ else some ⟨g, off + k, none⟩) (cs.drop k) := by
  intro i hi
  rw [List.length_drop] at hi
  obtain ⟨_, _, he, hg, h1⟩ := h (k + i) (by omega)
  cases he
  rw [if_neg (by omega)]
  refine ⟨g, off + k, rfl, hg, ?_⟩
  rw [show off + k + i = off + (k + i) by omega]
  have e : ix (cs.drop k) i = ix cs (k + i) := by simp [ix]
  rw [e]; exact h1
theorem ints_takeA {w : World} {ao : Option Addr} {cs : List Int} (h : IntsAt w ao cs) (k : Nat) : IntsAt w ao (cs.take k) := by
  intro i hi
  rw [List.length_take] at hi
  obtain ⟨g, off, he, hg, h1⟩ := h i (by omega)
  refine ⟨g, off, he, hg, ?_⟩
  have e : ix (cs.take k) i = ix cs i := by
    rw [ix_get _ _ (by rw [List.length_take]; omega), ix_get _ _ (by omega)]; simp
  rw [e]; exact h1
def cfR (pts wr : List Int) (i j : Nat) : Int := orI (cmpI (ix pts j) (ix pts i)) (cmpI (ix wr i) (ix wr j))
theorem cfR_bet (pts wr : List Int) : (fun x y => decide (cfR pts wr x y < 0)) = betR pts wr := by
  funext x y
  unfold cfR betR
  rw [or_cmp]
theorem stableRank_any (g cap m : Nat) (pts wr : List Int) (pB gB : Nat) (w : World) (hrow : RowX w g cap (List.range m)) (hm : 1 ≤ m) (hm4 : m ≤ 4)
    (hcmp : ∀ w', w.grownBy w' (some g) → ∀ x y, x < m → y < m → Calls Try.prog 51 #[.int .i64 x, .int .i64 y, .pointer (some ⟨pB, 0, none⟩), .pointer (some ⟨gB, 0, none⟩)] w' fun e w'' => e = .returned (.int .i64 (cfR pts wr x y)) ∧ Kept w' w'') :
    Calls Try.prog 50 #[.slice (some ⟨g, 0, none⟩) m cap, .func (.func 51) #[] #[.pointer (some ⟨pB, 0, none⟩), .pointer (some ⟨gB, 0, none⟩)]] w fun e w' => e = .returned (.tuple #[]) ∧ RowX w' g cap (rkR (betR pts wr) m) ∧ w.grownBy w' (some g) := by
  have hI := hid (insRank_any g cap m (cfR pts wr) pB gB w hrow hm hm4 hcmp)
  rw [cfR_bet] at hI
  clear hrow hcmp
  have hS := hid (show Calls Try.prog 72 #[.slice (some ⟨g, 0, none⟩) m cap, .int .i64 m, .func (.func 51) #[] #[.pointer (some ⟨pB, 0, none⟩), .pointer (some ⟨gB, 0, none⟩)]] w fun e w' => e = .returned (.tuple #[]) ∧ RowX w' g cap (rkR (betR pts wr) m) ∧ w.grownBy w' (some g) by
    have h20 : ¬ (20 : Int) ≤ (m : Int) := by omega
    have h21 : ¬ (20 : Int) < (m : Int) := by omega
    go_enter Try.func72, Try.ntmps72
    go_wp2
    refine wp_loop_rounds 1 ?_
    rw [rounds_succ]
    go_wp2_with (fail)
    (go_at_call 90; refine Calls.mono (hI.out) ?_; rintro e w1 ⟨rfl, h1, g1⟩)
    go_wp2_with (fail)
    refine wp_loop_rounds 1 ?_
    rw [rounds_succ]
    go_wp2_with (fail)
    go_end0
    exact ⟨rfl, h1, g1⟩)
  clear hI
  go_enter Try.func50, Try.ntmps50
  go_wp2_with (fail)
  (go_at_call 72; refine Calls.mono (hS.out) ?_; rintro e w1 ⟨rfl, h1, g1⟩)
  go_wp2_with (fail)
  go_end0
  exact ⟨rfl, h1, g1⟩
end Go.Proofs.Ytenmnipgnjaheaa
