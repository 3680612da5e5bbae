/- Rows of maps of the call's own; what all maps are. Contracts: the visits that try all maps of one order of the traits: the walk. -/
import Derived.Test.YtjlaoocomkonhaaQ17
import Derived.Test.YtjlaoocomkonhaaQ08
import Derived.Test.YtjlaoocomkonhaaQ10
import Derived.Test.YtjlaoocomkonhaaQ18
namespace Go.Proofs.Ytjlaoocomkonhaa
open Go.RowKit
abbrev TM : TypeId := 35
theorem info_mp : (Try.prog.info? 35).map (fun i => (i.zero, i.size, i.bytes)) = some (some (mpv fun _ => 0), 16, 128) := by kernel_rfl
/-- A map's sixteen numbers as cells. -/
def mvals (f : Nat → Int) : List Value := (List.range 16).map fun j => Value.int .i64 (f j)
theorem mvals_len (f : Nat → Int) : (mvals f).length = 16 := by simp [mvals]
theorem mvals_get (f : Nat → Int) {j : Nat} (h : j < 16) : (mvals f)[j]? = some (.int .i64 (f j)) := by simp [mvals, h]
theorem mvals_one (f : Nat → Int) : ∀ u ∈ mvals f, u.oneCell' = true := fun u hu => by
  obtain ⟨z, _, rfl⟩ := List.mem_map.1 hu
  rfl
def cells16 (fs : List (Nat → Int)) : List Value := fs.flatMap mvals
theorem cells16_get (fs : List (Nat → Int)) (i j : Nat) (h : i < fs.length) (hj : j < 16) : (cells16 fs)[i * 16 + j]? = some (.int .i64 ((fs.getD i fun _ => 0) j)) := by
  induction fs generalizing i with
  | nil => simp at h
  | cons x fs ih =>
    have e : cells16 (x :: fs) = mvals x ++ cells16 fs := rfl
    cases i with
    | zero => rw [e, Nat.zero_mul, Nat.zero_add, List.getElem?_append_left (by rw [mvals_len]; exact hj), mvals_get _ hj]; rfl
    | succ i =>
      have h' := ih i (by simpa using h)
      rw [e, List.getElem?_append_right (by rw [mvals_len]; omega), mvals_len, show (i + 1) * 16 + j - 16 = i * 16 + j by omega, h']
      simp
/-- A slice of the call's own that holds maps. -/
def OwnM (B : Nat) (w : World) (v : Value) (fs : List (Nat → Int)) : Prop := w.ownsRow B TM 16 v fs.length (cells16 fs)
def fx (fs : List (Nat → Int)) (i : Nat) : Nat → Int := fs.getD i fun _ => 0
theorem OwnM.kept {B : Nat} {w w' : World} {v : Value} {fs : List (Nat → Int)} (h : OwnM B w v fs) (hk : Kept w w') : OwnM B w' v fs :=
  World.ownsRow.kept h ⟨hk.below.os, hk.below.tape, hk.below.output, hk.below.size, fun k hk' _ => hk.below.block k hk'⟩ (by cases v.ownBlock <;> simp) (row := none)
theorem OwnM.grown {B : Nat} {w w' : World} {u : Value} {row : Option Nat} {fs : List (Nat → Int)} (h : OwnM B w u fs) (hg : w.grownBy w' row) (hn : ∀ g, u.ownBlock = some g → row ≠ some g) : OwnM B w' u fs := by
  refine World.ownsRow.kept h hg ?_
  cases hu : u.ownBlock with
  | none => exact .inl rfl
  | some g => exact .inr fun e => hn g hu e.symm
theorem OwnM.lt {B : Nat} {w : World} {v : Value} {fs : List (Nat → Int)} (h : OwnM B w v fs) (g : Nat) (hg : v.ownBlock = some g) : B ≤ g ∧ g < w.heap.size := World.ownsRow.lt h g hg
theorem OwnM.row {B : Nat} {w : World} {v : Value} {fs : List (Nat → Int)} (h : OwnM B w v fs) (g : Nat) (hg : v.ownBlock = some g) : ∃ cur, w.heap[g]? = some (.cells cur TM (0, 0)) := by
  rcases h.2 with ⟨e, _⟩ | ⟨g', cap, cur, e, hb, hh, _⟩
  · rw [e] at hg; cases hg
  · rw [e] at hg
    cases hg
    exact ⟨cur, hh⟩
/-- A slice's address reads as these maps. -/
def MapsAt (w : World) (ao : Option Addr) (fs : List (Nat → Int)) : Prop :=
  ∀ i, i < fs.length → ∃ g, ao = some ⟨g, 0, none⟩ ∧ g < w.heap.size ∧ ∀ j, j < 16 → w.cell? ⟨g, i * 16 + j, none⟩ = some (.int .i64 (fx fs i j))
theorem MapsAt.kept {w w' : World} {ao : Option Addr} {fs : List (Nat → Int)} (h : MapsAt w ao fs) (hk : Kept w w') : MapsAt w' ao fs := by
  have hb := hk.below
  intro i hi
  obtain ⟨g, ha, hg, h1⟩ := h i hi
  exact ⟨g, ha, Nat.lt_of_lt_of_le hg hb.size, fun j hj => (hb.cell (p := ⟨_, _, none⟩) hg).trans (h1 j hj)⟩
theorem OwnM.reads {B : Nat} {w : World} {v : Value} {fs : List (Nat → Int)} (h : OwnM B w v fs) : ∃ ao cap, v = .slice ao fs.length cap ∧ MapsAt w ao fs ∧ fs.length ≤ cap := by
  rcases h.2 with ⟨rfl, h0⟩ | ⟨g, cap, cur, rfl, hb, hg, hn, hm, hs, ht⟩
  · have : fs = [] := List.eq_nil_of_length_eq_zero h0
    subst this
    exact ⟨none, 0, rfl, fun i hi => by simp at hi, Nat.le_refl _⟩
  · refine ⟨_, cap, rfl, fun i hi => ⟨g, rfl, (Array.getElem?_eq_some_iff.1 hg).1, fun j hj => ?_⟩, hn⟩
    have := World.ownsRow.cells h (g := g) rfl _ _ (cells16_get fs i j hi hj)
    rw [Addr.add_lit, Nat.zero_add] at this
    exact this
theorem OwnM.mono {B B' : Nat} {w : World} {v : Value} {fs : List (Nat → Int)} (h : OwnM B w v fs) (hB : B' ≤ B) : OwnM B' w v fs := by
  rcases h.2 with h0 | ⟨g, cap, cur, h1, hb, h3⟩
  · exact ⟨h.1, .inl h0⟩
  · exact ⟨h.1, .inr ⟨g, cap, cur, h1, by omega, h3⟩⟩
theorem ownM_nil {B g : Nat} {w : World} (hB : B ≤ g) (h : w.heap[g]? = some (.cells #[] TM (0, 0))) : OwnM B w (.slice (some ⟨g, 0, none⟩) 0 0) [] :=
  ⟨rfl, .inr ⟨g, 0, #[], rfl, hB, h, Nat.le_refl _, by unfold maxLen; omega, rfl, by simp [cells16]⟩⟩
def RetM (W : World) (fs : List (Nat → Int)) (e : Ending) (w' : World) : Prop := ∃ v, e = .returned v ∧ OwnM W.heap.size w' v fs ∧ Kept W w'
theorem wpList_append_mp {ops : Array Oper} {rest : List Oper} {o : Oper} {a : Act} {Q : Exit → Act → World → Prop} {w : World} (hgd : o.guard = none) (s x : Operand)
    (ho : o.op = .call { callee := .builtin .append, args := #[s, x], argTypes := #[47, 47] }) (B : Nat) (v : Value) (fs : List (Nat → Int)) (hs : a.eval s = v) (hown : OwnM B w v fs) (hBw : B ≤ w.heap.size)
    (g cap : Nat) (f : Nat → Int) (hx : a.eval x = .slice (some ⟨g, 0, none⟩) 1 cap) (hc : ∀ j, j < 16 → w.cell? ⟨g, j, none⟩ = some (.int .i64 (f j))) (hl : fs.length ≤ 1048576)
    (h : ∀ v' w', OwnM B w' v' (fs ++ [f]) → w.grownBy w' v.ownBlock → wpList Try.prog ops Q rest (a.put o.dst v') w') : wpList Try.prog ops Q (o :: rest) a w := by
  obtain ⟨i, hi, hz, hsz, hb⟩ := info_parts info_mp
  refine wpList_append_own_at w hgd s x 47 ho B TM i _ 16 128 Try.underlying47 hi hz hsz hb rfl (by decide) v fs.length (cells16 fs) hs hown ⟨g, 0, none⟩ 1 cap
    (mvals f) hx (mvals_len f) ?_ (mvals_one f) (by unfold maxLen; omega) (by omega) hBw ?_
  · intro j u hj
    have hlt : j < 16 := by
      obtain ⟨hlt, _⟩ := List.getElem?_eq_some_iff.1 hj
      rwa [mvals_len] at hlt
    rw [mvals_get f hlt] at hj
    rw [Addr.add_lit, Nat.zero_add, hc j hlt]; exact hj
  · intro v' w' hown' hg _ _
    refine h v' w' ?_ hg
    have e : cells16 (fs ++ [f]) = cells16 fs ++ mvals f := by simp [cells16]
    unfold OwnM
    rw [e, List.length_append]
    exact hown'
theorem EI.grownM {w w' : World} {v : Value} {l : List Int} {r : Option Nat} (h : EI w v l) (hg : w.grownBy w' r) (hr : ∀ g, r = some g → ∃ cur, w.heap[g]? = some (.cells cur TM (0, 0))) : EI w' v l := by
  obtain ⟨g, cap, cur, h1, h2, h3⟩ := h
  refine ⟨g, cap, cur, h1, (hg.block g (Array.getElem?_eq_some_iff.1 h2).1 fun e => ?_).trans h2, h3⟩
  obtain ⟨cur', h4⟩ := hr g e.symm
  rw [h2] at h4
  simp [TM] at h4
theorem OwnR.grownM {B : Nat} {w w' : World} {v : Value} {ll : List (List Int)} {r : Option Nat} (h : OwnR B w v ll) (hg : w.grownBy w' r) (hr : ∀ g, r = some g → ∃ cur, w.heap[g]? = some (.cells cur TM (0, 0))) : OwnR B w' v ll := by
  have hrow := h.row
  obtain ⟨vs, h1, h2, h3⟩ := h
  refine ⟨vs, World.ownsRow.kept h1 hg ?_, h2, fun i hi => ?_⟩
  · cases hu : v.ownBlock with
    | none => exact .inl rfl
    | some g =>
      refine .inr fun e => ?_
      obtain ⟨c1, e1⟩ := hrow g hu
      obtain ⟨c2, e2⟩ := hr g e.symm
      rw [e1] at e2
      simp [TM] at e2
  · obtain ⟨u, hu, he⟩ := h3 i hi
    exact ⟨u, hu, he.grownM hg hr⟩
/-- What all rounds of l5Maps hold: the maps so far, the orders. -/
def MI (W : World) (v1 v2 v3 : Value) (o4 o3 : List (List Int)) (fs : List (Nat → Int)) (w : World) : Prop :=
  OwnM W.heap.size w v1 fs ∧ OwnR W.heap.size w v2 o4 ∧ OwnR W.heap.size w v3 o3 ∧ Kept W w
/-- .. with a map's box. -/
def MB (W : World) (v1 v2 v3 : Value) (o4 o3 : List (List Int)) (fs : List (Nat → Int)) (g : Nat) (F : Nat → Int) (w : World) : Prop :=
  MI W v1 v2 v3 o4 o3 fs w ∧ W.heap.size ≤ g ∧ v1.ownBlock ≠ some g ∧ w.heap[g]? = some (.cells (tab 16 F) TM (0, 0))
theorem MI.kept {W : World} {v1 v2 v3 : Value} {o4 o3 : List (List Int)} {fs : List (Nat → Int)} {w w' : World} (h : MI W v1 v2 v3 o4 o3 fs w) (hk : Kept w w') : MI W v1 v2 v3 o4 o3 fs w' :=
  ⟨h.1.kept hk, h.2.1.kept hk, h.2.2.1.kept hk, h.2.2.2.trans hk⟩
theorem MB.kept {W : World} {v1 v2 v3 : Value} {o4 o3 : List (List Int)} {fs : List (Nat → Int)} {g : Nat} {F : Nat → Int} {w w' : World} (h : MB W v1 v2 v3 o4 o3 fs g F w) (hk : Kept w w') : MB W v1 v2 v3 o4 o3 fs g F w' :=
  ⟨h.1.kept hk, h.2.1, h.2.2.1, (hk.below.block g (Array.getElem?_eq_some_iff.1 h.2.2.2).1).trans h.2.2.2⟩
theorem tab_zero : (tab 16 fun _ => 0) = #[.int .i64 0, .int .i64 0, .int .i64 0, .int .i64 0, .int .i64 0, .int .i64 0, .int .i64 0, .int .i64 0, .int .i64 0, .int .i64 0, .int .i64 0, .int .i64 0, .int .i64 0, .int .i64 0, .int .i64 0, .int .i64 0] := rfl
theorem MI.box {W : World} {v1 v2 v3 : Value} {o4 o3 : List (List Int)} {fs : List (Nat → Int)} {w : World} (h : MI W v1 v2 v3 o4 o3 fs w) :
    MB W v1 v2 v3 o4 o3 fs w.heap.size (fun _ => 0) (w.alloc (.cells #[.int .i64 0, .int .i64 0, .int .i64 0, .int .i64 0, .int .i64 0, .int .i64 0, .int .i64 0, .int .i64 0, .int .i64 0, .int .i64 0, .int .i64 0, .int .i64 0, .int .i64 0, .int .i64 0, .int .i64 0, .int .i64 0] TM)) := by
  rw [← tab_zero]
  refine ⟨h.kept (by (try simp only [ext_ext]); repeat (first | exact Kept.refl _ | apply Kept.alloc | apply Kept.drew | apply kept_add | apply Kept.ext)), h.2.2.2.below.size, fun e => ?_, heap_at rfl⟩
  have := (h.1.lt _ e).2
  omega
theorem MB.set {W : World} {v1 v2 v3 : Value} {o4 o3 : List (List Int)} {fs : List (Nat → Int)} {g : Nat} {F : Nat → Int} {w : World} (h : MB W v1 v2 v3 o4 o3 fs g F w) (i : Nat) (x : Int) :
    MB W v1 v2 v3 o4 o3 fs g (upd F i x) (w.setCell ⟨g, i, none⟩ (.int .i64 x)) := by
  obtain ⟨⟨h1, h2, h3, h4⟩, h5, h6, h7⟩ := h
  have hg : w.grownBy (w.setCell ⟨g, i, none⟩ (.int .i64 x)) (some g) := grown_setCell (grown_refl _ (some g)) rfl _
  have hr : ∀ g', some g = some g' → ∃ cur, w.heap[g']? = some (.cells cur TM (0, 0)) := fun g' e => by cases e; exact ⟨_, h7⟩
  refine ⟨⟨h1.grown hg fun g' hg' e => ?_, h2.grownM hg hr, h3.grownM hg hr, h4.setCell h5 _⟩, h5, h6, ?_⟩
  · cases e; exact h6 hg'
  · rw [heap_setCell_same _ _ _ _ _ _ h7, tab_set]
theorem MB.cell {W : World} {v1 v2 v3 : Value} {o4 o3 : List (List Int)} {fs : List (Nat → Int)} {g : Nat} {F : Nat → Int} {w : World} (h : MB W v1 v2 v3 o4 o3 fs g F w) {i : Nat} (hi : i < 16) : w.cell? ⟨g, i, none⟩ = some (.int .i64 (F i)) := by
  rw [cell_of_row w g i _ _ (0, 0) h.2.2.2, tab_get F hi]
theorem MB.boxM {W : World} {v1 v2 v3 : Value} {o4 o3 : List (List Int)} {fs : List (Nat → Int)} {g : Nat} {F : Nat → Int} {w : World} (h : MB W v1 v2 v3 o4 o3 fs g F w) : BoxM w g F :=
  ⟨(Array.getElem?_eq_some_iff.1 h.2.2.2).1, fun _ hi => h.cell hi⟩
theorem MI.app {W : World} {v1 v2 v3 v' : Value} {o4 o3 : List (List Int)} {fs fs' : List (Nat → Int)} {w w' : World} (h : MI W v1 v2 v3 o4 o3 fs w) (ho : OwnM W.heap.size w' v' fs') (hg : w.grownBy w' v1.ownBlock) : MI W v' v2 v3 o4 o3 fs' w' :=
  ⟨ho, h.2.1.grownM hg h.1.row, h.2.2.1.grownM hg h.1.row, h.2.2.2.grown hg fun k hk => (h.1.lt k hk).1⟩
end Go.Proofs.Ytjlaoocomkonhaa
namespace Go.Proofs.Ytjlaoocomkonhaa
open Go.RowKit
set_option maxHeartbeats 2000000 in
set_option maxRecDepth 20000 in
theorem maps2_any {Bq : Nat} (p : List Int) (xs : List Card) (n : Nat) (W : World) (c Bh Br Bf gr capr : Nat) (ao : Option Addr) (cap : Nat) (hp : p ∈ ords4) (hn : xs.length = n) (hl : n ≤ 27) (hc : ∀ x ∈ xs, isCard x = true) (hnd : xs.Nodup) (hcr : 6 ≤ capr)
    (hH : ∀ w', Fr c none none W w' → w'.cell? ⟨Bh, 0, none⟩ = some (.slice ao n cap) ∧ Bh < w'.heap.size ∧ CardsAt w' ao xs)
    (hR : ∀ w', Fr c none none W w' → w'.cell? ⟨Br, 0, none⟩ = some (.slice (some ⟨gr, 0, none⟩) 6 capr) ∧ Br < w'.heap.size ∧ w'.cell? ⟨Bf, 0, none⟩ = some (.func (.func 33) #[] #[.pointer (some ⟨Bh, 0, none⟩), .pointer (some ⟨c, 0, none⟩)]) ∧ Bf < w'.heap.size ∧ gr < w'.heap.size ∧ ∀ i, i < 6 → LnCells w' gr (i * 3) (lx rows3 i))
    (b : List Card) (w : World) (u : Value) (hI : LkI Bq n W c b w) (hu : ListAt c none w u p) :
    Calls Try.prog 56 #[u, .pointer (some ⟨Br, 0, none⟩), .pointer (some ⟨Bf, 0, none⟩)] w fun e w' => e = .returned (.bool true) ∧ LkI Bq n W c (bestK xs p b 1296) w' ∧ Fr c none none w w' := by
  have hp4 := (ords4_of hp).1
  have hok := hid (fun k (hk : k < 1296) => mapN_ok hp hk)
  obtain ⟨lg, lo, lcap, rfl, l1, _, l3, l4, l5⟩ : ∃ g off cap, u = .slice (some ⟨g, off, none⟩) 4 cap ∧ g ≠ c ∧ (none : Option Nat) ≠ some g ∧ g < w.heap.size ∧ IntsAt w (some ⟨g, off, none⟩) p ∧ 4 ≤ cap := by
    rcases hu with ⟨_, e⟩ | ⟨g, off, cap, e, h⟩
    · rw [e] at hp4; cases hp4
    · rw [hp4] at e h; exact ⟨g, off, cap, e, h⟩
  obtain ⟨_, _, he, _, m1⟩ := l4 0 (by omega)
  cases he
  obtain ⟨_, _, he, _, m2⟩ := l4 1 (by omega)
  cases he
  obtain ⟨_, _, he, _, m3⟩ := l4 2 (by omega)
  cases he
  obtain ⟨_, _, he, _, m4⟩ := l4 3 (by omega)
  cases he
  simp only [Nat.add_zero] at m1 m2 m3 m4
  have hHH := hid hH
  have hRH := hid hR
  have hIH := hid hI
  have hcH := hid hc
  have hndH := hid hnd
  have hnH := hid hn
  have hstep : Hid (∀ k, bestK xs p b (k + 1) = bestM xs (bestK xs p b k) (mapN p k)) := hid fun _ => rfl
  have hmk : Hid (∀ k, mapN p k = mkF p (lx rows3 (k / 216)) (lx rows3 (k / 36 % 6)) (lx rows3 (k / 6 % 6)) (lx rows3 (k % 6))) := hid fun _ => rfl
  obtain ⟨rows, hrows⟩ : ∃ r, r = rows3 := ⟨_, rfl⟩
  rw [← hrows] at hRH hmk
  obtain ⟨bk, hbk⟩ : ∃ bk, bk = bestK xs p b := ⟨_, rfl⟩
  rw [← hbk] at hstep ⊢
  have hb0 : Hid (bk 0 = b) := hid (by rw [hbk]; rfl)
  have hAA : ∀ w : World, (Instr.arrayAt 29 (.slice (some ⟨lg, lo, none⟩) 4 lcap)).run Try.prog w = .ok (.pointer (some ⟨lg, lo, none⟩)) w := fun w => run_arrayAt w _ _ 4 _ 4 lcap Try.underlying29 (Nat.le_refl _)
  clear hH hR hI hu l4 hp hc hnd hn hrows hbk hp4
  go_enter Try.func56, Try.ntmps56
  go_wp2_with (fail)
  go_loopw [11] (fun s11 wr => ∃ k : Nat, k ≤ 1296 ∧ s11 = .int .i64 (k : Int) ∧ ∃ e : Nat → Int, wr.heap[w.heap.size]? = some (.cells #[.int .i64 (ix p 0), .int .i64 (ix p 1), .int .i64 (ix p 2), .int .i64 (ix p 3), .int .i64 (e 0), .int .i64 (e 1), .int .i64 (e 2), .int .i64 (e 3), .int .i64 (e 4), .int .i64 (e 5), .int .i64 (e 6), .int .i64 (e 7), .int .i64 (e 8), .int .i64 (e 9), .int .i64 (e 10), .int .i64 (e 11)] 35 (0, 0)) ∧ LkI Bq n W c (bk k) wr ∧ Fr c none none w wr) (fun s11 _ => 1296 - (intOf s11).toNat)
  case atStart => exact ⟨0, by omega, rfl, fun _ => 0, heap_at rfl, by rw [hb0.out]; exact hIH.out.kept (by (try simp only [ext_ext]); repeat (first | exact Kept.refl _ | apply Kept.alloc | apply Kept.drew | apply kept_add | apply Kept.ext)), Kept.fr (by (try simp only [ext_ext]); repeat (first | exact Kept.refl _ | apply Kept.alloc | apply Kept.drew | apply kept_add | apply Kept.ext))⟩
  case round =>
    obtain ⟨w0, hw0⟩ : ∃ w0, w0 = wr := ⟨_, rfl⟩
    subst hw0
    obtain ⟨k, hk, rfl, e, hbox, hI, hf⟩ := hrel
    have hIH' := hid hI
    have hfH := hid hf
    have hboxH := hid hbox
    have hgbl : w.heap.size < w0.heap.size := (Array.getElem?_eq_some_iff.1 hbox).1
    by_cases hlt : k < 1296
    · have hFW := hid hI.1
      obtain ⟨r1, r2, r3, r4, r5, r6⟩ := hRH.out w0 hI.1
      obtain ⟨i0, hi0⟩ : ∃ i0, i0 = k / 216 := ⟨_, rfl⟩
      obtain ⟨j1, hj1⟩ : ∃ j1, j1 = k / 36 := ⟨_, rfl⟩
      obtain ⟨i1, hi1⟩ : ∃ i1, i1 = k / 36 % 6 := ⟨_, rfl⟩
      obtain ⟨j2, hj2⟩ : ∃ j2, j2 = k / 6 := ⟨_, rfl⟩
      obtain ⟨i2, hi2⟩ : ∃ i2, i2 = k / 6 % 6 := ⟨_, rfl⟩
      obtain ⟨i3, hi3⟩ : ∃ i3, i3 = k % 6 := ⟨_, rfl⟩
      have q0 : (k : Int).tdiv 216 = (i0 : Int) := by rw [Int.tdiv_eq_ediv_of_nonneg (by omega)]; omega
      have q1 : (k : Int).tdiv 36 = (j1 : Int) := by rw [Int.tdiv_eq_ediv_of_nonneg (by omega)]; omega
      have q2 : (j1 : Int).tmod 6 = (i1 : Int) := by rw [Int.tmod_eq_emod_of_nonneg (by omega)]; omega
      have q3 : (k : Int).tdiv 6 = (j2 : Int) := by rw [Int.tdiv_eq_ediv_of_nonneg (by omega)]; omega
      have q4 : (j2 : Int).tmod 6 = (i2 : Int) := by rw [Int.tmod_eq_emod_of_nonneg (by omega)]; omega
      have q5 : (k : Int).tmod 6 = (i3 : Int) := by rw [Int.tmod_eq_emod_of_nonneg (by omega)]; omega
      have y0 : i0 < 6 := by omega
      have y1 : i1 < 6 := by omega
      have y2 : i2 < 6 := by omega
      have y3 : i3 < 6 := by omega
      have z0 : (i0 : Int) < 6 := by omega
      have z1 : (i1 : Int) < 6 := by omega
      have z2 : (i2 : Int) < 6 := by omega
      have z3 : (i3 : Int) < 6 := by omega
      have u0 : IntKind.i64.wrap (i0 : Int) = (i0 : Int) := Go.IntWalk.i64_in _ ⟨by omega, by omega⟩
      have u1 : IntKind.i64.wrap (j1 : Int) = (j1 : Int) := Go.IntWalk.i64_in _ ⟨by omega, by omega⟩
      have u2 : IntKind.i64.wrap (j2 : Int) = (j2 : Int) := Go.IntWalk.i64_in _ ⟨by omega, by omega⟩
      have u3 : IntKind.i64.wrap (i1 : Int) = (i1 : Int) := Go.IntWalk.i64_in _ ⟨by omega, by omega⟩
      have u4 : IntKind.i64.wrap (i2 : Int) = (i2 : Int) := Go.IntWalk.i64_in _ ⟨by omega, by omega⟩
      have u5 : IntKind.i64.wrap (i3 : Int) = (i3 : Int) := Go.IntWalk.i64_in _ ⟨by omega, by omega⟩
      have hmkk := hid (hmk.out k)
      rw [← hi0, ← hi1, ← hi2, ← hi3] at hmkk
      obtain ⟨A, hA⟩ : ∃ A, A = lx rows i0 := ⟨_, rfl⟩
      obtain ⟨B, hB⟩ : ∃ B, B = lx rows i1 := ⟨_, rfl⟩
      obtain ⟨C, hC⟩ : ∃ C, C = lx rows i2 := ⟨_, rfl⟩
      obtain ⟨D, hD⟩ : ∃ D, D = lx rows i3 := ⟨_, rfl⟩
      obtain ⟨a0, a1, a2⟩ := r6 i0 y0
      obtain ⟨b0, b1, b2⟩ := r6 i1 y1
      obtain ⟨c0, c1, c2⟩ := r6 i2 y2
      obtain ⟨d0, d1, d2⟩ := r6 i3 y3
      rw [← hA] at a0 a1 a2 hmkk
      rw [← hB] at b0 b1 b2 hmkk
      rw [← hC] at c0 c1 c2 hmkk
      rw [← hD] at d0 d1 d2 hmkk
      have x4 := cell_of_row w0 w.heap.size 4 _ _ (0, 0) hbox
      have f4 := frozen_of_row w0 w.heap.size 4 _ _ hbox
      have x5 := cell_of_row w0 w.heap.size 5 _ _ (0, 0) hbox
      have f5 := frozen_of_row w0 w.heap.size 5 _ _ hbox
      have x6 := cell_of_row w0 w.heap.size 6 _ _ (0, 0) hbox
      have f6 := frozen_of_row w0 w.heap.size 6 _ _ hbox
      have x7 := cell_of_row w0 w.heap.size 7 _ _ (0, 0) hbox
      have f7 := frozen_of_row w0 w.heap.size 7 _ _ hbox
      have x8 := cell_of_row w0 w.heap.size 8 _ _ (0, 0) hbox
      have f8 := frozen_of_row w0 w.heap.size 8 _ _ hbox
      have x9 := cell_of_row w0 w.heap.size 9 _ _ (0, 0) hbox
      have f9 := frozen_of_row w0 w.heap.size 9 _ _ hbox
      have x10 := cell_of_row w0 w.heap.size 10 _ _ (0, 0) hbox
      have f10 := frozen_of_row w0 w.heap.size 10 _ _ hbox
      have x11 := cell_of_row w0 w.heap.size 11 _ _ (0, 0) hbox
      have f11 := frozen_of_row w0 w.heap.size 11 _ _ hbox
      have x12 := cell_of_row w0 w.heap.size 12 _ _ (0, 0) hbox
      have f12 := frozen_of_row w0 w.heap.size 12 _ _ hbox
      have x13 := cell_of_row w0 w.heap.size 13 _ _ (0, 0) hbox
      have f13 := frozen_of_row w0 w.heap.size 13 _ _ hbox
      have x14 := cell_of_row w0 w.heap.size 14 _ _ (0, 0) hbox
      have f14 := frozen_of_row w0 w.heap.size 14 _ _ hbox
      have x15 := cell_of_row w0 w.heap.size 15 _ _ (0, 0) hbox
      have f15 := frozen_of_row w0 w.heap.size 15 _ _ hbox
      simp only [List.getElem?_toArray, List.getElem?_cons_zero, List.getElem?_cons_succ] at x4 x5 x6 x7 x8 x9 x10 x11 x12 x13 x14 x15
      have hmk2 := hid hmkk.out
      clear hI hf hbox hmkk hA hB hC hD r6 hi0 hi1 hi2 hi3 hj1 hj2
      go_upto_region 6 with (first | (refine wp_region_ext_tail 24 (by kernel_rfl) (by kernel_rfl) ?_; simp only [List.take_succ_cons, List.take_zero, List.drop_succ_cons, List.drop_zero]; (repeat (go_big_quiet_step ((fail)))); refine wpQuiet_tail fun z => ?_))
      obtain ⟨ws, hws⟩ : ∃ ws, ws = ext ((((((((((((w0.setCell ⟨w.heap.size, 4, none⟩ (.int .i64 A.a)).setCell ⟨w.heap.size, 5, none⟩ (.int .i64 A.b)).setCell ⟨w.heap.size, 6, none⟩ (.int .i64 A.c)).setCell ⟨w.heap.size, 7, none⟩ (.int .i64 B.a)).setCell ⟨w.heap.size, 8, none⟩ (.int .i64 B.b)).setCell ⟨w.heap.size, 9, none⟩ (.int .i64 B.c)).setCell ⟨w.heap.size, 10, none⟩ (.int .i64 C.a)).setCell ⟨w.heap.size, 11, none⟩ (.int .i64 C.b)).setCell ⟨w.heap.size, 12, none⟩ (.int .i64 C.c)).setCell ⟨w.heap.size, 13, none⟩ (.int .i64 D.a)).setCell ⟨w.heap.size, 14, none⟩ (.int .i64 D.b)).setCell ⟨w.heap.size, 15, none⟩ (.int .i64 D.c)) z := ⟨_, rfl⟩
      rw [← hws]
      have hset := hid (set12_heap (fun i => .int .i64 (ix [A.a, A.b, A.c, B.a, B.b, B.c, C.a, C.b, C.c, D.a, D.b, D.c] i)) hboxH.out)
      have hsetg := hid (set12_grown w0 w.heap.size (fun i => .int .i64 (ix [A.a, A.b, A.c, B.a, B.b, B.c, C.a, C.b, C.c, D.a, D.b, D.c] i)))
      have hws2 : ws = ext (set12 w0 w.heap.size (fun i => .int .i64 (ix [A.a, A.b, A.c, B.a, B.b, B.c, C.a, C.b, C.c, D.a, D.b, D.c] i))) z := hws
      have hsb := hid (show ws.heap[w.heap.size]? = some (.cells #[.int .i64 (ix p 0), .int .i64 (ix p 1), .int .i64 (ix p 2), .int .i64 (ix p 3), .int .i64 A.a, .int .i64 A.b, .int .i64 A.c, .int .i64 B.a, .int .i64 B.b, .int .i64 B.c, .int .i64 C.a, .int .i64 C.b, .int .i64 C.c, .int .i64 D.a, .int .i64 D.b, .int .i64 D.c] 35 (0, 0)) by
        rw [hws2]
        exact (ext_heap _ _ _ (Nat.lt_of_lt_of_le hgbl hsetg.out.size)).trans hset.out)
      have hsg := hid (show w0.grownBy ws (some w.heap.size) by rw [hws2]; exact hsetg.out.trans (kept_grownF ((Kept.refl _).ext z)))
      clear hset hsetg hws hws2
      clear x4 f4 x5 f5 x6 f6 x7 f7 x8 f8 x9 f9 x10 f10 x11 f11 x12 f12 x13 f13 x14 f14 x15 f15 a0 a1 a2 b0 b1 b2 c0 c1 c2 d0 d1 d2 r1 r2 r3 r4 r5
      have hWw : W.heap.size ≤ w.heap.size := hIH.out.1.2.2.2.1
      have hcw : c < w.heap.size := Nat.lt_of_lt_of_le hIH.out.2.1.1 hWw
      have hfr1 : Fr c none none w ws := ⟨hsg.out.os.trans hfH.out.1, hsg.out.tape.trans hfH.out.2.1, hsg.out.output.trans hfH.out.2.2.1, Nat.le_trans hfH.out.2.2.2.1 hsg.out.size, fun q hq h1 h2 => (hsg.out.block q (Nat.lt_of_lt_of_le hq hfH.out.2.2.2.1) (fun e => by have := Option.some.inj e; omega)).trans (hfH.out.2.2.2.2.1 q hq h1 h2), .inl rfl⟩
      have hLk : LkI Bq n W c (bk k) ws := by
        obtain ⟨g0, g1, ⟨v, g2, g3, g4⟩, g5⟩ := hIH'.out
        refine ⟨hIH.out.1.trans hfr1, g1, ⟨v, (hsg.out.block c (Array.getElem?_eq_some_iff.1 g2).1 (fun e => by have := Option.some.inj e; omega)).trans g2, g3.grown hsg.out (fun g hg e => ?_), g4⟩, g5⟩
        cases e
        rcases g3.2 with ⟨e2, _⟩ | ⟨g', cap', cur, e2, _, hh, _⟩
        · rw [e2] at hg; cases hg
        · rw [e2] at hg
          cases hg
          exact absurd (Obj.cells.inj (Option.some.inj (hboxH.out.symm.trans hh))).2.1 (by decide)
      have hLkH := hid hLk
      obtain ⟨t1, t2, t3, t4, _, _⟩ := hRH.out ws hLk.1
      have hsl : w.heap.size < ws.heap.size := (Array.getElem?_eq_some_iff.1 hsb.out).1
      have v0 : ws.cell? ⟨w.heap.size, 0, none⟩ = some (.int .i64 (ix p 0)) := cell_of_row ws w.heap.size 0 _ _ (0, 0) hsb.out
      have v1 : ws.cell? ⟨w.heap.size, 1, none⟩ = some (.int .i64 (ix p 1)) := cell_of_row ws w.heap.size 1 _ _ (0, 0) hsb.out
      have v2 : ws.cell? ⟨w.heap.size, 2, none⟩ = some (.int .i64 (ix p 2)) := cell_of_row ws w.heap.size 2 _ _ (0, 0) hsb.out
      have v3 : ws.cell? ⟨w.heap.size, 3, none⟩ = some (.int .i64 (ix p 3)) := cell_of_row ws w.heap.size 3 _ _ (0, 0) hsb.out
      have v4 : ws.cell? ⟨w.heap.size, 4, none⟩ = some (.int .i64 (A.a)) := cell_of_row ws w.heap.size 4 _ _ (0, 0) hsb.out
      have v5 : ws.cell? ⟨w.heap.size, 5, none⟩ = some (.int .i64 (A.b)) := cell_of_row ws w.heap.size 5 _ _ (0, 0) hsb.out
      have v6 : ws.cell? ⟨w.heap.size, 6, none⟩ = some (.int .i64 (A.c)) := cell_of_row ws w.heap.size 6 _ _ (0, 0) hsb.out
      have v7 : ws.cell? ⟨w.heap.size, 7, none⟩ = some (.int .i64 (B.a)) := cell_of_row ws w.heap.size 7 _ _ (0, 0) hsb.out
      have v8 : ws.cell? ⟨w.heap.size, 8, none⟩ = some (.int .i64 (B.b)) := cell_of_row ws w.heap.size 8 _ _ (0, 0) hsb.out
      have v9 : ws.cell? ⟨w.heap.size, 9, none⟩ = some (.int .i64 (B.c)) := cell_of_row ws w.heap.size 9 _ _ (0, 0) hsb.out
      have v10 : ws.cell? ⟨w.heap.size, 10, none⟩ = some (.int .i64 (C.a)) := cell_of_row ws w.heap.size 10 _ _ (0, 0) hsb.out
      have v11 : ws.cell? ⟨w.heap.size, 11, none⟩ = some (.int .i64 (C.b)) := cell_of_row ws w.heap.size 11 _ _ (0, 0) hsb.out
      have v12 : ws.cell? ⟨w.heap.size, 12, none⟩ = some (.int .i64 (C.c)) := cell_of_row ws w.heap.size 12 _ _ (0, 0) hsb.out
      have v13 : ws.cell? ⟨w.heap.size, 13, none⟩ = some (.int .i64 (D.a)) := cell_of_row ws w.heap.size 13 _ _ (0, 0) hsb.out
      have v14 : ws.cell? ⟨w.heap.size, 14, none⟩ = some (.int .i64 (D.b)) := cell_of_row ws w.heap.size 14 _ _ (0, 0) hsb.out
      have v15 : ws.cell? ⟨w.heap.size, 15, none⟩ = some (.int .i64 (D.c)) := cell_of_row ws w.heap.size 15 _ _ (0, 0) hsb.out
      have hcall := hid (show Calls Try.prog 33 #[.agg #[.int .i64 (ix p 0), .int .i64 (ix p 1), .int .i64 (ix p 2), .int .i64 (ix p 3), .int .i64 A.a, .int .i64 A.b, .int .i64 A.c, .int .i64 B.a, .int .i64 B.b, .int .i64 B.c, .int .i64 C.a, .int .i64 C.b, .int .i64 C.c, .int .i64 D.a, .int .i64 D.b, .int .i64 D.c], .pointer (some ⟨Bh, 0, none⟩), .pointer (some ⟨c, 0, none⟩)] ws fun e w' => e = .returned (.bool true) ∧ LkI Bq n W c (bk (k + 1)) w' ∧ Fr c none none ws w' from by
        have h := look1_any (mapN p k) xs n W c Bh ao cap (hok.out k hlt) hnH.out hl hcH.out hndH.out hHH.out (bk k) ws hLk
        rw [← hstep.out, hmk2.out] at h
        exact h)
      clear hLk
      go_wp2_with (fail)
      (go_at_call 33; refine Calls.mono (hcall.out) ?_; rintro e w2 ⟨rfl, hI2, hf2⟩)
      go_wp2_with (fail)
      go_roundw
      case rel => exact ⟨k + 1, by omega, by go_num, fun i => ix [A.a, A.b, A.c, B.a, B.b, B.c, C.a, C.b, C.c, D.a, D.b, D.c] i, (hf2.2.2.2.2.1 w.heap.size hsl (by omega) (by simp)).trans hsb.out, hI2, hfr1.trans hf2⟩
      case measure => simp [intOf]; omega
    · obtain rfl : k = 1296 := by omega
      go_wp2
      go_ret
      exact ⟨rfl, hIH'.out.kept (by (try simp only [ext_ext]); repeat (first | exact Kept.refl _ | apply Kept.alloc | apply Kept.drew | apply kept_add | apply Kept.ext)), hfH.out.trans (Kept.fr (by (try simp only [ext_ext]); repeat (first | exact Kept.refl _ | apply Kept.alloc | apply Kept.drew | apply kept_add | apply Kept.ext)))⟩
end Go.Proofs.Ytjlaoocomkonhaa
