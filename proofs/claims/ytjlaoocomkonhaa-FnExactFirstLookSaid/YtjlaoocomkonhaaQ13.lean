/- Contracts: cards put in order, each once (impl.sorted). Contracts: the reference's cards again in new memory, whatever their number; a card behind others in a region that draws. -/
import Derived.Test.YtjlaoocomkonhaaQ12
import Derived.Deep.RegionHeld3
namespace Go.Proofs.Ytjlaoocomkonhaa
open Go.RowKit
theorem cloneA_any (g off cap n : Nat) (cs : List Card) (w : World) (hx : CardsAt w (some ⟨g, off, none⟩) cs) (hn : cs.length = n) (hl : n ≤ 1048576) :
    Calls Try.prog 31 #[.slice (some ⟨g, off, none⟩) n cap] w fun e w' => ∃ g' cap', e = .returned (.slice (some ⟨g', 0, none⟩) n cap') ∧ w.heap.size ≤ g' ∧ OwnC w.heap.size w' (.slice (some ⟨g', 0, none⟩) n cap') cs ∧ Kept w w' := by
  have hxH := hid hx
  obtain ⟨i, hi, hz, hsz, hb⟩ := info_parts info_card
  have hl4 := hid (show (cells4 cs).length = n * 4 by rw [cells4_length, hn])
  have hnH := hid hn
  have hcell := hid (fun (w' : World) (hk : Kept w w') j u (hj : (cells4 cs)[j]? = some u) => cards_cells_add (hxH.out.kept hk) hj)
  have h1c := hid (cells4_one cs)
  have qT : ∀ (w : World) (a : Option Addr) (n c : Nat), (binOp .eql 22 (.slice a n c) (.slice none 0 0)).run Try.prog w = .ok (.bool a.isNone) w := fun w a n c => Lib.run_eql_slice_nil w _ _ a n c 0 0 Try.underlying22
  clear hx hn
  go_enter Try.func31, Try.ntmps31
  go_wp2_with (first | (at_builtin; refine wpList_append_own_at _ rfl _ _ 22 rfl w.heap.size T4 i _ 4 32 Try.underlying22 hi hz hsz hb rfl (by decide) (.slice (some ⟨w.heap.size, 0, none⟩) 0 0) 0 [] rfl (ownC_nil (Nat.le_refl _) (heap_at rfl)) ⟨g, off, none⟩ n cap (cells4 cs) rfl hl4.out (hcell.out _ (by (try simp only [ext_ext]); repeat (first | exact Kept.refl _ | apply Kept.alloc | apply Kept.drew | apply kept_add | apply Kept.ext))) h1c.out (by unfold maxLen; omega) (by omega) (by simp) ?_; intro v' w' hown hg _ hat))
  refine bodyPost_ret (v := v') (by simp [results, Try.results31, go_sem]) rfl ?_
  have hO : OwnC w.heap.size w' v' cs := by
    unfold OwnC
    rw [hnH.out]
    simpa using hown
  obtain ⟨g', hv⟩ : ∃ g', v'.ownBlock = some g' := by
    rcases hat with e | e
    · exact ⟨_, e⟩
    · exact ⟨_, e⟩
  rcases hO.2 with ⟨e, _⟩ | ⟨g2, cap2, cur, e, hb2, _⟩
  · subst e; cases hv
  · subst e
    rw [hnH.out] at hO ⊢
    exact ⟨g2, cap2, rfl, hb2, hO, (show Kept w _ from (by (try simp only [ext_ext]); repeat (first | exact Kept.refl _ | apply Kept.alloc | apply Kept.drew | apply kept_add | apply Kept.ext))).grown hg fun k hk => by cases hk; exact Nat.le_refl _⟩
theorem run_clear_cards (w : World) (b o m c : Nat) (ty : TypeId) (hm : 0 < m)
    (hc : ∀ j, j < m * 4 → (w.cell? ⟨b, o + j, none⟩).isSome = true) (hf : ∀ j, j < m * 4 → w.frozen? ⟨b, o + j, none⟩ = false) :
    ∃ vs, (Builtin.clear_ #[22] ty #[.slice (some ⟨b, o, none⟩) m c]).run Try.prog w = .ok (.tuple #[]) (w.setCells b o vs) := by
  obtain ⟨vs, hvs⟩ : ∃ vs, vs = (Builtin.zeroCells (Value.agg #[Value.int .i64 0, .int .i64 0, .int .i64 0, .int .i64 0]).cells m).toList := ⟨_, rfl⟩
  have hlen : vs.length = m * 4 := by rw [hvs, Array.length_toList, size_zeroCells]; rfl
  have hone : ∀ v ∈ vs, v.oneCell' = true := fun v hv => by
    rw [hvs] at hv
    simp only [Builtin.zeroCells, Array.toList_map, List.mem_map] at hv
    obtain ⟨i, _, rfl⟩ := hv
    have hz : (Value.agg #[Value.int .i64 0, .int .i64 0, .int .i64 0, .int .i64 0]).cells = #[Value.int .i64 0, .int .i64 0, .int .i64 0, .int .i64 0] := by kernel_rfl
    rw [hz]
    have : i % (#[Value.int .i64 0, .int .i64 0, .int .i64 0, .int .i64 0] : Array Value).size < 4 := Nat.mod_lt _ (by decide)
    generalize i % (#[Value.int .i64 0, .int .i64 0, .int .i64 0, .int .i64 0] : Array Value).size = r at this
    obtain rfl | rfl | rfl | rfl : r = 0 ∨ r = 1 ∨ r = 2 ∨ r = 3 := by omega
    all_goals rfl
  refine ⟨vs, ?_⟩
  obtain ⟨m, rfl⟩ : ∃ m1, m = m1 + 1 := ⟨m - 1, by omega⟩
  have hst := run_storeCells_cells (P := Try.prog) b o vs 0 w (by rw [hlen]; simpa using hc) (by rw [hlen]; simpa using hf) hone
  simp only [Nat.add_zero] at hst
  simp only [Builtin.clear_, run_underlying Try.underlying22, Try.zeroValue29, Sem.run_bind, Sem.run_pure, Result.andThen_ok, ← hvs, hst, List.getElem?_toArray, List.getElem?_cons_zero]
  done
theorem rowW_cut {w : World} {g n m : Nat} {f : Nat → Card} (h : RowW w g n f) (hm : m ≤ n) (vs : List Value) : CardsAt (w.setCells g (m * 4) vs) (some ⟨g, 0, none⟩) ((List.range m).map f) := fun i hi => by
  simp only [List.length_map, List.length_range] at hi
  refine ⟨g, 0, rfl, by rw [size_sc]; exact h.1, ?_⟩
  obtain ⟨⟨a, b, cc, d⟩, _⟩ := h.2 i (by omega)
  rw [Nat.zero_add, show cx ((List.range m).map f) i = f i by rw [cx_get _ _ (by simpa using hi)]; simp]
  have far : ∀ y : Nat, y < 4 → (w.setCells g (m * 4) vs).cell? ⟨g, i * 4 + y, none⟩ = w.cell? ⟨g, i * 4 + y, none⟩ := fun y hy => World.cell?_setCells_out g vs (m * 4) w _ (fun _ _ => .inl (by show i * 4 + y < m * 4; omega))
  exact ⟨(far 0 (by omega)).trans a, (far 1 (by omega)).trans b, (far 2 (by omega)).trans cc, (far 3 (by omega)).trans d⟩
theorem put_rel {w wr : World} {g n k : Nat} {f : Nat → Card} (c : Card) (hr : RowW wr g n f) (hg : w.grownBy wr (some g)) (hi : k < n) (w' : World)
    (hk : Kept ((((wr.setCell ⟨g, k * 4, none⟩ (.int .i64 c.a)).setCell ⟨g, k * 4 + 1, none⟩ (.int .i64 c.b)).setCell ⟨g, k * 4 + 2, none⟩ (.int .i64 c.c)).setCell ⟨g, k * 4 + 3, none⟩ (.int .i64 c.d)) w') : (∃ f', RowW w' g n f') ∧ w.grownBy w' (some g) := by
  refine ⟨⟨_, (hr.set hi c).kept hk⟩, ?_⟩
  exact (grown_setCell (grown_setCell (grown_setCell (grown_setCell hg (p := ⟨g, k * 4, none⟩) rfl _) (p := ⟨g, k * 4 + 1, none⟩) rfl _) (p := ⟨g, k * 4 + 2, none⟩) rfl _) (p := ⟨g, k * 4 + 3, none⟩) rfl _).trans (kept_gb hk)
theorem adj_dup : ∀ (n : Nat) (zs : List Card), zs.length = n → (∃ k, k + 1 < n ∧ cx zs (k + 1) = cx zs k) → ∃ p, p + 1 < n ∧ cx zs (p + 1) = cx zs p ∧ ∀ k, k < p → cx zs (k + 1) ≠ cx zs k := by
  rintro n zs hn ⟨k, hk, he⟩
  induction k using Nat.strongRecOn with
  | ind k ih =>
    by_cases h : ∃ j, j < k ∧ cx zs (j + 1) = cx zs j
    · obtain ⟨j, hj, hje⟩ := h
      exact ih j hj (by omega) hje
    · exact ⟨k, hk, he, fun j hj e => h ⟨j, hj, e⟩⟩
theorem le_adj_asc {zs : List Card} (hc : ∀ c ∈ zs, isCard c = true) (hs : zs.Pairwise fun a b => numC a ≤ numC b) (hne : ∀ k, k + 1 < zs.length → cx zs (k + 1) ≠ cx zs k) : Asc zs := by
  unfold Asc
  rw [List.pairwise_iff_getElem] at hs ⊢
  have step : ∀ d i, (h : i + d + 1 < zs.length) → numC (zs[i]'(by omega)) < numC (zs[i + d + 1]'h) := by
    intro d
    induction d with
    | zero =>
      intro i h
      have a := hs i (i + 0 + 1) (by omega) h (by omega)
      have b := hne i (by omega)
      rw [cx_get _ _ (by omega), cx_get _ _ (by omega)] at b
      by_cases e : numC (zs[i]'(by omega)) = numC (zs[i + 0 + 1]'h)
      · exfalso
        apply b
        rw [← cardN_numC (hc _ (List.getElem_mem (by omega : i < zs.length))), ← cardN_numC (hc _ (List.getElem_mem (by omega : i + 1 < zs.length))), e]
      · omega
    | succ d ih =>
      intro i h
      have a := ih i (by omega)
      have b := hs (i + d + 1) (i + (d + 1) + 1) (by omega) h (by omega)
      exact Int.lt_of_lt_of_le a b
  intro i j hi hj hij
  obtain ⟨d, rfl⟩ : ∃ d, j = i + d + 1 := ⟨j - i - 1, by omega⟩
  exact step d i hj
end Go.Proofs.Ytjlaoocomkonhaa
namespace Go.Proofs.Ytjlaoocomkonhaa
open Go.RowKit
theorem l2OwnA_any (cs : List Card) (n : Nat) (bo : Option Addr) (cap : Nat) (w : World) (hn : cs.length = n) (hb : CardsAt w bo cs) (h0 : bo = none → n = 0 ∧ cap = 0) (hl : n ≤ 1048576) :
    Calls Try.prog 29 #[.slice bo n cap] w (RetC w cs) := by
  have hbH := hid hb
  have hnH := hid hn
  obtain ⟨i, hi, hz, hsz, hby⟩ := info_parts info_card
  clear hb hn
  cases bo with
  | none =>
    obtain ⟨rfl, rfl⟩ := h0 rfl
    have e : cs = [] := List.eq_nil_of_length_eq_zero hnH.out
    subst e
    go_enter Try.func29, Try.ntmps29
    go_wp2_with (first | (at_builtin; refine wpList_append_own_none rfl _ _ 22 rfl w.heap.size T4 i 4 Try.underlying22 hi _ 0 [] rfl (ownC_nil (Nat.le_refl _) (heap_at rfl)) rfl ?_))
    go_ret
    exact ⟨_, rfl, ownC_nil (Nat.le_refl _) (heap_at rfl), (by (try simp only [ext_ext]); repeat (first | exact Kept.refl _ | apply Kept.alloc | apply Kept.drew | apply kept_add | apply Kept.ext))⟩
  | some ad =>
    have hl1 := hid (show (cells4 cs).length = n * 4 by rw [cells4_length, hnH.out])
    have hcell := hid (fun (w' : World) (hk : Kept w w') j u (hj : (cells4 cs)[j]? = some u) => cards_cells_add (hbH.out.kept hk) hj)
    have h1c := hid (cells4_one cs)
    go_enter Try.func29, Try.ntmps29
    go_wp2_with (first | (at_builtin; refine wpList_append_own_at _ rfl _ _ 22 rfl w.heap.size T4 i _ 4 32 Try.underlying22 hi hz hsz hby rfl (by decide) (.slice (some ⟨w.heap.size, 0, none⟩) 0 0) 0 [] rfl (ownC_nil (Nat.le_refl _) (heap_at rfl)) ad n cap (cells4 cs) rfl hl1.out (hcell.out _ (by (try simp only [ext_ext]); repeat (first | exact Kept.refl _ | apply Kept.alloc | apply Kept.drew | apply kept_add | apply Kept.ext))) h1c.out (by unfold maxLen; omega) (by omega) (by simp) ?_; intro v' w' hown hg _ hat))
    refine bodyPost_ret (v := v') (by simp [results, Try.results29, go_sem]) rfl ?_
    refine ⟨v', rfl, ?_, (show Kept w _ from (by (try simp only [ext_ext]); repeat (first | exact Kept.refl _ | apply Kept.alloc | apply Kept.drew | apply kept_add | apply Kept.ext))).grown hg fun k hk => by cases hk; exact Nat.le_refl _⟩
    unfold OwnC
    rw [hnH.out]
    simpa using hown
theorem cards_drop {w : World} {g off n cap : Nat} {cs : List Card} (h : CardsAt w (some ⟨g, off, none⟩) cs) (hn : cs.length = n) (hc : n ≤ cap) (k : Nat) : CardsAt w (if cap = k then some ⟨g, off, none⟩ else some ⟨g, off + k * 4, none⟩) (cs.drop k) := by
  intro i hi
  rw [List.length_drop] at hi
  obtain ⟨_, _, he, hg, h1⟩ := h (k + i) (by omega)
  cases he
  rw [if_neg (by omega)]
  refine ⟨g, off + k * 4, rfl, hg, ?_⟩
  rw [show off + k * 4 + i * 4 = off + (k + i) * 4 by rw [Nat.add_mul]; omega]
  have e : cx (cs.drop k) i = cx cs (k + i) := by simp [cx]
  rw [e]; exact h1
theorem step_append_cardO {ops : Array Oper} {o : Oper} {a : Act} {K : Act → World → Prop} {Q : Exit → Act → World → Prop} {E : Prop} {w : World} (hgd : o.guard = none) (s x : Operand)
    (ho : o.op = .call { callee := .builtin .append, args := #[s, x], argTypes := #[22, 22] }) (W : World) (B : Nat) (v : Value) (cs : List Card) (hs : a.eval s = v) (hown : OwnC B w v cs) (hk : Kept W w) (hWB : W.heap.size ≤ B) (hBw : B ≤ w.heap.size)
    (g cap : Nat) (c : Card) (hx : a.eval x = .slice (some ⟨g, 0, none⟩) 1 cap) (hc : CardCells w g 0 c) (hl : cs.length ≤ 1048)
    (h : ∀ v' w', OwnC B w' v' (cs ++ [c]) → Kept W w' → K (a.put o.dst v') w') : if Region.wanted o (yielded ops a.tmps) = true then Oper.wp Try.prog o a w K Q else E := by
  have hg : g < w.heap.size := by
    rcases Nat.lt_or_ge g w.heap.size with h' | h'
    · exact h'
    · have := hc.1
      simp [World.cell?, Array.getElem?_eq_none h'] at this
  refine step_append_card1 hgd s x ho W B v cs hs hown hk hWB hBw ⟨g, 0, none⟩ 1 cap [c] hx rfl (fun i hi => ?_) (by omega) h
  obtain rfl : i = 0 := by simp at hi; omega
  exact ⟨g, 0, rfl, hg, hc⟩
end Go.Proofs.Ytjlaoocomkonhaa
