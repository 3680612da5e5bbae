/- Contracts: cards put in order, each once (impl.sorted). -/
import Derived.Test.YtenmnipgnjaheaaT73
import Derived.Test.YtenmnipgnjaheaaT59
namespace Go.Proofs.Ytenmnipgnjaheaa
open Go.RowKit
theorem cloneA_any (g off cap n : Nat) (cs : List Card) (w : World) (hx : CardsAt w (some ⟨g, off, none⟩) cs) (hn : cs.length = n) (hl : n ≤ 1048576) :
    Calls Try.prog 77 #[.slice (some ⟨g, off, none⟩) n cap] w fun e w' => ∃ g' cap', e = .returned (.slice (some ⟨g', 0, none⟩) n cap') ∧ w.heap.size ≤ g' ∧ OwnC w.heap.size w' (.slice (some ⟨g', 0, none⟩) n cap') cs ∧ Kept w w' := by
  have hxH := hid hx
  obtain ⟨i, hi, hz, hsz, hb⟩ := info_parts info_card
  have hl4 := hid (show (cells4 cs).length = n * 4 by rw [cells4_length, hn])
  have hnH := hid hn
  have hcell := hid (fun (w' : World) (hk : Kept w w') j u (hj : (cells4 cs)[j]? = some u) => cards_cells_add (hxH.out.kept hk) hj)
  have h1c := hid (cells4_one cs)
  have qT : ∀ (w : World) (a : Option Addr) (n c : Nat), (binOp .eql 22 (.slice a n c) (.slice none 0 0)).run Try.prog w = .ok (.bool a.isNone) w := fun w a n c => Lib.run_eql_slice_nil w _ _ a n c 0 0 Try.underlying22
  clear hx hn
  go_enter Try.func77, Try.ntmps77
  go_wp2_with (first | (at_builtin; refine wpList_append_own_at _ rfl _ _ 22 rfl w.heap.size T4 i _ 4 32 Try.underlying22 hi hz hsz hb rfl (by decide) (.slice (some ⟨w.heap.size, 0, none⟩) 0 0) 0 [] rfl (ownC_nil (Nat.le_refl _) (heap_at rfl)) ⟨g, off, none⟩ n cap (cells4 cs) rfl hl4.out (hcell.out _ (by (try simp only [ext_ext]); repeat (first | exact Kept.refl _ | apply Kept.alloc | apply Kept.drew | apply kept_add | apply Kept.ext))) h1c.out (by unfold maxLen; omega) (by omega) (by simp) ?_; intro v' w' hown hg _ hat))
  refine bodyPost_ret (v := v') (by simp [results, Try.results77, go_sem]) rfl ?_
  have hO : OwnC w.heap.size w' v' cs := by
    unfold OwnC
    rw [hnH.out]
    simpa using hown
  obtain ⟨g', hv⟩ : ∃ g', v'.ownBlock = some g' := by
    rcases hat with e | e
    · exact ⟨_, e⟩
    · exact ⟨_, e⟩
  rcases hO.2 with ⟨e, _⟩ | ⟨g2, cap2, cur, e, hb2, _⟩
  · subst e; cases hv
  · subst e
    rw [hnH.out] at hO ⊢
    exact ⟨g2, cap2, rfl, hb2, hO, (show Kept w _ from (by (try simp only [ext_ext]); repeat (first | exact Kept.refl _ | apply Kept.alloc | apply Kept.drew | apply kept_add | apply Kept.ext))).grown hg fun k hk => by cases hk; exact Nat.le_refl _⟩
theorem compactN_any (g cap n : Nat) (cs : List Card) (w : World) (hn : cs.length = n) (hx : CardsAt w (some ⟨g, 0, none⟩) cs) (hne : ∀ k, k + 1 < n → cx cs (k + 1) ≠ cx cs k) (hl : n ≤ 1048576) :
    Calls Try.prog 80 #[.slice (some ⟨g, 0, none⟩) n cap] w fun e w' => e = .returned (.slice (some ⟨g, 0, none⟩) n cap) ∧ Kept w w' := by
  have hxH := hid hx
  have hneH := hid hne
  have hnH := hid hn
  clear hx hne hn
  by_cases h2 : n < 2
  · go_enter Try.func80, Try.ntmps80
    go_wp2
    go_ret
    exact ⟨rfl, (by (try simp only [ext_ext]); repeat (first | exact Kept.refl _ | apply Kept.alloc | apply Kept.drew | apply kept_add | apply Kept.ext))⟩
  · go_enter Try.func80, Try.ntmps80
    go_wp2
    go_loopw [3] (fun i wr => ∃ k : Nat, k + 1 ≤ n ∧ i = .int .i64 ((k + 1 : Nat) : Int) ∧ Kept w wr) (fun i _ => n - (intOf i).toNat)
    case atStart => exact ⟨0, by omega, by go_num, (by (try simp only [ext_ext]); repeat (first | exact Kept.refl _ | apply Kept.alloc | apply Kept.drew | apply kept_add | apply Kept.ext))⟩
    case round =>
      obtain ⟨k, hk, rfl, z, rfl⟩ := hrel
      by_cases hlt : k + 1 < n
      · obtain ⟨g1, o1, e1, hg, a1, a2, a3, a4⟩ := hxH.out k (by rw [hnH.out]; omega)
        cases e1
        obtain ⟨g1, o1, e1, _, b1, b2, b3, b4⟩ := hxH.out (k + 1) (by rw [hnH.out]; omega)
        cases e1
        have hd : decide (cx cs (k + 1) = cx cs k) = false := decide_eq_false (hneH.out k hlt)
        simp only [Nat.zero_add] at a1 a2 a3 a4 b1 b2 b3 b4
        have hs1 : IntKind.i64.wrap (((k + 1 : Nat) : Int) - 1) = (k : Int) := by rw [show (((k + 1 : Nat) : Int) - 1) = (k : Int) by omega]; exact Go.IntWalk.i64_in _ ⟨by omega, by omega⟩
        go_wp2_with (first | (refine wp_region_ext (by kernel_rfl) (by kernel_rfl) ?_; (repeat (go_big_quiet_step (fail))); refine wpQuiet_end fun z => ?_))
        go_roundw
        case rel => exact ⟨k + 1, by omega, by go_num, (by (try simp only [ext_ext]); repeat (first | exact Kept.refl _ | apply Kept.alloc | apply Kept.drew | apply kept_add | apply Kept.ext))⟩
        case measure => simp [intOf]; omega
      · go_wp2
        go_ret
        exact ⟨rfl, (by (try simp only [ext_ext]); repeat (first | exact Kept.refl _ | apply Kept.alloc | apply Kept.drew | apply kept_add | apply Kept.ext))⟩
theorem run_clear_cards (w : World) (b o m c : Nat) (ty : TypeId) (hm : 0 < m)
    (hc : ∀ j, j < m * 4 → (w.cell? ⟨b, o + j, none⟩).isSome = true) (hf : ∀ j, j < m * 4 → w.frozen? ⟨b, o + j, none⟩ = false) :
    ∃ vs, (Builtin.clear_ #[22] ty #[.slice (some ⟨b, o, none⟩) m c]).run Try.prog w = .ok (.tuple #[]) (w.setCells b o vs) := by
  obtain ⟨vs, hvs⟩ : ∃ vs, vs = (Builtin.zeroCells (Value.agg #[Value.int .i64 0, .int .i64 0, .int .i64 0, .int .i64 0]).cells m).toList := ⟨_, rfl⟩
  have hlen : vs.length = m * 4 := by rw [hvs, Array.length_toList, size_zeroCells]; rfl
  have hone : ∀ v ∈ vs, v.oneCell' = true := fun v hv => by
    rw [hvs] at hv
    simp only [Builtin.zeroCells, Array.toList_map, List.mem_map] at hv
    obtain ⟨i, _, rfl⟩ := hv
    have hz : (Value.agg #[Value.int .i64 0, .int .i64 0, .int .i64 0, .int .i64 0]).cells = #[Value.int .i64 0, .int .i64 0, .int .i64 0, .int .i64 0] := by kernel_rfl
    rw [hz]
    have : i % (#[Value.int .i64 0, .int .i64 0, .int .i64 0, .int .i64 0] : Array Value).size < 4 := Nat.mod_lt _ (by decide)
    generalize i % (#[Value.int .i64 0, .int .i64 0, .int .i64 0, .int .i64 0] : Array Value).size = r at this
    obtain rfl | rfl | rfl | rfl : r = 0 ∨ r = 1 ∨ r = 2 ∨ r = 3 := by omega
    all_goals rfl
  refine ⟨vs, ?_⟩
  obtain ⟨m, rfl⟩ : ∃ m1, m = m1 + 1 := ⟨m - 1, by omega⟩
  have hst := run_storeCells_cells (P := Try.prog) b o vs 0 w (by rw [hlen]; simpa using hc) (by rw [hlen]; simpa using hf) hone
  simp only [Nat.add_zero] at hst
  simp only [Builtin.clear_, run_underlying Try.underlying22, Try.zeroValue48, Sem.run_bind, Sem.run_pure, Result.andThen_ok, ← hvs, hst, List.getElem?_toArray, List.getElem?_cons_zero]
  done
theorem rowW_cut {w : World} {g n m : Nat} {f : Nat → Card} (h : RowW w g n f) (hm : m ≤ n) (vs : List Value) : CardsAt (w.setCells g (m * 4) vs) (some ⟨g, 0, none⟩) ((List.range m).map f) := fun i hi => by
  simp only [List.length_map, List.length_range] at hi
  refine ⟨g, 0, rfl, by rw [size_sc]; exact h.1, ?_⟩
  obtain ⟨⟨a, b, cc, d⟩, _⟩ := h.2 i (by omega)
  rw [Nat.zero_add, show cx ((List.range m).map f) i = f i by rw [cx_get _ _ (by simpa using hi)]; simp]
  have far : ∀ y : Nat, y < 4 → (w.setCells g (m * 4) vs).cell? ⟨g, i * 4 + y, none⟩ = w.cell? ⟨g, i * 4 + y, none⟩ := fun y hy => World.cell?_setCells_out g vs (m * 4) w _ (fun _ _ => .inl (by show i * 4 + y < m * 4; omega))
  exact ⟨(far 0 (by omega)).trans a, (far 1 (by omega)).trans b, (far 2 (by omega)).trans cc, (far 3 (by omega)).trans d⟩
theorem put_rel {w wr : World} {g n k : Nat} {f : Nat → Card} (c : Card) (hr : RowW wr g n f) (hg : w.grownBy wr (some g)) (hi : k < n) (w' : World)
    (hk : Kept ((((wr.setCell ⟨g, k * 4, none⟩ (.int .i64 c.a)).setCell ⟨g, k * 4 + 1, none⟩ (.int .i64 c.b)).setCell ⟨g, k * 4 + 2, none⟩ (.int .i64 c.c)).setCell ⟨g, k * 4 + 3, none⟩ (.int .i64 c.d)) w') : (∃ f', RowW w' g n f') ∧ w.grownBy w' (some g) := by
  refine ⟨⟨_, (hr.set hi c).kept hk⟩, ?_⟩
  exact (grown_setCell (grown_setCell (grown_setCell (grown_setCell hg (p := ⟨g, k * 4, none⟩) rfl _) (p := ⟨g, k * 4 + 1, none⟩) rfl _) (p := ⟨g, k * 4 + 2, none⟩) rfl _) (p := ⟨g, k * 4 + 3, none⟩) rfl _).trans (kept_gb hk)
set_option maxHeartbeats 1000000 in
theorem compactD_any (g cap p r : Nat) (cs : List Card) (w : World) (hn : cs.length = p + 1 + (r + 1)) (hrow : RowW w g (p + 1 + (r + 1)) (cx cs)) (hpe : cx cs (p + 1) = cx cs p) (hne : ∀ k, k < p → cx cs (k + 1) ≠ cx cs k) (hcap : p + 1 + (r + 1) ≤ cap) (hl : p + 1 + (r + 1) ≤ 1048576) :
    Calls Try.prog 80 #[.slice (some ⟨g, 0, none⟩) ((p + 1 + (r + 1) : Nat)) cap] w fun e w' => ∃ (m : Nat) (zs : List Card), e = .returned (.slice (some ⟨g, 0, none⟩) m cap) ∧ m < p + 1 + (r + 1) ∧ zs.length = m ∧ CardsAt w' (some ⟨g, 0, none⟩) zs ∧ w.grownBy w' (some g) := by
  have hrowH := hid hrow
  have hx := hrow.cards (cs := cs) (by omega) (fun t _ => rfl)
  have hxH := hid hx
  have hneH := hid hne
  have hpeH := hid hpe
  have hnH := hid hn
  obtain ⟨n, hN⟩ : ∃ n, n = p + 1 + (r + 1) := ⟨_, rfl⟩
  rw [← hN] at hcap hl ⊢
  have hNH := hid hN
  have hpn : p + 1 < n := by omega
  clear hx hne hn hpe hrow hN
  go_enter Try.func80, Try.ntmps80
  go_wp2
  go_loopw [3] (fun i wr => ∃ k : Nat, k ≤ p ∧ i = .int .i64 ((k + 1 : Nat) : Int) ∧ Kept w wr) (fun i _ => n - (intOf i).toNat)
  case atStart => exact ⟨0, by omega, by go_num, (by (try simp only [ext_ext]); repeat (first | exact Kept.refl _ | apply Kept.alloc | apply Kept.drew | apply kept_add | apply Kept.ext))⟩
  case round =>
    obtain ⟨w0, hw0⟩ : ∃ w0, w0 = wr := ⟨_, rfl⟩
    subst hw0
    obtain ⟨k, hk, rfl, hk0⟩ := hrel
    have hk0H := hid hk0
    obtain ⟨g1, o1, e1, hg, a1, a2, a3, a4⟩ := (hxH.out.kept hk0) k (by rw [hnH.out]; omega)
    cases e1
    obtain ⟨g1, o1, e1, _, b1, b2, b3, b4⟩ := (hxH.out.kept hk0) (k + 1) (by rw [hnH.out]; omega)
    cases e1
    simp only [Nat.zero_add] at a1 a2 a3 a4 b1 b2 b3 b4
    have hs1 : IntKind.i64.wrap (((k + 1 : Nat) : Int) - 1) = (k : Int) := by rw [show (((k + 1 : Nat) : Int) - 1) = (k : Int) by omega]; exact Go.IntWalk.i64_in _ ⟨by omega, by omega⟩
    have hlt : k + 1 < n := by omega
    by_cases hkp : k < p
    · have hd : decide (cx cs (k + 1) = cx cs k) = false := decide_eq_false (hneH.out k hkp)
      go_wp2_with (first | (refine wp_region_ext (by kernel_rfl) (by kernel_rfl) ?_; (repeat (go_big_quiet_step (fail))); refine wpQuiet_end fun z => ?_))
      go_roundw
      case rel => exact ⟨k + 1, by omega, by go_num, hk0H.out.ext _⟩
      case measure => simp [intOf]; omega
    · obtain rfl : k = p := by omega
      have hd : decide (cx cs (k + 1) = cx cs k) = true := decide_eq_true hpeH.out
      have hc0 : ¬ cap = k + 1 := by omega
      go_wp2_with (first | (refine wp_region_ext (by kernel_rfl) (by kernel_rfl) ?_; (repeat (go_big_quiet_step (fail))); refine wpQuiet_end fun z => ?_))
      go_loopw [3, 5] (fun i j wr => ∃ (q t : Nat) (f : Nat → Card), i = .int .i64 (q : Int) ∧ j = .int .i64 ((t + 1 : Nat) : Int) ∧ k + 1 ≤ q ∧ q ≤ k + 1 + t ∧ t + 1 ≤ n - (k + 1) ∧ RowW wr g n f ∧ w.grownBy wr (some g)) (fun _ j _ => n - (intOf j).toNat)
      case atStart => exact ⟨k + 1, 0, cx cs, by go_num, by go_num, by omega, by omega, by omega, by rw [hNH.out]; exact hrowH.out.kept (hk0H.out.ext _), kept_gb (hk0H.out.ext _)⟩
      case round =>
        obtain ⟨q, t, f, rfl, rfl, hq1, hq2, ht, hr, hgr⟩ := hrel
        have hrH := hid hr
        have hgH := hid hgr
        have hgs := hr.1
        by_cases hin : t + 1 < n - (k + 1)
        · obtain ⟨⟨c1, c2, c3, c4⟩, _⟩ := hr.2 (k + 1 + t) (by omega)
          obtain ⟨⟨d1, d2, d3, d4⟩, _⟩ := hr.2 (k + 1 + (t + 1)) (by omega)
          obtain ⟨⟨e1, e2, e3, e4⟩, ff⟩ := hr.2 q (by omega)
          have f0 : wr.frozen? ⟨g, q * 4, none⟩ = false := ff 0 (by omega)
          have f1 := ff 1 (by omega)
          have f2 := ff 2 (by omega)
          have f3 := ff 3 (by omega)
          rw [Nat.add_mul (k + 1)] at c1 c2 c3 c4 d1 d2 d3 d4
          have hs2 : IntKind.i64.wrap (((t + 1 : Nat) : Int) - 1) = (t : Int) := by rw [show (((t + 1 : Nat) : Int) - 1) = (t : Int) by omega]; exact Go.IntWalk.i64_in _ ⟨by omega, by omega⟩
          clear hr hgr ff a1 a2 a3 a4 b1 b2 b3 b4
          by_cases he : f (k + 1 + (t + 1)) = f (k + 1 + t)
          · have hd2 : decide (f (k + 1 + (t + 1)) = f (k + 1 + t)) = true := decide_eq_true he
            clear he
            go_wp2_with (first | (refine wp_region_ext (by kernel_rfl) (by kernel_rfl) ?_; (repeat (go_big_quiet_step (fail))); refine wpQuiet_end fun z => ?_))
            go_roundw
            case rel => exact ⟨q, t + 1, f, by go_num, by go_num, hq1, by omega, by omega, hrH.out.kept ((Kept.refl _).ext _), hgH.out.trans (kept_gb ((Kept.refl _).ext _))⟩
            case measure => simp [intOf]; omega
          · have hd2 : decide (f (k + 1 + (t + 1)) = f (k + 1 + t)) = false := decide_eq_false he
            clear he
            have hq3 : IntKind.i64.wrap ((q : Int) + 1) = (q : Int) + 1 := Go.IntWalk.i64_in _ ⟨by omega, by omega⟩
            go_wp2_with (first | (refine wp_region_ext (by kernel_rfl) (by kernel_rfl) ?_; (repeat (go_big_quiet_step (fail))); refine wpQuiet_end fun z => ?_))
            go_roundw
            case rel =>
              obtain ⟨⟨f', hf'⟩, hg'⟩ := put_rel (k := q) (f (k + 1 + (t + 1))) hrH.out hgH.out (by omega) _ ((Kept.refl _).ext z)
              exact ⟨q + 1, t + 1, f', by go_num, by go_num, by omega, by omega, by omega, hf', hg'⟩
            case measure => simp [intOf]; omega
        · have hqn : q < n := by omega
          have hqc : q ≤ cap := by omega
          have hqc1 : ¬ cap = q := by omega
          obtain ⟨vs, hclr⟩ : ∃ vs, ∀ ty, (Builtin.clear_ #[22] ty #[.slice (some ⟨g, q * 4, none⟩) (n - q) (cap - q)]).run Try.prog wr = .ok (.tuple #[]) (wr.setCells g (q * 4) vs) := by
            have key : ∀ j, j < (n - q) * 4 → (wr.cell? ⟨g, q * 4 + j, none⟩).isSome = true ∧ wr.frozen? ⟨g, q * 4 + j, none⟩ = false := fun j hj => by
              obtain ⟨⟨c1, c2, c3, c4⟩, ff⟩ := hr.2 (q + j / 4) (by omega)
              have hfj := ff (j % 4) (by omega)
              have e0 : (q + j / 4) * 4 = q * 4 + j / 4 * 4 := Nat.add_mul ..
              rw [e0] at c1 c2 c3 c4 hfj
              rw [show q * 4 + j / 4 * 4 + j % 4 = q * 4 + j by omega] at hfj
              refine ⟨?_, hfj⟩
              obtain e | e | e | e : j % 4 = 0 ∨ j % 4 = 1 ∨ j % 4 = 2 ∨ j % 4 = 3 := by omega
              · rw [show q * 4 + j = q * 4 + j / 4 * 4 by omega, c1]; rfl
              · rw [show q * 4 + j = q * 4 + j / 4 * 4 + 1 by omega, c2]; rfl
              · rw [show q * 4 + j = q * 4 + j / 4 * 4 + 2 by omega, c3]; rfl
              · rw [show q * 4 + j = q * 4 + j / 4 * 4 + 3 by omega, c4]; rfl
            obtain ⟨vs, hv⟩ := run_clear_cards wr g (q * 4) (n - q) (cap - q) 0 (by omega) (fun j hj => (key j hj).1) (fun j hj => (key j hj).2)
            exact ⟨vs, fun ty => hv⟩
          clear hr hgr a1 a2 a3 a4 b1 b2 b3 b4
          go_wp2
          go_ret
          exact ⟨q, (List.range q).map f, rfl, by omega, by simp, rowW_cut hrH.out (by omega) _, grown_setCells hgH.out _ _⟩
theorem adj_dup : ∀ (n : Nat) (zs : List Card), zs.length = n → (∃ k, k + 1 < n ∧ cx zs (k + 1) = cx zs k) → ∃ p, p + 1 < n ∧ cx zs (p + 1) = cx zs p ∧ ∀ k, k < p → cx zs (k + 1) ≠ cx zs k := by
  rintro n zs hn ⟨k, hk, he⟩
  induction k using Nat.strongRecOn with
  | ind k ih =>
    by_cases h : ∃ j, j < k ∧ cx zs (j + 1) = cx zs j
    · obtain ⟨j, hj, hje⟩ := h
      exact ih j hj (by omega) hje
    · exact ⟨k, hk, he, fun j hj e => h ⟨j, hj, e⟩⟩
theorem le_adj_asc {zs : List Card} (hc : ∀ c ∈ zs, isCard c = true) (hs : zs.Pairwise fun a b => numC a ≤ numC b) (hne : ∀ k, k + 1 < zs.length → cx zs (k + 1) ≠ cx zs k) : Asc zs := by
  unfold Asc
  rw [List.pairwise_iff_getElem] at hs ⊢
  have step : ∀ d i, (h : i + d + 1 < zs.length) → numC (zs[i]'(by omega)) < numC (zs[i + d + 1]'h) := by
    intro d
    induction d with
    | zero =>
      intro i h
      have a := hs i (i + 0 + 1) (by omega) h (by omega)
      have b := hne i (by omega)
      rw [cx_get _ _ (by omega), cx_get _ _ (by omega)] at b
      by_cases e : numC (zs[i]'(by omega)) = numC (zs[i + 0 + 1]'h)
      · exfalso
        apply b
        rw [← cardN_numC (hc _ (List.getElem_mem (by omega : i < zs.length))), ← cardN_numC (hc _ (List.getElem_mem (by omega : i + 1 < zs.length))), e]
      · omega
    | succ d ih =>
      intro i h
      have a := ih i (by omega)
      have b := hs (i + d + 1) (i + (d + 1) + 1) (by omega) h (by omega)
      exact Int.lt_of_lt_of_le a b
  intro i j hi hj hij
  obtain ⟨d, rfl⟩ : ∃ d, j = i + d + 1 := ⟨j - i - 1, by omega⟩
  exact step d i hj
/-- What impl.sorted hands back: in the caller's terms. -/
def RetS (W : World) (cs : List Card) (e : Ending) (w' : World) : Prop := ∃ (zs : List Card) (v : Value), e = .returned v ∧ OwnC W.heap.size w' v zs ∧ Kept W w' ∧ (distC cs → zs = srt cs) ∧ (¬ distC cs → zs.length < cs.length)
theorem sorted_any (g off cap n : Nat) (cs : List Card) (w : World) (hx : CardsAt w (some ⟨g, off, none⟩) cs) (hn : cs.length = n) (hc : ∀ c ∈ cs, isCard c = true) (hl : n ≤ 1048576) :
    Calls Try.prog 63 #[.slice (some ⟨g, off, none⟩) n cap] w (RetS w cs) := by
  have hC := hid (fun (w' : World) (hk : Kept w w') => cloneA_any g off cap n cs w' (hx.kept hk) hn hl)
  have hnH := hid hn
  have hcH := hid hc
  clear hx hn hc
  go_enter Try.func63, Try.ntmps63
  go_wp2_with (fail)
  (go_at_call 77; refine Calls.mono (hC.out _ (by (try simp only [ext_ext]); repeat (first | exact Kept.refl _ | apply Kept.alloc | apply Kept.drew | apply kept_add | apply Kept.ext))) ?_; rintro e w1 ⟨g1, cap1, rfl, hg1, ho1, k1⟩)
  have ho1 := ho1
  have hrow := ownC_rowW ho1 hnH.out
  have hcap1 := hid (ho1.capN hnH.out)
  have hS := hid (sortCards_any g1 cap1 n cs w1 hcH.out hnH.out hrow hl)
  have hk1 := hid (show Kept w w1 from Kept.trans (by (try simp only [ext_ext]); repeat (first | exact Kept.refl _ | apply Kept.alloc | apply Kept.drew | apply kept_add | apply Kept.ext)) k1)
  have hg1H := hid (show w.heap.size ≤ g1 from hg1)
  clear ho1 hrow k1 hg1
  go_wp2_with (fail)
  (go_at_call 78; refine Calls.mono hS.out ?_; rintro e w2 ⟨rfl, zs, hzl, hperm, hle, hrow2, hg2⟩)
  have hk2 := hid (hk1.out.grown hg2 (fun k e => by cases e; exact hg1H.out))
  have hx2 := hid (hrow2.cards (cs := zs) (by omega) (fun t _ => rfl))
  have hrow2H := hid hrow2
  have hzc : ∀ c ∈ zs, isCard c = true := fun c h => hcH.out c (hperm.mem_iff.1 h)
  have hmem : ∀ c, c ∈ zs ↔ c ∈ cs := fun c => hperm.mem_iff
  have hnd : zs.Nodup ↔ cs.Nodup := hperm.nodup_iff
  have hzlH := hid hzl
  clear hperm hg2 hrow2 hS hzl
  by_cases hadj : ∃ k, k + 1 < n ∧ cx zs (k + 1) = cx zs k
  · obtain ⟨p, hp, hpe, hpn⟩ := adj_dup n zs hzlH.out hadj
    have hnot : ¬ distC cs := fun hd => by
      have h1 := nodup_dist.1 (hnd.2 (nodup_dist.2 hd)) (p + 1) p (by rw [hzlH.out]; omega) (by rw [hzlH.out]; omega) hpe
      omega
    obtain ⟨r, hr⟩ : ∃ r, n = p + 1 + (r + 1) := ⟨n - (p + 1) - 1, by omega⟩
    have hD := hid (compactD_any g1 cap1 p r zs w2 (by rw [hzlH.out, hr]) (by rw [← hr]; exact hrow2H.out) hpe hpn (by rw [← hr]; exact hcap1.out) (by rw [← hr]; exact hl))
    rw [← hr] at hD
    clear hadj hnd hmem hzc hle hpn hpe hr
    go_wp2_with (fail)
    (go_at_call 80; refine Calls.mono hD.out ?_; rintro e w3 ⟨m, ys, rfl, hm, hyl, hx3, hg3⟩)
    have hk3 := hid (hk2.out.grown hg3 (fun k e => by cases e; exact hg1H.out))
    have hC3 := hid (cloneA_any g1 0 cap1 m ys w3 hx3 hyl (by omega))
    have hylH := hid hyl
    clear hx3 hg3 hyl hD
    go_wp2_with (fail)
    (go_at_call 77; refine Calls.mono hC3.out ?_; rintro e w4 ⟨g4, cap4, rfl, hg4, ho4, k4⟩)
    have ho4H := hid ho4
    have hk4 := hid (hk3.out.trans k4)
    have hsz := hid (hk3.out.below.size)
    clear ho4 k4 hC3
    go_wp2_with (fail)
    refine bodyPost_ret (v := .slice (some ⟨g4, 0, none⟩) m cap4) (by simp [results, Try.results63, go_sem]) rfl ?_
    exact ⟨ys, _, rfl, OwnC.mono ho4H.out hsz.out, hk4.out, fun h => absurd h hnot, fun _ => by rw [hylH.out, hnH.out]; exact hm⟩
  · have hasc : Asc zs := le_adj_asc hzc hle (fun k hk e => hadj ⟨k, by rw [hzlH.out] at hk; exact hk, e⟩)
    have heq : zs = srt cs := by rw [← srt_self hzc hasc]; exact srt_congr hmem
    have hdist : distC cs := nodup_dist.1 (hnd.1 (asc_nodup hasc))
    have hN := hid (compactN_any g1 cap1 n zs w2 hzlH.out hx2.out (fun k hk e => hadj ⟨k, hk, e⟩) hl)
    clear hadj hnd hmem hzc hle
    go_wp2_with (fail)
    (go_at_call 80; refine Calls.mono hN.out ?_; rintro e w3 ⟨rfl, k3⟩)
    have hk3 := hid (hk2.out.trans k3)
    have hC3 := hid (cloneA_any g1 0 cap1 n zs w3 (hx2.out.kept k3) hzlH.out (by omega))
    clear k3 hN
    go_wp2_with (fail)
    (go_at_call 77; refine Calls.mono hC3.out ?_; rintro e w4 ⟨g4, cap4, rfl, hg4, ho4, k4⟩)
    have ho4H := hid ho4
    have hk4 := hid (hk3.out.trans k4)
    have hsz := hid (hk3.out.below.size)
    clear ho4 k4 hC3
    go_wp2_with (fail)
    refine bodyPost_ret (v := .slice (some ⟨g4, 0, none⟩) n cap4) (by simp [results, Try.results63, go_sem]) rfl ?_
    exact ⟨zs, _, rfl, OwnC.mono ho4H.out hsz.out, hk4.out, fun _ => heq, fun h => absurd hdist h⟩
end Go.Proofs.Ytenmnipgnjaheaa
