/- Contracts: the magic square. -/
import Derived.Test.YtenmnipgnjaheaaT16
import Derived.Deep.RegionLaw
namespace Go.Proofs.Ytenmnipgnjaheaa
open Go.RowKit
/-- A trait of a card by its place. -/
def Card.get (x : Card) (j : Nat) : Int := match j with | 0 => x.a | 1 => x.b | 2 => x.c | _ => x.d
theorem get_bd {x : Card} (h : isCard x = true) (j : Nat) : 0 ≤ x.get j ∧ x.get j ≤ 2 := by
  obtain ⟨x1, x2, x3, x4⟩ := isCard_of h
  unfold Card.get
  split <;> assumption
theorem get_cell (x : Card) {j : Nat} (hj : j < 4) : ([.int .i64 x.a, .int .i64 x.b, .int .i64 x.c, .int .i64 x.d] : List Value)[j]? = some (.int .i64 (x.get j)) := by
  match j, hj with
  | 0, _ => rfl
  | 1, _ => rfl
  | 2, _ => rfl
  | 3, _ => rfl
theorem get_cell2 (x : Card) {j : Nat} (hj : j < 4) : ([.int .i64 x.a, .int .i64 x.b, .int .i64 x.c, .int .i64 x.d] : List Value)[j]'(by simpa using hj) = .int .i64 (x.get j) := by
  match j, hj with
  | 0, _ => rfl
  | 1, _ => rfl
  | 2, _ => rfl
  | 3, _ => rfl
theorem sq_step (r d : Int) (hr : 0 ≤ r ∧ r ≤ 2) (hd : 1 ≤ d ∧ d ≤ 5) : 0 ≤ r * d ∧ r * d ≤ 10 := by
  have : r = 0 ∨ r = 1 ∨ r = 2 := by omega
  rcases this with rfl | rfl | rfl <;> omega
/-- The trait of the card at a place of the square. -/
def sqT (a b c i : Int) : Int := (a + i % 3 * (b - a + 3) + i / 3 * (c - a + 3)) % 3
/-- The square's numbers, the first n of them written. -/
def sqF (x y z : Card) (n : Nat) : Nat → Int := fun m => if m < n then sqT (x.get (m % 4)) (y.get (m % 4)) (z.get (m % 4)) ((m / 4 : Nat) : Int) else 0
theorem sqF_zero (x y z : Card) : sqF x y z 0 = fun _ => 0 := by funext m; simp [sqF]
theorem sqF_next (x y z : Card) (k j : Nat) (hj : j < 4) : upd (sqF x y z (k * 4 + j)) (k * 4 + j) (sqT (x.get j) (y.get j) (z.get j) (k : Int)) = sqF x y z (k * 4 + (j + 1)) := by
  funext m
  unfold upd sqF
  by_cases h : m = k * 4 + j
  · subst h
    have e1 : (k * 4 + j) % 4 = j := by omega
    have e2 : (k * 4 + j) / 4 = k := by omega
    rw [if_pos rfl, if_pos (by omega), e1, e2]
  · rw [if_neg h]
    by_cases h2 : m < k * 4 + j
    · rw [if_pos h2, if_pos (by omega)]
    · rw [if_neg h2, if_neg (by omega)]
theorem planeC_cards {x y z : Card} (h : planeC x y z = true) : isCard x = true ∧ isCard y = true ∧ isCard z = true := by
  simp only [planeC, Bool.and_eq_true] at h
  exact ⟨h.1.1.1.1.1.1, h.1.1.1.1.1.2, h.1.1.1.1.2⟩
theorem sq_info : (Try.prog.info? 64).map (·.size) = some 36 := by kernel_rfl
theorem wpList_sq_build {ops : Array Oper} {rest : List Oper} {o : Oper} {a : Act} {w : World} {Q : Exit → Act → World → Prop} (hg : o.guard = none) (ho : o.op = .build 64 #[])
    (h : wpList Try.prog ops Q rest (a.put o.dst (.agg (tab 36 fun _ => 0))) w) : wpList Try.prog ops Q (o :: rest) a w := by
  have e : Try.prog.built 64 [] = some (tab 36 fun _ => 0) := by kernel_rfl
  refine wpList_build hg 64 #[] ho ?_ ?_
  · simp [e]
  · simpa [e] using h
theorem wpList_sq_alloc {ops : Array Oper} {rest : List Oper} {o : Oper} {a : Act} {w : World} {Q : Exit → Act → World → Prop} (hg : o.guard = none) (ho : o.op = .alloc 64)
    (h : wpList Try.prog ops Q rest (a.put o.dst (.pointer (some ⟨w.heap.size, 0, none⟩))) (w.alloc (.cells (tab 36 fun _ => 0) 64))) : wpList Try.prog ops Q (o :: rest) a w := by
  have e : (Instr.alloc 64 true (.tuple #[])).run Try.prog w = .ok (.pointer (some ⟨w.heap.size, 0, none⟩)) (w.alloc (.cells (tab 36 fun _ => 0) 64)) := by kernel_rfl
  refine wpList_plain hg fun _ hK => ?_
  unfold Oper.wp execOp
  simp only [ho, Sem.run_bind, e, Result.andThen_ok]
  exact hK _ _ h
theorem wpList_sq_store {ops : Array Oper} {rest : List Oper} {o : Oper} {a : Act} {w : World} {Q : Exit → Act → World → Prop} (hg : o.guard = none) (x y : Operand) (ho : o.op = .store 64 x y)
    (f f' : Nat → Int) (hx : a.eval x = .pointer (some ⟨w.heap.size, 0, none⟩)) (hy : a.eval y = .agg (tab 36 f'))
    (h : wpList Try.prog ops Q rest (a.put o.dst undef) (w.alloc (.cells (tab 36 f') 64))) : wpList Try.prog ops Q (o :: rest) a (w.alloc (.cells (tab 36 f) 64)) := by
  refine wpList_store_row hg 64 x y ho w.heap.size (tab 36 f') hx hy 64 (tab 36 f) (heap_at rfl) ?_ ?_ (tab_one _ _) ?_
  · rw [tab_size]; exact sq_info
  · rw [tab_size, tab_size]
  · rw [setRow_alloc]; exact h
theorem wpList_sq_load {ops : Array Oper} {rest : List Oper} {o : Oper} {a : Act} {w : World} {Q : Exit → Act → World → Prop} (hg : o.guard = none) (x : Operand) (ho : o.op = .load 64 x) (g : Nat)
    (f : Nat → Int) (hx : a.eval x = .pointer (some ⟨g, 0, none⟩)) (hh : w.heap[g]? = some (.cells (tab 36 f) 64))
    (h : wpList Try.prog ops Q rest (a.put o.dst (.agg (tab 36 f))) w) : wpList Try.prog ops Q (o :: rest) a w :=
  wpList_load_row hg 64 x ho g hx 64 (tab 36 f) (0, 0) _ hh Try.underlying64 rfl (by rw [tab_size]; exact sq_info) h
theorem wpList_sq_put {ops : Array Oper} {rest : List Oper} {o : Oper} {a : Act} {w : World} {Q : Exit → Act → World → Prop} (hg : o.guard = none) (x y : Operand) (ho : o.op = .store 64 x y) (g : Nat)
    (f f' : Nat → Int) (hx : a.eval x = .pointer (some ⟨g, 0, none⟩)) (hy : a.eval y = .agg (tab 36 f')) (hh : w.heap[g]? = some (.cells (tab 36 f) 64))
    (h : wpList Try.prog ops Q rest (a.put o.dst undef) (w.setRow g (tab 36 f'))) : wpList Try.prog ops Q (o :: rest) a w :=
  wpList_store_row hg 64 x y ho g (tab 36 f') hx hy 64 (tab 36 f) hh (by rw [tab_size]; exact sq_info) (by rw [tab_size, tab_size]) (tab_one _ _) h
theorem results_sq {fn : Func} {p u : Tmp} (h : fn.results = #[.cell p 64, .tmp u]) (tmps : Array Value) (w : World) (g : Nat) (f : Nat → Int) (v : Value)
    (hp : tmps.getD p undef = .pointer (some ⟨g, 0, none⟩)) (hv : tmps.getD u undef = v) (hg : w.heap[g]? = some (.cells (tab 36 f) 64)) :
    (results fn tmps).run Try.prog w = .ok (.tuple #[.agg (tab 36 f), v]) w := by
  rw [results_cell_tmp h, hp, hv]
  simp [asAddr, run_loadVar_row w g 64 64 (tab 36 f) (0, 0) _ hg Try.underlying64 rfl (by rw [tab_size]; exact sq_info)]
set_option maxHeartbeats 1000000 in
set_option maxRecDepth 20000 in
theorem iMagicSquare_no (x yy zz : Card) (hp : planeC x yy zz = false) (w : World) : Calls Try.prog 40 #[x.v, yy.v, zz.v] w fun e w' => e = .returned (.tuple #[.agg (tab 36 fun _ => 0), .bool false]) ∧ Kept w w' := by
  go_enter Try.func40, Try.ntmps40
  go_wp2_with (first | (go_at_call 66; refine Calls.mono (arePlane_any _ _ _ _) ?_; rintro e w' ⟨rfl, y, rfl⟩) | refine wpList_sq_build rfl rfl ?_ | refine wpList_sq_alloc rfl rfl ?_ | refine wpList_sq_store rfl _ _ rfl _ _ rfl rfl ?_ | refine wpList_sq_load rfl _ rfl _ _ rfl ((ext_heap _ _ _ (by simp)).trans (heap_at (by simp))) ?_ | refine wpList_sq_put rfl _ _ rfl _ _ _ rfl rfl ((ext_heap _ _ _ (by simp <;> omega)).trans (heap_past (by simp) (heap_at (by simp)))) ?_)
  refine bodyPost_ret (v := .tuple #[.agg (tab 36 fun _ => 0), .bool false]) (results_sq rfl _ _ (w.heap.size + 1 + 1 + 1) (fun _ => 0) _ rfl rfl ?_) rfl ⟨rfl, ?_⟩
  · exact setRow_heap _ _ (tab 36 fun _ => 0) _ 64 (0, 0) ((ext_heap _ _ _ (by simp <;> omega)).trans (heap_past (by simp) (heap_at (by simp))))
  · exact Kept.setRow (by (try simp only [ext_ext]); repeat (first | exact Kept.refl _ | apply Kept.alloc | apply Kept.drew | apply kept_add | apply Kept.ext)) (by omega) _
set_option maxHeartbeats 1000000 in
theorem iMagicSquare_yes (x yy zz : Card) (hp : planeC x yy zz = true) (w : World) : Calls Try.prog 40 #[x.v, yy.v, zz.v] w fun e w' => e = .returned (.tuple #[.agg (tab 36 (sqF x yy zz 36)), .bool true]) ∧ Kept w w' := by
  obtain ⟨hx, hy, hz⟩ := planeC_cards hp
  have z0 := hid (sqF_zero x yy zz)
  go_enter Try.func40, Try.ntmps40
  go_wp2_with (first | (go_at_call 66; refine Calls.mono (arePlane_any _ _ _ _) ?_; rintro e w' ⟨rfl, y, rfl⟩) | refine wpList_sq_build rfl rfl ?_ | refine wpList_sq_alloc rfl rfl ?_ | refine wpList_sq_store rfl _ _ rfl _ _ rfl rfl ?_)
  go_loopw [18] (fun i wr => ∃ k : Nat, k ≤ 9 ∧ i = .int .i64 k ∧ Kept (((((w.alloc (.cells #[.int .i64 x.a, .int .i64 x.b, .int .i64 x.c, .int .i64 x.d] 48)).alloc (.cells #[.int .i64 yy.a, .int .i64 yy.b, .int .i64 yy.c, .int .i64 yy.d] 48)).alloc (.cells #[.int .i64 zz.a, .int .i64 zz.b, .int .i64 zz.c, .int .i64 zz.d] 48)).alloc (.cells (tab 36 fun _ => 0) 64)).alloc (.cells (tab 36 (sqF x yy zz (k * 4))) 64)) wr) (fun i _ => 9 - (intOf i).toNat)
  case atStart => exact ⟨0, by omega, rfl, by rw [Nat.zero_mul, z0.out]; exact (by (try simp only [ext_ext]); repeat (first | exact Kept.refl _ | apply Kept.alloc | apply Kept.drew | apply kept_add | apply Kept.ext))⟩
  case round =>
    obtain ⟨k, hk, rfl, u, rfl⟩ := hrel
    by_cases hlt : k < 9
    · go_wp2
      go_loopw [21] (fun j wr => ∃ m : Nat, m ≤ 4 ∧ j = .int .i64 m ∧ Kept (((((w.alloc (.cells #[.int .i64 x.a, .int .i64 x.b, .int .i64 x.c, .int .i64 x.d] 48)).alloc (.cells #[.int .i64 yy.a, .int .i64 yy.b, .int .i64 yy.c, .int .i64 yy.d] 48)).alloc (.cells #[.int .i64 zz.a, .int .i64 zz.b, .int .i64 zz.c, .int .i64 zz.d] 48)).alloc (.cells (tab 36 fun _ => 0) 64)).alloc (.cells (tab 36 (sqF x yy zz (k * 4 + m))) 64)) wr) (fun j _ => 4 - (intOf j).toNat)
      case atStart => exact ⟨0, by omega, rfl, (by (try simp only [ext_ext]); repeat (first | exact Kept.refl _ | apply Kept.alloc | apply Kept.drew | apply kept_add | apply Kept.ext))⟩
      case round =>
        obtain ⟨m, hm, rfl, u2, rfl⟩ := hrel
        by_cases hlt2 : m < 4
        · have gx := get_cell2 x hlt2
          have gy := get_cell2 yy hlt2
          have gz := get_cell2 zz hlt2
          obtain ⟨bx0, bx1⟩ := get_bd hx m
          obtain ⟨by0, by1⟩ := get_bd hy m
          obtain ⟨bz0, bz1⟩ := get_bd hz m
          obtain ⟨p0, p1⟩ := sq_step ((k : Int) % 3) (yy.get m - x.get m + 3) (by omega) (by omega)
          obtain ⟨q0, q1⟩ := sq_step ((k : Int) / 3) (zz.get m - x.get m + 3) (by omega) (by omega)
          have ew : Hid (((x.get m + (k : Int) % 3 * (yy.get m - x.get m + 3) + (k : Int) / 3 * (zz.get m - x.get m + 3)).tmod 3) = sqT (x.get m) (yy.get m) (zz.get m) k) := hid (Int.tmod_eq_emod_of_nonneg (by omega))
          have w1 : IntKind.i64.wrap (yy.get m - x.get m) = yy.get m - x.get m := IntWalk.i64_in _ (by omega)
          have w2 : IntKind.i64.wrap (yy.get m - x.get m + 3) = yy.get m - x.get m + 3 := IntWalk.i64_in _ (by omega)
          have w3 : IntKind.i64.wrap ((k : Int) % 3 * (yy.get m - x.get m + 3)) = (k : Int) % 3 * (yy.get m - x.get m + 3) := IntWalk.i64_in _ (by omega)
          have w4 : IntKind.i64.wrap (x.get m + (k : Int) % 3 * (yy.get m - x.get m + 3)) = x.get m + (k : Int) % 3 * (yy.get m - x.get m + 3) := IntWalk.i64_in _ (by omega)
          have w5 : IntKind.i64.wrap (zz.get m - x.get m) = zz.get m - x.get m := IntWalk.i64_in _ (by omega)
          have w6 : IntKind.i64.wrap (zz.get m - x.get m + 3) = zz.get m - x.get m + 3 := IntWalk.i64_in _ (by omega)
          have w7 : IntKind.i64.wrap ((k : Int) / 3 * (zz.get m - x.get m + 3)) = (k : Int) / 3 * (zz.get m - x.get m + 3) := IntWalk.i64_in _ (by omega)
          have w8 : IntKind.i64.wrap (x.get m + (k : Int) % 3 * (yy.get m - x.get m + 3) + (k : Int) / 3 * (zz.get m - x.get m + 3)) = x.get m + (k : Int) % 3 * (yy.get m - x.get m + 3) + (k : Int) / 3 * (zz.get m - x.get m + 3) := IntWalk.i64_in _ (by omega)
          have ht := tab_get (n := 36) (sqF x yy zz (k * 4 + m)) (i := k * 4 + m) (by omega)
          have sn := hid (sqF_next x yy zz k m hlt2)
          go_wp2
          (refine wp_region_ext_tail 32 (by kernel_rfl) (by kernel_rfl) ?_; simp only [List.take_succ_cons, List.take_zero, List.drop_succ_cons, List.drop_zero]; (repeat (go_big_quiet_step ((fail)))); refine wpQuiet_tail fun z => ?_)
          go_wp2
          go_roundw
          case rel => exact ⟨m + 1, hlt2, by go_num, by rw [tab_set]; have sn' := sn.out; unfold sqT at sn'; rw [sn']; exact (by (try simp only [ext_ext]); repeat (first | exact Kept.refl _ | apply Kept.alloc | apply Kept.drew | apply kept_add | apply Kept.ext))⟩
          case measure => simp [intOf]; omega
        · obtain rfl : m = 4 := by omega
          go_wp2
          go_roundw
          case rel => exact ⟨k + 1, hlt, by go_num, by rw [show (k + 1) * 4 = k * 4 + 4 by omega]; exact (by (try simp only [ext_ext]); repeat (first | exact Kept.refl _ | apply Kept.alloc | apply Kept.drew | apply kept_add | apply Kept.ext))⟩
          case measure => simp [intOf]; omega
    · obtain rfl : k = 9 := by omega
      go_wp2_with (first | refine wpList_sq_load rfl _ rfl _ _ rfl ((ext_heap _ _ _ (by simp)).trans (heap_at (by simp))) ?_ | refine wpList_sq_put rfl _ _ rfl _ _ _ rfl rfl ((ext_heap _ _ _ (by simp <;> omega)).trans (heap_past (by simp) (heap_at (by simp)))) ?_)
      refine bodyPost_ret (v := .tuple #[.agg (tab 36 (sqF x yy zz 36)), .bool true]) (results_sq rfl _ _ (w.heap.size + 1 + 1 + 1) (sqF x yy zz 36) _ rfl rfl ?_) rfl ⟨rfl, ?_⟩
      · exact setRow_heap _ _ (tab 36 fun _ => 0) _ 64 (0, 0) ((ext_heap _ _ _ (by simp <;> omega)).trans (heap_past (by simp) (heap_at (by simp))))
      · exact Kept.setRow (by (try simp only [ext_ext]); repeat (first | exact Kept.refl _ | apply Kept.alloc | apply Kept.drew | apply kept_add | apply Kept.ext)) (by omega) _
end Go.Proofs.Ytenmnipgnjaheaa
