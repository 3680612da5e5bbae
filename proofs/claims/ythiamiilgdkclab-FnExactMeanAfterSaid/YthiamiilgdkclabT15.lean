/- Contracts: how many pairs make a line with a card. -/
import Derived.Test.YthiamiilgdkclabT7
import Derived.Test.YthiamiilgdkclabT9
import Derived.Test.YthiamiilgdkclabT12
namespace Go.Proofs.Ythiamiilgdkclab
open Go.RowKit
theorem line_ne {x y z : Card} (hx : isCard x = true) (hy : isCard y = true) (h : lineC x y z = true) : x ≠ z ∧ y ≠ z := by
  obtain ⟨x1, x2, x3, x4⟩ := isCard_of hx
  obtain ⟨y1, y2, y3, y4⟩ := isCard_of hy
  unfold lineC at h
  rw [Bool.and_eq_true] at h
  have ht := of_decide_eq_true h.2
  have hn : x ≠ y := by simpa using h.1
  clear h
  subst ht
  obtain ⟨a, b, c, d⟩ := x
  obtain ⟨a', b', c', d'⟩ := y
  simp only at x1 x2 x3 x4 y1 y2 y3 y4
  simp only [ne_eq, Card.mk.injEq] at hn
  constructor
  · intro e
    simp only [thirdC, thirdT, Card.mk.injEq] at e
    exact hn (by omega)
  · intro e
    simp only [thirdC, thirdT, Card.mk.injEq] at e
    exact hn (by omega)
theorem thr1_no1 {xs : List Card} {c : Card} {i k : Nat} (hc : areC xs) (hi : i < xs.length) (hk : k < xs.length) (h : decide (cx xs i = c) = true) : thr1 xs c i k = 0 := by
  unfold thr1
  rw [if_neg fun e => (line_ne (hc i hi) (hc k hk) e).1 (of_decide_eq_true h)]
theorem thr1_no2 {xs : List Card} {c : Card} {i k : Nat} (hc : areC xs) (hi : i < xs.length) (hk : k < xs.length) (h : decide (cx xs k = c) = true) : thr1 xs c i k = 0 := by
  unfold thr1
  rw [if_neg fun e => (line_ne (hc i hi) (hc k hk) e).2 (of_decide_eq_true h)]
theorem thrIn_next (xs : List Card) (c : Card) (i m : Nat) : thrIn xs c i (m + 1) = thrIn xs c i m + thr1 xs c i (i + 1 + m) := rfl
theorem thrOut_next (xs : List Card) (c : Card) (k : Nat) : thrOut xs c (k + 1) = thrOut xs c k + thrIn xs c k (xs.length - (k + 1)) := rfl
/-- No card twice. -/
def distC (xs : List Card) : Prop := ∀ i j, i < xs.length → j < xs.length → cx xs i = cx xs j → i = j
theorem distC_hand {xs : List Card} (h : isHand xs = true) : distC xs := by
  obtain ⟨_, hh⟩ := isHand_of h
  have lt : ∀ d i, i + d + 1 < xs.length → numC (cx xs i) < numC (cx xs (i + d + 1)) := by
    intro d
    induction d with
    | zero =>
      intro i hi
      have := hh (i + 0 + 1) hi
      simp [handOk] at this
      simpa using this.2
    | succ d ih =>
      intro i hi
      have h1 := ih i (by omega)
      have := hh (i + (d + 1) + 1) hi
      simp [handOk] at this
      have h2 := this.2
      rw [show i + (d + 1) = i + d + 1 by omega] at h2 ⊢
      omega
  intro i j hi hj e
  rcases Nat.lt_trichotomy i j with h | h | h
  · have := lt (j - i - 1) i (by omega)
    rw [show i + (j - i - 1) + 1 = j by omega, e] at this
    omega
  · exact h
  · have := lt (i - j - 1) j (by omega)
    rw [show j + (i - j - 1) + 1 = i by omega, e] at this
    omega
abbrev T2 : TypeId := 24
theorem info_two : (Try.prog.info? 24).map (fun i => (i.zero, i.size, i.bytes)) = some (some (.agg #[.int .i64 0, .int .i64 0]), 2, 16) := by kernel_rfl
/-- A slice of the call's own that holds so many pairs. -/
def OwnP (B : Nat) (w : World) (v : Value) (n : Nat) : Prop := ∃ cells, w.ownsRow B T2 2 v n cells
theorem OwnP.kept {B : Nat} {w w' : World} {v : Value} {n : Nat} (h : OwnP B w v n) (hk : Kept w w') : OwnP B w' v n := by
  obtain ⟨cells, h⟩ := h
  exact ⟨cells, World.ownsRow.kept h ⟨hk.below.os, hk.below.tape, hk.below.output, hk.below.size, fun k hk' _ => hk.below.block k hk'⟩ (by cases v.ownBlock <;> simp) (row := none)⟩
theorem OwnP.reads {B : Nat} {w : World} {v : Value} {n : Nat} (h : OwnP B w v n) : ∃ ao cap, v = .slice ao n cap := by
  obtain ⟨cells, h⟩ := h
  rcases h.2 with ⟨rfl, h0⟩ | ⟨g, cap, cur, rfl, hb, hg, hn, hm, hs, ht⟩
  · subst h0; exact ⟨none, 0, rfl⟩
  · exact ⟨_, cap, rfl⟩
theorem OwnP.new {w : World} {v : Value} {B n : Nat} {t : TypeId} (c : Card) {g : Nat} (h : OwnP B w v n) (hg : g = w.heap.size) : SideC (w.alloc (.cells #[.int .i64 c.a, .int .i64 c.b, .int .i64 c.c, .int .i64 c.d] t)) v g c := by
  obtain ⟨cells, h⟩ := h
  have hh := heap_at (o := .cells #[.int .i64 c.a, .int .i64 c.b, .int .i64 c.c, .int .i64 c.d] t) hg
  exact ⟨by simp; omega, ⟨cell_of_row _ g 0 _ t (0, 0) hh, cell_of_row _ g 1 _ t (0, 0) hh, cell_of_row _ g 2 _ t (0, 0) hh, cell_of_row _ g 3 _ t (0, 0) hh⟩, fun e => by have := (h.lt _ e).2; omega⟩
theorem ownP_nil {B g : Nat} {w : World} (hB : B ≤ g) (h : w.heap[g]? = some (.cells #[] T2 (0, 0))) : OwnP B w (.slice (some ⟨g, 0, none⟩) 0 0) 0 :=
  ⟨[], rfl, .inr ⟨g, 0, #[], rfl, hB, h, Nat.le_refl _, by unfold maxLen; omega, rfl, by simp⟩⟩
theorem wpList_append_two {ops : Array Oper} {rest : List Oper} {o : Oper} {a : Act} {Q : Exit → Act → World → Prop} {w : World} (hgd : o.guard = none) (s x : Operand)
    (ho : o.op = .call { callee := .builtin .append, args := #[s, x], argTypes := #[62, 62] }) (W : World) (B : Nat) (v : Value) (n : Nat) (hs : a.eval s = v) (hown : OwnP B w v n) (hk : Kept W w) (hWB : W.heap.size ≤ B) (hBw : B ≤ w.heap.size)
    (g cap : Nat) (p q : Int) (hx : a.eval x = .slice (some ⟨g, 0, none⟩) 1 cap) (hh : w.heap[g]? = some (.cells #[.int .i64 p, .int .i64 q] T2 (0, 0))) (hl : n ≤ 1048576)
    (h : ∀ v' w', OwnP B w' v' (n + 1) → Kept W w' → (∀ g y, SideC w v g y → SideC w' v' g y) → wpList Try.prog ops Q rest (a.put o.dst v') w') : wpList Try.prog ops Q (o :: rest) a w := by
  obtain ⟨i, hi, hz, hsz, hb⟩ := info_parts info_two
  obtain ⟨cells, hown⟩ := hown
  refine wpList_append_own_at w hgd s x 62 ho B T2 i _ 2 16 Try.underlying62 hi hz hsz hb rfl (by decide) v n cells hs hown ⟨g, 0, none⟩ 1 cap
    [.int .i64 p, .int .i64 q] hx rfl ?_ ?_ (by unfold maxLen; omega) (by omega) hBw ?_
  · intro j u hj
    match j, hj with
    | 0, hj => simp at hj; subst hj; exact cell_of_row _ g 0 _ T2 (0, 0) hh
    | 1, hj => simp at hj; subst hj; exact cell_of_row _ g 1 _ T2 (0, 0) hh
    | j + 2, hj => simp at hj
  · intro u hu
    simp at hu
    rcases hu with rfl | rfl <;> rfl
  · intro v' w' hown' hg _ hat
    have hk' : Kept W w' := hk.grown hg fun k hk => Nat.le_trans hWB (hown.lt k hk).1
    exact h v' w' ⟨_, hown'⟩ hk' fun g y hs => hs.grown hg hat
theorem pairsFor_any (ao : Option Addr) (cap : Nat) (xs : List Card) (c : Card) (w : World) (hx : CardsAt w ao xs) (hl : xs.length ≤ 81) (hc : areC xs) (hd : distC xs) :
    Calls Try.prog 58 #[.slice ao xs.length cap, c.v] w fun e w' => ∃ (bo : Option Addr) (n cap' : Nat), e = .returned (.slice bo n cap') ∧ (n : Int) = thr xs c ∧ Kept w w' := by
  go_enter Try.func58, Try.ntmps58
  go_wp2
  go_loopw [12, 5] (fun i v wr => ∃ k n : Nat, k ≤ xs.length ∧ i = .int .i64 k ∧ OwnP (w.heap.size + 1) wr v n ∧ (n : Int) = thrOut xs c k ∧ Kept (w.alloc (.cells #[.int .i64 c.a, .int .i64 c.b, .int .i64 c.c, .int .i64 c.d] 42)) wr) (fun i _ _ => xs.length - (intOf i).toNat)
  case atStart => exact ⟨0, 0, Nat.zero_le _, rfl, ownP_nil (by omega) (heap_at (by simp)), rfl, (by (try simp only [ext_ext]); repeat (first | exact Kept.refl _ | apply Kept.alloc | apply Kept.drew | apply kept_add | apply Kept.ext))⟩
  case round =>
    obtain ⟨k, n, hk, rfl, hown, hn, z, rfl⟩ := hrel
    have hownH := hid hown
    clear hown
    have hlo := thrOut_bd xs c k hl
    have hnH := hid hn
    by_cases hlt : k < xs.length
    · clear hn
      obtain ⟨g, off, rfl, hg, h1, h2, h3, h4⟩ := hx k hlt
      have g1 : g < w.heap.size + 1 := by omega
      have g2 : g < w.heap.size + 1 + z.os.length := by omega
      go_wp2
      go_loopw [8, 5] (fun j v wr => ∃ m n : Nat, k + 1 + m ≤ xs.length ∧ j = .int .i64 ((k + 1 + m : Nat) : Int) ∧ OwnP (w.heap.size + 1) wr v n ∧ (n : Int) = thrOut xs c k + thrIn xs c k m ∧ Kept (w.alloc (.cells #[.int .i64 c.a, .int .i64 c.b, .int .i64 c.c, .int .i64 c.d] 42)) wr ∧ SideC wr v (w.heap.size + 1 + z.os.length) (cx xs k)) (fun j _ _ => xs.length - (intOf j).toNat)
      case atStart => exact ⟨0, n, hlt, by go_num, hownH.out.kept (by (try simp only [ext_ext]); repeat (first | exact Kept.refl _ | apply Kept.alloc | apply Kept.drew | apply kept_add | apply Kept.ext)), by have := hnH.out; simpa [thrIn, rsum] using this, (by (try simp only [ext_ext]); repeat (first | exact Kept.refl _ | apply Kept.alloc | apply Kept.drew | apply kept_add | apply Kept.ext)), OwnP.new _ hownH.out (by simp)⟩
      case round wr =>
        obtain ⟨m, n', hm, hj, hown2, hn2, hkw, hside⟩ := hrel
        have hown2H := hid hown2
        have hkwH := hid hkw
        have hsideH := hid hside
        have hin := thrIn_bd xs c k m
        have hnl := hid (show n' ≤ 1048576 by omega)
        have hn2H := hid hn2
        clear hown2 hn2
        obtain ⟨q, hq⟩ : ∃ q, q = k + 1 + m := ⟨_, rfl⟩
        rw [← hq] at hm hj
        subst hj
        have hqH := hid hq
        by_cases hlt2 : q < xs.length
        · have hxr := hx.kept (((by (try simp only [ext_ext]); repeat (first | exact Kept.refl _ | apply Kept.alloc | apply Kept.drew | apply kept_add | apply Kept.ext)) : Kept w (w.alloc (.cells #[.int .i64 c.a, .int .i64 c.b, .int .i64 c.c, .int .i64 c.d] 42))).trans hkw)
          obtain ⟨g', off', he, hg', p1, p2, p3, p4⟩ := hxr q hlt2
          cases he
          clear hxr
          obtain ⟨s0, ⟨s1, s2, s3, s4⟩, _⟩ := hside
          have hck := hc k hlt
          have hcq := hc q hlt2
          clear hq
          have hwr : w.heap.size < wr.heap.size := by have := hkw.below.size; simp at this; omega
          have hBw := hid (show w.heap.size + 1 ≤ wr.heap.size by omega)
          obtain ⟨c1, c2, c3, c4⟩ : CardCells wr w.heap.size 0 c := by
            obtain ⟨q1, q2, q3, q4⟩ := cardCells_new (w := w) (t := 42) c rfl
            have hb := hkw.below
            have hs : w.heap.size < (w.alloc (.cells #[.int .i64 c.a, .int .i64 c.b, .int .i64 c.c, .int .i64 c.d] 42)).heap.size := by simp
            exact ⟨(hb.cell (p := ⟨_, _, none⟩) hs).trans q1, (hb.cell (p := ⟨_, _, none⟩) hs).trans q2, (hb.cell (p := ⟨_, _, none⟩) hs).trans q3, (hb.cell (p := ⟨_, _, none⟩) hs).trans q4⟩
          clear hkw
          have hnx := hid (thrIn_next xs c k m)
          have hxy : decide (cx xs k = cx xs q) = false := decide_eq_false fun e => by have := hd k q hlt hlt2 e; have := hqH.out; omega
          cases e1 : decide (cx xs k = c) with
          | true =>
            have e0 := hid (thr1_no1 hc hlt hlt2 e1)
            clear hxy
            go_wp2_with (first | (refine wp_region_ext (by kernel_rfl) (by kernel_rfl) ?_; (repeat (go_big_quiet_step ((fail)))); refine wpQuiet_end fun z => ?_))
            go_roundw
            case rel => exact ⟨m + 1, n', by have := hqH.out; omega, by have := hqH.out; go_num, hown2H.out.kept (by (try simp only [ext_ext]); repeat (first | exact Kept.refl _ | apply Kept.alloc | apply Kept.drew | apply kept_add | apply Kept.ext)), by rw [hnx.out, ← hqH.out, e0.out, hn2H.out, Int.add_zero], hkwH.out.trans (by (try simp only [ext_ext]); repeat (first | exact Kept.refl _ | apply Kept.alloc | apply Kept.drew | apply kept_add | apply Kept.ext)), hsideH.out.kept (by (try simp only [ext_ext]); repeat (first | exact Kept.refl _ | apply Kept.alloc | apply Kept.drew | apply kept_add | apply Kept.ext))⟩
            case measure => simp [intOf]; omega
          | false =>
          cases e2 : decide (cx xs q = c) with
          | true =>
            have e0 := hid (thr1_no2 hc hlt hlt2 e2)
            clear hxy
            go_wp2_with (first | (refine wp_region_ext (by kernel_rfl) (by kernel_rfl) ?_; (repeat (go_big_quiet_step ((fail)))); refine wpQuiet_end fun z => ?_))
            go_roundw
            case rel => exact ⟨m + 1, n', by have := hqH.out; omega, by have := hqH.out; go_num, hown2H.out.kept (by (try simp only [ext_ext]); repeat (first | exact Kept.refl _ | apply Kept.alloc | apply Kept.drew | apply kept_add | apply Kept.ext)), by rw [hnx.out, ← hqH.out, e0.out, hn2H.out, Int.add_zero], hkwH.out.trans (by (try simp only [ext_ext]); repeat (first | exact Kept.refl _ | apply Kept.alloc | apply Kept.drew | apply kept_add | apply Kept.ext)), hsideH.out.kept (by (try simp only [ext_ext]); repeat (first | exact Kept.refl _ | apply Kept.alloc | apply Kept.drew | apply kept_add | apply Kept.ext))⟩
            case measure => simp [intOf]; omega
          | false =>
            have e0 : Hid (thr1 xs c k q = if thirdC (cx xs k) (cx xs q) = c then 1 else 0) := hid (by simp [thr1, lineC, hxy])
            clear hxy
            go_wp2_with (first | (refine wp_region_ext (by kernel_rfl) (by kernel_rfl) ?_; (repeat (go_big_quiet_step (((first | (go_at_call 60; first | exact ext_call (third_any _ _ hck hcq _) | exact ext_call2 (third_any _ _ hck hcq _))))))); refine wpQuiet_end fun z => ?_) | (at_builtin; refine wpList_append_two rfl _ _ rfl (w.alloc (.cells #[.int .i64 c.a, .int .i64 c.b, .int .i64 c.c, .int .i64 c.d] 42)) (w.heap.size + 1) _ _ rfl (hown2H.out.kept (by (try simp only [ext_ext]); repeat (first | exact Kept.refl _ | apply Kept.alloc | apply Kept.drew | apply kept_add | apply Kept.ext))) (hkwH.out.trans (by (try simp only [ext_ext]); repeat (first | exact Kept.refl _ | apply Kept.alloc | apply Kept.drew | apply kept_add | apply Kept.ext))) (by simp) (by simp; omega) _ _ k q rfl ?_ hnl.out ?_; rotate_left; intro v' w' hown' hkw' hsd'))
            case refine_1 => exact heap_at (by simp)
            all_goals
              rename_i h
              go_roundw
              case rel =>
                first
                | exact ⟨m + 1, n' + 1, by have := hqH.out; omega, by have := hqH.out; go_num, hown', by rw [hnx.out, ← hqH.out, e0.out, if_pos (by simpa using h)]; have := hn2H.out; omega, hkw', hsd' _ _ (hsideH.out.kept (by (try simp only [ext_ext]); repeat (first | exact Kept.refl _ | apply Kept.alloc | apply Kept.drew | apply kept_add | apply Kept.ext)))⟩
                | exact ⟨m + 1, n', by have := hqH.out; omega, by have := hqH.out; go_num, hown2H.out.kept (by (try simp only [ext_ext]); repeat (first | exact Kept.refl _ | apply Kept.alloc | apply Kept.drew | apply kept_add | apply Kept.ext)), by rw [hnx.out, ← hqH.out, e0.out, if_neg (by simpa using h), hn2H.out, Int.add_zero], hkwH.out.trans (by (try simp only [ext_ext]); repeat (first | exact Kept.refl _ | apply Kept.alloc | apply Kept.drew | apply kept_add | apply Kept.ext)), hsideH.out.kept (by (try simp only [ext_ext]); repeat (first | exact Kept.refl _ | apply Kept.alloc | apply Kept.drew | apply kept_add | apply Kept.ext))⟩
              case measure => simp [intOf]; omega
        · have em : m = xs.length - (k + 1) := by have := hqH.out; omega
          have eo : Hid (thrOut xs c (k + 1) = thrOut xs c k + thrIn xs c k m) := hid (by rw [thrOut_next, em])
          clear em hq hside
          go_wp2
          go_roundw
          case rel => exact ⟨k + 1, n', hlt, by go_num, hown2H.out.kept (by (try simp only [ext_ext]); repeat (first | exact Kept.refl _ | apply Kept.alloc | apply Kept.drew | apply kept_add | apply Kept.ext)), by rw [eo.out]; exact hn2H.out, hkwH.out.trans (by (try simp only [ext_ext]); repeat (first | exact Kept.refl _ | apply Kept.alloc | apply Kept.drew | apply kept_add | apply Kept.ext))⟩
          case measure => simp [intOf]; omega
    · obtain rfl : k = xs.length := by omega
      clear hn
      obtain ⟨bo, cap', rfl⟩ := hownH.out.reads
      go_wp2
      go_ret
      exact ⟨_, _, _, rfl, hnH.out, Kept.trans ((by (try simp only [ext_ext]); repeat (first | exact Kept.refl _ | apply Kept.alloc | apply Kept.drew | apply kept_add | apply Kept.ext)) : Kept w (w.alloc (.cells #[.int .i64 c.a, .int .i64 c.b, .int .i64 c.c, .int .i64 c.d] 42))) (by (try simp only [ext_ext]); repeat (first | exact Kept.refl _ | apply Kept.alloc | apply Kept.drew | apply kept_add | apply Kept.ext))⟩
end Go.Proofs.Ythiamiilgdkclab
