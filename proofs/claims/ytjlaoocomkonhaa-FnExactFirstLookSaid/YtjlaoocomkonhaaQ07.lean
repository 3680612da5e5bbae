/- Contracts: numbers put through an iterator into a new slice (slices.Values, slices.AppendSeq, slices.Collect). The library's slices.Sort and slices.Compact at numbers: their functions are those of this program. (Printed by the shelf's laying, in plain words.) Contracts: whether numbers are the first ones, each once (impl.isOrder). -/
import Derived.Test.YtjlaoocomkonhaaQ05
import Derived.RangeFuncNested
import Derived.RangeFuncBound
import Derived.RangeFuncCalls
import Derived.RangeFuncLeaves
import Derived.RangeFuncBox
import Derived.Shelf.Abstract
import Derived.Shelf.RegionOpen
import Derived.WalkKit
import Derived.OwnWalkIn
import Derived.TacticsInMore
import Derived.LoopNIn
import Derived.LoopIn
import Derived.Maps.AppendAt
import Derived.Shelf.SlLaysM
import Derived.Shelf.SlLaysN
import Derived.Test.YtjlaoocomkonhaaQ02
import Derived.Shelf.SortM.Plain
import Derived.Shelf.SlicesG.CompactI
import Derived.Sort.OwnSortedInts
namespace Go.Proofs.Ytjlaoocomkonhaa
open Go.RowKit Go.Shelf
attribute [local go_sem] Oper.semAt_some
/-- What has come when k rounds are over. -/
def uptoI {α : Type} (f : Nat → α) (k : Nat) : List α := (List.range k).map f
theorem uptoI_succ {α : Type} (f : Nat → α) (k : Nat) : uptoI f (k + 1) = uptoI f k ++ [f k] := by simp [uptoI, List.range_succ]
theorem uptoI_length {α : Type} (f : Nat → α) (k : Nat) : (uptoI f k).length = k := by simp [uptoI]
theorem uptoI_all (zs : List Int) : uptoI (fun j => zs[j]?.getD 0) zs.length = zs := by
  apply List.ext_getElem
  · simp [uptoI]
  · intro i h1 h2
    simp [uptoI, h2]
theorem uptoI_take (zs : List Int) {k : Nat} (hk : k ≤ zs.length) : uptoI (fun j => zs[j]?.getD 0) k = zs.take k := by
  apply List.ext_getElem
  · simp [uptoI, hk]
  · intro i h1 h2
    have : i < zs.length := by simp [uptoI] at h1; omega
    simp [uptoI, this]
set_option maxRecDepth 100000 in
set_option maxHeartbeats 2000000 in
theorem values1_in (F : Fence) (n : Nat) (h7 : F.fn 89) (hro : F.round = none) (hn : 1 ≤ n) (l Bs n₀ b off len cap : Nat) (zs : List Int) (hreach : len * 8 ≤ 140737488351232) (hb : b < n₀) (J Jx : List Int → World → Prop)
    (hY : ∀ pre x W, J pre W → pre.length < len → YieldAt F (n - 1) Try.prog l #[.int .i64 x] W fun e W' =>
      (e = .returned (.bool true) ∧ J (pre ++ [x]) W' ∧ Below n₀ W W') ∨ (e = .returned (.bool false) ∧ Jx (pre ++ [x]) W'))
    (W : World) (hBs : W.cell? ⟨Bs, 0, none⟩ = some (.slice (some ⟨b, off, none⟩) len cap)) (hc : ∀ j, j < len → W.cell? ⟨b, off + j, none⟩ = some (.int .i64 (zs[j]?.getD 0))) (h0 : J [] W) :
    CallsIn F n Try.prog 89 #[.func (.yield l) #[] #[], .pointer (some ⟨Bs, 0, none⟩)] W fun e W' => (∃ v, e = .returned v) ∧
      ((∃ ys, ys = uptoI (fun j => zs[j]?.getD 0) len ∧ J ys W') ∨ (∃ pre, (∃ k, k ≤ len ∧ pre = uptoI (fun j => zs[j]?.getD 0) k) ∧ Jx pre W')) := by
  refine callsIn_of_wp Try.func89 rfl h7 ?_ hro
  simp only [Try.ntmps89, List.size_toArray, List.length_cons, List.length_nil, Nat.reduceAdd, Nat.reduceSub, Array.replicate_succ, Array.replicate_zero, List.push_toArray, List.append_toArray, List.nil_append, List.cons_append]
  gi_wp2
  gi_loopw [7] (fun i wr => ∃ k : Nat, k ≤ len ∧ i = .int .i64 k ∧ J (uptoI (fun j => zs[j]?.getD 0) k) wr ∧ Below n₀ W wr)
    (fun i _ => len - (intOf i).toNat)
  case atStart => exact ⟨0, Nat.zero_le _, rfl, h0, Below.refl _ _⟩
  case round =>
    obtain ⟨k, hk, rfl, hJs, hnx⟩ := hrel
    have hcx : k < len → wr.cell? ⟨b, off + k, none⟩ = some (.int .i64 (zs[k]?.getD 0)) := fun h => (hnx.cell (p := ⟨b, off + k, none⟩) hb).trans (hc k h)
    by_cases hlt : k < len
    · obtain ⟨fn, tmps, assign, body, hy, hR⟩ := hY _ (zs[k]?.getD 0) wr hJs (by rw [uptoI_length]; exact hlt)
      have hcx' := hcx hlt
      gi_wp2
      refine hR.mono ?_
      rintro e W3 (⟨rfl, hJ3, hk3⟩ | ⟨rfl, hJx3⟩)
      · gi_wp2
        go_roundw
        case rel => exact ⟨k + 1, by omega, by simp, by rw [uptoI_succ]; exact hJ3, hnx.trans hk3⟩
        case measure => simp [intOf]; omega
      · gi_wp2
        refine bodyPost_ret (results_none rfl _ _ _) rfl ?_
        exact ⟨⟨_, rfl⟩, .inr ⟨_, ⟨k + 1, by omega, (uptoI_succ _ _).symm⟩, hJx3⟩⟩
    · obtain rfl : k = len := by omega
      gi_wp2
      go_end0
      exact ⟨⟨_, rfl⟩, .inl ⟨_, rfl, hJs⟩⟩
theorem values_stops (F : Fence) (n : Nat) (h7 : F.fn 89) (hro : F.round = none) (hn : 1 ≤ n) (Bs n₀ b off cap : Nat) (zs : List Int) (hreach : zs.length * 8 ≤ 140737488351232) (w : World) (hBs : Bs < w.heap.size) (hn₀ : n₀ ≤ w.heap.size)
    (hc : w.cell? ⟨Bs, 0, none⟩ = some (.slice (some ⟨b, off, none⟩) zs.length cap)) (hb : b < n₀) (hcs : ∀ j, j < zs.length → w.cell? ⟨b, off + j, none⟩ = some (.int .i64 (zs[j]?.getD 0))) :
    SeqStopsK F n Try.prog 89 #[.pointer (some ⟨Bs, 0, none⟩)] (fun x : Int => #[Value.int .i64 x]) (Below n₀) (fun ys => ys = zs) (fun pre => pre <+: zs) zs.length w := fun l J Jx W hW _ _ hY h0 => by
  have hc' := (hW.cell (p := ⟨Bs, 0, none⟩) hBs).trans hc
  refine (values1_in F n h7 hro hn l Bs n₀ b off zs.length cap zs hreach hb J Jx hY W hc' (fun j hj => (hW.cell (p := ⟨b, off + j, none⟩) (Nat.lt_of_lt_of_le hb hn₀)).trans (hcs j hj)) h0).mono ?_
  rintro e W' ⟨he, ⟨ys, rfl, hj⟩ | ⟨pre, ⟨k, hk, rfl⟩, hj⟩⟩
  · exact ⟨he, .inl ⟨_, uptoI_all zs, hj⟩⟩
  · exact ⟨he, .inr ⟨_, by rw [uptoI_take zs hk]; exact List.take_prefix _ _, hj⟩⟩
set_option maxRecDepth 100000 in
set_option maxHeartbeats 2000000 in
theorem appendSeq_in (F : Fence) (n : Nat) (h3 : F.fn 96) (h5 : F.fn 89) (hro : F.round = none) (hn : 3 ≤ n) (Bs b off cap : Nat) (zs : List Int) (hlen : zs.length ≤ 1048576) (w : World) (hBs : Bs < w.heap.size) (hb : b < w.heap.size)
    (hc : w.cell? ⟨Bs, 0, none⟩ = some (.slice (some ⟨b, off, none⟩) zs.length cap)) (hcs : ∀ j, j < zs.length → w.cell? ⟨b, off + j, none⟩ = some (.int .i64 (zs[j]?.getD 0))) :
    CallsIn F n Try.prog 96 #[.slice none 0 0, .func (.func 89) #[] #[.pointer (some ⟨Bs, 0, none⟩)]] w fun e W' => ∃ v, e = .returned v ∧ W'.ownsRow w.heap.size 3 1 v zs.length (zs.map (Value.int .i64)) ∧ (v = .slice none 0 0 ↔ zs = []) ∧ Below w.heap.size w W' := by
  have h1 : 1 ≤ n := by omega
  obtain ⟨i0, hi, hz0, hz1, hz2⟩ := info_parts info_i64
  refine callsIn_of_wp_marks Try.func96 rfl h3 ?_ hro
  simp only [Try.ntmps96, List.size_toArray, List.length_cons, List.length_nil, Nat.reduceAdd, Nat.reduceSub, Array.replicate_succ, Array.replicate_zero, List.push_toArray, List.append_toArray, List.nil_append, List.cons_append]
  gi_wp2
  have bO := Boxed.new w 38 (.slice none 0 0)
  have hB0 : Below w.heap.size w (w.alloc (.cells #[.slice none 0 0] 38)) := (Below.refl _ w).alloc (Nat.le_refl _) _
  refine wpIn_rangeFunc_ownG hro h1 (gf := 89) (lb := #[.pointer (some ⟨Bs, 0, none⟩)]) rfl h5 (enters_of Try.func89 (by kernel_rfl) rfl)
    (values_stops F (n - 1) h5 hro (by omega) Bs w.heap.size b off cap zs (by omega) _ (by simp; omega) (by simp) ((hB0.cell (p := ⟨Bs, 0, none⟩) hBs).trans hc) hb (fun j hj => (hB0.cell (p := ⟨b, off + j, none⟩) hb).trans (hcs j hj))) belowK_t (belowK_b (by simp)) (Below.refl _ _) (fun _ => rfl)
    (fun pre W => (∃ v, Boxed W w.heap.size 38 v ∧ W.ownsRow w.heap.size 3 1 v pre.length (pre.map (Value.int .i64)) ∧ (v = .slice none 0 0 ↔ pre = [])) ∧ Below w.heap.size w W)
    (fun _ _ _ => False)
    (OwnFrom.and (Own.from (holdsRow_own w.heap.size w.heap.size 38 3 1 (fun pre => pre.length) (fun pre => pre.map (Value.int .i64)) (fun pre v => v = .slice none 0 0 ↔ pre = [])) _) (ownFrom_below (Nat.le_refl _) (by simp)))
    (fun _ _ _ _ _ hs _ _ => hs)
    ⟨⟨_, bO, World.ownsRow_nil _ _ _ _, by simp⟩, hB0⟩
    (fun x => { tmps := #[.slice none 0 0, .func (.func 89) #[] #[.pointer (some ⟨Bs, 0, none⟩)], .pointer (some ⟨w.heap.size, 0, none⟩), undef, .slice none 0 0, .int .i64 x, .func (.func 89) #[] #[.pointer (some ⟨Bs, 0, none⟩)], .int .i64 x, undef, undef, undef, undef, undef], defers := [] }) ?assign ?body ?done ?stop
  case assign =>
    intro l x W K hK
    gi_wp2
    exact hK
  case body =>
    rintro l pre x W ⟨⟨v, hv, hrow, hnil⟩, hB⟩ hlt
    have hc := hv.cell
    gi_wp2_with (gi_at_builtin; refine wpListIn_append_own _ rfl _ _ 38 rfl w.heap.size 3 i0 (.int .i64 0) 1 8 Try.underlying38 hi hz0 hz1 hz2 rfl (by decide) _ _ _ rfl (hrow.alloc _) ⟨W.heap.size, 0, none⟩ 1 1 [.int .i64 x] rfl rfl (cell_one_new _ _ _) (by simp [Value.oneCell']) (by unfold maxLen; omega) (by omega) (by have := hB.size; simp; omega) ?_; intro v' w1 hown' hgrow _; obtain ⟨g', cap', rfl⟩ := ownsRow_succ hown'; obtain ⟨hv1, hv2, hr2, hk2, hb2⟩ := hv.appended (by decide) hrow hB.size (Nat.le_refl _) hown' hgrow; have hc1 := hv1.cell; have hf1 := hv1.frozen)
    exact ⟨hk2.from _, hb2, ⟨_, hv2, by simpa using hr2, by simp⟩, hB.trans hb2⟩
  case done =>
    rintro D ys W hD rfl ⟨⟨v, hv, hrow, hnil⟩, hB⟩ hK
    have hc := hv.cell
    gi_wp2
    refine ⟨by simp, .inl ⟨_, _, rfl, run_takeDeferred hK, ?_⟩⟩
    exact ⟨_, results_tmp rfl _ _ _, v, rfl, ownsRow_putObj hrow _ hK rfl, hnil, hB.trans (belowK_b (w := w) (Nat.le_refl _) W D _ _ (by simp at hD; omega) hK rfl rfl)⟩
  case stop =>
    rintro D c pre W _ _ h _
    exact h.elim
theorem collect_any (Bs b off cap : Nat) (zs : List Int) (hlen : zs.length ≤ 1048576) (hpos : 0 < zs.length) (w : World) (hBs : Bs < w.heap.size) (hb : b < w.heap.size)
    (hc : w.cell? ⟨Bs, 0, none⟩ = some (.slice (some ⟨b, off, none⟩) zs.length cap)) (hcs : ∀ j, j < zs.length → w.cell? ⟨b, off + j, none⟩ = some (.int .i64 (zs[j]?.getD 0))) :
    Calls Try.prog 87 #[.func (.func 89) #[] #[.pointer (some ⟨Bs, 0, none⟩)]] w fun e w' => ∃ g cap', e = .returned (.slice (some ⟨g, 0, none⟩) zs.length cap') ∧ w.heap.size ≤ g ∧ OwnI w.heap.size w' (.slice (some ⟨g, 0, none⟩) zs.length cap') zs ∧ Kept w w' := by
  have hA := hid (callsIn_wide.1 (appendSeq_in Fence.wide 3 trivial trivial rfl (by omega) Bs b off cap zs hlen w hBs hb hc hcs))
  clear hc hcs
  go_enter Try.func87, Try.ntmps87
  go_wp2_with (go_at_call 96; refine Calls.mono hA.out ?_; rintro e w1 ⟨v, rfl, hrow, hnil, hbl⟩)
  obtain ⟨g, cap', rfl, hg⟩ : ∃ g cap', v = .slice (some ⟨g, 0, none⟩) zs.length cap' ∧ w.heap.size ≤ g := by
    rcases hrow.2 with ⟨_, h0⟩ | ⟨g, cap', cur, e, hb, _⟩
    · omega
    · exact ⟨g, cap', e, hb⟩
  go_ret
  exact ⟨g, cap', rfl, hg, hrow, Kept.of_below hbl⟩
end Go.Proofs.Ytjlaoocomkonhaa
namespace Go.Proofs.Ytjlaoocomkonhaa
open Go.Shelf
def sortI_ren : Go.Shelf.Ren := ⟨fun | 5 => 88 | 8 => 69 | 7 => 97 | 19 => 85 | 20 => 86 | 10 => 99 | 11 => 100 | 12 => 101 | 13 => 102 | 14 => 103 | 15 => 104 | 16 => 105 | 17 => 106 | 18 => 107 | 30 => 108 | 31 => 92 | 32 => 93 | 33 => 109 | 34 => 110 | 35 => 111 | 40 => 112 | n => n, fun | 23 => 38 | 25 => 3 | 3 => 3 | 32 => 76 | 22 => 38 | 0 => 0 | 44 => 92 | 46 => 94 | 4 => 4 | 36 => 85 | 35 => 84 | 41 => 89 | 5 => 5 | 9 => 9 | 53 => 97 | 57 => 101 | 63 => 105 | 64 => 106 | n => n, fun | n => n⟩
theorem sortI : Go.Proofs.SlLaysM.n5 Try.prog sortI_ren := {
  mixed := by kernel_rfl
  f5 := ⟨Try.f88.name, by decide, Try.func88.trans (congrArg some (by kernel_rfl))⟩
  f7 := ⟨Try.f97.name, by decide, Try.func97.trans (congrArg some (by kernel_rfl))⟩
  f8 := Try.func69.trans (congrArg some (by kernel_rfl))
  f10 := ⟨Try.f99.name, by decide, Try.func99.trans (congrArg some (by kernel_rfl))⟩
  f11 := ⟨Try.f100.name, by decide, Try.func100.trans (congrArg some (by kernel_rfl))⟩
  f12 := ⟨Try.f101.name, by decide, Try.func101.trans (congrArg some (by kernel_rfl))⟩
  f13 := ⟨Try.f102.name, by decide, Try.func102.trans (congrArg some (by kernel_rfl))⟩
  f14 := ⟨Try.f103.name, by decide, Try.func103.trans (congrArg some (by kernel_rfl))⟩
  f15 := ⟨Try.f104.name, by decide, Try.func104.trans (congrArg some (by kernel_rfl))⟩
  f16 := ⟨Try.f105.name, by decide, Try.func105.trans (congrArg some (by kernel_rfl))⟩
  f17 := ⟨Try.f106.name, by decide, Try.func106.trans (congrArg some (by kernel_rfl))⟩
  f18 := ⟨Try.f107.name, by decide, Try.func107.trans (congrArg some (by kernel_rfl))⟩
  f19 := Try.func85.trans (congrArg some (by kernel_rfl))
  f20 := Try.func86.trans (congrArg some (by kernel_rfl))
  f30 := ⟨Try.f108.name, by decide, Try.func108.trans (congrArg some (by kernel_rfl))⟩
  f31 := Try.func92.trans (congrArg some (by kernel_rfl))
  f32 := Try.func93.trans (congrArg some (by kernel_rfl))
  f33 := ⟨Try.f109.name, by decide, Try.func109.trans (congrArg some (by kernel_rfl))⟩
  f34 := ⟨Try.f110.name, by decide, Try.func110.trans (congrArg some (by kernel_rfl))⟩
  f35 := ⟨Try.f111.name, by decide, Try.func111.trans (congrArg some (by kernel_rfl))⟩
  f40 := ⟨Try.f112.name, by decide, Try.func112.trans (congrArg some (by kernel_rfl))⟩
  t0 := Try.underlying0
  a0 := Try.isAgg0
  z0 := Try.sizeOf0
  v0 := Try.zeroValue0
  t3 := Try.underlying3
  a3 := Try.isAgg3
  z3 := Try.sizeOf3
  v3 := Try.zeroValue3
  t4 := Try.underlying4
  a4 := Try.isAgg4
  z4 := Try.sizeOf4
  v4 := Try.zeroValue4
  t5 := Try.underlying5
  a5 := Try.isAgg5
  z5 := Try.sizeOf5
  v5 := Try.zeroValue5
  t9 := Try.underlying9
  a9 := Try.isAgg9
  z9 := Try.sizeOf9
  v9 := Try.zeroValue9
  t22 := Try.underlying38
  a22 := Try.isAgg38
  z22 := Try.sizeOf38
  v22 := Try.zeroValue38
  t23 := Try.underlying38
  a23 := Try.isAgg38
  z23 := Try.sizeOf38
  v23 := Try.zeroValue38
  t25 := Try.underlying3
  a25 := Try.isAgg3
  z25 := Try.sizeOf3
  v25 := Try.zeroValue3
  t32 := Try.underlying76
  a32 := Try.isAgg76
  z32 := Try.sizeOf76
  v32 := Try.zeroValue76
  t35 := Try.underlying84
  a35 := Try.isAgg84
  z35 := Try.sizeOf84
  v35 := Try.zeroValue84
  t36 := Try.underlying85
  a36 := Try.isAgg85
  z36 := Try.sizeOf85
  v36 := Try.zeroValue85
  t41 := Try.underlying89
  a41 := Try.isAgg89
  z41 := Try.sizeOf89
  v41 := Try.zeroValue89
  t44 := Try.underlying92
  a44 := Try.isAgg92
  z44 := Try.sizeOf92
  v44 := Try.zeroValue92
  t46 := Try.underlying94
  a46 := Try.isAgg94
  z46 := Try.sizeOf94
  v46 := Try.zeroValue94
  t53 := Try.underlying97
  a53 := Try.isAgg97
  z53 := Try.sizeOf97
  v53 := Try.zeroValue97
  t57 := Try.underlying101
  a57 := Try.isAgg101
  z57 := Try.sizeOf101
  v57 := Try.zeroValue101
  t63 := Try.underlying105
  a63 := Try.isAgg105
  z63 := Try.sizeOf105
  v63 := Try.zeroValue105
  t64 := Try.underlying106
  a64 := Try.isAgg106
  z64 := Try.sizeOf106
  v64 := Try.zeroValue106 }
def compI_ren : Go.Shelf.Ren := ⟨fun | 43 => 70 | n => n, fun | 22 => 38 | 23 => 3 | 3 => 3 | 4 => 4 | 0 => 0 | n => n, fun | n => n⟩
theorem compI : Go.Proofs.SlLaysN.n43 Try.prog compI_ren := {
  mixed := by kernel_rfl
  f43 := ⟨Try.f70.name, by decide, Try.func70.trans (congrArg some (by kernel_rfl))⟩
  t0 := Try.underlying0
  a0 := Try.isAgg0
  z0 := Try.sizeOf0
  v0 := Try.zeroValue0
  t3 := Try.underlying3
  a3 := Try.isAgg3
  z3 := Try.sizeOf3
  v3 := Try.zeroValue3
  t4 := Try.underlying4
  a4 := Try.isAgg4
  z4 := Try.sizeOf4
  v4 := Try.zeroValue4
  t22 := Try.underlying38
  a22 := Try.isAgg38
  z22 := Try.sizeOf38
  v22 := Try.zeroValue38
  t23 := Try.underlying3
  a23 := Try.isAgg3
  z23 := Try.sizeOf3
  v23 := Try.zeroValue3
  i23 := by kernel_rfl }
end Go.Proofs.Ytjlaoocomkonhaa
namespace Go.Proofs.Ytjlaoocomkonhaa
open Go.RowKit Go.Sort Go.Shelf
/-- The first numbers, each once. -/
def permB (xs : List Int) : Bool := xs.all (fun x => inB x 0 ((xs.length : Int) - 1)) && decide xs.Nodup
theorem keeps_iff {zs : List Int} {j : Nat} (hj : j + 1 < zs.length) : Lib.keeps zs.toArray (j + 1) = true ↔ zs[j + 1] ≠ zs[j]'(by omega) := by
  have e1 : zs.toArray[j + 1]! = zs[j + 1] := by rw [getElem!_pos _ _ (by simpa using hj)]; simp
  have e2 : zs.toArray[j + 1 - 1]! = zs[j]'(by omega) := by rw [show j + 1 - 1 = j by omega, getElem!_pos _ _ (by simp; omega)]; simp
  unfold Lib.keeps
  rw [e1, e2, decide_eq_true_eq]
  constructor
  · rintro (h | h)
    · omega
    · exact h
  · exact .inr
theorem lt_of_adj {zs : List Int} (h : ∀ j, (hj : j + 1 < zs.length) → zs[j]'(by omega) < zs[j + 1]) : zs.Pairwise (· < ·) := by
  have step : ∀ d i, (hi : i + d + 1 < zs.length) → zs[i]'(by omega) < zs[i + d + 1]'hi := by
    intro d
    induction d with
    | zero => intro i hi; exact h i hi
    | succ d ih =>
      intro i hi
      have a := ih i (by omega)
      have b := h (i + d + 1) (by omega)
      exact Int.lt_trans a b
  rw [List.pairwise_iff_getElem]
  intro i j hi hj hij
  obtain ⟨d, rfl⟩ : ∃ d, j = i + d + 1 := ⟨j - i - 1, by omega⟩
  exact step d i hj
theorem compact_full {zs : List Int} (hs : zs.Pairwise (· ≤ ·)) : decide ((Lib.compact zs).length = zs.length) = decide zs.Nodup := by
  apply decide_eq_decide.2
  constructor
  · intro h
    have h1 : ((List.range zs.length).filter (Lib.keeps zs.toArray)).length = (List.range zs.length).length := by
      rw [List.length_range]
      unfold Lib.compact Lib.compactUpTo at h
      rwa [List.length_map] at h
    have hall := List.length_filter_eq_length_iff.1 h1
    have hlt : zs.Pairwise (· < ·) := lt_of_adj fun j hj => by
      have hne := (keeps_iff hj).1 (hall (j + 1) (List.mem_range.2 hj))
      have hle := List.pairwise_iff_getElem.1 hs j (j + 1) (by omega) hj (by omega)
      exact Int.lt_iff_le_and_ne.2 ⟨hle, fun e => hne e.symm⟩
    exact hlt.imp fun h e => by rw [e] at h; omega
  · intro h
    rw [Lib.compact_all]
    intro j hj
    cases j with
    | zero => exact Lib.keeps_lt_one _ 0 (by omega)
    | succ j =>
      refine (keeps_iff hj).2 fun e => ?_
      have := List.pairwise_iff_getElem.1 h j (j + 1) (by omega) hj (by omega)
      exact this e.symm
theorem merge_facts (xs : List Int) : (xs.mergeSort fun x y => decide (x ≤ y)).Perm xs ∧ (xs.mergeSort fun x y => decide (x ≤ y)).Pairwise (· ≤ ·) := by
  refine ⟨List.mergeSort_perm _ _, ?_⟩
  have h := List.pairwise_mergeSort (le := fun x y : Int => decide (x ≤ y)) (by intro a b c; simp; omega) (by intro a b; simp; omega) xs
  exact h.imp fun h => of_decide_eq_true h
theorem values_any (ao : Option Addr) (len cap : Nat) (w : World) :
    Calls Try.prog 72 #[.slice ao len cap] w fun e w' => e = .returned (.func (.func 89) #[] #[.pointer (some ⟨w.heap.size, 0, none⟩)]) ∧ w' = w.alloc (.cells #[.slice ao len cap] 38) := by
  go_enter Try.func72, Try.ntmps72
  go_wp2
  go_ret
  exact ⟨rfl, rfl⟩
theorem sortedI_any (Bs b off cap : Nat) (zs : List Int) (hlen : zs.length ≤ 1048576) (hpos : 0 < zs.length) (w : World) (hBs : Bs < w.heap.size) (hb : b < w.heap.size)
    (hc : w.cell? ⟨Bs, 0, none⟩ = some (.slice (some ⟨b, off, none⟩) zs.length cap)) (hcs : ∀ j, j < zs.length → w.cell? ⟨b, off + j, none⟩ = some (.int .i64 (zs[j]?.getD 0))) :
    Calls Try.prog 71 #[.func (.func 89) #[] #[.pointer (some ⟨Bs, 0, none⟩)]] w fun e w' => ∃ (g cap' : Nat) (ts : List Int), e = .returned (.slice (some ⟨g, 0, none⟩) zs.length cap') ∧ w.heap.size ≤ g ∧ g < w'.heap.size ∧ ts.Perm zs ∧ ts.Pairwise (· ≤ ·) ∧ zs.length ≤ cap' ∧ Holds (Value.int .i64) w' g 0 ts.toArray ∧ Kept w w' := by
  have hA := hid (collect_any Bs b off cap zs hlen hpos w hBs hb hc hcs)
  clear hc hcs
  obtain ⟨hperm, hpw⟩ := merge_facts zs
  obtain ⟨ts, hts⟩ : ∃ ts, ts = zs.mergeSort fun x y => decide (x ≤ y) := ⟨_, rfl⟩
  rw [← hts] at hperm hpw
  have hl : ts.length = zs.length := hperm.length_eq
  have hfin := hid (And.intro hperm (And.intro hpw hl))
  clear hperm hpw hl
  go_enter Try.func71, Try.ntmps71
  go_wp2_with (go_at_call 87; refine Calls.mono hA.out ?_; rintro e w1 ⟨g, cap', rfl, hg, ho, k1⟩)
  obtain ⟨cur, hgb, hcap, hcur, hsz⟩ : ∃ cur, w1.heap[g]? = some (.cells cur 3 (0, 0)) ∧ zs.length ≤ cap' ∧ cur.toList.take zs.length = zs.map (Value.int .i64) ∧ True := by
    rcases ho.2 with ⟨e, _⟩ | ⟨g', cap'', cur, e, hb, hg, hc, hm, hs, ht⟩
    · cases e
    · cases e
      exact ⟨cur, hg, hc, by simpa using ht, trivial⟩
  have hH := holds_of_blockI hgb hcur
  have hgs : g < w1.heap.size := (Array.getElem?_eq_some_iff.1 hgb).1
  have hS := hid (AnyM.slices_Sort_int sortI g 0 cap' zs w1 hH hgs (by omega))
  rw [← hts] at hS
  have hHH := hid hH
  have hgH := hid hg
  have k1H := hid k1
  have hcapH := hid hcap
  clear hH hgb hcur ho hsz hg k1 hcap hts
  go_wp2_with (go_at_call 88; refine Calls.mono hS.out ?_; rintro e w2 ⟨rfl, nn, os, rfl⟩)
  go_ret
  obtain ⟨hperm, hpw, hl⟩ := hfin.out
  refine ⟨g, cap', ts, rfl, hgH.out, ?_, hperm, hpw, hcapH.out, ?_, k1H.out.grown (grownBy_sortedI ts.toArray) (fun k e => by cases e; exact hgH.out)⟩
  · simp [grow]; omega
  · refine holds_grow _ _ _ _ _ _ (by simpa using hgs) ?_
    refine holds_putRow _ _ _ _ zs.toArray _ (holds_ahead _ _ _ _ _ _ hHH.out) (by simp [hl])
theorem isOrder_any (g off cap n : Nat) (xs : List Int) (w : World) (hx : IntsAt w (some ⟨g, off, none⟩) xs) (hn : xs.length = n) (h1 : 1 ≤ n) (hl : n ≤ 1000) :
    Calls Try.prog 61 #[.slice (some ⟨g, off, none⟩) n cap] w fun e w' => e = .returned (.bool (permB xs)) ∧ Kept w w' := by
  have hA := hid (fun w' (hk : Kept w w') => allWithin_any 0 ((n : Int) - 1) (some ⟨g, off, none⟩) cap xs w' (hx.kept hk) (by omega))
  rw [hn] at hA
  have hpb : permB xs = (xs.all (fun x => inB x 0 ((n : Int) - 1)) && decide xs.Nodup) := by unfold permB; rw [hn]
  rw [hpb]
  have hwr : IntKind.i64.wrap ((n : Int) - 1) = (n : Int) - 1 := Go.IntWalk.i64_in _ ⟨by omega, by omega⟩
  obtain ⟨_, _, he, hg, _⟩ := hx 0 (by omega)
  cases he
  have hxH := hid hx
  have hnH := hid hn
  clear hx hn hpb
  cases hall : xs.all (fun x => inB x 0 ((n : Int) - 1)) with
  | false =>
    rw [hall] at hA
    clear hall
    go_enter Try.func61, Try.ntmps61
    go_wp2_with (first | (go_at_call 64; refine Calls.mono (hA.out _ ((by (try simp only [ext_ext]); repeat (first | exact Kept.refl _ | apply Kept.alloc | apply Kept.drew | apply kept_add | apply Kept.ext)))) ?_; rintro e w' ⟨rfl, y, rfl⟩))
    go_ret
    exact ⟨ret_of (by simp), (by (try simp only [ext_ext]); repeat (first | exact Kept.refl _ | apply Kept.alloc | apply Kept.drew | apply kept_add | apply Kept.ext))⟩
  | true =>
    rw [hall] at hA
    clear hall
    have hSo := hid (fun w' (hk : Kept w w') (Bs : Nat) (hBs : Bs < w'.heap.size) (hc : w'.cell? ⟨Bs, 0, none⟩ = some (.slice (some ⟨g, off, none⟩) xs.length cap)) => sortedI_any Bs g off cap xs (by rw [hnH.out]; omega) (by rw [hnH.out]; omega) w' hBs (Nat.lt_of_lt_of_le hg hk.below.size) hc (fun j hj => by
      obtain ⟨_, _, he, _, h⟩ := (hxH.out.kept hk) j hj
      cases he
      rw [h, ix_get _ _ hj]; simp [hj]))
    rw [hnH.out] at hSo
    go_enter Try.func61, Try.ntmps61
    go_wp2_with (first | (go_at_call 64; refine Calls.mono (hA.out _ ((by (try simp only [ext_ext]); repeat (first | exact Kept.refl _ | apply Kept.alloc | apply Kept.drew | apply kept_add | apply Kept.ext)))) ?_; rintro e w' ⟨rfl, y, rfl⟩) | (go_at_call 72; refine Calls.mono (values_any _ _ _ _) ?_; rintro e w' ⟨rfl, rfl⟩))
    (go_at_call 71; refine Calls.mono (hSo.out _ (by (try simp only [ext_ext]); repeat (first | exact Kept.refl _ | apply Kept.alloc | apply Kept.drew | apply kept_add | apply Kept.ext)) _ (by simp) (cell_of_row _ _ 0 _ _ (0, 0) (heap_at (by simp)))) ?_; rintro e w2 ⟨g2, cap2, ts, rfl, hg2, hg2s, hperm, hpw, hcap2, hH, k2⟩)
    have hlt : ts.length = n := by rw [hperm.length_eq, hnH.out]
    have hK2 := hid (show Kept w w2 from Kept.trans (by (try simp only [ext_ext]); repeat (first | exact Kept.refl _ | apply Kept.alloc | apply Kept.drew | apply kept_add | apply Kept.ext)) k2)
    have hg2H := hid (show w.heap.size ≤ g2 by have := (show Kept w _ from (by (try simp only [ext_ext]); repeat (first | exact Kept.refl _ | apply Kept.alloc | apply Kept.drew | apply kept_add | apply Kept.ext))).below.size; simp at hg2; omega)
    have hC := hid (AnyG.slices_Compact_int compI g2 0 cap2 ts w2 hH (by omega) (by omega))
    rw [hlt] at hC
    have hcf := compact_full hpw
    rw [hlt] at hcf
    have hnd : decide ts.Nodup = decide xs.Nodup := decide_eq_decide.2 hperm.nodup_iff
    have hres := hid (show decide ((Lib.compact ts).length = n) = decide xs.Nodup by rw [hcf, hnd])
    clear hcf hnd hH hperm hpw k2 hg2 hSo hlt
    obtain ⟨q, hq⟩ : ∃ q, q = (Lib.compact ts).length := ⟨_, rfl⟩
    rw [← hq] at hres
    have hqH := hid hq
    go_wp2_with (go_at_call 70; refine Calls.mono hC.out ?_; rintro e w3 ⟨rfl, nn, rfl⟩)
    go_ret
    refine ⟨ret_of (congrArg Value.bool ?_), ?_⟩
    · rw [Bool.true_and, ← hres.out, hqH.out, Bool.eq_iff_iff]
      simp only [beq_iff_eq, decide_eq_true_eq]
      omega
    · refine hK2.out.grown (row := some g2) ?_ (fun k e => by cases e; exact hg2H.out)
      have := grownBy_sortedI (w := w2) (g := g2) (n := nn) (os := #[]) (Lib.compact ts ++ List.replicate (n - (Lib.compact ts).length) 0).toArray
      rw [show ∀ w : World, grow w #[] = w from fun w => by cases w; simp [grow]] at this
      exact this
end Go.Proofs.Ytjlaoocomkonhaa
