/- Contracts: whether a map is valid. append of one card onto a row of the call's own. Contracts: sums of cards. -/
import Derived.Test.YtjlaoocomkonhaaQ07
import Derived.Test.YtjlaoocomkonhaaQ08
import Derived.Test.YtjlaoocomkonhaaQ03
namespace Go.Proofs.Ytjlaoocomkonhaa
open Go.RowKit
/-- A map: four traits, then four rows of three values. -/
abbrev mpv (f : Nat → Int) : Value := .agg #[.int .i64 (f 0), .int .i64 (f 1), .int .i64 (f 2), .int .i64 (f 3), .int .i64 (f 4), .int .i64 (f 5), .int .i64 (f 6), .int .i64 (f 7), .int .i64 (f 8), .int .i64 (f 9), .int .i64 (f 10), .int .i64 (f 11), .int .i64 (f 12), .int .i64 (f 13), .int .i64 (f 14), .int .i64 (f 15)]
def row3 (f : Nat → Int) (i : Nat) : List Int := [f (4 + i * 3), f (4 + i * 3 + 1), f (4 + i * 3 + 2)]
def row4 (f : Nat → Int) : List Int := [f 0, f 1, f 2, f 3]
def mapTo (f : Nat → Int) (k : Nat) : Bool := (List.range k).all fun i => permB (row3 f i)
def mapB (f : Nat → Int) : Bool := mapTo f 4 && permB (row4 f)
theorem mapTo_next (f : Nat → Int) (k : Nat) : mapTo f (k + 1) = (mapTo f k && permB (row3 f k)) := by simp [mapTo, List.range_succ]
theorem mapTo_no {f : Nat → Int} {i k : Nat} (hi : i < k) (h : permB (row3 f i) = false) : mapTo f k = false := List.all_eq_false.2 ⟨i, List.mem_range.2 hi, by rw [h]; simp⟩
theorem permB_in {xs : List Int} (h : permB xs = true) : ∀ x ∈ xs, 0 ≤ x ∧ x ≤ (xs.length : Int) - 1 := fun x hx => by
  unfold permB at h
  rw [Bool.and_eq_true] at h
  exact inB_of (List.all_eq_true.1 h.1 x hx)
theorem permB_nodup {xs : List Int} (h : permB xs = true) : xs.Nodup := by
  unfold permB at h
  rw [Bool.and_eq_true, decide_eq_true_eq] at h
  exact h.2
theorem mapB_traits {f : Nat → Int} (h : mapB f = true) {i : Nat} (hi : i < 4) : 0 ≤ f i ∧ f i ≤ 3 := by
  unfold mapB at h
  rw [Bool.and_eq_true] at h
  have h2 := permB_in h.2
  obtain rfl | rfl | rfl | rfl : i = 0 ∨ i = 1 ∨ i = 2 ∨ i = 3 := by omega
  all_goals exact h2 _ (by simp [row4])
theorem mapB_values {f : Nat → Int} (h : mapB f = true) {i j : Nat} (hi : i < 4) (hj : j < 3) : 0 ≤ f (4 + i * 3 + j) ∧ f (4 + i * 3 + j) ≤ 2 := by
  unfold mapB mapTo at h
  rw [Bool.and_eq_true] at h
  have h2 := permB_in (List.all_eq_true.1 h.1 i (List.mem_range.2 hi))
  obtain rfl | rfl | rfl : j = 0 ∨ j = 1 ∨ j = 2 := by omega
  all_goals exact h2 _ (by simp [row3])
/-- A map in a block. -/
def BoxM (w : World) (g : Nat) (f : Nat → Int) : Prop := g < w.heap.size ∧ ∀ i, i < 16 → w.cell? ⟨g, i, none⟩ = some (.int .i64 (f i))
theorem BoxM.kept {w w' : World} {g : Nat} {f : Nat → Int} (h : BoxM w g f) (hk : Kept w w') : BoxM w' g f :=
  ⟨Nat.lt_of_lt_of_le h.1 hk.below.size, fun i hi => (hk.below.cell (p := ⟨_, _, none⟩) h.1).trans (h.2 i hi)⟩
theorem BoxM.new {w : World} {g : Nat} {t : TypeId} (f : Nat → Int) (hg : g = w.heap.size) : BoxM (w.alloc (.cells #[.int .i64 (f 0), .int .i64 (f 1), .int .i64 (f 2), .int .i64 (f 3), .int .i64 (f 4), .int .i64 (f 5), .int .i64 (f 6), .int .i64 (f 7), .int .i64 (f 8), .int .i64 (f 9), .int .i64 (f 10), .int .i64 (f 11), .int .i64 (f 12), .int .i64 (f 13), .int .i64 (f 14), .int .i64 (f 15)] t)) g f := by
  have hh := heap_at (o := .cells #[.int .i64 (f 0), .int .i64 (f 1), .int .i64 (f 2), .int .i64 (f 3), .int .i64 (f 4), .int .i64 (f 5), .int .i64 (f 6), .int .i64 (f 7), .int .i64 (f 8), .int .i64 (f 9), .int .i64 (f 10), .int .i64 (f 11), .int .i64 (f 12), .int .i64 (f 13), .int .i64 (f 14), .int .i64 (f 15)] t) hg
  refine ⟨by simp; omega, fun i hi => ?_⟩
  obtain rfl | rfl | rfl | rfl | rfl | rfl | rfl | rfl | rfl | rfl | rfl | rfl | rfl | rfl | rfl | rfl : i = 0 ∨ i = 1 ∨ i = 2 ∨ i = 3 ∨ i = 4 ∨ i = 5 ∨ i = 6 ∨ i = 7 ∨ i = 8 ∨ i = 9 ∨ i = 10 ∨ i = 11 ∨ i = 12 ∨ i = 13 ∨ i = 14 ∨ i = 15 := by omega
  all_goals exact cell_of_row _ g _ _ t (0, 0) hh
theorem BoxM.row3 {w : World} {g i : Nat} {f : Nat → Int} (h : BoxM w g f) (hi : i < 4) : IntsAt w (some ⟨g, 4 + i * 3, none⟩) (row3 f i) := by
  intro j hj
  have hj3 : j < 3 := hj
  refine ⟨g, 4 + i * 3, rfl, h.1, ?_⟩
  rw [h.2 (4 + i * 3 + j) (by omega), ix_get _ _ hj]
  obtain rfl | rfl | rfl : j = 0 ∨ j = 1 ∨ j = 2 := by omega
  all_goals rfl
theorem BoxM.row4 {w : World} {g : Nat} {f : Nat → Int} (h : BoxM w g f) : IntsAt w (some ⟨g, 0, none⟩) (row4 f) := by
  intro j hj
  have hj3 : j < 4 := hj
  refine ⟨g, 0, rfl, h.1, ?_⟩
  rw [Nat.zero_add, h.2 j (by omega), ix_get _ _ hj]
  obtain rfl | rfl | rfl | rfl : j = 0 ∨ j = 1 ∨ j = 2 ∨ j = 3 := by omega
  all_goals rfl
/-- One place of numbers: within bounds, and not ahead. -/
def okP (xs : List Int) (i : Nat) : Bool := inB (ix xs i) 0 ((xs.length : Int) - 1) && !((xs.take i).any fun y => decide (y = ix xs i))
theorem permB_okP (xs : List Int) : permB xs = (List.range xs.length).all (okP xs) := by
  rw [Bool.eq_iff_iff]
  constructor
  · intro h
    have hin := permB_in h
    have hnd := permB_nodup h
    refine List.all_eq_true.2 fun i hi => ?_
    have hi := List.mem_range.1 hi
    unfold okP
    rw [Bool.and_eq_true]
    refine ⟨?_, ?_⟩
    · have := hin (ix xs i) (by rw [ix_get _ _ hi]; exact List.getElem_mem hi)
      exact inB_t this.1 this.2
    · rw [Bool.not_eq_true', List.any_eq_false]
      intro y hy e
      have e := of_decide_eq_true e
      obtain ⟨j, hj, rfl⟩ := List.getElem_of_mem hy
      rw [List.length_take] at hj
      rw [List.getElem_take, ix_get _ _ hi] at e
      exact List.pairwise_iff_getElem.1 hnd j i (by omega) hi (by omega) e
  · intro h
    have h2 : ∀ i, i < xs.length → okP xs i = true := fun i hi => List.all_eq_true.1 h i (List.mem_range.2 hi)
    unfold permB
    rw [Bool.and_eq_true, decide_eq_true_eq]
    constructor
    · refine List.all_eq_true.2 fun x hx => ?_
      obtain ⟨i, hi, rfl⟩ := List.getElem_of_mem hx
      have := h2 i hi
      unfold okP at this
      rw [Bool.and_eq_true, ix_get _ _ hi] at this
      exact this.1
    · rw [List.Nodup, List.pairwise_iff_getElem]
      intro j i hj hi hji e
      have := h2 i hi
      unfold okP at this
      rw [Bool.and_eq_true, Bool.not_eq_true', List.any_eq_false] at this
      refine this.2 xs[j] ?_ (decide_eq_true (by rw [ix_get _ _ hi]; exact e))
      exact List.mem_take_iff_getElem.2 ⟨j, by omega, rfl⟩
theorem okP_no1 {xs : List Int} {i : Nat} (h : inB (ix xs i) 0 ((xs.length : Int) - 1) = false) : okP xs i = false := by unfold okP; rw [h]; rfl
theorem permB_no {xs : List Int} {i : Nat} (hi : i < xs.length) (h : okP xs i = false) : permB xs = false := by
  rw [permB_okP]; exact List.all_eq_false.2 ⟨i, List.mem_range.2 hi, by rw [h]; simp⟩
theorem permB_yes {xs : List Int} (h : ∀ i, i < xs.length → okP xs i = true) : permB xs = true := by
  rw [permB_okP]; exact List.all_eq_true.2 fun i hi => h i (List.mem_range.1 hi)
theorem any_takeI (xs : List Int) (v : Int) {k : Nat} (hk : k < xs.length) : ((xs.take (k + 1)).any fun y => decide (y = v)) = (((xs.take k).any fun y => decide (y = v)) || decide (ix xs k = v)) := by
  rw [List.take_succ_eq_append_getElem hk, List.any_append, ix_get _ _ hk]
  simp
theorem l1Has_any (ao : Option Addr) (cap n : Nat) (xs : List Int) (v : Int) (w : World) (hx : IntsAt w ao xs) (hn : xs.length = n) (hl : n ≤ 1048576) :
    Calls Try.prog 65 #[.slice ao n cap, .int .i64 v] w fun e w' => e = .returned (.bool (xs.any fun y => decide (y = v))) ∧ Kept w w' := by
  have hxH := hid hx
  have hnH := hid hn
  clear hx hn
  go_enter Try.func65, Try.ntmps65
  go_wp2
  go_loopw [5] (fun s5 wr => ∃ k : Nat, k ≤ n ∧ s5 = .int .i64 (k : Int) ∧ ((xs.take k).any fun y => decide (y = v)) = false ∧ Kept w wr) (fun s5 _ => n - (intOf s5).toNat)
  case atStart => exact ⟨0, by omega, rfl, rfl, (by (try simp only [ext_ext]); repeat (first | exact Kept.refl _ | apply Kept.alloc | apply Kept.drew | apply kept_add | apply Kept.ext))⟩
  case round =>
    obtain ⟨k, hk, rfl, hno, z, rfl⟩ := hrel
    have hnoH := hid hno
    clear hno
    by_cases hlt : k < n
    · have hnx := hid (any_takeI xs v (k := k) (by rw [hnH.out]; exact hlt))
      obtain ⟨g, off, rfl, hg, a1⟩ := hxH.out k (by rw [hnH.out]; exact hlt)
      by_cases he : ix xs k = v
      · have hany := hid (show (xs.any fun y => decide (y = v)) = true by
          refine List.any_eq_true.2 ⟨ix xs k, ?_, decide_eq_true he⟩
          rw [ix_get _ _ (by rw [hnH.out]; exact hlt)]; exact List.getElem_mem _)
        have hd : (ix xs k == v) = true := by simp [he]
        generalize ix xs k = x at *
        clear he
        go_wp2
        all_goals
          go_ret
          exact ⟨ret_of (by rw [hany.out]; rfl), (by (try simp only [ext_ext]); repeat (first | exact Kept.refl _ | apply Kept.alloc | apply Kept.drew | apply kept_add | apply Kept.ext))⟩
      · have hd : (ix xs k == v) = false := by simp [he]
        have hd2 : decide (ix xs k = v) = false := decide_eq_false he
        rw [hd2] at hnx
        generalize ix xs k = x at *
        clear he hd2
        go_wp2
        go_roundw
        case rel => exact ⟨k + 1, by omega, by go_num, by rw [hnx.out, hnoH.out]; rfl, (by (try simp only [ext_ext]); repeat (first | exact Kept.refl _ | apply Kept.alloc | apply Kept.drew | apply kept_add | apply Kept.ext))⟩
        case measure => simp [intOf]; omega
    · have hall := hid (show (xs.any fun y => decide (y = v)) = false by
        have := hnoH.out
        rwa [List.take_of_length_le (by rw [hnH.out]; omega)] at this)
      go_wp2
      go_ret
      exact ⟨ret_of (by rw [hall.out]; rfl), (by (try simp only [ext_ext]); repeat (first | exact Kept.refl _ | apply Kept.alloc | apply Kept.drew | apply kept_add | apply Kept.ext))⟩
theorem ints_take0 {w : World} {ao : Option Addr} {cs : List Int} (h : IntsAt w ao cs) (k : Nat) : IntsAt w ao (cs.take k) := by
  intro i hi
  rw [List.length_take] at hi
  obtain ⟨g, off, he, hg, h1⟩ := h i (by omega)
  refine ⟨g, off, he, hg, ?_⟩
  have e : ix (cs.take k) i = ix cs i := by
    rw [ix_get _ _ (by rw [List.length_take]; omega), ix_get _ _ (by omega)]; simp
  rw [e]; exact h1
theorem l5Perm_any (g off cap n : Nat) (xs : List Int) (w : World) (hx : IntsAt w (some ⟨g, off, none⟩) xs) (hn : xs.length = n) (hl : n ≤ 1000) (hcap : n ≤ cap) :
    Calls Try.prog 59 #[.slice (some ⟨g, off, none⟩) n cap] w fun e w' => e = .returned (.bool (permB xs)) ∧ Kept w w' := by
  have hxH := hid hx
  have hnH := hid hn
  have hwr : IntKind.i64.wrap ((n : Int) - 1) = (n : Int) - 1 := Go.IntWalk.i64_in _ ⟨by omega, by omega⟩
  clear hx hn
  go_enter Try.func59, Try.ntmps59
  go_wp2
  go_loopw [3] (fun s3 wr => ∃ k : Nat, k ≤ n ∧ s3 = .int .i64 (k : Int) ∧ (∀ j, j < k → okP xs j = true) ∧ Kept w wr) (fun s3 _ => n - (intOf s3).toNat)
  case atStart => exact ⟨0, by omega, rfl, fun j hj => by omega, (by (try simp only [ext_ext]); repeat (first | exact Kept.refl _ | apply Kept.alloc | apply Kept.drew | apply kept_add | apply Kept.ext))⟩
  case round =>
    obtain ⟨k, hk, rfl, hok, z, rfl⟩ := hrel
    have hokH := hid hok
    clear hok
    by_cases hlt : k < n
    · obtain ⟨_, _, he, hg, a1⟩ := hxH.out k (by rw [hnH.out]; exact hlt)
      cases he
      have hpn := hid (fun h => permB_no (xs := xs) (i := k) (by rw [hnH.out]; exact hlt) h)
      have hcp1 : (k : Int) ≤ (cap : Int) := by omega
      have hcp2 : k ≤ cap := by omega
      have hHs := hid (fun w' (hk : Kept w w') => l1Has_any (some ⟨g, off, none⟩) cap k (xs.take k) (ix xs k) w' (ints_take0 (hxH.out.kept hk) k) (by rw [List.length_take, hnH.out]; omega) (by omega))
      have hIn := hid (fun w' => l1In_any (ix xs k) 0 ((n : Int) - 1) w')
      have hpk : okP xs k = (inB (ix xs k) 0 ((n : Int) - 1) && !((xs.take k).any fun y => decide (y = ix xs k))) := by unfold okP; rw [hnH.out]
      have hpkH := hid hpk
      clear hpk
      cases hi : inB (ix xs k) 0 ((n : Int) - 1) with
      | false =>
        rw [hi] at hIn hpkH
        have hno := hid (hpn.out (by rw [hpkH.out]; rfl))
        clear hi
        go_wp2_with (first | (refine wp_region_ext (by kernel_rfl) (by kernel_rfl) ?_; (repeat (go_big_quiet_step (((go_at_call 62; first | exact ext_call_same (hIn.out _) | exact ext_call_same2 (hIn.out _)))))); refine wpQuiet_end fun z => ?_))
        go_ret
        exact ⟨ret_of (by rw [hno.out]; rfl), (by (try simp only [ext_ext]); repeat (first | exact Kept.refl _ | apply Kept.alloc | apply Kept.drew | apply kept_add | apply Kept.ext))⟩
      | true =>
        rw [hi] at hIn hpkH
        clear hi
        cases ha : ((xs.take k).any fun y => decide (y = ix xs k)) with
        | true =>
          rw [ha] at hHs hpkH
          have hno := hid (hpn.out (by rw [hpkH.out]; rfl))
          clear ha
          go_wp2_with (first | (refine wp_region_ext (by kernel_rfl) (by kernel_rfl) ?_; (repeat (go_big_quiet_step ((first | (go_at_call 62; first | exact ext_call_same (hIn.out _) | exact ext_call_same2 (hIn.out _)) | (go_at_call 65; first | exact ext_call (hHs.out _ ((by (try simp only [ext_ext]); repeat (first | exact Kept.refl _ | apply Kept.alloc | apply Kept.drew | apply kept_add | apply Kept.ext)))) | exact ext_call2 (hHs.out _ ((by (try simp only [ext_ext]); repeat (first | exact Kept.refl _ | apply Kept.alloc | apply Kept.drew | apply kept_add | apply Kept.ext))))))))); refine wpQuiet_end fun z => ?_))
          go_ret
          exact ⟨ret_of (by rw [hno.out]; rfl), (by (try simp only [ext_ext]); repeat (first | exact Kept.refl _ | apply Kept.alloc | apply Kept.drew | apply kept_add | apply Kept.ext))⟩
        | false =>
          rw [ha] at hHs hpkH
          clear ha
          go_wp2_with (first | (refine wp_region_ext (by kernel_rfl) (by kernel_rfl) ?_; (repeat (go_big_quiet_step ((first | (go_at_call 62; first | exact ext_call_same (hIn.out _) | exact ext_call_same2 (hIn.out _)) | (go_at_call 65; first | exact ext_call (hHs.out _ ((by (try simp only [ext_ext]); repeat (first | exact Kept.refl _ | apply Kept.alloc | apply Kept.drew | apply kept_add | apply Kept.ext)))) | exact ext_call2 (hHs.out _ ((by (try simp only [ext_ext]); repeat (first | exact Kept.refl _ | apply Kept.alloc | apply Kept.drew | apply kept_add | apply Kept.ext))))))))); refine wpQuiet_end fun z => ?_))
          go_roundw
          case rel => exact ⟨k + 1, by omega, by go_num, fun j hj => if h : j < k then hokH.out j h else by rw [show j = k by omega, hpkH.out]; rfl, (by (try simp only [ext_ext]); repeat (first | exact Kept.refl _ | apply Kept.alloc | apply Kept.drew | apply kept_add | apply Kept.ext))⟩
          case measure => simp [intOf]; omega
    · have hyes := hid (permB_yes (xs := xs) (fun i hi => hokH.out i (by rw [hnH.out] at hi; omega)))
      go_wp2
      go_ret
      exact ⟨ret_of (by rw [hyes.out]; rfl), (by (try simp only [ext_ext]); repeat (first | exact Kept.refl _ | apply Kept.alloc | apply Kept.drew | apply kept_add | apply Kept.ext))⟩
set_option maxRecDepth 20000 in
theorem l5Map_any (f : Nat → Int) (w : World) : Calls Try.prog 38 #[mpv f] w fun e w' => e = .returned (.bool (mapB f)) ∧ Kept w w' := by
  obtain ⟨W, hW⟩ : ∃ W, W = w.alloc (.cells #[.int .i64 (f 0), .int .i64 (f 1), .int .i64 (f 2), .int .i64 (f 3), .int .i64 (f 4), .int .i64 (f 5), .int .i64 (f 6), .int .i64 (f 7), .int .i64 (f 8), .int .i64 (f 9), .int .i64 (f 10), .int .i64 (f 11), .int .i64 (f 12), .int .i64 (f 13), .int .i64 (f 14), .int .i64 (f 15)] 35) := ⟨_, rfl⟩
  have hM := hid (show BoxM W w.heap.size f by rw [hW]; exact BoxM.new f rfl)
  have kW := hid (show Kept w W by rw [hW]; exact (by (try simp only [ext_ext]); repeat (first | exact Kept.refl _ | apply Kept.alloc | apply Kept.drew | apply kept_add | apply Kept.ext)))
  have hWH := hid hW
  clear hW
  go_enter Try.func38, Try.ntmps38
  go_wp2
  rw [← hWH.out]
  go_loopw [3] (fun s3 wr => ∃ k : Nat, k ≤ 4 ∧ s3 = .int .i64 (k : Int) ∧ mapTo f k = true ∧ Kept W wr) (fun s3 _ => 4 - (intOf s3).toNat)
  case atStart => exact ⟨0, by omega, rfl, rfl, (by (try simp only [ext_ext]); repeat (first | exact Kept.refl _ | apply Kept.alloc | apply Kept.drew | apply kept_add | apply Kept.ext))⟩
  case round =>
    obtain ⟨k, hk, rfl, hok, z, rfl⟩ := hrel
    have hokH := hid hok
    clear hok
    by_cases hlt : k < 4
    · have hP := hid (fun w' (hk : Kept W w') => l5Perm_any w.heap.size (4 + k * 3) 3 3 (row3 f k) w' (hM.out.kept hk |>.row3 hlt) rfl (by omega) (by omega))
      have hnx := hid (mapTo_next f k)
      have hgs : w.heap.size < W.heap.size := hM.out.1
      cases hp : permB (row3 f k) with
      | true =>
        rw [hp] at hP hnx
        clear hp
        go_wp2_with (first | (go_at_call 59; refine Calls.mono (hP.out _ ((by (try simp only [ext_ext]); repeat (first | exact Kept.refl _ | apply Kept.alloc | apply Kept.drew | apply kept_add | apply Kept.ext)))) ?_; rintro e w' ⟨rfl, y, rfl⟩))
        go_roundw
        case rel => exact ⟨k + 1, by omega, by go_num, by rw [hnx.out, hokH.out]; rfl, (by (try simp only [ext_ext]); repeat (first | exact Kept.refl _ | apply Kept.alloc | apply Kept.drew | apply kept_add | apply Kept.ext))⟩
        case measure => simp [intOf]; omega
      | false =>
        have hno := hid (show mapB f = false by unfold mapB; rw [mapTo_no hlt hp]; rfl)
        rw [hp] at hP
        clear hp
        go_wp2_with (first | (go_at_call 59; refine Calls.mono (hP.out _ ((by (try simp only [ext_ext]); repeat (first | exact Kept.refl _ | apply Kept.alloc | apply Kept.drew | apply kept_add | apply Kept.ext)))) ?_; rintro e w' ⟨rfl, y, rfl⟩))
        go_ret
        exact ⟨ret_of (by rw [hno.out]; rfl), kW.out.trans (by (try simp only [ext_ext]); repeat (first | exact Kept.refl _ | apply Kept.alloc | apply Kept.drew | apply kept_add | apply Kept.ext))⟩
    · obtain rfl : k = 4 := by omega
      have hP := hid (fun w' (hk : Kept W w') => l5Perm_any w.heap.size 0 4 4 (row4 f) w' (hM.out.kept hk |>.row4) rfl (by omega) (by omega))
      have hfin := hid (show permB (row4 f) = mapB f by unfold mapB; rw [hokH.out]; rfl)
      rw [hfin.out] at hP
      go_wp2_with (first | (go_at_call 59; refine Calls.mono (hP.out _ ((by (try simp only [ext_ext]); repeat (first | exact Kept.refl _ | apply Kept.alloc | apply Kept.drew | apply kept_add | apply Kept.ext)))) ?_; rintro e w' ⟨rfl, y, rfl⟩))
      go_ret
      exact ⟨rfl, kW.out.trans (by (try simp only [ext_ext]); repeat (first | exact Kept.refl _ | apply Kept.alloc | apply Kept.drew | apply kept_add | apply Kept.ext))⟩
--%
theorem idx12 (f : Nat → Int) (i : Nat) (hi : i < 4) (w : World) : (Instr.index 31 (.agg #[.int .i64 (f 4), .int .i64 (f 5), .int .i64 (f 6), .int .i64 (f 7), .int .i64 (f 8), .int .i64 (f 9), .int .i64 (f 10), .int .i64 (f 11), .int .i64 (f 12), .int .i64 (f 13), .int .i64 (f 14), .int .i64 (f 15)]) (.int .i64 (i : Int))).run Try.prog w = .ok (.agg #[.int .i64 (f (4 + i * 3)), .int .i64 (f (4 + i * 3 + 1)), .int .i64 (f (4 + i * 3 + 2))]) w := by
  obtain rfl | rfl | rfl | rfl : i = 0 ∨ i = 1 ∨ i = 2 ∨ i = 3 := by omega
  all_goals kernel_rfl
set_option maxRecDepth 20000 in
theorem IsMap_any (f : Nat → Int) (w : World) : Calls Try.prog 41 #[mpv f] w fun e w' => e = .returned (.bool (mapB f)) ∧ Kept w w' := by
  obtain ⟨W, hW⟩ : ∃ W, W = w.alloc (.cells #[.int .i64 (f 0), .int .i64 (f 1), .int .i64 (f 2), .int .i64 (f 3), .int .i64 (f 4), .int .i64 (f 5), .int .i64 (f 6), .int .i64 (f 7), .int .i64 (f 8), .int .i64 (f 9), .int .i64 (f 10), .int .i64 (f 11), .int .i64 (f 12), .int .i64 (f 13), .int .i64 (f 14), .int .i64 (f 15)] 35) := ⟨_, rfl⟩
  have hM := hid (show BoxM W w.heap.size f by rw [hW]; exact BoxM.new f rfl)
  have kW := hid (show Kept w W by rw [hW]; exact (by (try simp only [ext_ext]); repeat (first | exact Kept.refl _ | apply Kept.alloc | apply Kept.drew | apply kept_add | apply Kept.ext)))
  have hWH := hid hW
  clear hW
  go_enter Try.func41, Try.ntmps41
  go_wp2
  rw [← hWH.out]
  go_loopw [7] (fun s7 wr => ∃ k : Nat, k ≤ 4 ∧ s7 = .int .i64 (k : Int) ∧ mapTo f k = true ∧ Kept W wr) (fun s7 _ => 4 - (intOf s7).toNat)
  case atStart => exact ⟨0, by omega, rfl, rfl, (by (try simp only [ext_ext]); repeat (first | exact Kept.refl _ | apply Kept.alloc | apply Kept.drew | apply kept_add | apply Kept.ext))⟩
  case round =>
    obtain ⟨k, hk, rfl, hok, z, rfl⟩ := hrel
    have hokH := hid hok
    clear hok
    have hgs : w.heap.size < W.heap.size := hM.out.1
    by_cases hlt : k < 4
    · have hidx := fun w' => idx12 f k hlt w'
      have hP := hid (fun w' g (h : w'.heap[g]? = some (.cells #[.int .i64 (f (4 + k * 3)), .int .i64 (f (4 + k * 3 + 1)), .int .i64 (f (4 + k * 3 + 2))] 30 (0, 0))) => isOrder_any g 0 3 3 (row3 f k) w' (intsAt_block (xs := row3 f k) h) rfl (by omega) (by omega))
      have hnx := hid (mapTo_next f k)
      cases hp : permB (row3 f k) with
      | true =>
        rw [hp] at hP hnx
        clear hp
        go_wp2_with (first | (go_at_call 61; refine Calls.mono (hP.out _ _ (heap_at (by simp))) ?_; rintro e w' ⟨rfl, y, rfl⟩))
        go_roundw
        case rel => exact ⟨k + 1, by omega, by go_num, by rw [hnx.out, hokH.out]; rfl, (by (try simp only [ext_ext]); repeat (first | exact Kept.refl _ | apply Kept.alloc | apply Kept.drew | apply kept_add | apply Kept.ext))⟩
        case measure => simp [intOf]; omega
      | false =>
        have hno := hid (show mapB f = false by unfold mapB; rw [mapTo_no hlt hp]; rfl)
        rw [hp] at hP
        clear hp
        go_wp2_with (first | (go_at_call 61; refine Calls.mono (hP.out _ _ (heap_at (by simp))) ?_; rintro e w' ⟨rfl, y, rfl⟩))
        go_ret
        exact ⟨ret_of (by rw [hno.out]; rfl), kW.out.trans (by (try simp only [ext_ext]); repeat (first | exact Kept.refl _ | apply Kept.alloc | apply Kept.drew | apply kept_add | apply Kept.ext))⟩
    · obtain rfl : k = 4 := by omega
      have hP := hid (fun w' (hk : Kept W w') => isOrder_any w.heap.size 0 4 4 (row4 f) w' (hM.out.kept hk |>.row4) rfl (by omega) (by omega))
      have hfin := hid (show permB (row4 f) = mapB f by unfold mapB; rw [hokH.out]; rfl)
      rw [hfin.out] at hP
      go_wp2_with (first | (go_at_call 61; refine Calls.mono (hP.out _ ((by (try simp only [ext_ext]); repeat (first | exact Kept.refl _ | apply Kept.alloc | apply Kept.drew | apply kept_add | apply Kept.ext)))) ?_; rintro e w' ⟨rfl, y, rfl⟩))
      go_ret
      exact ⟨rfl, kW.out.trans (by (try simp only [ext_ext]); repeat (first | exact Kept.refl _ | apply Kept.alloc | apply Kept.drew | apply kept_add | apply Kept.ext))⟩
--%
end Go.Proofs.Ytjlaoocomkonhaa
namespace Go.Proofs.Ytjlaoocomkonhaa
open Go.RowKit
theorem ownC_nil {B g : Nat} {w : World} (hB : B ≤ g) (h : w.heap[g]? = some (.cells #[] T4 (0, 0))) : OwnC B w (.slice (some ⟨g, 0, none⟩) 0 0) [] :=
  ⟨rfl, .inr ⟨g, 0, #[], rfl, hB, h, Nat.le_refl _, by unfold maxLen; omega, rfl, by simp [cells4]⟩⟩
theorem cardCells_new {w : World} {g : Nat} {t : TypeId} (c : Card) (h : g = w.heap.size) : CardCells (w.alloc (.cells #[.int .i64 c.a, .int .i64 c.b, .int .i64 c.c, .int .i64 c.d] t)) g 0 c := by
  have hh := heap_at (o := .cells #[.int .i64 c.a, .int .i64 c.b, .int .i64 c.c, .int .i64 c.d] t) h
  exact ⟨cell_of_row _ g 0 _ t (0, 0) hh, cell_of_row _ g 1 _ t (0, 0) hh, cell_of_row _ g 2 _ t (0, 0) hh, cell_of_row _ g 3 _ t (0, 0) hh⟩
theorem wpList_append_card {ops : Array Oper} {rest : List Oper} {o : Oper} {a : Act} {Q : Exit → Act → World → Prop} {w : World} (hgd : o.guard = none) (s x : Operand)
    (ho : o.op = .call { callee := .builtin .append, args := #[s, x], argTypes := #[22, 22] }) (W : World) (v : Value) (cs : List Card) (hs : a.eval s = v) (hown : OwnC W.heap.size w v cs) (hk : Kept W w)
    (g cap : Nat) (c : Card) (hx : a.eval x = .slice (some ⟨g, 0, none⟩) 1 cap) (hc : CardCells w g 0 c) (hl : cs.length ≤ 1048576)
    (h : ∀ v' z, OwnC W.heap.size (ext W z) v' (cs ++ [c]) → wpList Try.prog ops Q rest (a.put o.dst v') (ext W z)) : wpList Try.prog ops Q (o :: rest) a w := by
  obtain ⟨i, hi, hz, hsz, hb⟩ := info_parts info_card
  obtain ⟨h0, h1, h2, h3⟩ := hc
  refine wpList_append_own w hgd s x 22 ho W.heap.size T4 i _ 4 32 Try.underlying22 hi hz hsz hb rfl (by decide) v cs.length (cells4 cs) hs hown ⟨g, 0, none⟩ 1 cap
    [.int .i64 c.a, .int .i64 c.b, .int .i64 c.c, .int .i64 c.d] hx rfl ?_ ?_ (by unfold maxLen; omega) (by omega) hk.below.size ?_
  · intro j u hj
    match j, hj with
    | 0, hj => simp at hj; subst hj; exact h0
    | 1, hj => simp at hj; subst hj; exact h1
    | 2, hj => simp at hj; subst hj; exact h2
    | 3, hj => simp at hj; subst hj; exact h3
    | j + 4, hj => simp at hj
  · intro u hu
    simp at hu
    rcases hu with rfl | rfl | rfl | rfl <;> rfl
  · intro v' w' hown' hg _
    have hk' : Kept W w' := hk.grown hg fun k hk => (hown.lt k hk).1
    obtain ⟨z, rfl⟩ := hk'
    refine h v' z ?_
    have e : cells4 (cs ++ [c]) = cells4 cs ++ [.int .i64 c.a, .int .i64 c.b, .int .i64 c.c, .int .i64 c.d] := by simp [cells4]
    unfold OwnC
    rw [e, List.length_append]
    exact hown'
end Go.Proofs.Ytjlaoocomkonhaa
namespace Go.Proofs.Ytjlaoocomkonhaa
open Go.RowKit
def sumA (s c : Card) : Card := ⟨(s.a + c.a) % 3, (s.b + c.b) % 3, (s.c + c.c) % 3, (s.d + c.d) % 3⟩
/-- The sum of cards. -/
def sumC (cs : List Card) : Card := cs.foldl sumA ⟨0, 0, 0, 0⟩
theorem isCard_mk {x : Card} (h1 : 0 ≤ x.a ∧ x.a ≤ 2) (h2 : 0 ≤ x.b ∧ x.b ≤ 2) (h3 : 0 ≤ x.c ∧ x.c ≤ 2) (h4 : 0 ≤ x.d ∧ x.d ≤ 2) : isCard x = true := by
  simp only [isCard, inB_t h1.1 h1.2, inB_t h2.1 h2.2, inB_t h3.1 h3.2, inB_t h4.1 h4.2, Bool.and_self]
theorem sumC_next (xs : List Card) (k : Nat) (h : k < xs.length) : sumC (xs.take (k + 1)) = sumA (sumC (xs.take k)) (cx xs k) := by
  rw [take_cx xs k h]; simp [sumC]
theorem isCard_sumA (s c : Card) : isCard (sumA s c) = true := by
  refine isCard_mk ?_ ?_ ?_ ?_
  all_goals simp only [sumA]; omega
theorem isCard_sumC (cs : List Card) : isCard (sumC cs) = true := by
  unfold sumC
  rw [List.foldl_eq_foldr_reverse]
  cases cs.reverse with
  | nil => rfl
  | cons x l => exact isCard_sumA _ _
end Go.Proofs.Ytjlaoocomkonhaa
