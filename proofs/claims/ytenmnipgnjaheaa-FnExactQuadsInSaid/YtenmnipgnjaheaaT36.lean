/- Contracts: whether a deal is valid. -/
import Derived.Test.YtenmnipgnjaheaaT35
import Derived.Test.YtenmnipgnjaheaaT34
import Derived.Test.YtenmnipgnjaheaaT8
namespace Go.Proofs.Ytenmnipgnjaheaa
open Go.RowKit
/-- A slice's first cards. -/
theorem CardsAt.take {w : World} {ao : Option Addr} {cs : List Card} (h : CardsAt w ao cs) {i : Nat} (hi : i ≤ cs.length) : CardsAt w ao (cs.take i) := by
  intro j hj
  have hj' : j < i := by rw [List.length_take] at hj; omega
  have e : cx (cs.take i) j = cx cs j := by rw [cx_get _ _ hj, cx_get _ _ (by omega), List.getElem_take]
  rw [e]
  exact h j (by omega)
theorem take_lenC {cs : List Card} {i : Nat} (hi : i ≤ cs.length) : (cs.take i).length = i := by rw [List.length_take]; omega
theorem OwnC.cardsN {B : Nat} {w : World} {g cap n : Nat} {cs : List Card} (h : OwnC B w (.slice (some ⟨g, 0, none⟩) n cap) cs) (hn : cs.length = n) : CardsAt w (some ⟨g, 0, none⟩) cs := by
  subst hn
  obtain ⟨ao, cap', hv, hx, _⟩ := h.reads
  cases hv
  exact hx
theorem OwnC.capN {B : Nat} {w : World} {g cap n : Nat} {cs : List Card} (h : OwnC B w (.slice (some ⟨g, 0, none⟩) n cap) cs) (hn : cs.length = n) : n ≤ cap := by
  subst hn
  obtain ⟨ao, cap', hv, _, hc⟩ := h.reads
  cases hv
  exact hc
def layAt (P : List Card) (n : Nat) (laid : List Card) (i : Nat) : Bool := hasC (P.take n) (cx laid i) && !hasC (laid.take i) (cx laid i)
def layB (P : List Card) (n : Nat) (laid : List Card) : Bool := (List.range laid.length).all fun i => layAt P n laid i
theorem layB_no {P : List Card} {n : Nat} {laid : List Card} {i : Nat} (hi : i < laid.length) (h : layAt P n laid i = false) : layB P n laid = false := by
  cases hp : layB P n laid with
  | false => rfl
  | true =>
    have := List.all_eq_true.1 hp i (List.mem_range.2 hi)
    rw [h] at this; cases this
theorem layB_yes {P : List Card} {n : Nat} {laid : List Card} (h : ∀ i, i < laid.length → layAt P n laid i = true) : layB P n laid = true :=
  List.all_eq_true.2 fun i hi => h i (List.mem_range.1 hi)
theorem hasC_mem (xs : List Card) (c : Card) : hasC xs c = decide (c ∈ xs) := by
  rw [Bool.eq_iff_iff]
  simp [hasC]
theorem sub_len : ∀ {l m : List Card}, l.Nodup → (∀ x, x ∈ l → x ∈ m) → l.length ≤ m.length
  | [], m, _, _ => Nat.zero_le _
  | x :: l, m, hn, hs => by
    rw [List.nodup_cons] at hn
    have hx := hs x (by simp)
    have h1 := sub_len (l := l) (m := m.erase x) hn.2 fun y hy => (List.mem_erase_of_ne (fun e => hn.1 (by rw [← e]; exact hy))).2 (hs y (by simp [hy]))
    have h2 := List.length_erase_of_mem hx
    have h3 := List.length_pos_of_mem hx
    simp only [List.length_cons]; omega
theorem lay_le {P : List Card} {n : Nat} {laid : List Card} (h : layB P n laid = true) : laid.length ≤ n := by
  have key : ∀ k, k ≤ laid.length → (laid.take k).Nodup ∧ ∀ x, x ∈ laid.take k → x ∈ P.take n := by
    intro k
    induction k with
    | zero => intro _; simp
    | succ k ih =>
      intro hk
      obtain ⟨h1, h2⟩ := ih (by omega)
      have := List.all_eq_true.1 h k (List.mem_range.2 (by omega))
      simp only [layAt, Bool.and_eq_true, hasC_mem, decide_eq_true_eq, Bool.not_eq_true', decide_eq_false_iff_not] at this
      rw [take_cx laid k (by omega)]
      refine ⟨List.nodup_append.2 ⟨h1, by simp, fun a ha b hb => ?_⟩, fun x hx => ?_⟩
      · rw [List.mem_singleton] at hb
        rw [hb]
        intro e
        exact this.2 (e ▸ ha)
      · rcases List.mem_append.1 hx with h' | h'
        · exact h2 x h'
        · rw [List.mem_singleton] at h'; rw [h']; exact this.1
  obtain ⟨h1, h2⟩ := key laid.length (Nat.le_refl _)
  rw [List.take_of_length_le (Nat.le_refl _)] at h1 h2
  have h3 := sub_len h1 h2
  rw [List.length_take] at h3
  omega
def dealB (s n : Int) (laid : List Card) : Bool := inB s 0 65535 && inB n 0 81 && decide ((laid.length : Int) ≤ n) && layB (pileC s) n.toNat laid
theorem isSeed_any (s : Int) (w : World) : Calls Try.prog 87 #[.int .i64 s] w fun e w' => e = .returned (.bool (inB s 0 65535)) ∧ w = w' := by
  go_enter Try.func87, Try.ntmps87
  go_wp2_with (first | (go_at_call 69; refine Calls.mono (within_any _ _ _ _) ?_; rintro e w' ⟨rfl, rfl⟩))
  go_ret
  exact ⟨rfl, rfl⟩
theorem l4Seed_any (s : Int) (w : World) : Calls Try.prog 83 #[.int .i64 s] w fun e w' => e = .returned (.bool (inB s 0 65535)) ∧ w = w' := by
  go_enter Try.func83, Try.ntmps83
  go_wp2_with (first | (go_at_call 68; refine Calls.mono (l1In_any _ _ _ _) ?_; rintro e w' ⟨rfl, rfl⟩))
  go_ret
  exact ⟨rfl, rfl⟩
theorem IsDeal_any (s n : Int) (lo : Option Addr) (lc : Nat) (laid : List Card) (w : World) (hx : CardsAt w lo laid) (hl : laid.length ≤ 1048576) (hlc : laid.length ≤ lc) :
    Calls Try.prog 71 #[dv s n (.slice lo laid.length lc)] w fun e w' => e = .returned (.bool (dealB s n laid)) ∧ Kept w w' := by
  cases h1 : inB s 0 65535
  · have hv : Hid (dealB s n laid = false) := hid (by simp [dealB, h1])
    go_enter Try.func71, Try.ntmps71
    go_wp2_with (first | (go_at_call 87; refine Calls.mono (isSeed_any _ _) ?_; rintro e w' ⟨rfl, rfl⟩))
    go_ret
    exact ⟨ret_of (by rw [hv.out]; rfl), (by (try simp only [ext_ext]); repeat (first | exact Kept.refl _ | apply Kept.alloc | apply Kept.drew | apply kept_add | apply Kept.ext))⟩
  cases h2 : inB n 0 81
  · have hv : Hid (dealB s n laid = false) := hid (by simp [dealB, h2])
    go_enter Try.func71, Try.ntmps71
    go_wp2_with (first | (go_at_call 87; refine Calls.mono (isSeed_any _ _) ?_; rintro e w' ⟨rfl, rfl⟩) | (go_at_call 69; refine Calls.mono (within_any _ _ _ _) ?_; rintro e w' ⟨rfl, rfl⟩))
    go_ret
    exact ⟨ret_of (by rw [hv.out]; rfl), (by (try simp only [ext_ext]); repeat (first | exact Kept.refl _ | apply Kept.alloc | apply Kept.drew | apply kept_add | apply Kept.ext))⟩
  obtain ⟨s0, s1⟩ := inB_of h1
  obtain ⟨n0, n1⟩ := inB_of h2
  obtain ⟨nn, rfl⟩ : ∃ nn : Nat, n = nn := ⟨n.toNat, by omega⟩
  by_cases h3 : (nn : Int) < (laid.length : Int)
  · have hv : Hid (dealB s nn laid = false) := hid (by
      have : ¬ (laid.length : Int) ≤ nn := by omega
      simp [dealB, this])
    go_enter Try.func71, Try.ntmps71
    go_wp2_with (first | (go_at_call 87; refine Calls.mono (isSeed_any _ _) ?_; rintro e w' ⟨rfl, rfl⟩) | (go_at_call 69; refine Calls.mono (within_any _ _ _ _) ?_; rintro e w' ⟨rfl, rfl⟩))
    go_ret
    exact ⟨ret_of (by rw [hv.out]; rfl), (by (try simp only [ext_ext]); repeat (first | exact Kept.refl _ | apply Kept.alloc | apply Kept.drew | apply kept_add | apply Kept.ext))⟩
  have hv : Hid (dealB s nn laid = layB (pileC s) nn laid) := hid (by
    have : (laid.length : Int) ≤ nn := by omega
    simp [dealB, this, h1, h2])
  have hnn : nn ≤ 81 := by omega
  go_enter Try.func71, Try.ntmps71
  go_wp2_with (first | (go_at_call 87; refine Calls.mono (isSeed_any _ _) ?_; rintro e w' ⟨rfl, rfl⟩) | (go_at_call 69; refine Calls.mono (within_any _ _ _ _) ?_; rintro e w' ⟨rfl, rfl⟩))
  go_region_held3 (fun w' => w'.cell? ⟨w.heap.size, 0, none⟩ = some (.int .i64 s) ∧ w'.cell? ⟨w.heap.size, 1, none⟩ = some (.int .i64 nn))
    (first | go_keep | (constructor <;> simp [go_sem]))
    (first | (go_at_call 88; refine Calls.mono (pile_any s s0 s1 _) ?_; rintro e w' ⟨v, rfl, ho, z, rfl⟩; obtain ⟨g, cp, hgv, hgb, hgl⟩ := World.ownsRow.form ho (by rw [pileC_len]; omega); rw [pileC_len] at hgv; subst hgv; have hcp := ho.capN (pileC_len s); have hcp2 : nn ≤ cp := by omega))
  have hxp := (ho.cardsN (pileC_len s)).take (i := nn) (by rw [pileC_len]; omega)
  simp only [ext_of_drew] at hxp
  have hpl := take_lenC (cs := pileC s) (i := nn) (by rw [pileC_len]; omega)
  generalize hP : (pileC s).take nn = P at hxp hpl
  have hvA : ∀ k, layAt (pileC s) nn laid k = (hasC P (cx laid k) && !hasC (laid.take k) (cx laid k)) := fun k => by rw [layAt, hP]
  go_wp2
  have k1 : Kept w (ext (w.alloc (Obj.cells #[.int .i64 s, .int .i64 nn, .slice lo laid.length lc] 39)) z) := (by (try simp only [ext_ext]); repeat (first | exact Kept.refl _ | apply Kept.alloc | apply Kept.drew | apply kept_add | apply Kept.ext))
  have c2 : (ext (w.alloc (Obj.cells #[.int .i64 s, .int .i64 nn, .slice lo laid.length lc] 39)) z).cell? ⟨w.heap.size, 2, none⟩ = some (.slice lo laid.length lc) := by simp [go_sem]
  have hsz : w.heap.size < (ext (w.alloc (Obj.cells #[.int .i64 s, .int .i64 nn, .slice lo laid.length lc] 39)) z).heap.size := by simp <;> omega
  have hx1 := hx.kept k1
  clear ho
  generalize ext (w.alloc (Obj.cells #[.int .i64 s, .int .i64 nn, .slice lo laid.length lc] 39)) z = W at k1 c2 hsz hx1 hxp ⊢
  have k1H := hid k1
  clear k1 hx
  go_loopw [33] (fun i wr => ∃ k : Nat, k ≤ laid.length ∧ i = .int .i64 k ∧ (∀ j, j < k → layAt (pileC s) nn laid j = true) ∧ Kept W wr) (fun i _ => laid.length - (intOf i).toNat)
  case atStart => exact ⟨0, Nat.zero_le _, rfl, fun j hj => absurd hj (Nat.not_lt_zero _), Kept.refl _⟩
  case round =>
    obtain ⟨k, hk, rfl, hnj, z2, rfl⟩ := hrel
    have hnH := hid hnj
    clear hnj
    by_cases hlt : k < laid.length
    · have hyt := hid (hx1.take (Nat.le_of_lt hlt))
      have hyl := take_lenC (Nat.le_of_lt hlt)
      obtain ⟨gl, off, rfl, hg, q1, q2, q3, q4⟩ := hx1 k hlt
      have hkc : k ≤ lc := by omega
      have hH := fun w' (hk : Kept W w') => has_any (some ⟨g, 0, none⟩) cp P (cx laid k) w' (hxp.kept hk) (by omega)
      rw [hpl] at hH
      have hF := fun w' (hk : Kept W w') => has_any (some ⟨gl, off, none⟩) lc (laid.take k) (cx laid k) w' (hyt.out.kept hk) (by omega)
      rw [hyl] at hF
      have hvk := hid (hvA k)
      have hFH := hid hF
      have hHH := hid hH
      clear hF hH
      cases hA : hasC P (cx laid k)
      · have hno := hid (layB_no hlt (hvk.out.trans (by simp [hA])))
        have hH1 := hHH.out
        rw [hA] at hH1
        have hH2 := hid hH1
        clear hH1 hA hHH hFH
        go_wp2_with (first | (refine wp_region_ext (by kernel_rfl) (by kernel_rfl) ?_; (repeat (go_big_quiet_step ((first | (go_at_call 89; first | exact ext_call (hH2.out _ ((by (try simp only [ext_ext]); repeat (first | exact Kept.refl _ | apply Kept.alloc | apply Kept.drew | apply kept_add | apply Kept.ext)))) | exact ext_call2 (hH2.out _ ((by (try simp only [ext_ext]); repeat (first | exact Kept.refl _ | apply Kept.alloc | apply Kept.drew | apply kept_add | apply Kept.ext))))))))); refine wpQuiet_end fun z => ?_))
        go_ret
        exact ⟨ret_of (by rw [hv.out, hno.out]; rfl), k1H.out.trans (by (try simp only [ext_ext]); repeat (first | exact Kept.refl _ | apply Kept.alloc | apply Kept.drew | apply kept_add | apply Kept.ext))⟩
      · cases hB : hasC (laid.take k) (cx laid k)
        · have hyes : Hid (layAt (pileC s) nn laid k = true) := hid (hvk.out.trans (by simp [hA, hB]))
          have hH1 := hHH.out
          have hF1 := hFH.out
          rw [hA] at hH1
          rw [hB] at hF1
          have hH2 := hid hH1
          have hF2 := hid hF1
          clear hH1 hF1 hA hB hHH hFH
          go_wp2
          refine wp_region_ext (by kernel_rfl) (by kernel_rfl) ?_
          repeat (go_big_quiet_step (fail))
          go_big_quiet_step ((go_at_call 89; first | exact ext_call (hH2.out _ ((by (try simp only [ext_ext]); repeat (first | exact Kept.refl _ | apply Kept.alloc | apply Kept.drew | apply kept_add | apply Kept.ext)))) | exact ext_call2 (hH2.out _ ((by (try simp only [ext_ext]); repeat (first | exact Kept.refl _ | apply Kept.alloc | apply Kept.drew | apply kept_add | apply Kept.ext))))))
          repeat (go_big_quiet_step (fail))
          go_big_quiet_step ((go_at_call 89; first | exact ext_call (hF2.out _ ((by (try simp only [ext_ext]); repeat (first | exact Kept.refl _ | apply Kept.alloc | apply Kept.drew | apply kept_add | apply Kept.ext)))) | exact ext_call2 (hF2.out _ ((by (try simp only [ext_ext]); repeat (first | exact Kept.refl _ | apply Kept.alloc | apply Kept.drew | apply kept_add | apply Kept.ext))))))
          repeat (go_big_quiet_step (fail))
          refine wpQuiet_end fun z => ?_
          go_wp2
          go_roundw
          case rel =>
            refine ⟨k + 1, hlt, by go_num, fun j hj => ?_, (by (try simp only [ext_ext]); repeat (first | exact Kept.refl _ | apply Kept.alloc | apply Kept.drew | apply kept_add | apply Kept.ext))⟩
            rcases Nat.lt_or_eq_of_le (Nat.le_of_lt_succ hj) with h' | rfl
            · exact hnH.out j h'
            · exact hyes.out
          case measure => simp [intOf]; omega
        · have hno := hid (layB_no hlt (hvk.out.trans (by simp [hA, hB])))
          have hH1 := hHH.out
          have hF1 := hFH.out
          rw [hA] at hH1
          rw [hB] at hF1
          have hH2 := hid hH1
          have hF2 := hid hF1
          clear hH1 hF1 hA hB hHH hFH
          go_wp2
          refine wp_region_ext (by kernel_rfl) (by kernel_rfl) ?_
          repeat (go_big_quiet_step (fail))
          go_big_quiet_step ((go_at_call 89; first | exact ext_call (hH2.out _ ((by (try simp only [ext_ext]); repeat (first | exact Kept.refl _ | apply Kept.alloc | apply Kept.drew | apply kept_add | apply Kept.ext)))) | exact ext_call2 (hH2.out _ ((by (try simp only [ext_ext]); repeat (first | exact Kept.refl _ | apply Kept.alloc | apply Kept.drew | apply kept_add | apply Kept.ext))))))
          repeat (go_big_quiet_step (fail))
          go_big_quiet_step ((go_at_call 89; first | exact ext_call (hF2.out _ ((by (try simp only [ext_ext]); repeat (first | exact Kept.refl _ | apply Kept.alloc | apply Kept.drew | apply kept_add | apply Kept.ext)))) | exact ext_call2 (hF2.out _ ((by (try simp only [ext_ext]); repeat (first | exact Kept.refl _ | apply Kept.alloc | apply Kept.drew | apply kept_add | apply Kept.ext))))))
          repeat (go_big_quiet_step (fail))
          refine wpQuiet_end fun z => ?_
          go_wp2
          go_ret
          exact ⟨ret_of (by rw [hv.out, hno.out]; rfl), k1H.out.trans (by (try simp only [ext_ext]); repeat (first | exact Kept.refl _ | apply Kept.alloc | apply Kept.drew | apply kept_add | apply Kept.ext))⟩
    · have hyes : Hid (layB (pileC s) nn laid = true) := hid (layB_yes fun i hi => hnH.out i (by omega))
      go_wp2
      go_ret
      exact ⟨ret_of (by rw [hv.out, hyes.out]; rfl), k1H.out.trans (by (try simp only [ext_ext]); repeat (first | exact Kept.refl _ | apply Kept.alloc | apply Kept.drew | apply kept_add | apply Kept.ext))⟩
theorem l4Deal_any (s n : Int) (lo : Option Addr) (lc : Nat) (laid : List Card) (w : World) (hx : CardsAt w lo laid) (hl : laid.length ≤ 1048576) (hlc : laid.length ≤ lc) :
    Calls Try.prog 67 #[dv s n (.slice lo laid.length lc)] w fun e w' => e = .returned (.bool (dealB s n laid)) ∧ Kept w w' := by
  cases h1 : inB s 0 65535
  · have hv : Hid (dealB s n laid = false) := hid (by simp [dealB, h1])
    go_enter Try.func67, Try.ntmps67
    go_wp2_with (first | (go_at_call 83; refine Calls.mono (l4Seed_any _ _) ?_; rintro e w' ⟨rfl, rfl⟩))
    go_ret
    exact ⟨ret_of (by rw [hv.out]; rfl), (by (try simp only [ext_ext]); repeat (first | exact Kept.refl _ | apply Kept.alloc | apply Kept.drew | apply kept_add | apply Kept.ext))⟩
  cases h2 : inB n 0 81
  · have hv : Hid (dealB s n laid = false) := hid (by simp [dealB, h2])
    go_enter Try.func67, Try.ntmps67
    go_wp2_with (first | (go_at_call 83; refine Calls.mono (l4Seed_any _ _) ?_; rintro e w' ⟨rfl, rfl⟩) | (go_at_call 68; refine Calls.mono (l1In_any _ _ _ _) ?_; rintro e w' ⟨rfl, rfl⟩))
    go_ret
    exact ⟨ret_of (by rw [hv.out]; rfl), (by (try simp only [ext_ext]); repeat (first | exact Kept.refl _ | apply Kept.alloc | apply Kept.drew | apply kept_add | apply Kept.ext))⟩
  obtain ⟨s0, s1⟩ := inB_of h1
  obtain ⟨n0, n1⟩ := inB_of h2
  obtain ⟨nn, rfl⟩ : ∃ nn : Nat, n = nn := ⟨n.toNat, by omega⟩
  by_cases h3 : (81 : Int) < (laid.length : Int)
  · have hv : Hid (dealB s nn laid = false) := hid (by
      have : ¬ (laid.length : Int) ≤ nn := by omega
      simp [dealB, this])
    go_enter Try.func67, Try.ntmps67
    go_wp2_with (first | (go_at_call 83; refine Calls.mono (l4Seed_any _ _) ?_; rintro e w' ⟨rfl, rfl⟩) | (go_at_call 68; refine Calls.mono (l1In_any _ _ _ _) ?_; rintro e w' ⟨rfl, rfl⟩))
    go_ret
    exact ⟨ret_of (by rw [hv.out]; rfl), (by (try simp only [ext_ext]); repeat (first | exact Kept.refl _ | apply Kept.alloc | apply Kept.drew | apply kept_add | apply Kept.ext))⟩
  have hv : Hid (dealB s nn laid = layB (pileC s) nn laid) := hid (by
    cases hL : layB (pileC s) nn laid with
    | false => simp [dealB, hL]
    | true =>
      have := lay_le hL
      simp [dealB, this, h1, h2, hL])
  have hnn : nn ≤ 81 := by omega
  go_enter Try.func67, Try.ntmps67
  go_wp2_with (first | (go_at_call 83; refine Calls.mono (l4Seed_any _ _) ?_; rintro e w' ⟨rfl, rfl⟩) | (go_at_call 68; refine Calls.mono (l1In_any _ _ _ _) ?_; rintro e w' ⟨rfl, rfl⟩))
  go_region_held3 (fun w' => w'.cell? ⟨w.heap.size, 0, none⟩ = some (.int .i64 s) ∧ w'.cell? ⟨w.heap.size, 1, none⟩ = some (.int .i64 nn))
    (first | go_keep | (constructor <;> simp [go_sem]))
    (first | (go_at_call 84; refine Calls.mono (l4Pile_any s s0 s1 _) ?_; rintro e w' ⟨v, rfl, ho, z, rfl⟩; obtain ⟨g, cp, hgv, hgb, hgl⟩ := World.ownsRow.form ho (by rw [pileC_len]; omega); rw [pileC_len] at hgv; subst hgv; have hcp := ho.capN (pileC_len s); have hcp2 : nn ≤ cp := by omega))
  have hxp := (ho.cardsN (pileC_len s)).take (i := nn) (by rw [pileC_len]; omega)
  simp only [ext_of_drew] at hxp
  have hpl := take_lenC (cs := pileC s) (i := nn) (by rw [pileC_len]; omega)
  generalize hP : (pileC s).take nn = P at hxp hpl
  have hvA : ∀ k, layAt (pileC s) nn laid k = (hasC P (cx laid k) && !hasC (laid.take k) (cx laid k)) := fun k => by rw [layAt, hP]
  go_wp2
  have k1 : Kept w (ext (w.alloc (Obj.cells #[.int .i64 s, .int .i64 nn, .slice lo laid.length lc] 39)) z) := (by (try simp only [ext_ext]); repeat (first | exact Kept.refl _ | apply Kept.alloc | apply Kept.drew | apply kept_add | apply Kept.ext))
  have c2 : (ext (w.alloc (Obj.cells #[.int .i64 s, .int .i64 nn, .slice lo laid.length lc] 39)) z).cell? ⟨w.heap.size, 2, none⟩ = some (.slice lo laid.length lc) := by simp [go_sem]
  have hsz : w.heap.size < (ext (w.alloc (Obj.cells #[.int .i64 s, .int .i64 nn, .slice lo laid.length lc] 39)) z).heap.size := by simp <;> omega
  have hx1 := hx.kept k1
  clear ho
  generalize ext (w.alloc (Obj.cells #[.int .i64 s, .int .i64 nn, .slice lo laid.length lc] 39)) z = W at k1 c2 hsz hx1 hxp ⊢
  have k1H := hid k1
  clear k1 hx
  go_loopw [4] (fun i wr => ∃ k : Nat, k ≤ laid.length ∧ i = .int .i64 k ∧ (∀ j, j < k → layAt (pileC s) nn laid j = true) ∧ Kept W wr) (fun i _ => laid.length - (intOf i).toNat)
  case atStart => exact ⟨0, Nat.zero_le _, rfl, fun j hj => absurd hj (Nat.not_lt_zero _), Kept.refl _⟩
  case round =>
    obtain ⟨k, hk, rfl, hnj, z2, rfl⟩ := hrel
    have hnH := hid hnj
    clear hnj
    by_cases hlt : k < laid.length
    · have hyt := hid (hx1.take (Nat.le_of_lt hlt))
      have hyl := take_lenC (Nat.le_of_lt hlt)
      obtain ⟨gl, off, rfl, hg, q1, q2, q3, q4⟩ := hx1 k hlt
      have hkc : k ≤ lc := by omega
      have hH := fun w' (hk : Kept W w') => l2Has_any (some ⟨g, 0, none⟩) cp P (cx laid k) w' (hxp.kept hk) (by omega)
      rw [hpl] at hH
      have hF := fun w' (hk : Kept W w') => l2Has_any (some ⟨gl, off, none⟩) lc (laid.take k) (cx laid k) w' (hyt.out.kept hk) (by omega)
      rw [hyl] at hF
      have hvk := hid (hvA k)
      have hFH := hid hF
      have hHH := hid hH
      clear hF hH
      cases hA : hasC P (cx laid k)
      · have hno := hid (layB_no hlt (hvk.out.trans (by simp [hA])))
        have hH1 := hHH.out
        rw [hA] at hH1
        have hH2 := hid hH1
        clear hH1 hA hHH hFH
        go_wp2_with (first | (refine wp_region_ext (by kernel_rfl) (by kernel_rfl) ?_; (repeat (go_big_quiet_step ((first | (go_at_call 37; first | exact ext_call (hH2.out _ ((by (try simp only [ext_ext]); repeat (first | exact Kept.refl _ | apply Kept.alloc | apply Kept.drew | apply kept_add | apply Kept.ext)))) | exact ext_call2 (hH2.out _ ((by (try simp only [ext_ext]); repeat (first | exact Kept.refl _ | apply Kept.alloc | apply Kept.drew | apply kept_add | apply Kept.ext))))))))); refine wpQuiet_end fun z => ?_))
        go_ret
        exact ⟨ret_of (by rw [hv.out, hno.out]; rfl), k1H.out.trans (by (try simp only [ext_ext]); repeat (first | exact Kept.refl _ | apply Kept.alloc | apply Kept.drew | apply kept_add | apply Kept.ext))⟩
      · cases hB : hasC (laid.take k) (cx laid k)
        · have hyes : Hid (layAt (pileC s) nn laid k = true) := hid (hvk.out.trans (by simp [hA, hB]))
          have hH1 := hHH.out
          have hF1 := hFH.out
          rw [hA] at hH1
          rw [hB] at hF1
          have hH2 := hid hH1
          have hF2 := hid hF1
          clear hH1 hF1 hA hB hHH hFH
          go_wp2
          refine wp_region_ext (by kernel_rfl) (by kernel_rfl) ?_
          repeat (go_big_quiet_step (fail))
          go_big_quiet_step ((go_at_call 37; first | exact ext_call (hH2.out _ ((by (try simp only [ext_ext]); repeat (first | exact Kept.refl _ | apply Kept.alloc | apply Kept.drew | apply kept_add | apply Kept.ext)))) | exact ext_call2 (hH2.out _ ((by (try simp only [ext_ext]); repeat (first | exact Kept.refl _ | apply Kept.alloc | apply Kept.drew | apply kept_add | apply Kept.ext))))))
          repeat (go_big_quiet_step (fail))
          go_big_quiet_step ((go_at_call 37; first | exact ext_call (hF2.out _ ((by (try simp only [ext_ext]); repeat (first | exact Kept.refl _ | apply Kept.alloc | apply Kept.drew | apply kept_add | apply Kept.ext)))) | exact ext_call2 (hF2.out _ ((by (try simp only [ext_ext]); repeat (first | exact Kept.refl _ | apply Kept.alloc | apply Kept.drew | apply kept_add | apply Kept.ext))))))
          repeat (go_big_quiet_step (fail))
          refine wpQuiet_end fun z => ?_
          go_wp2
          go_roundw
          case rel =>
            refine ⟨k + 1, hlt, by go_num, fun j hj => ?_, (by (try simp only [ext_ext]); repeat (first | exact Kept.refl _ | apply Kept.alloc | apply Kept.drew | apply kept_add | apply Kept.ext))⟩
            rcases Nat.lt_or_eq_of_le (Nat.le_of_lt_succ hj) with h' | rfl
            · exact hnH.out j h'
            · exact hyes.out
          case measure => simp [intOf]; omega
        · have hno := hid (layB_no hlt (hvk.out.trans (by simp [hA, hB])))
          have hH1 := hHH.out
          have hF1 := hFH.out
          rw [hA] at hH1
          rw [hB] at hF1
          have hH2 := hid hH1
          have hF2 := hid hF1
          clear hH1 hF1 hA hB hHH hFH
          go_wp2
          refine wp_region_ext (by kernel_rfl) (by kernel_rfl) ?_
          repeat (go_big_quiet_step (fail))
          go_big_quiet_step ((go_at_call 37; first | exact ext_call (hH2.out _ ((by (try simp only [ext_ext]); repeat (first | exact Kept.refl _ | apply Kept.alloc | apply Kept.drew | apply kept_add | apply Kept.ext)))) | exact ext_call2 (hH2.out _ ((by (try simp only [ext_ext]); repeat (first | exact Kept.refl _ | apply Kept.alloc | apply Kept.drew | apply kept_add | apply Kept.ext))))))
          repeat (go_big_quiet_step (fail))
          go_big_quiet_step ((go_at_call 37; first | exact ext_call (hF2.out _ ((by (try simp only [ext_ext]); repeat (first | exact Kept.refl _ | apply Kept.alloc | apply Kept.drew | apply kept_add | apply Kept.ext)))) | exact ext_call2 (hF2.out _ ((by (try simp only [ext_ext]); repeat (first | exact Kept.refl _ | apply Kept.alloc | apply Kept.drew | apply kept_add | apply Kept.ext))))))
          repeat (go_big_quiet_step (fail))
          refine wpQuiet_end fun z => ?_
          go_wp2
          go_ret
          exact ⟨ret_of (by rw [hv.out, hno.out]; rfl), k1H.out.trans (by (try simp only [ext_ext]); repeat (first | exact Kept.refl _ | apply Kept.alloc | apply Kept.drew | apply kept_add | apply Kept.ext))⟩
    · have hyes : Hid (layB (pileC s) nn laid = true) := hid (layB_yes fun i hi => hnH.out i (by omega))
      go_wp2
      go_ret
      exact ⟨ret_of (by rw [hv.out, hyes.out]; rfl), k1H.out.trans (by (try simp only [ext_ext]); repeat (first | exact Kept.refl _ | apply Kept.alloc | apply Kept.drew | apply kept_add | apply Kept.ext))⟩
end Go.Proofs.Ytenmnipgnjaheaa
