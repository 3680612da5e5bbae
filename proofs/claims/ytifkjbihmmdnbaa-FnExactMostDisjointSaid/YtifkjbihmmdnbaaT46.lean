/- Contracts: the reference's first greatest picking. -/
import Derived.Test.YtifkjbihmmdnbaaT44
namespace Go.Proofs.Ytifkjbihmmdnbaa
open Go.RowKit
set_option maxHeartbeats 4000000 in
theorem l7Best_step (all : List Ln) (ha : all.length ≤ 35) (hs : ∀ l, l ∈ all → sortL l) (M : Nat)
    (ih : ∀ (ao : Option Addr) (cap : Nat) (b : List Ln) (g off m bc j B : Nat) (w : World) (J : Int), all.length - j < M → J = (j : Nat) → b.length = m → LinesAt w ao all → OwnL B w (.slice (some ⟨g, off, none⟩) m bc) b → B ≤ w.heap.size → (∀ l, l ∈ b → sortL l) → b.length + (all.length - j) ≤ 1000 → j ≤ all.length →
      Calls Try.prog 40 #[.slice ao all.length cap, .slice (some ⟨g, off, none⟩) m bc, .int .i64 J] w fun e w' => ∃ v, e = .returned v ∧ OwnL B w' v (sbF (all.drop j) b b) ∧ Kept w w')
    (ao : Option Addr) (cap : Nat) (b : List Ln) (g off bc j B : Nat) (w : World) (hM : all.length - j = M) (hx : LinesAt w ao all) (hb : OwnL B w (.slice (some ⟨g, off, none⟩) b.length bc) b) (hB : B ≤ w.heap.size) (hbs : ∀ l, l ∈ b → sortL l) (hl : b.length + (all.length - j) ≤ 1000) (hj : j ≤ all.length) :
    Calls Try.prog 40 #[.slice ao all.length cap, .slice (some ⟨g, off, none⟩) b.length bc, .int .i64 (j : Nat)] w fun e w' => ∃ v, e = .returned v ∧ OwnL B w' v (sbF (all.drop j) b b) ∧ Kept w w' := by
  have hbx : LinesAt w (some ⟨g, off, none⟩) b := by obtain ⟨_, _, e, h, _⟩ := hb.reads; cases e; exact h
  have hfr := hid (fun l (hl : l ∈ all) w' (hk : Kept w w') => l7Free_any (some ⟨g, off, none⟩) bc b l w' (hbx.kept hk) (by omega))
  have hsH := hid hs
  have hbsH := hid hbs
  have hbH := hid hb
  have hbxH := hid hbx
  have ihH := hid ih
  have hBH := hid hB
  have hMH := hid hM
  have hblen : b.length ≤ 1000 := by omega
  clear hs hbs hb ih hbx hB hM
  go_enter Try.func40, Try.ntmps40
  go_wp2
  go_loopw [7, 8] (fun v i wr => ∃ k : Nat, j ≤ k ∧ k ≤ all.length ∧ i = .int .i64 k ∧ ∃ m : List Ln, OwnL B wr v m ∧ sbF (all.drop k) b m = sbF (all.drop j) b b ∧ m.length ≤ b.length + (all.length - j) ∧ Kept w wr) (fun _ i _ => all.length - (intOf i).toNat)
  case atStart => exact ⟨j, Nat.le_refl _, hj, rfl, b, hbH.out, rfl, Nat.le_add_right _ _, (by (try simp only [ext_ext]); repeat (first | exact Kept.refl _ | apply Kept.alloc | apply Kept.drew | apply kept_add | apply Kept.ext))⟩
  case round wr =>
    obtain ⟨k, hjk, hk, rfl, m, hom, hq, hml, hkw⟩ := hrel
    obtain ⟨mo, mcap, rfl, _, _⟩ := hom.reads
    have homH := hid hom
    have hqH := hid hq
    have hkwH := hid hkw
    clear hq hom
    by_cases hlt : k < all.length
    · have hd := hid (drop_lx all k hlt)
      obtain ⟨ga, offa, rfl, hga, q1, q2, q3⟩ := hx k hlt
      have hS := hid (fun w' (hk : Kept w w') => show w'.cell? ⟨ga, offa + k * 3, none⟩ = some (.int .i64 (lx all k).a) ∧ w'.cell? ⟨ga, offa + k * 3 + 1, none⟩ = some (.int .i64 (lx all k).b) ∧ w'.cell? ⟨ga, offa + k * 3 + 2, none⟩ = some (.int .i64 (lx all k).c) from
        ⟨(hk.below.cell (p := ⟨_, _, none⟩) hga).trans q1, (hk.below.cell (p := ⟨_, _, none⟩) hga).trans q2, (hk.below.cell (p := ⟨_, _, none⟩) hga).trans q3⟩)
      obtain ⟨r1, r2, r3⟩ := hS.out wr hkw
      have hmem := lx_mem hlt
      have hf0 := hfr.out _ hmem
      have hsw := hkw.below.size
      rw [hitS_hitL (hsH.out _ hmem) hbsH.out] at hf0
      cases hh : hitL b (lx all k)
      · rw [hh] at hf0
        have hf := hid hf0
        have hbs2 := hid (show ∀ l, l ∈ b ++ [lx all k] → sortL l from fun l hl => by
          rcases List.mem_append.1 hl with h | h
          · exact hbsH.out l h
          · rw [List.mem_singleton.1 h]; exact hsH.out _ hmem)
        have hbl : b.length ≤ 1048576 := by omega
        have hbnH := hid (show (b ++ [lx all k]).length + (all.length - (k + 1)) ≤ 1000 by simp; omega)
        have hMk := hid (show all.length - (k + 1) < M by have := hMH.out; omega)
        have hkn3 : (k : Int) + 1 ≤ (all.length : Int) := by omega
        have hrd := hid (fun w' (hk : Kept w w') => hbxH.out.kept hk)
        have hwr1 : IntKind.i64.wrap ((k : Int) + 1) = (k : Int) + 1 := Go.IntWalk.i64_in _ ⟨by omega, by omega⟩
        have hxH := hid hx
        have hbl1 := hid (show (b ++ [lx all k]).length = b.length + 1 by simp)
        have hlenN := hid (sbF_len (all.drop (k + 1)) (b ++ [lx all k]) (b ++ [lx all k]) (b.length + (all.length - j)) (by simp; omega) (by rw [List.length_drop]; simp; omega))
        clear hf0 hkw hx
        go_wp2_with (first | (go_at_call 52; refine Calls.mono (hf.out _ (hkwH.out.trans (by (try simp only [ext_ext]); repeat (first | exact Kept.refl _ | apply Kept.alloc | apply Kept.drew | apply kept_add | apply Kept.ext)))) ?_; rintro e w' ⟨rfl, y, rfl⟩))
        go_region_held3 (fun w' => w'.cell? ⟨ga, offa + k * 3, none⟩ = some (.int .i64 (lx all k).a) ∧ w'.cell? ⟨ga, offa + k * 3 + 1, none⟩ = some (.int .i64 (lx all k).b) ∧ w'.cell? ⟨ga, offa + k * 3 + 2, none⟩ = some (.int .i64 (lx all k).c))
          (exact hS.out _ (hkwH.out.trans (by (try simp only [ext_ext]); repeat (first | assumption | exact Kept.refl _ | apply Kept.alloc | apply Kept.drew | apply kept_add | apply Kept.ext))))
          (first | (refine step_append_copyL rfl _ _ rfl wr.heap.size _ rfl (by first | exact heap_at (by simp) | exact heap_past (by simp) (heap_at (by simp))) (by first | omega | (simp; done) | (simp; omega)) (by first | omega | (simp; done) | (simp; omega)) b g off _ bc (hrd.out _ (hkwH.out.trans (by (try simp only [ext_ext]); repeat (first | assumption | exact Kept.refl _ | apply Kept.alloc | apply Kept.drew | apply kept_add | apply Kept.ext)))) rfl rfl hbl ?_; intro v1 w1 hown1 hk1; have k1 : Kept wr w1 := Kept.trans (by (try simp only [ext_ext]); repeat (first | assumption | exact Kept.refl _ | apply Kept.alloc | apply Kept.drew | apply kept_add | apply Kept.ext)) hk1; have s1 := k1.below.size; first | have hqc := lnCells_grown (row := none) (lnCells_new (lx all k) rfl) (kept_grown hk1) (by simp) (by simp) | have hqc := lnCells_grown (row := none) (lnCells_new (lx all k) rfl) ((kept_grown (Kept.alloc (Kept.refl _) _)).trans (kept_grown hk1)) (by simp) (by simp) | skip; clear hk1) | (refine step_append_lnO rfl _ _ rfl wr wr.heap.size _ b rfl (hown1.kept (by (try simp only [ext_ext]); repeat (first | assumption | exact Kept.refl _ | apply Kept.alloc | apply Kept.drew | apply kept_add | apply Kept.ext))) (by (try simp only [ext_ext]); repeat (first | assumption | exact Kept.refl _ | apply Kept.alloc | apply Kept.drew | apply kept_add | apply Kept.ext)) (Nat.le_refl _) (by first | exact s1 | (simp; omega) | simp) _ _ (lx all k) rfl (by first | exact hqc | simpa using hqc | exact lnCells_new (lx all k) (by simp)) hbl ?_; intro g2 c2 w2 hown2 hk2) | (go_at_call 40; refine Calls.mono (ihH.out _ _ (b ++ [lx all k]) _ _ _ _ (k + 1) wr.heap.size _ ((k : Int) + 1) hMk.out (by simp) hbl1.out (hxH.out.kept (hkwH.out.trans (by (try simp only [ext_ext]); repeat (first | assumption | exact Kept.refl _ | apply Kept.alloc | apply Kept.drew | apply kept_add | apply Kept.ext)))) (hown2.kept (by (try simp only [ext_ext]); repeat (first | exact Kept.refl _ | apply Kept.alloc | apply Kept.drew | apply kept_add | apply Kept.ext))) (Kept.below (show Kept wr _ from (by (try simp only [ext_ext]); repeat (first | assumption | exact Kept.refl _ | apply Kept.alloc | apply Kept.drew | apply kept_add | apply Kept.ext)))).size hbs2.out hbnH.out hlt) ?_; rintro e w3 ⟨v3, rfl, ho3, hk3⟩; obtain ⟨ao3, cap3, hv3, _, _⟩ := ho3.reads; subst hv3; dsimp only; have k3 : Kept wr w3 := hk2.trans hk3))
        all_goals
          by_cases hgt : m.length < (sbF (all.drop (k + 1)) (b ++ [lx all k]) (b ++ [lx all k])).length
          · have hv := hid (sbF_more hh hgt)
            have hgt2 : (m.length : Int) < ((sbF (all.drop (k + 1)) (b ++ [lx all k]) (b ++ [lx all k])).length : Int) := by omega
            go_wp2_with (fail)
            go_roundw
            case rel => exact ⟨k + 1, by omega, hlt, by go_num, _, (ho3.mono (Nat.le_trans hBH.out hsw)).kept (by (try simp only [ext_ext]); repeat (first | exact Kept.refl _ | apply Kept.alloc | apply Kept.drew | apply kept_add | apply Kept.ext)), by rw [← hqH.out, hd.out, hv.out], hlenN.out, (hkwH.out.trans k3).trans (by (try simp only [ext_ext]); repeat (first | exact Kept.refl _ | apply Kept.alloc | apply Kept.drew | apply kept_add | apply Kept.ext))⟩
            case measure => simp [intOf]; omega
          · have hv := hid (sbF_less hh hgt)
            have hgt2 : ¬ (m.length : Int) < ((sbF (all.drop (k + 1)) (b ++ [lx all k]) (b ++ [lx all k])).length : Int) := by omega
            go_wp2_with (fail)
            go_roundw
            case rel => exact ⟨k + 1, by omega, hlt, by go_num, m, (homH.out.kept k3).kept (by (try simp only [ext_ext]); repeat (first | exact Kept.refl _ | apply Kept.alloc | apply Kept.drew | apply kept_add | apply Kept.ext)), by rw [← hqH.out, hd.out, hv.out], hml, (hkwH.out.trans k3).trans (by (try simp only [ext_ext]); repeat (first | exact Kept.refl _ | apply Kept.alloc | apply Kept.drew | apply kept_add | apply Kept.ext))⟩
            case measure => simp [intOf]; omega
      · rw [hh] at hf0
        have hf := hid hf0
        have hv := hid (sbF_hit (ls := all.drop (k + 1)) m hh)
        clear hf0 hkw
        go_wp2_with (first | (go_at_call 52; refine Calls.mono (hf.out _ (hkwH.out.trans (by (try simp only [ext_ext]); repeat (first | exact Kept.refl _ | apply Kept.alloc | apply Kept.drew | apply kept_add | apply Kept.ext)))) ?_; rintro e w' ⟨rfl, y, rfl⟩))
        go_roundw
        case rel => exact ⟨k + 1, by omega, hlt, by go_num, m, homH.out.kept (by (try simp only [ext_ext]); repeat (first | exact Kept.refl _ | apply Kept.alloc | apply Kept.drew | apply kept_add | apply Kept.ext)), by rw [← hqH.out, hd.out, hv.out], hml, hkwH.out.trans (by (try simp only [ext_ext]); repeat (first | exact Kept.refl _ | apply Kept.alloc | apply Kept.drew | apply kept_add | apply Kept.ext))⟩
        case measure => simp [intOf]; omega
    · obtain rfl : k = all.length := by omega
      have hv : Hid (m = sbF (all.drop j) b b) := hid (by rw [← hqH.out]; simp [sbF])
      go_wp2
      refine bodyPost_ret (v := .slice mo m.length mcap) (by simp [results, Try.results40, go_sem]) rfl ?_
      exact ⟨_, rfl, by rw [← hv.out]; exact homH.out.kept (by (try simp only [ext_ext]); repeat (first | exact Kept.refl _ | apply Kept.alloc | apply Kept.drew | apply kept_add | apply Kept.ext)), hkwH.out.trans (by (try simp only [ext_ext]); repeat (first | exact Kept.refl _ | apply Kept.alloc | apply Kept.drew | apply kept_add | apply Kept.ext))⟩
theorem l7Best_any (all : List Ln) (ha : all.length ≤ 35) (hs : ∀ l, l ∈ all → sortL l) :
    ∀ (M : Nat) (ao : Option Addr) (cap : Nat) (b : List Ln) (g off m bc j B : Nat) (w : World) (J : Int), all.length - j < M → J = (j : Nat) → b.length = m → LinesAt w ao all → OwnL B w (.slice (some ⟨g, off, none⟩) m bc) b → B ≤ w.heap.size → (∀ l, l ∈ b → sortL l) → b.length + (all.length - j) ≤ 1000 → j ≤ all.length →
      Calls Try.prog 40 #[.slice ao all.length cap, .slice (some ⟨g, off, none⟩) m bc, .int .i64 J] w fun e w' => ∃ v, e = .returned v ∧ OwnL B w' v (sbF (all.drop j) b b) ∧ Kept w w' := by
  intro M
  induction M with
  | zero => intro ao cap b g off m bc j B w J h; exact absurd h (Nat.not_lt_zero _)
  | succ M ih =>
    intro ao cap b g off m bc j B w J hM hJ hm hx hb hB hbs hl hj
    subst hJ
    subst hm
    exact l7Best_step all ha hs (all.length - j) (fun ao' cap' b' g' off' m' bc' j' B' w' J' h => ih ao' cap' b' g' off' m' bc' j' B' w' J' (by omega)) ao cap b g off bc j B w rfl hx hb hB hbs hl hj
end Go.Proofs.Ytifkjbihmmdnbaa
