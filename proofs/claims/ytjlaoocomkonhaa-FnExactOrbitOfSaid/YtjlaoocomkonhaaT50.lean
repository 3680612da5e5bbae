/- Contracts: cards again in new memory; the new deal of a seed. -/
import Derived.Test.YtjlaoocomkonhaaT35
import Derived.Test.YtjlaoocomkonhaaT36
import Derived.Test.YtjlaoocomkonhaaT39
import Derived.Lib.SliceRun
namespace Go.Proofs.Ytjlaoocomkonhaa
open Go.RowKit
theorem cards_cells {w : World} {g off : Nat} {cs : List Card} (h : CardsAt w (some ⟨g, off, none⟩) cs) {j : Nat} {u : Value} (hj : (cells4 cs)[j]? = some u) : w.cell? ⟨g, off + j, none⟩ = some u := by
  have hlt : j < cs.length * 4 := by rw [← cells4_length]; exact (List.getElem?_eq_some_iff.1 hj).1
  obtain ⟨_, _, he, _, h1, h2, h3, h4⟩ := h (j / 4) (by omega)
  cases he
  obtain ⟨c1, c2, c3, c4⟩ := cells4_get cs (j / 4) (by omega)
  obtain e | e | e | e : j % 4 = 0 ∨ j % 4 = 1 ∨ j % 4 = 2 ∨ j % 4 = 3 := by omega
  · rw [show j = j / 4 * 4 by omega] at hj ⊢
    rw [c1] at hj; cases hj
    exact h1
  · rw [show j = j / 4 * 4 + 1 by omega] at hj ⊢
    rw [c2] at hj; cases hj
    rw [← Nat.add_assoc]
    exact h2
  · rw [show j = j / 4 * 4 + 2 by omega] at hj ⊢
    rw [c3] at hj; cases hj
    rw [← Nat.add_assoc]
    exact h3
  · rw [show j = j / 4 * 4 + 3 by omega] at hj ⊢
    rw [c4] at hj; cases hj
    rw [← Nat.add_assoc]
    exact h4
theorem cells4_one (cs : List Card) : ∀ u ∈ cells4 cs, u.oneCell' = true := fun u hu => by
  simp only [cells4, List.mem_flatMap] at hu
  obtain ⟨z, _, hz⟩ := hu
  simp at hz
  rcases hz with rfl | rfl | rfl | rfl <;> rfl
theorem cloneC_any (g off cap n : Nat) (cs : List Card) (w : World) (hx : CardsAt w (some ⟨g, off, none⟩) cs) (hn : cs.length = n) (h0 : 0 < n) (hl : n ≤ 1048576) (hcap : n ≤ cap) :
    Calls Try.prog 31 #[.slice (some ⟨g, off, none⟩) n cap] w (RetC w cs) := by
  have hxH := hid hx
  obtain ⟨i, hi, hz, hsz, hb⟩ := info_parts info_card
  have hl4 := hid (show (cells4 cs).length = n * 4 by rw [cells4_length, hn])
  have hnH := hid hn
  have h1c := cells4_one cs
  have qT : ∀ (w : World) (a : Option Addr) (n c : Nat), (binOp .eql 22 (.slice a n c) (.slice none 0 0)).run Try.prog w = .ok (.bool a.isNone) w := fun w a n c => Lib.run_eql_slice_nil w _ _ a n c 0 0 Try.underlying22
  clear hx hn
  go_enter Try.func31, Try.ntmps31
  go_wp2_with (first | (at_builtin; refine wpList_append_grows _ rfl _ _ 22 rfl T4 i _ 4 32 Try.underlying22 hi hz hsz hb rfl (by decide) (some ⟨w.heap.size, 0, none⟩) 0 0 [] rfl (fun e => by cases e) rfl (fun bb e j u hj => by simp at hj) ⟨g, off, none⟩ n cap (cells4 cs) rfl hl4.out (fun j u hj => by rw [Addr.add_lit]; exact cards_cells (hxH.out.kept (by (try simp only [ext_ext]); repeat (first | exact Kept.refl _ | apply Kept.alloc | apply Kept.drew | apply kept_add | apply Kept.ext))) hj) h1c (by omega) (by unfold maxLen; omega) (by omega) ?_; intro v' w' hown hg'))
  refine bodyPost_ret (v := v') (by simp [results, Try.results31, go_sem]) rfl ?_
  refine ⟨_, rfl, OwnC.mono (B := w.heap.size + 1) ?_ (by omega), Kept.trans (show Kept w _ from (by (try simp only [ext_ext]); repeat (first | exact Kept.refl _ | apply Kept.alloc | apply Kept.drew | apply kept_add | apply Kept.ext))) ((Kept.refl _).grown hg' fun k hk => by cases hk)⟩
  unfold OwnC
  rw [hnH.out]
  simpa using hown
theorem l2Own_any (g off cap n : Nat) (cs : List Card) (w : World) (hx : CardsAt w (some ⟨g, off, none⟩) cs) (hn : cs.length = n) (h0 : 0 < n) (hl : n ≤ 1048576) (hcap : n ≤ cap) :
    Calls Try.prog 29 #[.slice (some ⟨g, off, none⟩) n cap] w (RetC w cs) := by
  have hxH := hid hx
  obtain ⟨i, hi, hz, hsz, hb⟩ := info_parts info_card
  have hl4 := hid (show (cells4 cs).length = n * 4 by rw [cells4_length, hn])
  have hnH := hid hn
  have h1c := cells4_one cs
  clear hx hn
  go_enter Try.func29, Try.ntmps29
  go_wp2_with (first | (at_builtin; refine wpList_append_grows _ rfl _ _ 22 rfl T4 i _ 4 32 Try.underlying22 hi hz hsz hb rfl (by decide) (some ⟨w.heap.size, 0, none⟩) 0 0 [] rfl (fun e => by cases e) rfl (fun bb e j u hj => by simp at hj) ⟨g, off, none⟩ n cap (cells4 cs) rfl hl4.out (fun j u hj => by rw [Addr.add_lit]; exact cards_cells (hxH.out.kept (by (try simp only [ext_ext]); repeat (first | exact Kept.refl _ | apply Kept.alloc | apply Kept.drew | apply kept_add | apply Kept.ext))) hj) h1c (by omega) (by unfold maxLen; omega) (by omega) ?_; intro v' w' hown hg'))
  refine bodyPost_ret (v := v') (by simp [results, Try.results29, go_sem]) rfl ?_
  refine ⟨_, rfl, OwnC.mono (B := w.heap.size + 1) ?_ (by omega), Kept.trans (show Kept w _ from (by (try simp only [ext_ext]); repeat (first | exact Kept.refl _ | apply Kept.alloc | apply Kept.drew | apply kept_add | apply Kept.ext))) ((Kept.refl _).grown hg' fun k hk => by cases hk)⟩
  unfold OwnC
  rw [hnH.out]
  simpa using hown
def firstC (s : Int) : List Card := (pileC s).take 12
theorem firstC_len (s : Int) : (firstC s).length = 12 := by simp [firstC, pileC_len]
/-- A deal in memory of its own. -/
def RetD (W : World) (s n : Int) (laid : List Card) (e : Ending) (w' : World) : Prop := ∃ lo lc, e = .returned (dv s n (.slice lo laid.length lc)) ∧ OwnC W.heap.size w' (.slice lo laid.length lc) laid ∧ Kept W w'
end Go.Proofs.Ytjlaoocomkonhaa
