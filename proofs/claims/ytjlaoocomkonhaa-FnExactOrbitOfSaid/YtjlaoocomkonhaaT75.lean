/- Contracts: the reference's cards again in new memory, whatever their number; a card behind others in a region that draws. -/
import Derived.Test.YtjlaoocomkonhaaT59
import Derived.Deep.RegionHeld3
namespace Go.Proofs.Ytjlaoocomkonhaa
open Go.RowKit
theorem l2OwnA_any (cs : List Card) (n : Nat) (bo : Option Addr) (cap : Nat) (w : World) (hn : cs.length = n) (hb : CardsAt w bo cs) (h0 : bo = none → n = 0 ∧ cap = 0) (hl : n ≤ 1048576) :
    Calls Try.prog 29 #[.slice bo n cap] w (RetC w cs) := by
  have hbH := hid hb
  have hnH := hid hn
  obtain ⟨i, hi, hz, hsz, hby⟩ := info_parts info_card
  clear hb hn
  cases bo with
  | none =>
    obtain ⟨rfl, rfl⟩ := h0 rfl
    have e : cs = [] := List.eq_nil_of_length_eq_zero hnH.out
    subst e
    go_enter Try.func29, Try.ntmps29
    go_wp2_with (first | (at_builtin; refine wpList_append_own_none rfl _ _ 22 rfl w.heap.size T4 i 4 Try.underlying22 hi _ 0 [] rfl (ownC_nil (Nat.le_refl _) (heap_at rfl)) rfl ?_))
    go_ret
    exact ⟨_, rfl, ownC_nil (Nat.le_refl _) (heap_at rfl), (by (try simp only [ext_ext]); repeat (first | exact Kept.refl _ | apply Kept.alloc | apply Kept.drew | apply kept_add | apply Kept.ext))⟩
  | some ad =>
    have hl1 := hid (show (cells4 cs).length = n * 4 by rw [cells4_length, hnH.out])
    have hcell := hid (fun (w' : World) (hk : Kept w w') j u (hj : (cells4 cs)[j]? = some u) => cards_cells_add (hbH.out.kept hk) hj)
    have h1c := hid (cells4_one cs)
    go_enter Try.func29, Try.ntmps29
    go_wp2_with (first | (at_builtin; refine wpList_append_own_at _ rfl _ _ 22 rfl w.heap.size T4 i _ 4 32 Try.underlying22 hi hz hsz hby rfl (by decide) (.slice (some ⟨w.heap.size, 0, none⟩) 0 0) 0 [] rfl (ownC_nil (Nat.le_refl _) (heap_at rfl)) ad n cap (cells4 cs) rfl hl1.out (hcell.out _ (by (try simp only [ext_ext]); repeat (first | exact Kept.refl _ | apply Kept.alloc | apply Kept.drew | apply kept_add | apply Kept.ext))) h1c.out (by unfold maxLen; omega) (by omega) (by simp) ?_; intro v' w' hown hg _ hat))
    refine bodyPost_ret (v := v') (by simp [results, Try.results29, go_sem]) rfl ?_
    refine ⟨v', rfl, ?_, (show Kept w _ from (by (try simp only [ext_ext]); repeat (first | exact Kept.refl _ | apply Kept.alloc | apply Kept.drew | apply kept_add | apply Kept.ext))).grown hg fun k hk => by cases hk; exact Nat.le_refl _⟩
    unfold OwnC
    rw [hnH.out]
    simpa using hown
theorem cards_drop {w : World} {g off n cap : Nat} {cs : List Card} (h : CardsAt w (some ⟨g, off, none⟩) cs) (hn : cs.length = n) (hc : n ≤ cap) (k : Nat) : CardsAt w (if cap = k then some ⟨g, off, none⟩ else some ⟨g, off + k * 4, none⟩) (cs.drop k) := by
  intro i hi
  rw [List.length_drop] at hi
  obtain ⟨_, _, he, hg, h1⟩ := h (k + i) (by omega)
  cases he
  rw [if_neg (by omega)]
  refine ⟨g, off + k * 4, rfl, hg, ?_⟩
  rw [show off + k * 4 + i * 4 = off + (k + i) * 4 by rw [Nat.add_mul]; omega]
  have e : cx (cs.drop k) i = cx cs (k + i) := by simp [cx]
  rw [e]; exact h1
theorem step_append_cardO {ops : Array Oper} {o : Oper} {a : Act} {K : Act → World → Prop} {Q : Exit → Act → World → Prop} {E : Prop} {w : World} (hgd : o.guard = none) (s x : Operand)
    (ho : o.op = .call { callee := .builtin .append, args := #[s, x], argTypes := #[22, 22] }) (W : World) (B : Nat) (v : Value) (cs : List Card) (hs : a.eval s = v) (hown : OwnC B w v cs) (hk : Kept W w) (hWB : W.heap.size ≤ B) (hBw : B ≤ w.heap.size)
    (g cap : Nat) (c : Card) (hx : a.eval x = .slice (some ⟨g, 0, none⟩) 1 cap) (hc : CardCells w g 0 c) (hl : cs.length ≤ 1048)
    (h : ∀ v' w', OwnC B w' v' (cs ++ [c]) → Kept W w' → K (a.put o.dst v') w') : if Region.wanted o (yielded ops a.tmps) = true then Oper.wp Try.prog o a w K Q else E := by
  have hg : g < w.heap.size := by
    rcases Nat.lt_or_ge g w.heap.size with h' | h'
    · exact h'
    · have := hc.1
      simp [World.cell?, Array.getElem?_eq_none h'] at this
  refine step_append_card1 hgd s x ho W B v cs hs hown hk hWB hBw ⟨g, 0, none⟩ 1 cap [c] hx rfl (fun i hi => ?_) (by omega) h
  obtain rfl : i = 0 := by simp at hi; omega
  exact ⟨g, 0, rfl, hg, hc⟩
end Go.Proofs.Ytjlaoocomkonhaa
