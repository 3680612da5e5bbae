/- Contracts: the reference's ghosts: cards parted into pairs. -/
import Derived.Test.YtinoohckfhhbfaaT60
import Derived.Deep.RegionLaw
import Derived.Deep.RegionHeld3
import Derived.Deep.AppendLies
import Derived.Laws.AppendOwnNone
namespace Go.Proofs.Ytinoohckfhhbfaa
open Go.RowKit
theorem cards_cells_add {w : World} {ad : Addr} {cs : List Card} (h : CardsAt w (some ad) cs) {j : Nat} {u : Value} (hj : (cells4 cs)[j]? = some u) : w.cell? (ad.add j) = some u := by
  have hlt : j < cs.length * 4 := by rw [← cells4_length]; exact (List.getElem?_eq_some_iff.1 hj).1
  obtain ⟨g, off, he, _⟩ := h 0 (by omega)
  cases he
  rw [Addr.add_lit]
  exact cards_cells h hj
theorem l2OwnA_any (cs : List Card) (n : Nat) (bo : Option Addr) (cap : Nat) (w : World) (hn : cs.length = n) (hb : CardsAt w bo cs) (h0 : bo = none → n = 0 ∧ cap = 0) (hl : n ≤ 1048576) :
    Calls Try.prog 79 #[.slice bo n cap] w (RetC w cs) := by
  have hbH := hid hb
  have hnH := hid hn
  obtain ⟨i, hi, hz, hsz, hby⟩ := info_parts info_card
  clear hb hn
  cases bo with
  | none =>
    obtain ⟨rfl, rfl⟩ := h0 rfl
    have e : cs = [] := List.eq_nil_of_length_eq_zero hnH.out
    subst e
    go_enter Try.func79, Try.ntmps79
    go_wp2_with (first | (at_builtin; refine wpList_append_own_none rfl _ _ 29 rfl w.heap.size T4 i 4 Try.underlying29 hi _ 0 [] rfl (ownC_nil (Nat.le_refl _) (heap_at rfl)) rfl ?_))
    go_ret
    exact ⟨_, rfl, ownC_nil (Nat.le_refl _) (heap_at rfl), (by (try simp only [ext_ext]); repeat (first | exact Kept.refl _ | apply Kept.alloc | apply Kept.drew | apply kept_add | apply Kept.ext))⟩
  | some ad =>
    have hl1 := hid (show (cells4 cs).length = n * 4 by rw [cells4_length, hnH.out])
    have hcell := hid (fun (w' : World) (hk : Kept w w') j u (hj : (cells4 cs)[j]? = some u) => cards_cells_add (hbH.out.kept hk) hj)
    have h1c := hid (cells4_one cs)
    go_enter Try.func79, Try.ntmps79
    go_wp2_with (first | (at_builtin; refine wpList_append_own_at _ rfl _ _ 29 rfl w.heap.size T4 i _ 4 32 Try.underlying29 hi hz hsz hby rfl (by decide) (.slice (some ⟨w.heap.size, 0, none⟩) 0 0) 0 [] rfl (ownC_nil (Nat.le_refl _) (heap_at rfl)) ad n cap (cells4 cs) rfl hl1.out (hcell.out _ (by (try simp only [ext_ext]); repeat (first | exact Kept.refl _ | apply Kept.alloc | apply Kept.drew | apply kept_add | apply Kept.ext))) h1c.out (by unfold maxLen; omega) (by omega) (by simp) ?_; intro v' w' hown hg _ hat))
    refine bodyPost_ret (v := v') (by simp [results, Try.results79, go_sem]) rfl ?_
    refine ⟨v', rfl, ?_, (show Kept w _ from (by (try simp only [ext_ext]); repeat (first | exact Kept.refl _ | apply Kept.alloc | apply Kept.drew | apply kept_add | apply Kept.ext))).grown hg fun k hk => by cases hk; exact Nat.le_refl _⟩
    unfold OwnC
    rw [hnH.out]
    simpa using hown
theorem step_append_card1 {ops : Array Oper} {o : Oper} {a : Act} {K : Act → World → Prop} {Q : Exit → Act → World → Prop} {E : Prop} {w : World} (hgd : o.guard = none) (s x : Operand)
    (ho : o.op = .call { callee := .builtin .append, args := #[s, x], argTypes := #[29, 29] }) (W : World) (B : Nat) (v : Value) (cs : List Card) (hs : a.eval s = v) (hown : OwnC B w v cs) (hk : Kept W w) (hWB : W.heap.size ≤ B) (hBw : B ≤ w.heap.size)
    (ad : Addr) (m c : Nat) (ds : List Card) (hx : a.eval x = .slice (some ad) m c) (hm : ds.length = m) (hd : CardsAt w (some ad) ds) (hl : cs.length + m ≤ 1048576)
    (h : ∀ v' w', OwnC B w' v' (cs ++ ds) → Kept W w' → K (a.put o.dst v') w') : if Region.wanted o (yielded ops a.tmps) = true then Oper.wp Try.prog o a w K Q else E := by
  obtain ⟨i, hi, hz, hsz, hb⟩ := info_parts info_card
  have hwt : Region.wanted o (yielded ops a.tmps) = true := by simp [Region.wanted, hgd]
  rw [if_pos hwt]
  obtain ⟨v', w', hr, hown', hg, _, _⟩ := run_append_own_at (P := Try.prog) w B 29 o.type T4 i _ 4 32 Try.underlying29 hi hz hsz hb rfl (by decide) v cs.length (cells4 cs) hown ad m c (cells4 ds) (by rw [cells4_length, hm]) (fun j u hj => cards_cells_add hd hj) (cells4_one ds) (by unfold maxLen; omega) (by omega) hBw
  unfold Oper.wp execOp
  simp only [ho, resolve, invoke, builtin, Sem.run_bind, Sem.run_pure, Result.andThen_ok, List.map_toArray, List.map_cons, List.map_nil, hs, hx, hr]
  refine h v' w' ?_ (hk.grown hg fun k hk => Nat.le_trans hWB (hown.lt k hk).1)
  have e : cells4 (cs ++ ds) = cells4 cs ++ cells4 ds := by simp [cells4]
  unfold OwnC
  rw [e, List.length_append, hm]
  exact hown'
theorem cards_drop {w : World} {g off n cap : Nat} {cs : List Card} (h : CardsAt w (some ⟨g, off, none⟩) cs) (hn : cs.length = n) (hc : n ≤ cap) (k : Nat) : CardsAt w (if cap = k then some ⟨g, off, none⟩ else some ⟨g, off + k * 4, none⟩) (cs.drop k) := by
  intro i hi
  rw [List.length_drop] at hi
  obtain ⟨_, _, he, hg, h1⟩ := h (k + i) (by omega)
  cases he
  rw [if_neg (by omega)]
  refine ⟨g, off + k * 4, rfl, hg, ?_⟩
  rw [show off + k * 4 + i * 4 = off + (k + i) * 4 by rw [Nat.add_mul]; omega]
  have e : cx (cs.drop k) i = cx cs (k + i) := by simp [cx]
  rw [e]; exact h1
set_option maxRecDepth 20000 in
theorem l2Drop_any (g off cap n i : Nat) (cs : List Card) (w : World) (hn : cs.length = n) (hi : i < n) (hl : n ≤ 1000) (hcap : n ≤ cap) (hx : CardsAt w (some ⟨g, off, none⟩) cs) :
    Calls Try.prog 78 #[.slice (some ⟨g, off, none⟩) n cap, .int .i64 i] w (RetC w (cs.eraseIdx i)) := by
  have hO := hid (fun w' (hk : Kept w w') => l2OwnA_any (cs.take i) i (some ⟨g, off, none⟩) cap w' (by rw [List.length_take]; omega) ((hx.take (by omega)).kept hk) (fun e => by cases e) (by omega))
  have hdr := hid (cards_drop hx hn hcap (i + 1))
  have hnH := hid hn
  have hdl := hid (show (cs.drop (i + 1)).length = n - (i + 1) by rw [List.length_drop, hn])
  have htl := hid (show (cs.take i).length = i by rw [List.length_take]; omega)
  have her := hid (show cs.eraseIdx i = cs.take i ++ cs.drop (i + 1) from List.eraseIdx_eq_take_drop_succ cs i)
  have hwr1 : IntKind.i64.wrap ((i : Int) + 1) = (i : Int) + 1 := Go.IntWalk.i64_in _ ⟨by omega, by omega⟩
  have hnat : ((i : Int) + 1).toNat = i + 1 := by omega
  have hk0 : (0 : Int) ≤ (i : Int) := by omega
  have hk1 : (0 : Int) ≤ (i : Int) + 1 := by omega
  have hk2 : (i : Int) + 1 ≤ (n : Int) := by omega
  have hk3 : (n : Int) ≤ (cap : Int) := by omega
  have hk4 : (i : Int) + 1 ≤ (cap : Int) := by omega
  have hk5 : (i : Int) ≤ (cap : Int) := by omega
  have hk6 : (i : Int) ≤ (n : Int) := by omega
  have hk7 : (i : Int) ≤ (i : Int) + 1 := by omega
  clear hx hn
  by_cases hc : cap = i + 1
  · have hdr2 := hdr.out
    rw [if_pos hc] at hdr2
    have hdrH := hid hdr2
    clear hdr hdr2
    subst hc
    have hdl0 := hid (show (cs.drop (i + 1)).length = 0 by rw [hdl.out]; omega)
    go_enter Try.func78, Try.ntmps78
    go_upto_region 1 with (fail)
    go_region_law (first | (refine step_append_card1 rfl _ _ rfl w w.heap.size _ (cs.take i) rfl (ho.kept (by (try simp only [ext_ext]); repeat (first | exact Kept.refl _ | apply Kept.alloc | apply Kept.drew | apply kept_add | apply Kept.ext))) (Kept.trans (by (try simp only [ext_ext]); repeat (first | exact Kept.refl _ | apply Kept.alloc | apply Kept.drew | apply kept_add | apply Kept.ext)) k1) (by simp) (by have := k1.below.size; simp at this; omega) ⟨g, off, none⟩ _ _ (cs.drop (i + 1)) rfl hdl0.out (hdrH.out.kept (Kept.trans (by (try simp only [ext_ext]); repeat (first | exact Kept.refl _ | apply Kept.alloc | apply Kept.drew | apply kept_add | apply Kept.ext)) k1)) (by rw [htl.out]; omega) ?_; intro v' w' hown' hk') | (go_simp; go_at_call 79; refine Calls.mono (hO.out _ (by (try simp only [ext_ext]); repeat (first | exact Kept.refl _ | apply Kept.alloc | apply Kept.drew | apply kept_add | apply Kept.ext))) ?_; rintro e w1 ⟨v, rfl, ho, k1⟩))
    all_goals
      go_wp2_with (fail)
      refine bodyPost_ret (v := v') (by simp [results, Try.results78, go_sem]) rfl ?_
      exact ⟨v', rfl, by rw [her.out]; exact hown', hk'⟩
  · have hdr2 := hdr.out
    rw [if_neg hc] at hdr2
    have hdrH := hid hdr2
    clear hdr hdr2
    go_enter Try.func78, Try.ntmps78
    go_upto_region 1 with (fail)
    go_region_law (first | (refine step_append_card1 rfl _ _ rfl w w.heap.size _ (cs.take i) rfl (ho.kept (by (try simp only [ext_ext]); repeat (first | exact Kept.refl _ | apply Kept.alloc | apply Kept.drew | apply kept_add | apply Kept.ext))) (Kept.trans (by (try simp only [ext_ext]); repeat (first | exact Kept.refl _ | apply Kept.alloc | apply Kept.drew | apply kept_add | apply Kept.ext)) k1) (by simp) (by have := k1.below.size; simp at this; omega) ⟨g, off + (i + 1) * 4, none⟩ _ _ (cs.drop (i + 1)) rfl hdl.out (hdrH.out.kept (Kept.trans (by (try simp only [ext_ext]); repeat (first | exact Kept.refl _ | apply Kept.alloc | apply Kept.drew | apply kept_add | apply Kept.ext)) k1)) (by rw [htl.out]; omega) ?_; intro v' w' hown' hk') | (go_simp; go_at_call 79; refine Calls.mono (hO.out _ (by (try simp only [ext_ext]); repeat (first | exact Kept.refl _ | apply Kept.alloc | apply Kept.drew | apply kept_add | apply Kept.ext))) ?_; rintro e w1 ⟨v, rfl, ho, k1⟩))
    all_goals
      go_wp2_with (fail)
      refine bodyPost_ret (v := v') (by simp [results, Try.results78, go_sem]) rfl ?_
      exact ⟨v', rfl, by rw [her.out]; exact hown', hk'⟩
def thF : Nat → List Card → List Card → Bool
  | 0, _, ts => lineC (cx ts 0) (cx ts 1) (cx ts 2)
  | m + 1, h, ts => (List.range (2 * m + 1)).any fun k => thF m ((h.eraseIdx (k + 1)).eraseIdx 0) (ts ++ [thirdC (cx h 0) (cx h (k + 1))])
def thU (m : Nat) (h ts : List Card) (n : Nat) : Bool := (List.range n).any fun k => thF m ((h.eraseIdx (k + 1)).eraseIdx 0) (ts ++ [thirdC (cx h 0) (cx h (k + 1))])
theorem thU_next (m : Nat) (h ts : List Card) (n : Nat) : thU m h ts (n + 1) = (thU m h ts n || thF m ((h.eraseIdx (n + 1)).eraseIdx 0) (ts ++ [thirdC (cx h 0) (cx h (n + 1))])) := by simp [thU, List.range_succ]
theorem thU_yes {m : Nat} {h ts : List Card} {k : Nat} (hk : k < 2 * m + 1) (e : thF m ((h.eraseIdx (k + 1)).eraseIdx 0) (ts ++ [thirdC (cx h 0) (cx h (k + 1))]) = true) : thF (m + 1) h ts = true := by
  unfold thF
  exact List.any_eq_true.2 ⟨k, List.mem_range.2 hk, e⟩
theorem oth_eq {r : List Card} (hn : r.length = 4) {i : Nat} (h3 : i < 3) : (r.eraseIdx (i + 1)).eraseIdx 0 = oth r (i + 1) := by
  match r, hn with
  | [a, b, c, d], _ =>
    obtain rfl | rfl | rfl : i = 0 ∨ i = 1 ∨ i = 2 := by omega
    all_goals rfl
theorem any_congr {n : Nat} {f g : Nat → Bool} (h : ∀ k, k < n → f k = g k) : (List.range n).any f = (List.range n).any g := by
  rw [Bool.eq_iff_iff, List.any_eq_true, List.any_eq_true]
  constructor
  · rintro ⟨k, hk, e⟩; exact ⟨k, hk, by rw [← h k (List.mem_range.1 hk)]; exact e⟩
  · rintro ⟨k, hk, e⟩; exact ⟨k, hk, by rw [h k (List.mem_range.1 hk)]; exact e⟩
theorem thF_ghost {h : List Card} (hn : h.length = 6) : thF 3 h [] = goT h 5 := by
  unfold thF goT
  refine any_congr fun k hk0 => ?_
  have hk : k < 5 := hk0
  change thF 2 (r4 h (k + 1)) [thirdC (cx h 0) (cx h (k + 1))] = ghT h (k + 1) 3
  have h4 := r4_len hn (k := k + 1) (by omega) (by omega)
  unfold thF ghT
  refine any_congr fun i hi0 => ?_
  have hi : i < 3 := hi0
  rw [oth_eq h4 hi]
  unfold thF gh1
  simp [thF, cx]
end Go.Proofs.Ytinoohckfhhbfaa
