/- Contracts: the reference's count of pickings, and its first greatest picking. -/
import Derived.Test.YtifkjbihmmdnbaaT42
namespace Go.Proofs.Ytifkjbihmmdnbaa
open Go.RowKit
def cntL : List Ln → List Ln → Nat → Nat
  | _, _, 0 => 1
  | [], _, _ + 1 => 0
  | a :: ls, b, n + 1 => (if hitL b a = true then 0 else cntL ls (b ++ [a]) n) + cntL ls b (n + 1)
theorem cntL_zero (ls b : List Ln) : cntL ls b 0 = 1 := by cases ls <;> rfl
theorem cntL_nil (b : List Ln) (n : Nat) : cntL [] b (n + 1) = 0 := rfl
theorem cntL_hit {a : Ln} {ls b : List Ln} (n : Nat) (h : hitL b a = true) : cntL (a :: ls) b (n + 1) = cntL ls b (n + 1) := by simp [cntL, h]
theorem cntL_free {a : Ln} {ls b : List Ln} (n : Nat) (h : hitL b a = false) : cntL (a :: ls) b (n + 1) = cntL ls (b ++ [a]) n + cntL ls b (n + 1) := by simp [cntL, h]
theorem cntL_le : ∀ (ls b : List Ln) (n : Nat), cntL ls b n ≤ 2 ^ ls.length
  | ls, b, 0 => by rw [cntL_zero]; exact Nat.one_le_two_pow
  | [], b, n + 1 => by simp [cntL]
  | a :: ls, b, n + 1 => by
    have h1 := cntL_le ls (b ++ [a]) n
    have h2 := cntL_le ls b (n + 1)
    simp only [cntL, List.length_cons, Nat.pow_succ]
    split <;> omega
/-- The first greatest one, from a best one on. -/
def sbF : List Ln → List Ln → List Ln → List Ln
  | [], _, m => m
  | a :: ls, b, m => sbF ls b (if hitL b a = true then m else if m.length < (sbF ls (b ++ [a]) (b ++ [a])).length then sbF ls (b ++ [a]) (b ++ [a]) else m)
theorem sbF_hit {a : Ln} {ls b : List Ln} (m : List Ln) (h : hitL b a = true) : sbF (a :: ls) b m = sbF ls b m := by simp [sbF, h]
theorem sbF_more {a : Ln} {ls b m : List Ln} (h : hitL b a = false) (hm : m.length < (sbF ls (b ++ [a]) (b ++ [a])).length) : sbF (a :: ls) b m = sbF ls b (sbF ls (b ++ [a]) (b ++ [a])) := by simp [sbF, h, hm]
theorem sbF_less {a : Ln} {ls b m : List Ln} (h : hitL b a = false) (hm : ¬ m.length < (sbF ls (b ++ [a]) (b ++ [a])).length) : sbF (a :: ls) b m = sbF ls b m := by simp [sbF, h, hm]
theorem sbF_len : ∀ (ls b m : List Ln) (N : Nat), m.length ≤ N → b.length + ls.length ≤ N → (sbF ls b m).length ≤ N
  | [], b, m, N, h, _ => h
  | a :: ls, b, m, N, h, h2 => by
    simp only [List.length_cons] at h2
    have h3 := sbF_len ls (b ++ [a]) (b ++ [a]) N (by simp; omega) (by simp; omega)
    unfold sbF
    refine sbF_len ls b _ N ?_ (by omega)
    split
    · exact h
    · split <;> assumption
/-- The program's way: over all pickings, one after another. -/
def bestF (m p : List Ln) : List Ln := if m.length < p.length then p else m
theorem bestF_assoc (x y z : List Ln) : bestF (bestF x y) z = bestF x (bestF y z) := by
  unfold bestF
  by_cases h1 : x.length < y.length <;> by_cases h2 : y.length < z.length <;> by_cases h3 : x.length < z.length <;> simp [h1, h2, h3] <;> omega
theorem bestF_fold (x y : List Ln) : ∀ T : List (List Ln), T.foldl bestF (bestF x y) = bestF x (T.foldl bestF y)
  | [] => rfl
  | p :: T => by simp only [List.foldl_cons]; rw [bestF_assoc, bestF_fold x (bestF y p) T]
theorem vis_best : ∀ (ls b m : List Ln), (visT ls b).foldl bestF m = sbF ls b m
  | [], b, m => rfl
  | a :: ls, b, m => by
    cases h : hitL b a
    · rw [visT_free h, List.foldl_append, visL, List.foldl_cons, bestF_fold, vis_best ls (b ++ [a]), vis_best ls b]
      conv => rhs; unfold sbF
      rw [if_neg (by simp [h])]
      rfl
    · rw [visT_hit h, sbF_hit m h, vis_best ls b m]
theorem vis_best0 (ls : List Ln) : (visL ls []).foldl bestF [] = sbF ls [] [] := by
  rw [visL, List.foldl_cons, ← vis_best]; rfl
theorem step_append_copyL {ops : Array Oper} {o : Oper} {a : Act} {K : Act → World → Prop} {Q : Exit → Act → World → Prop} {E : Prop} {w : World} (hgd : o.guard = none) (s x : Operand)
    (ho : o.op = .call { callee := .builtin .append, args := #[s, x], argTypes := #[31, 31] }) (B p : Nat) (hs : a.eval s = .slice (some ⟨p, 0, none⟩) 0 0) (hp : w.heap[p]? = some (.cells #[] T3)) (hB : B ≤ p) (hBw : B ≤ w.heap.size)
    (b : List Ln) (g off m cap : Nat) (hL : LinesAt w (some ⟨g, off, none⟩) b) (hm : b.length = m) (hx : a.eval x = .slice (some ⟨g, off, none⟩) m cap) (hl : b.length ≤ 1048576)
    (h : ∀ v' w', OwnL B w' v' b → Kept w w' → K (a.put o.dst v') w') : if Region.wanted o (yielded ops a.tmps) = true then Oper.wp Try.prog o a w K Q else E := by
  obtain ⟨i, hi, hz, hsz, hb⟩ := info_parts info_ln
  subst hm
  have hnews : ∀ j u, (cells3 b)[j]? = some u → w.cell? ((⟨g, off, none⟩ : Addr).add j) = some u := fun j u hj => by
    rw [Addr.add_lit]; exact lines_cells hL hj
  have h1c : ∀ u ∈ cells3 b, u.oneCell' = true := fun u hu => by
    simp only [cells3, List.mem_flatMap] at hu
    obtain ⟨z, _, hz⟩ := hu
    simp at hz
    rcases hz with rfl | rfl | rfl <;> rfl
  cases b with
  | nil =>
    refine step_append_room hgd s x 31 ho T3 i 3 Try.underlying31 hi hsz p 0 0 0 hs ⟨g, off, none⟩ 0 cap [] hx rfl (fun j u hj => by simp at hj) (fun u hu => by simp at hu) (Nat.le_refl _) (fun j hj => by simp at hj) ?_
    exact h _ _ (ownL_nil hB hp) (Kept.refl w)
  | cons y b =>
    refine step_append_grows hgd s x 31 ho T3 i _ 3 24 Try.underlying31 hi hz hsz hb rfl (by decide) (some ⟨p, 0, none⟩) 0 0 [] hs (fun e => by cases e) rfl (fun bb e j u hj => by simp at hj) ⟨g, off, none⟩ (y :: b).length cap
      (cells3 (y :: b)) hx (cells3_length _) hnews h1c (by simp) (by unfold maxLen; omega) (by omega) ?_
    intro v' w' hown hg
    refine h v' w' (OwnL.mono ?_ hBw) ((Kept.refl w).grown hg fun k hk => by cases hk)
    unfold OwnL
    simpa using hown
theorem step_append_lnO {ops : Array Oper} {o : Oper} {a : Act} {K : Act → World → Prop} {Q : Exit → Act → World → Prop} {E : Prop} {w : World} (hgd : o.guard = none) (s x : Operand)
    (ho : o.op = .call { callee := .builtin .append, args := #[s, x], argTypes := #[31, 31] }) (W : World) (B : Nat) (v : Value) (ls : List Ln) (hs : a.eval s = v) (hown : OwnL B w v ls) (hk : Kept W w) (hWB : W.heap.size ≤ B) (hBw : B ≤ w.heap.size)
    (g cap : Nat) (c : Ln) (hx : a.eval x = .slice (some ⟨g, 0, none⟩) 1 cap) (hc : LnCells w g 0 c) (hl : ls.length ≤ 1048576)
    (h : ∀ g' cap' w', OwnL B w' (.slice (some ⟨g', 0, none⟩) (ls.length + 1) cap') (ls ++ [c]) → Kept W w' → K (a.put o.dst (.slice (some ⟨g', 0, none⟩) (ls.length + 1) cap')) w') : if Region.wanted o (yielded ops a.tmps) = true then Oper.wp Try.prog o a w K Q else E := by
  obtain ⟨i, hi, hz, hsz, hb⟩ := info_parts info_ln
  obtain ⟨h0, h1, h2⟩ := hc
  refine step_append_lies w hgd s x 31 ho B T3 i _ 3 24 Try.underlying31 hi hz hsz hb rfl (by decide) v ls.length (cells3 ls) hs hown ⟨g, 0, none⟩ 1 cap
    [.int .i64 c.a, .int .i64 c.b, .int .i64 c.c] hx rfl ?_ ?_ (by omega) (by unfold maxLen; omega) (by omega) hBw w.heap.size rfl ?_
  · intro j u hj
    match j, hj with
    | 0, hj => simp at hj; subst hj; exact h0
    | 1, hj => simp at hj; subst hj; exact h1
    | 2, hj => simp at hj; subst hj; exact h2
    | j + 3, hj => simp at hj
  · intro u hu
    simp at hu
    rcases hu with rfl | rfl | rfl <;> rfl
  · intro g' cap' w' hown' hg _ _
    refine h _ _ w' ?_ (hk.grown hg fun k hk => Nat.le_trans hWB (hown.lt k hk).1)
    have e : cells3 (ls ++ [c]) = cells3 ls ++ [.int .i64 c.a, .int .i64 c.b, .int .i64 c.c] := by simp [cells3]
    unfold OwnL
    rw [e, List.length_append]
    exact hown'
set_option maxHeartbeats 4000000 in
theorem l7Count_step (all : List Ln) (ha : all.length ≤ 35) (hs : ∀ l, l ∈ all → sortL l) (n : Nat)
    (ih : ∀ (ao : Option Addr) (cap : Nat) (b : List Ln) (g off m bc j B : Nat) (w : World) (J N : Int), J = (j : Nat) → N = (n : Nat) → b.length = m → LinesAt w ao all → OwnL B w (.slice (some ⟨g, off, none⟩) m bc) b → B ≤ w.heap.size → (∀ l, l ∈ b → sortL l) → b.length + n ≤ 1000 → j ≤ all.length →
      Calls Try.prog 33 #[.slice ao all.length cap, .slice (some ⟨g, off, none⟩) m bc, .int .i64 J, .int .i64 N] w fun e w' => e = .returned (.int .i64 (cntL (all.drop j) b n : Nat)) ∧ Kept w w')
    (ao : Option Addr) (cap : Nat) (b : List Ln) (g off bc j B : Nat) (w : World) (N : Int) (hN : N = (n : Int) + 1) (hx : LinesAt w ao all) (hb : OwnL B w (.slice (some ⟨g, off, none⟩) b.length bc) b) (hB : B ≤ w.heap.size) (hbs : ∀ l, l ∈ b → sortL l) (hl : b.length + (n + 1) ≤ 1000) (hj : j ≤ all.length) :
    Calls Try.prog 33 #[.slice ao all.length cap, .slice (some ⟨g, off, none⟩) b.length bc, .int .i64 (j : Nat), .int .i64 N] w fun e w' => e = .returned (.int .i64 (cntL (all.drop j) b (n + 1) : Nat)) ∧ Kept w w' := by
  have hbx : LinesAt w (some ⟨g, off, none⟩) b := by obtain ⟨_, _, e, h, _⟩ := hb.reads; cases e; exact h
  have hle := fun k (m : Nat) => Nat.le_trans (cntL_le (all.drop k) b m) (Nat.pow_le_pow_right (n := 2) (by omega) (show (all.drop k).length ≤ 35 by rw [List.length_drop]; omega))
  have h35 : (2 : Nat) ^ 35 = 34359738368 := by decide
  rw [h35] at hle
  have hleH := hid hle
  have hle2 := hid (fun k (b : List Ln) (m : Nat) => show cntL (all.drop k) b m ≤ 34359738368 from h35 ▸ Nat.le_trans (cntL_le (all.drop k) b m) (Nat.pow_le_pow_right (n := 2) (by omega) (show (all.drop k).length ≤ 35 by rw [List.length_drop]; omega)))
  have hfr := hid (fun l (hl : l ∈ all) w' (hk : Kept w w') => l7Free_any (some ⟨g, off, none⟩) bc b l w' (hbx.kept hk) (by omega))
  have hsH := hid hs
  have hbsH := hid hbs
  have hbH := hid hb
  have hbxH := hid hbx
  have ihH := hid ih
  have hne : (N == 0) = false := by simp; omega
  have hBH := hid hB
  clear hs hbs hb ih hle h35 hbx hB
  have hNb : N ≤ 1001 := by omega
  have hNb0 : 1 ≤ N := by omega
  have hNH := hid hN
  clear hN
  go_enter Try.func33, Try.ntmps33
  go_wp2
  go_loopw [9, 10] (fun m i wr => ∃ k : Nat, j ≤ k ∧ k ≤ all.length ∧ i = .int .i64 k ∧ ∃ q : Nat, m = .int .i64 q ∧ q + cntL (all.drop k) b (n + 1) = cntL (all.drop j) b (n + 1) ∧ Kept w wr) (fun _ i _ => all.length - (intOf i).toNat)
  case atStart => exact ⟨j, Nat.le_refl _, hj, rfl, 0, rfl, by simp, (by (try simp only [ext_ext]); repeat (first | exact Kept.refl _ | apply Kept.alloc | apply Kept.drew | apply kept_add | apply Kept.ext))⟩
  case round wr =>
    obtain ⟨k, hjk, hk, rfl, q, rfl, hq, hkw⟩ := hrel
    have hqH := hid hq
    have hq1 : q ≤ 34359738368 := by have := hleH.out j (n + 1); omega
    have hkwH := hid hkw
    clear hq
    by_cases hlt : k < all.length
    · have hd := hid (drop_lx all k hlt)
      obtain ⟨ga, offa, rfl, hga, q1, q2, q3⟩ := hx k hlt
      have hS := hid (fun w' (hk : Kept w w') => show w'.cell? ⟨ga, offa + k * 3, none⟩ = some (.int .i64 (lx all k).a) ∧ w'.cell? ⟨ga, offa + k * 3 + 1, none⟩ = some (.int .i64 (lx all k).b) ∧ w'.cell? ⟨ga, offa + k * 3 + 2, none⟩ = some (.int .i64 (lx all k).c) from
        ⟨(hk.below.cell (p := ⟨_, _, none⟩) hga).trans q1, (hk.below.cell (p := ⟨_, _, none⟩) hga).trans q2, (hk.below.cell (p := ⟨_, _, none⟩) hga).trans q3⟩)
      obtain ⟨r1, r2, r3⟩ := hS.out wr hkw
      have hmem := lx_mem hlt
      have hf0 := hfr.out _ hmem
      have hsw := hkw.below.size
      rw [hitS_hitL (hsH.out _ hmem) hbsH.out] at hf0
      cases hh : hitL b (lx all k)
      · rw [hh] at hf0
        have hf := hid hf0
        have hv := hid (cntL_free (ls := all.drop (k + 1)) n hh)
        have hq2 := hle2.out (k + 1) (b ++ [lx all k]) n
        have hbs2 := hid (show ∀ l, l ∈ b ++ [lx all k] → sortL l from fun l hl => by
          rcases List.mem_append.1 hl with h | h
          · exact hbsH.out l h
          · rw [List.mem_singleton.1 h]; exact hsH.out _ hmem)
        have hbl : b.length ≤ 1048576 := by omega
        have hbn : (b ++ [lx all k]).length + n ≤ 1000 := by simp; omega
        have hbnH := hid hbn
        have hkn3 : (k : Int) + 1 ≤ (all.length : Int) := by omega
        have hNn : N - 1 = (n : Int) := by have := hNH.out; omega
        have hrd := hid (fun w' (hk : Kept w w') => hbxH.out.kept hk)
        have hwr1 : IntKind.i64.wrap ((k : Int) + 1) = (k : Int) + 1 := Go.IntWalk.i64_in _ ⟨by omega, by omega⟩
        have hwr2 : IntKind.i64.wrap (n : Int) = (n : Int) := Go.IntWalk.i64_in _ ⟨by omega, by omega⟩
        have hxH := hid hx
        have hbl1 := hid (show (b ++ [lx all k]).length = b.length + 1 by simp)
        have hwr3 : IntKind.i64.wrap ((q : Int) + (cntL (all.drop (k + 1)) (b ++ [lx all k]) n : Nat)) = ((q + cntL (all.drop (k + 1)) (b ++ [lx all k]) n : Nat) : Int) := by rw [Int.natCast_add]; exact Go.IntWalk.i64_in _ ⟨by omega, by omega⟩
        clear hf0 hkw hbn hx
        go_wp2_with (first | (go_at_call 52; refine Calls.mono (hf.out _ (hkwH.out.trans (by (try simp only [ext_ext]); repeat (first | exact Kept.refl _ | apply Kept.alloc | apply Kept.drew | apply kept_add | apply Kept.ext)))) ?_; rintro e w' ⟨rfl, y, rfl⟩))
        go_region_held3 (fun w' => w'.cell? ⟨ga, offa + k * 3, none⟩ = some (.int .i64 (lx all k).a) ∧ w'.cell? ⟨ga, offa + k * 3 + 1, none⟩ = some (.int .i64 (lx all k).b) ∧ w'.cell? ⟨ga, offa + k * 3 + 2, none⟩ = some (.int .i64 (lx all k).c))
          (exact hS.out _ (hkwH.out.trans (by (try simp only [ext_ext]); repeat (first | assumption | exact Kept.refl _ | apply Kept.alloc | apply Kept.drew | apply kept_add | apply Kept.ext))))
          (first | (refine step_append_copyL rfl _ _ rfl wr.heap.size _ rfl (by first | exact heap_at (by simp) | exact heap_past (by simp) (heap_at (by simp))) (by first | omega | (simp; done) | (simp; omega)) (by first | omega | (simp; done) | (simp; omega)) b g off _ bc (hrd.out _ (hkwH.out.trans (by (try simp only [ext_ext]); repeat (first | assumption | exact Kept.refl _ | apply Kept.alloc | apply Kept.drew | apply kept_add | apply Kept.ext)))) rfl rfl hbl ?_; intro v1 w1 hown1 hk1; have k1 : Kept wr w1 := Kept.trans (by (try simp only [ext_ext]); repeat (first | assumption | exact Kept.refl _ | apply Kept.alloc | apply Kept.drew | apply kept_add | apply Kept.ext)) hk1; have s1 := k1.below.size; first | have hqc := lnCells_grown (row := none) (lnCells_new (lx all k) rfl) (kept_grown hk1) (by simp) (by simp) | have hqc := lnCells_grown (row := none) (lnCells_new (lx all k) rfl) ((kept_grown (Kept.alloc (Kept.refl _) _)).trans (kept_grown hk1)) (by simp) (by simp) | skip; clear hk1) | (refine step_append_lnO rfl _ _ rfl wr wr.heap.size _ b rfl (hown1.kept (by (try simp only [ext_ext]); repeat (first | assumption | exact Kept.refl _ | apply Kept.alloc | apply Kept.drew | apply kept_add | apply Kept.ext))) (by (try simp only [ext_ext]); repeat (first | assumption | exact Kept.refl _ | apply Kept.alloc | apply Kept.drew | apply kept_add | apply Kept.ext)) (Nat.le_refl _) (by first | exact s1 | (simp; omega) | simp) _ _ (lx all k) rfl (by first | exact hqc | simpa using hqc | exact lnCells_new (lx all k) (by simp)) hbl ?_; intro g2 c2 w2 hown2 hk2) | (go_at_call 33; refine Calls.mono (ihH.out _ _ (b ++ [lx all k]) _ _ _ _ (k + 1) wr.heap.size _ ((k : Int) + 1) (n : Int) (by simp) rfl hbl1.out (hxH.out.kept (hkwH.out.trans (by (try simp only [ext_ext]); repeat (first | assumption | exact Kept.refl _ | apply Kept.alloc | apply Kept.drew | apply kept_add | apply Kept.ext)))) (hown2.kept (by (try simp only [ext_ext]); repeat (first | exact Kept.refl _ | apply Kept.alloc | apply Kept.drew | apply kept_add | apply Kept.ext))) (Kept.below (show Kept wr _ from (by (try simp only [ext_ext]); repeat (first | assumption | exact Kept.refl _ | apply Kept.alloc | apply Kept.drew | apply kept_add | apply Kept.ext)))).size hbs2.out hbnH.out hlt) ?_; rintro e w3 ⟨rfl, hk3⟩; dsimp only; have k3 : Kept wr w3 := hk2.trans hk3))
        all_goals
          go_wp2_with (fail)
          go_roundw
          case rel => exact ⟨k + 1, by omega, hlt, by go_num, _, rfl, by rw [← hqH.out, hd.out, hv.out, Nat.add_assoc], hkwH.out.trans k3⟩
          case measure => simp [intOf]; omega
      · rw [hh] at hf0
        have hf := hid hf0
        have hv := hid (cntL_hit (ls := all.drop (k + 1)) n hh)
        clear hf0 hkw
        go_wp2_with (first | (go_at_call 52; refine Calls.mono (hf.out _ (hkwH.out.trans (by (try simp only [ext_ext]); repeat (first | exact Kept.refl _ | apply Kept.alloc | apply Kept.drew | apply kept_add | apply Kept.ext)))) ?_; rintro e w' ⟨rfl, y, rfl⟩))
        go_roundw
        case rel => exact ⟨k + 1, by omega, hlt, by go_num, q, rfl, by rw [← hqH.out, hd.out, hv.out], hkwH.out.trans (by (try simp only [ext_ext]); repeat (first | exact Kept.refl _ | apply Kept.alloc | apply Kept.drew | apply kept_add | apply Kept.ext))⟩
        case measure => simp [intOf]; omega
    · obtain rfl : k = all.length := by omega
      have hv : Hid (q = cntL (all.drop j) b (n + 1)) := hid (by rw [← hqH.out]; simp [cntL])
      go_wp2
      go_ret
      exact ⟨ret_of (by rw [hv.out]; rfl), hkwH.out.trans (by (try simp only [ext_ext]); repeat (first | exact Kept.refl _ | apply Kept.alloc | apply Kept.drew | apply kept_add | apply Kept.ext))⟩
theorem l7Count_any (all : List Ln) (ha : all.length ≤ 35) (hs : ∀ l, l ∈ all → sortL l) :
    ∀ (n : Nat) (ao : Option Addr) (cap : Nat) (b : List Ln) (g off m bc j B : Nat) (w : World) (J N : Int), J = (j : Nat) → N = (n : Nat) → b.length = m → LinesAt w ao all → OwnL B w (.slice (some ⟨g, off, none⟩) m bc) b → B ≤ w.heap.size → (∀ l, l ∈ b → sortL l) → b.length + n ≤ 1000 → j ≤ all.length →
      Calls Try.prog 33 #[.slice ao all.length cap, .slice (some ⟨g, off, none⟩) m bc, .int .i64 J, .int .i64 N] w fun e w' => e = .returned (.int .i64 (cntL (all.drop j) b n : Nat)) ∧ Kept w w' := by
  intro n
  induction n with
  | zero =>
    intro ao cap b g off m bc j B w J N hJ hN hm hx hb hB hbs hl hj
    have hN0 : N = 0 := by omega
    subst hN0
    have hv := hid (cntL_zero (all.drop j) b)
    clear hJ hN hm hx hb hB hbs hl hj hs
    go_enter Try.func33, Try.ntmps33
    go_wp2
    go_ret
    exact ⟨ret_of (by rw [hv.out]; rfl), (by (try simp only [ext_ext]); repeat (first | exact Kept.refl _ | apply Kept.alloc | apply Kept.drew | apply kept_add | apply Kept.ext))⟩
  | succ n ih =>
    intro ao cap b g off m bc j B w J N hJ hN hm hx hb hB hbs hl hj
    subst hJ
    subst hm
    exact l7Count_step all ha hs n ih ao cap b g off bc j B w N (by rw [hN]; simp) hx hb hB hbs hl hj
end Go.Proofs.Ytifkjbihmmdnbaa
