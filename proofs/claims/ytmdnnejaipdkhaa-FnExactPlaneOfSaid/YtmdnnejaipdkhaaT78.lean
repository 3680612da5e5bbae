/- Contracts: impl.span. -/
import Derived.Test.YtmdnnejaipdkhaaT77
import Derived.Test.YtmdnnejaipdkhaaT18
namespace Go.Proofs.Ytmdnnejaipdkhaa
open Go.RowKit
def tabB (f : Nat → Bool) : Array Value := ((List.range 81).map fun i => Value.bool (f i)).toArray
theorem tabB_size (f : Nat → Bool) : (tabB f).size = 81 := by simp [tabB]
theorem tabB_get {i : Nat} (f : Nat → Bool) (h : i < 81) : (tabB f)[i]? = some (.bool (f i)) := by simp [tabB, h]
theorem tabB_set {i : Nat} (f f' : Nat → Bool) (b : Bool) (h : ∀ j, j < 81 → f' j = if j = i then b else f j) : (tabB f).setIfInBounds i (.bool b) = tabB f' := by
  apply Array.ext_getElem?
  intro j
  by_cases hj : j < 81
  · rw [tabB_get _ hj, Array.getElem?_setIfInBounds, tabB_size, tabB_get _ hj, h j hj]
    by_cases hi : i = j
    · subst hi; simp [hj]
    · simp [hi, Ne.symm hi]
  · rw [Array.getElem?_eq_none (by simp [tabB_size]; omega), Array.getElem?_eq_none (by rw [tabB_size]; omega)]
theorem tabB_one (f : Nat → Bool) : (tabB f).all (·.oneCell') = true := by
  rw [Array.all_eq_true_iff_forall_mem]
  intro v hv
  simp [tabB] at hv
  obtain ⟨i, _, rfl⟩ := hv
  rfl
theorem setRow_allocB (W : World) (cs ds : Array Value) (t : TypeId) : (W.alloc (.cells cs t)).setRow W.heap.size ds = W.alloc (.cells ds t) := by
  unfold World.setRow World.alloc
  simp only
  congr 1
  apply Array.ext_getElem?
  intro i
  rw [Array.getElem?_modify, Array.getElem?_push, Array.getElem?_push]
  by_cases hi : i = W.heap.size
  · subst hi; simp
  · rw [if_neg (Ne.symm hi), if_neg hi, if_neg hi]
theorem wpList_tabB_build {ops : Array Oper} {rest : List Oper} {o : Oper} {a : Act} {w : World} {Q : Exit → Act → World → Prop} (hg : o.guard = none) (ho : o.op = .build 55 #[])
    (h : wpList Try.prog ops Q rest (a.put o.dst (.agg (tabB fun _ => false))) w) : wpList Try.prog ops Q (o :: rest) a w := by
  have e : Try.prog.built 55 [] = some (tabB fun _ => false) := by kernel_rfl
  refine wpList_build hg 55 #[] ho ?_ ?_
  · simp [e]
  · simpa [e] using h
theorem wpList_tabB_alloc {ops : Array Oper} {rest : List Oper} {o : Oper} {a : Act} {w : World} {Q : Exit → Act → World → Prop} (hg : o.guard = none) (ho : o.op = .alloc 55)
    (h : wpList Try.prog ops Q rest (a.put o.dst (.pointer (some ⟨w.heap.size, 0, none⟩))) (w.alloc (.cells (tabB fun _ => false) 55))) : wpList Try.prog ops Q (o :: rest) a w := by
  have e : (Instr.alloc 55 true (.tuple #[])).run Try.prog w = .ok (.pointer (some ⟨w.heap.size, 0, none⟩)) (w.alloc (.cells (tabB fun _ => false) 55)) := by kernel_rfl
  refine wpList_plain hg fun _ hK => ?_
  unfold Oper.wp execOp
  simp only [ho, Sem.run_bind, e, Result.andThen_ok]
  exact hK _ _ h
theorem tabB_info : (Try.prog.info? 55).map (·.size) = some 81 := by kernel_rfl
theorem wpList_tabB_store {ops : Array Oper} {rest : List Oper} {o : Oper} {a : Act} {w : World} {Q : Exit → Act → World → Prop} (hg : o.guard = none) (x y : Operand) (ho : o.op = .store 55 x y)
    (f f' : Nat → Bool) (hx : a.eval x = .pointer (some ⟨w.heap.size, 0, none⟩)) (hy : a.eval y = .agg (tabB f'))
    (h : wpList Try.prog ops Q rest (a.put o.dst undef) (w.alloc (.cells (tabB f') 55))) : wpList Try.prog ops Q (o :: rest) a (w.alloc (.cells (tabB f) 55)) := by
  refine wpList_store_row hg 55 x y ho w.heap.size (tabB f') hx hy 55 (tabB f) (heap_at rfl) ?_ ?_ (tabB_one _) ?_
  · rw [tabB_size]; exact tabB_info
  · rw [tabB_size, tabB_size]
  · rw [setRow_allocB]; exact h
def inF (zs : List Card) (n : Nat) : Bool := decide (cardN (n : Int) ∈ zs)
theorem inF_next {zs : List Card} {c : Card} {n : Nat} (hc : isCard c = true) (hn : numC c = (n : Int)) (j : Nat) : inF (zs ++ [c]) j = if j = n then true else inF zs j := by
  unfold inF
  have hcn : cardN (n : Int) = c := by rw [← hn]; exact cardN_numC hc
  by_cases h : j = n
  · subst h; rw [if_pos rfl, hcn]; simp
  · rw [if_neg h]
    have : ¬ cardN (j : Int) = c := fun e => h (by
      have := congrArg numC e
      rw [numC_cardN, hn] at this
      omega)
    simp [this]
theorem inF_card {zs : List Card} {c : Card} {n : Nat} (hc : isCard c = true) (hn : numC c = (n : Int)) : inF zs n = decide (c ∈ zs) := by
  unfold inF
  rw [← hn, cardN_numC hc]
/-- What stands in memory while a span is being built. -/
structure SpW (W : World) (gi go : Nat) (zs : List Card) (v : Value) (w : World) : Prop where
  tin : w.heap[gi]? = some (.cells (tabB (inF zs)) 55 (0, 0))
  box : w.heap[go]? = some (.cells #[v] 22 (0, 0))
  own : OwnC W.heap.size w v zs
  ptr : v.ownBlock.isSome = true
  kept : Kept W w
  hgi : W.heap.size ≤ gi
  hgo : W.heap.size ≤ go
theorem SpW.lti {W w : World} {gi go : Nat} {zs : List Card} {v : Value} (h : SpW W gi go zs v w) : gi < w.heap.size := (Array.getElem?_eq_some_iff.1 h.tin).1
theorem SpW.lto {W w : World} {gi go : Nat} {zs : List Card} {v : Value} (h : SpW W gi go zs v w) : go < w.heap.size := (Array.getElem?_eq_some_iff.1 h.box).1
theorem SpW.ne {W w : World} {gi go : Nat} {zs : List Card} {v : Value} (h : SpW W gi go zs v w) : gi ≠ go := fun e => by
  have a := h.tin
  rw [e, h.box] at a
  simp at a
theorem own_tag {B : Nat} {w : World} {v : Value} {zs : List Card} (h : OwnC B w v zs) {g : Nat} (hv : v.ownBlock = some g) : ∃ cur, w.heap[g]? = some (.cells cur T4 (0, 0)) := by
  rcases h.2 with ⟨rfl, _⟩ | ⟨g', cap, cur, rfl, _, hg, _⟩
  · cases hv
  · cases hv; exact ⟨cur, hg⟩
theorem SpW.vi {W w : World} {gi go : Nat} {zs : List Card} {v : Value} (h : SpW W gi go zs v w) {g : Nat} (hv : v.ownBlock = some g) : g ≠ gi ∧ g ≠ go := by
  obtain ⟨cur, hc⟩ := own_tag h.own hv
  constructor
  · rintro rfl; rw [h.tin] at hc; simp at hc; exact absurd hc.2 (by decide)
  · rintro rfl; rw [h.box] at hc; simp at hc; exact absurd hc.2 (by decide)
theorem SpW.form {W w : World} {gi go : Nat} {zs : List Card} {v : Value} (h : SpW W gi go zs v w) : ∃ g cp, v = .slice (some ⟨g, 0, none⟩) zs.length cp ∧ CardsAt w (some ⟨g, 0, none⟩) zs ∧ zs.length ≤ cp := by
  rcases h.own.2 with ⟨e, _⟩ | ⟨g, cp, cur, e, _⟩
  · have := h.ptr; rw [e] at this; cases this
  · have ho := h.own
    rw [e] at ho
    exact ⟨g, cp, e, ho.cardsN rfl, ho.capN rfl⟩
theorem SpW.keep {W w w' : World} {gi go : Nat} {zs : List Card} {v : Value} (h : SpW W gi go zs v w) (hk : Kept w w') : SpW W gi go zs v w' :=
  ⟨(hk.below.block gi h.lti).trans h.tin, (hk.below.block go h.lto).trans h.box, h.own.kept hk, h.ptr, h.kept.trans hk, h.hgi, h.hgo⟩
theorem SpW.mark {W w w2 : World} {gi go n : Nat} {zs : List Card} {v : Value} (h : SpW W gi go zs v w) (hk : Kept (w.setCell ⟨gi, n, none⟩ (.bool true)) w2) : OwnC W.heap.size w2 v zs ∧ Kept W w2 ∧ w2.heap[go]? = some (.cells #[v] 22 (0, 0)) := by
  have hg : w.grownBy (w.setCell ⟨gi, n, none⟩ (.bool true)) (some gi) := grown_setCell (grown_refl _ _) (p := ⟨gi, n, none⟩) rfl _
  refine ⟨(h.own.grown hg fun g hv e => (h.vi hv).1 (Option.some.inj e).symm).kept hk, (h.kept.setCell h.hgi _).trans hk, ?_⟩
  rw [hk.below.block go (by simpa using h.lto)]
  rw [heap_setCell_other _ _ _ _ (fun e => h.ne e.symm)]
  exact h.box
theorem SpW.box3 {W w w2 w3 : World} {gi go n : Nat} {zs : List Card} {v : Value} (h : SpW W gi go zs v w) (hk : Kept (w.setCell ⟨gi, n, none⟩ (.bool true)) w2) (hg : w2.grownBy w3 v.ownBlock) : w3.cell? ⟨go, 0, none⟩ = some v ∧ w3.frozen? ⟨go, 0, none⟩ = false := by
  have hs2 : w.heap.size ≤ w2.heap.size := by have := hk.below.size; simpa using this
  obtain ⟨g, hv⟩ := Option.isSome_iff_exists.1 h.ptr
  have b3 : w3.heap[go]? = some (.cells #[v] 22 (0, 0)) := (hg.block go (Nat.lt_of_lt_of_le h.lto hs2) (by rw [hv]; exact fun e => (h.vi hv).2 (Option.some.inj e).symm)).trans (h.mark hk).2.2
  exact ⟨by rw [cell_of_row _ _ _ _ _ _ b3]; rfl, frozen_of_row _ _ _ _ _ b3⟩
theorem SpW.put {W w w2 w3 : World} {gi go n : Nat} {zs : List Card} {v v' : Value} {c : Card} (h : SpW W gi go zs v w) (hc : isCard c = true) (hn : numC c = (n : Int)) (hk : Kept (w.setCell ⟨gi, n, none⟩ (.bool true)) w2)
    (hown : OwnC W.heap.size w3 v' (zs ++ [c])) (hg : w2.grownBy w3 v.ownBlock) (hat : v'.ownBlock = v.ownBlock ∨ v'.ownBlock = some w2.heap.size) : SpW W gi go (zs ++ [c]) v' (w3.setCell ⟨go, 0, none⟩ v') := by
  obtain ⟨ho2, hk2, hb2⟩ := h.mark hk
  have hs2 : w.heap.size ≤ w2.heap.size := by have := hk.below.size; simpa using this
  obtain ⟨g, hv⟩ := Option.isSome_iff_exists.1 h.ptr
  have hne := h.vi hv
  have t2 : w2.heap[gi]? = some (.cells (tabB (inF (zs ++ [c]))) 55 (0, 0)) := by
    rw [hk.below.block gi (by simpa using h.lti), heap_setCell_same _ _ _ _ _ _ h.tin, tabB_set _ (inF (zs ++ [c])) _ (fun j _ => inF_next hc hn j)]
  have t3 : w3.heap[gi]? = w2.heap[gi]? := hg.block gi (Nat.lt_of_lt_of_le h.lti hs2) (by rw [hv]; exact fun e => hne.1 (Option.some.inj e).symm)
  have b3 : w3.heap[go]? = w2.heap[go]? := hg.block go (Nat.lt_of_lt_of_le h.lto hs2) (by rw [hv]; exact fun e => hne.2 (Option.some.inj e).symm)
  have hv' : ∀ g', v'.ownBlock = some g' → g' ≠ go := fun g' e => by
    rcases hat with a | a
    · rw [a, hv] at e; cases e; exact hne.2
    · rw [a] at e; cases e; have := h.lto; omega
  refine ⟨?_, ?_, hown.grown (grown_setCell (grown_refl _ _) (p := ⟨go, 0, none⟩) rfl _) (fun g' e a => hv' g' e (Option.some.inj a).symm), ?_, ?_, h.hgi, h.hgo⟩
  · rw [heap_setCell_other _ _ _ _ h.ne, t3, t2]
  · rw [heap_setCell_same _ _ _ _ _ _ (b3.trans hb2)]; rfl
  · rcases hat with a | a
    · rw [a]; exact h.ptr
    · rw [a]; rfl
  · exact (hk2.grown hg (fun k e => (ho2.lt k e).1)).setCell h.hgo _
theorem put_yes (W : World) (gi go : Nat) (zs : List Card) (v : Value) (c : Card) (w : World) (h : SpW W gi go zs v w) (hc : isCard c = true) (hm : c ∈ zs) :
    Calls Try.prog 56 #[c.v, .pointer (some ⟨gi, 0, none⟩), .pointer (some ⟨go, 0, none⟩)] w fun e w' => e = .returned (.tuple #[]) ∧ SpW W gi go zs v w' := by
  obtain ⟨n, hn⟩ : ∃ n : Nat, numC c = (n : Int) := ⟨(numC c).toNat, (Int.toNat_of_nonneg (numC_bd hc).1).symm⟩
  have hn81 : n < 81 := by have := (numC_bd hc).2; omega
  have hN := hid (fun w' => number_any c hc w')
  rw [hn] at hN
  have hcell : w.cell? ⟨gi, n, none⟩ = some (.bool true) := by
    rw [cell_of_row _ _ _ _ _ _ h.tin, tabB_get _ hn81, inF_card hc hn, decide_eq_true hm]
  have hlt := h.lti
  have hH := hid h
  clear h hn hm
  go_enter Try.func56, Try.ntmps56
  go_wp2_with (first | (go_at_call 48; refine Calls.mono (hN.out _) ?_; rintro e w' ⟨rfl, y, rfl⟩))
  go_end0
  exact ⟨rfl, hH.out.keep (by (try simp only [ext_ext]); repeat (first | exact Kept.refl _ | apply Kept.alloc | apply Kept.drew | apply kept_add | apply Kept.ext))⟩
set_option maxHeartbeats 1000000 in
theorem put_no (W : World) (gi go : Nat) (zs : List Card) (v : Value) (c : Card) (w : World) (h : SpW W gi go zs v w) (hc : isCard c = true) (hm : ¬ c ∈ zs) (hl : zs.length ≤ 81) :
    Calls Try.prog 56 #[c.v, .pointer (some ⟨gi, 0, none⟩), .pointer (some ⟨go, 0, none⟩)] w fun e w' => e = .returned (.tuple #[]) ∧ ∃ v', SpW W gi go (zs ++ [c]) v' w' := by
  obtain ⟨n, hn⟩ : ∃ n : Nat, numC c = (n : Int) := ⟨(numC c).toNat, (Int.toNat_of_nonneg (numC_bd hc).1).symm⟩
  have hn81 : n < 81 := by have := (numC_bd hc).2; omega
  have hN := hid (fun w' => number_any c hc w')
  rw [hn] at hN
  have hnH := hid hn
  have hcell : w.cell? ⟨gi, n, none⟩ = some (.bool false) := by
    rw [cell_of_row _ _ _ _ _ _ h.tin, tabB_get _ hn81, inF_card hc hn, decide_eq_false hm]
  have hcf : w.frozen? ⟨gi, n, none⟩ = false := frozen_of_row _ _ _ _ _ h.tin
  have hbox : w.cell? ⟨go, 0, none⟩ = some v := by rw [cell_of_row _ _ _ _ _ _ h.box]; rfl
  have hbf : w.frozen? ⟨go, 0, none⟩ = false := frozen_of_row _ _ _ _ _ h.box
  have hlt := h.lti
  have hlo := h.lto
  have hne1 := h.ne
  have hne2 := h.ne.symm
  have hH := hid h
  clear h hn hm
  go_enter Try.func56, Try.ntmps56
  go_wp2_with (first | (at_builtin; refine wpList_append_card_at rfl _ _ rfl W W.heap.size v zs rfl (hH.out.mark (n := n) (by (try simp only [ext_ext]); repeat (first | exact Kept.refl _ | apply Kept.alloc | apply Kept.drew | apply kept_add | apply Kept.ext))).1 (hH.out.mark (n := n) (by (try simp only [ext_ext]); repeat (first | exact Kept.refl _ | apply Kept.alloc | apply Kept.drew | apply kept_add | apply Kept.ext))).2.1 (Nat.le_refl _) (hH.out.mark (n := n) (by (try simp only [ext_ext]); repeat (first | exact Kept.refl _ | apply Kept.alloc | apply Kept.drew | apply kept_add | apply Kept.ext))).2.1.below.size _ _ c rfl (cardCells_new _ (by simp)) (by omega) ?_; intro v' w3 hown hk3 hg hat; obtain ⟨q1, q2⟩ := hH.out.box3 (n := n) (by (try simp only [ext_ext]); repeat (first | exact Kept.refl _ | apply Kept.alloc | apply Kept.drew | apply kept_add | apply Kept.ext)) hg; have hfin := hid (hH.out.put hc hnH.out (by (try simp only [ext_ext]); repeat (first | exact Kept.refl _ | apply Kept.alloc | apply Kept.drew | apply kept_add | apply Kept.ext)) hown hg hat); obtain ⟨ao, cp, rfl, _, _⟩ := hown.reads; clear hg hat hown) | (go_at_call 48; refine Calls.mono (hN.out _) ?_; rintro e w' ⟨rfl, y, rfl⟩))
  go_end0
  exact ⟨rfl, _, by have h := hfin.out; rw [List.length_append, List.length_singleton] at h; exact h⟩
/-- A list with a card put behind it, if it is not there. -/
def putE (zs : List Card) (c : Card) : List Card := if c ∈ zs then zs else zs ++ [c]
theorem put_any (W : World) (gi go : Nat) (zs : List Card) (v : Value) (c : Card) (w : World) (h : SpW W gi go zs v w) (hc : isCard c = true) (hl : zs.length ≤ 81) :
    Calls Try.prog 56 #[c.v, .pointer (some ⟨gi, 0, none⟩), .pointer (some ⟨go, 0, none⟩)] w fun e w' => e = .returned (.tuple #[]) ∧ ∃ v', SpW W gi go (putE zs c) v' w' := by
  unfold putE
  by_cases hm : c ∈ zs
  · rw [if_pos hm]
    exact Calls.mono (put_yes W gi go zs v c w h hc hm) (fun e w' ⟨a, b⟩ => ⟨a, v, b⟩)
  · rw [if_neg hm]
    exact put_no W gi go zs v c w h hc hm hl
/-- What impl.span knows of its list. -/
structure SpJ (xs zs : List Card) (i : Nat) : Prop where
  nodup : zs.Nodup
  cards : ∀ c ∈ zs, isCard c = true
  sub : ∀ c ∈ zs, inSpan xs c
  done : ∀ a b, b < a → a < i → thirdC (cx zs a) (cx zs b) ∈ zs
theorem SpJ.len {xs zs : List Card} {i : Nat} (h : SpJ xs zs i) : zs.length ≤ 81 := by
  have hp : (srt zs).Perm zs := (List.perm_ext_iff_of_nodup (asc_nodup (srt_asc _)) h.nodup).2 (srt_mem h.cards)
  rw [← hp.length_eq]; exact srt_len _
theorem putE_mem (zs : List Card) (c : Card) : c ∈ putE zs c := by
  unfold putE; split
  · assumption
  · simp
theorem putE_le (zs : List Card) (c : Card) : zs.length ≤ (putE zs c).length := by
  unfold putE; split
  · exact Nat.le_refl _
  · simp
theorem putE_cx (zs : List Card) (c : Card) {k : Nat} (h : k < zs.length) : cx (putE zs c) k = cx zs k := by
  unfold putE; split
  · rfl
  · rw [cx_get _ _ (by simp; omega), cx_get _ _ h, List.getElem_append_left h]
theorem putE_sub {zs : List Card} {c d : Card} (h : d ∈ zs) : d ∈ putE zs c := by
  unfold putE; split
  · exact h
  · simp [h]
theorem SpJ.put {xs zs : List Card} {i : Nat} (h : SpJ xs zs i) (hi : i ≤ zs.length) {c : Card} (hc : isCard c = true) (hs : inSpan xs c) : SpJ xs (putE zs c) i := by
  refine ⟨?_, fun d hd => ?_, fun d hd => ?_, fun a b hab ha => ?_⟩
  · unfold putE; split
    · exact h.nodup
    · rename_i hn
      rw [List.nodup_append]
      refine ⟨h.nodup, by simp, fun a ha b hb e => ?_⟩
      rw [List.mem_singleton] at hb
      subst hb; subst e; exact hn ha
  · unfold putE at hd; split at hd
    · exact h.cards d hd
    · rw [List.mem_append, List.mem_singleton] at hd
      rcases hd with hd | rfl
      · exact h.cards d hd
      · exact hc
  · unfold putE at hd; split at hd
    · exact h.sub d hd
    · rw [List.mem_append, List.mem_singleton] at hd
      rcases hd with hd | rfl
      · exact h.sub d hd
      · exact hs
  · rw [putE_cx _ _ (by omega), putE_cx _ _ (by omega)]
    exact putE_sub (h.done a b hab ha)
theorem SpJ.next {xs zs : List Card} {i : Nat} (h : SpJ xs zs i) (hd : ∀ b, b < i → thirdC (cx zs b) (cx zs i) ∈ zs) : SpJ xs zs (i + 1) :=
  ⟨h.nodup, h.cards, h.sub, fun a b hab ha => if e : a < i then h.done a b hab e else by rw [show a = i by omega] at hab ⊢; rw [thirdC_sym]; exact hd b hab⟩
set_option maxHeartbeats 2000000 in
theorem span_any (ao : Option Addr) (cap n : Nat) (cs : List Card) (w : World) (hx : CardsAt w ao cs) (hn : cs.length = n) (hcs : ∀ c ∈ cs, isCard c = true) (hl : n ≤ 1000) :
    Calls Try.prog 40 #[.slice ao n cap] w (RetC w (spanC cs)) := by
  have hxH := hid hx
  have hnH := hid hn
  have hcsH := hid hcs
  clear hx hn hcs
  go_enter Try.func40, Try.ntmps40
  go_wp2_with (first | refine wpList_tabB_build rfl rfl ?_ | refine wpList_tabB_alloc rfl rfl ?_ | refine wpList_tabB_store rfl _ _ rfl _ _ rfl rfl ?_)
  have hin0 : inF [] = fun _ => false := by funext n; simp [inF]
  go_loopw [15] (fun i wr => ∃ (k : Nat) (zs : List Card) (v : Value), k ≤ n ∧ i = .int .i64 (k : Int) ∧ SpW w w.heap.size (w.heap.size + 1 + 1) zs v wr ∧ SpJ cs zs 0 ∧ ∀ j, j < k → cx cs j ∈ zs) (fun i _ => n - (intOf i).toNat)
  case atStart =>
    refine ⟨0, [], .slice (some ⟨w.heap.size + 1, 0, none⟩) 0 0, by omega, by go_num, ⟨?_, ?_, ?_, rfl, (by (try simp only [ext_ext]); repeat (first | exact Kept.refl _ | apply Kept.alloc | apply Kept.drew | apply kept_add | apply Kept.ext)), Nat.le_refl _, by omega⟩, ⟨List.nodup_nil, fun c h => absurd h (by simp), fun c h => absurd h (by simp), fun a b _ h => by omega⟩, fun j hj => by omega⟩
    · rw [hin0]; exact ((show Kept (w.alloc (.cells (tabB fun _ => false) 55)) _ from (by (try simp only [ext_ext]); repeat (first | exact Kept.refl _ | apply Kept.alloc | apply Kept.drew | apply kept_add | apply Kept.ext))).below.block _ (by simp)).trans (heap_at rfl)
    · exact heap_at (by simp)
    · exact OwnC.kept (ownC_nil (B := w.heap.size) (g := w.heap.size + 1) (w := (w.alloc (.cells (tabB fun _ => false) 55)).alloc (.cells #[] T4)) (by omega) (heap_at (by simp))) (by (try simp only [ext_ext]); repeat (first | exact Kept.refl _ | apply Kept.alloc | apply Kept.drew | apply kept_add | apply Kept.ext))
  case round =>
    obtain ⟨k, zs, v, hk, rfl, hW, hJ, hb⟩ := hrel
    have hWH := hid hW
    have hJH := hid hJ
    have hbH := hid hb
    clear hW hJ hb
    by_cases hlt : k < n
    · obtain ⟨g, off, rfl, hg, a1, a2, a3, a4⟩ := (hxH.out.kept hWH.out.kept) k (by rw [hnH.out]; exact hlt)
      have hck := hcsH.out _ (cx_mem (by rw [hnH.out]; exact hlt : k < cs.length))
      have hP := hid (fun (w' : World) (hk : Kept wr w') => put_any w w.heap.size (w.heap.size + 1 + 1) zs v (cx cs k) w' (hWH.out.keep hk) hck hJH.out.len)
      have hnx := hid (hJH.out.put (Nat.zero_le _) hck (inSpan_base (cx_mem (by rw [hnH.out]; exact hlt : k < cs.length))))
      go_wp2_with (first | (go_at_call 56; refine Calls.mono (hP.out _ (by (try simp only [ext_ext]); repeat (first | exact Kept.refl _ | apply Kept.alloc | apply Kept.drew | apply kept_add | apply Kept.ext))) ?_; rintro e w1 ⟨rfl, v1, hW1⟩))
      go_roundw
      case rel => exact ⟨k + 1, _, v1, by omega, by go_num, hW1, hnx.out, fun j hj => if e : j < k then putE_sub (hbH.out j e) else by rw [show j = k by omega]; exact putE_mem _ _⟩
      case measure => simp [intOf]; omega
    · have hbase := hid (show ∀ c ∈ cs, c ∈ zs from fun c hc => by
        obtain ⟨j, hj, rfl⟩ := List.getElem_of_mem hc
        rw [← cx_get _ _ hj]
        exact hbH.out j (by rw [hnH.out] at hj; omega))
      have hJ0 := hJH.out
      have hbx : wr.cell? ⟨w.heap.size + 1 + 1, 0, none⟩ = some v := by rw [cell_of_row _ _ _ _ _ _ hWH.out.box]; rfl
      go_wp2_with (fail)
      go_loopw [8] (fun i wr => ∃ (k : Nat) (zs : List Card) (v : Value), k ≤ zs.length ∧ i = .int .i64 (k : Int) ∧ SpW w w.heap.size (w.heap.size + 1 + 1) zs v wr ∧ SpJ cs zs k ∧ ∀ c ∈ cs, c ∈ zs) (fun i _ => 82 - (intOf i).toNat)
      case atStart => exact ⟨0, zs, v, Nat.zero_le _, by go_num, hWH.out.keep (by (try simp only [ext_ext]); repeat (first | exact Kept.refl _ | apply Kept.alloc | apply Kept.drew | apply kept_add | apply Kept.ext)), hJH.out, hbase.out⟩
      case round =>
        obtain ⟨w0, hw0⟩ : ∃ w0, w0 = wr := ⟨_, rfl⟩
        subst hw0
        obtain ⟨k, zs, v, hk, rfl, hW, hJ, hb⟩ := hrel
        obtain ⟨g, cp, rfl, hxz, hcp⟩ := hW.form
        have hWH := hid hW
        have hJH := hid hJ
        have hbH := hid hb
        have hxzH := hid hxz
        have hz81 := hJ.len
        obtain ⟨m, hm⟩ : ∃ m, m = zs.length := ⟨_, rfl⟩
        have hmH := hid hm
        have hbx : w0.cell? ⟨w.heap.size + 1 + 1, 0, none⟩ = some (.slice (some ⟨g, 0, none⟩) m cp) := by rw [cell_of_row _ _ _ _ _ _ hW.box, hm]; rfl
        have hlo : w.heap.size + 1 + 1 < w0.heap.size := hW.lto
        rw [← hm] at hk hz81
        by_cases hlt : k < m
        · clear hW hJ hb hxz hm
          go_wp2_with (fail)
          go_loopw [30] (fun i wr => ∃ (b : Nat) (ys : List Card) (v : Value), b ≤ k ∧ k < ys.length ∧ i = .int .i64 (b : Int) ∧ SpW w w.heap.size (w.heap.size + 1 + 1) ys v wr ∧ SpJ cs ys k ∧ (∀ c ∈ cs, c ∈ ys) ∧ ∀ b', b' < b → thirdC (cx ys b') (cx ys k) ∈ ys) (fun i _ => k - (intOf i).toNat)
          case atStart => exact ⟨0, zs, _, Nat.zero_le _, by rw [← hmH.out]; exact hlt, by go_num, hWH.out.keep (by (try simp only [ext_ext]); repeat (first | exact Kept.refl _ | apply Kept.alloc | apply Kept.drew | apply kept_add | apply Kept.ext)), hJH.out, hbH.out, fun b' h => by omega⟩
          case round =>
            obtain ⟨b, ys, v, hbk, hky, rfl, hW, hJ, hb, hd⟩ := hrel
            obtain ⟨g, cp, rfl, hxz, hcp⟩ := hW.form
            have hWH := hid hW
            have hJH := hid hJ
            have hbH := hid hb
            have hdH := hid hd
            have hxzH := hid hxz
            have hy81 := hJ.len
            obtain ⟨l, hl⟩ : ∃ l, l = ys.length := ⟨_, rfl⟩
            have hlH := hid hl
            have hbx : wr.cell? ⟨w.heap.size + 1 + 1, 0, none⟩ = some (.slice (some ⟨g, 0, none⟩) l cp) := by rw [cell_of_row _ _ _ _ _ _ hW.box, hl]; rfl
            have hlo : w.heap.size + 1 + 1 < wr.heap.size := hW.lto
            rw [← hl] at hky hy81
            by_cases hlt2 : b < k
            · obtain ⟨_, _, e1, hg, a1, a2, a3, a4⟩ := hxz k (by rw [← hl]; exact hky)
              cases e1
              obtain ⟨_, _, e1, _, b1, b2, b3, b4⟩ := hxz b (by rw [← hl]; omega)
              cases e1
              simp only [Nat.zero_add] at a1 a2 a3 a4 b1 b2 b3 b4
              have hck := hJ.cards _ (cx_mem (by rw [← hl]; exact hky : k < ys.length))
              have hcb := hJ.cards _ (cx_mem (by rw [← hl]; omega : b < ys.length))
              obtain ⟨t, ht⟩ : ∃ t, t = thirdC (cx ys b) (cx ys k) := ⟨_, rfl⟩
              have htC : isCard t = true := by rw [ht]; exact isCard_thirdS hcb hck
              have hts : inSpan cs t := by
                rw [ht]
                refine inSpan_third (hJ.sub _ (cx_mem (by rw [← hl]; omega))) (hJ.sub _ (cx_mem (by rw [← hl]; omega))) fun e => ?_
                have := nodup_dist.1 hJ.nodup b k (by rw [← hl]; omega) (by rw [← hl]; omega) e
                omega
              have hT := hid (fun w' => third_any (cx ys b) (cx ys k) hcb hck w')
              rw [← ht] at hT
              have htH := hid ht
              have hP := hid (fun (w' : World) (hk : Kept wr w') => put_any w w.heap.size (w.heap.size + 1 + 1) ys _ t w' (hWH.out.keep hk) htC hJH.out.len)
              have hnx := hid (hJH.out.put (by rw [← hl]; omega) htC hts)
              have hbl : b < l := by omega
              clear hW hJ hb hd hxz hl ht hts
              go_wp2_with (first | (go_at_call 56; refine Calls.mono (hP.out _ (by (try simp only [ext_ext]); repeat (first | exact Kept.refl _ | apply Kept.alloc | apply Kept.drew | apply kept_add | apply Kept.ext))) ?_; rintro e w1 ⟨rfl, v1, hW1⟩) | (refine wp_region_ext_tail 10 (by kernel_rfl) (by kernel_rfl) ?_; simp only [List.take_succ_cons, List.take_zero, List.drop_succ_cons, List.drop_zero]; (repeat (go_big_quiet_step (((go_at_call 49; first | exact ext_call (hT.out _) | exact ext_call2 (hT.out _)))))); refine wpQuiet_tail fun z => ?_))
              go_roundw
              case rel => exact ⟨b + 1, _, v1, by omega, Nat.lt_of_lt_of_le (by rw [← hlH.out]; exact hky) (putE_le _ _), by go_num, hW1, hnx.out, fun c hc => putE_sub (hbH.out c hc), fun b' hb' => by
                rw [putE_cx _ _ (by rw [← hlH.out]; omega), putE_cx _ _ (by rw [← hlH.out]; omega)]
                by_cases e : b' < b
                · exact putE_sub (hdH.out b' e)
                · rw [show b' = b by omega, ← htH.out]; exact putE_mem _ _⟩
              case measure => simp [intOf]; omega
            · obtain rfl : b = k := by omega
              have hnx := hid (hJ.next hd)
              clear hW hJ hb hd hxz hl
              go_wp2_with (fail)
              go_roundw
              case rel => exact ⟨b + 1, ys, _, by rw [← hlH.out]; omega, by go_num, hWH.out.keep (by (try simp only [ext_ext]); repeat (first | exact Kept.refl _ | apply Kept.alloc | apply Kept.drew | apply kept_add | apply Kept.ext)), hnx.out, hbH.out⟩
              case measure => simp [intOf]; omega
        · have hkm : k = zs.length := by rw [← hm]; omega
          have hsp := hid (show srt zs = spanC cs from srt_span hJ.cards hb hJ.sub (fun a b hab ha => hJ.done a b hab (by omega)))
          have hnd := hid (nodup_dist.1 hJ.nodup)
          have hSo := hid (fun (w' : World) (hk : Kept w0 w') => sorted_any g 0 cp m zs w' (hxz.kept hk) hm.symm hJ.cards (by omega))
          clear hW hJ hb hxz hm hkm
          go_wp2_with (fail)
          (go_at_call 50; refine Calls.mono (hSo.out _ (by (try simp only [ext_ext]); repeat (first | exact Kept.refl _ | apply Kept.alloc | apply Kept.drew | apply kept_add | apply Kept.ext))) ?_; rintro e w9 ⟨zz, vv, rfl, ho9, k9, h9, _⟩)
          have h9H := hid (h9 hnd.out)
          have ho9H := hid (OwnC.mono ho9 ((hWH.out.kept.trans (show Kept w0 _ from (by (try simp only [ext_ext]); repeat (first | exact Kept.refl _ | apply Kept.alloc | apply Kept.drew | apply kept_add | apply Kept.ext)))).below.size))
          have k9H := hid ((hWH.out.kept.trans (show Kept w0 _ from (by (try simp only [ext_ext]); repeat (first | exact Kept.refl _ | apply Kept.alloc | apply Kept.drew | apply kept_add | apply Kept.ext)))).trans k9)
          clear h9 ho9 k9 hSo
          go_wp2_with (fail)
          refine bodyPost_ret (v := vv) (by simp [results, Try.results40, go_sem]) rfl ?_
          rw [← hsp.out, ← h9H.out]
          exact ⟨vv, rfl, ho9H.out, k9H.out⟩
end Go.Proofs.Ytmdnnejaipdkhaa
