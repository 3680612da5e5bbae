/- Contracts: impl.span. -/
import Derived.Test.YtenmnipgnjaheaaT77
import Derived.Test.YtenmnipgnjaheaaT18
namespace Go.Proofs.Ytenmnipgnjaheaa
open Go.RowKit
def tabB (f : Nat → Bool) : Array Value := ((List.range 81).map fun i => Value.bool (f i)).toArray
theorem tabB_size (f : Nat → Bool) : (tabB f).size = 81 := by simp [tabB]
theorem tabB_get {i : Nat} (f : Nat → Bool) (h : i < 81) : (tabB f)[i]? = some (.bool (f i)) := by simp [tabB, h]
theorem tabB_set {i : Nat} (f f' : Nat → Bool) (b : Bool) (h : ∀ j, j < 81 → f' j = if j = i then b else f j) : (tabB f).setIfInBounds i (.bool b) = tabB f' := by
  apply Array.ext_getElem?
  intro j
  by_cases hj : j < 81
  · rw [tabB_get _ hj, Array.getElem?_setIfInBounds, tabB_size, tabB_get _ hj, h j hj]
    by_cases hi : i = j
    · subst hi; simp [hj]
    · simp [hi, Ne.symm hi]
  · rw [Array.getElem?_eq_none (by simp [tabB_size]; omega), Array.getElem?_eq_none (by rw [tabB_size]; omega)]
theorem tabB_one (f : Nat → Bool) : (tabB f).all (·.oneCell') = true := by
  rw [Array.all_eq_true_iff_forall_mem]
  intro v hv
  simp [tabB] at hv
  obtain ⟨i, _, rfl⟩ := hv
  rfl
theorem setRow_allocB (W : World) (cs ds : Array Value) (t : TypeId) : (W.alloc (.cells cs t)).setRow W.heap.size ds = W.alloc (.cells ds t) := by
  unfold World.setRow World.alloc
  simp only
  congr 1
  apply Array.ext_getElem?
  intro i
  rw [Array.getElem?_modify, Array.getElem?_push, Array.getElem?_push]
  by_cases hi : i = W.heap.size
  · subst hi; simp
  · rw [if_neg (Ne.symm hi), if_neg hi, if_neg hi]
theorem wpList_tabB_build {ops : Array Oper} {rest : List Oper} {o : Oper} {a : Act} {w : World} {Q : Exit → Act → World → Prop} (hg : o.guard = none) (ho : o.op = .build 62 #[])
    (h : wpList Try.prog ops Q rest (a.put o.dst (.agg (tabB fun _ => false))) w) : wpList Try.prog ops Q (o :: rest) a w := by
  have e : Try.prog.built 62 [] = some (tabB fun _ => false) := by kernel_rfl
  refine wpList_build hg 62 #[] ho ?_ ?_
  · simp [e]
  · simpa [e] using h
theorem wpList_tabB_alloc {ops : Array Oper} {rest : List Oper} {o : Oper} {a : Act} {w : World} {Q : Exit → Act → World → Prop} (hg : o.guard = none) (ho : o.op = .alloc 62)
    (h : wpList Try.prog ops Q rest (a.put o.dst (.pointer (some ⟨w.heap.size, 0, none⟩))) (w.alloc (.cells (tabB fun _ => false) 62))) : wpList Try.prog ops Q (o :: rest) a w := by
  have e : (Instr.alloc 62 true (.tuple #[])).run Try.prog w = .ok (.pointer (some ⟨w.heap.size, 0, none⟩)) (w.alloc (.cells (tabB fun _ => false) 62)) := by kernel_rfl
  refine wpList_plain hg fun _ hK => ?_
  unfold Oper.wp execOp
  simp only [ho, Sem.run_bind, e, Result.andThen_ok]
  exact hK _ _ h
theorem tabB_info : (Try.prog.info? 62).map (·.size) = some 81 := by kernel_rfl
theorem wpList_tabB_store {ops : Array Oper} {rest : List Oper} {o : Oper} {a : Act} {w : World} {Q : Exit → Act → World → Prop} (hg : o.guard = none) (x y : Operand) (ho : o.op = .store 62 x y)
    (f f' : Nat → Bool) (hx : a.eval x = .pointer (some ⟨w.heap.size, 0, none⟩)) (hy : a.eval y = .agg (tabB f'))
    (h : wpList Try.prog ops Q rest (a.put o.dst undef) (w.alloc (.cells (tabB f') 62))) : wpList Try.prog ops Q (o :: rest) a (w.alloc (.cells (tabB f) 62)) := by
  refine wpList_store_row hg 62 x y ho w.heap.size (tabB f') hx hy 62 (tabB f) (heap_at rfl) ?_ ?_ (tabB_one _) ?_
  · rw [tabB_size]; exact tabB_info
  · rw [tabB_size, tabB_size]
  · rw [setRow_allocB]; exact h
def inF (zs : List Card) (n : Nat) : Bool := decide (cardN (n : Int) ∈ zs)
theorem inF_next {zs : List Card} {c : Card} {n : Nat} (hc : isCard c = true) (hn : numC c = (n : Int)) (j : Nat) : inF (zs ++ [c]) j = if j = n then true else inF zs j := by
  unfold inF
  have hcn : cardN (n : Int) = c := by rw [← hn]; exact cardN_numC hc
  by_cases h : j = n
  · subst h; rw [if_pos rfl, hcn]; simp
  · rw [if_neg h]
    have : ¬ cardN (j : Int) = c := fun e => h (by
      have := congrArg numC e
      rw [numC_cardN, hn] at this
      omega)
    simp [this]
theorem inF_card {zs : List Card} {c : Card} {n : Nat} (hc : isCard c = true) (hn : numC c = (n : Int)) : inF zs n = decide (c ∈ zs) := by
  unfold inF
  rw [← hn, cardN_numC hc]
/-- What stands in memory while a span is being built. -/
structure SpW (W : World) (gi go : Nat) (zs : List Card) (v : Value) (w : World) : Prop where
  tin : w.heap[gi]? = some (.cells (tabB (inF zs)) 62 (0, 0))
  box : w.heap[go]? = some (.cells #[v] 22 (0, 0))
  own : OwnC W.heap.size w v zs
  ptr : v.ownBlock.isSome = true
  kept : Kept W w
  hgi : W.heap.size ≤ gi
  hgo : W.heap.size ≤ go
theorem SpW.lti {W w : World} {gi go : Nat} {zs : List Card} {v : Value} (h : SpW W gi go zs v w) : gi < w.heap.size := (Array.getElem?_eq_some_iff.1 h.tin).1
theorem SpW.lto {W w : World} {gi go : Nat} {zs : List Card} {v : Value} (h : SpW W gi go zs v w) : go < w.heap.size := (Array.getElem?_eq_some_iff.1 h.box).1
theorem SpW.ne {W w : World} {gi go : Nat} {zs : List Card} {v : Value} (h : SpW W gi go zs v w) : gi ≠ go := fun e => by
  have a := h.tin
  rw [e, h.box] at a
  simp at a
theorem own_tag {B : Nat} {w : World} {v : Value} {zs : List Card} (h : OwnC B w v zs) {g : Nat} (hv : v.ownBlock = some g) : ∃ cur, w.heap[g]? = some (.cells cur T4 (0, 0)) := by
  rcases h.2 with ⟨rfl, _⟩ | ⟨g', cap, cur, rfl, _, hg, _⟩
  · cases hv
  · cases hv; exact ⟨cur, hg⟩
theorem SpW.vi {W w : World} {gi go : Nat} {zs : List Card} {v : Value} (h : SpW W gi go zs v w) {g : Nat} (hv : v.ownBlock = some g) : g ≠ gi ∧ g ≠ go := by
  obtain ⟨cur, hc⟩ := own_tag h.own hv
  constructor
  · rintro rfl; rw [h.tin] at hc; simp at hc; exact absurd hc.2 (by decide)
  · rintro rfl; rw [h.box] at hc; simp at hc; exact absurd hc.2 (by decide)
theorem SpW.form {W w : World} {gi go : Nat} {zs : List Card} {v : Value} (h : SpW W gi go zs v w) : ∃ g cp, v = .slice (some ⟨g, 0, none⟩) zs.length cp ∧ CardsAt w (some ⟨g, 0, none⟩) zs ∧ zs.length ≤ cp := by
  rcases h.own.2 with ⟨e, _⟩ | ⟨g, cp, cur, e, _⟩
  · have := h.ptr; rw [e] at this; cases this
  · have ho := h.own
    rw [e] at ho
    exact ⟨g, cp, e, ho.cardsN rfl, ho.capN rfl⟩
theorem SpW.keep {W w w' : World} {gi go : Nat} {zs : List Card} {v : Value} (h : SpW W gi go zs v w) (hk : Kept w w') : SpW W gi go zs v w' :=
  ⟨(hk.below.block gi h.lti).trans h.tin, (hk.below.block go h.lto).trans h.box, h.own.kept hk, h.ptr, h.kept.trans hk, h.hgi, h.hgo⟩
theorem SpW.mark {W w w2 : World} {gi go n : Nat} {zs : List Card} {v : Value} (h : SpW W gi go zs v w) (hk : Kept (w.setCell ⟨gi, n, none⟩ (.bool true)) w2) : OwnC W.heap.size w2 v zs ∧ Kept W w2 ∧ w2.heap[go]? = some (.cells #[v] 22 (0, 0)) := by
  have hg : w.grownBy (w.setCell ⟨gi, n, none⟩ (.bool true)) (some gi) := grown_setCell (grown_refl _ _) (p := ⟨gi, n, none⟩) rfl _
  refine ⟨(h.own.grown hg fun g hv e => (h.vi hv).1 (Option.some.inj e).symm).kept hk, (h.kept.setCell h.hgi _).trans hk, ?_⟩
  rw [hk.below.block go (by simpa using h.lto)]
  rw [heap_setCell_other _ _ _ _ (fun e => h.ne e.symm)]
  exact h.box
theorem SpW.box3 {W w w2 w3 : World} {gi go n : Nat} {zs : List Card} {v : Value} (h : SpW W gi go zs v w) (hk : Kept (w.setCell ⟨gi, n, none⟩ (.bool true)) w2) (hg : w2.grownBy w3 v.ownBlock) : w3.cell? ⟨go, 0, none⟩ = some v ∧ w3.frozen? ⟨go, 0, none⟩ = false := by
  have hs2 : w.heap.size ≤ w2.heap.size := by have := hk.below.size; simpa using this
  obtain ⟨g, hv⟩ := Option.isSome_iff_exists.1 h.ptr
  have b3 : w3.heap[go]? = some (.cells #[v] 22 (0, 0)) := (hg.block go (Nat.lt_of_lt_of_le h.lto hs2) (by rw [hv]; exact fun e => (h.vi hv).2 (Option.some.inj e).symm)).trans (h.mark hk).2.2
  exact ⟨by rw [cell_of_row _ _ _ _ _ _ b3]; rfl, frozen_of_row _ _ _ _ _ b3⟩
theorem SpW.put {W w w2 w3 : World} {gi go n : Nat} {zs : List Card} {v v' : Value} {c : Card} (h : SpW W gi go zs v w) (hc : isCard c = true) (hn : numC c = (n : Int)) (hk : Kept (w.setCell ⟨gi, n, none⟩ (.bool true)) w2)
    (hown : OwnC W.heap.size w3 v' (zs ++ [c])) (hg : w2.grownBy w3 v.ownBlock) (hat : v'.ownBlock = v.ownBlock ∨ v'.ownBlock = some w2.heap.size) : SpW W gi go (zs ++ [c]) v' (w3.setCell ⟨go, 0, none⟩ v') := by
  obtain ⟨ho2, hk2, hb2⟩ := h.mark hk
  have hs2 : w.heap.size ≤ w2.heap.size := by have := hk.below.size; simpa using this
  obtain ⟨g, hv⟩ := Option.isSome_iff_exists.1 h.ptr
  have hne := h.vi hv
  have t2 : w2.heap[gi]? = some (.cells (tabB (inF (zs ++ [c]))) 62 (0, 0)) := by
    rw [hk.below.block gi (by simpa using h.lti), heap_setCell_same _ _ _ _ _ _ h.tin, tabB_set _ (inF (zs ++ [c])) _ (fun j _ => inF_next hc hn j)]
  have t3 : w3.heap[gi]? = w2.heap[gi]? := hg.block gi (Nat.lt_of_lt_of_le h.lti hs2) (by rw [hv]; exact fun e => hne.1 (Option.some.inj e).symm)
  have b3 : w3.heap[go]? = w2.heap[go]? := hg.block go (Nat.lt_of_lt_of_le h.lto hs2) (by rw [hv]; exact fun e => hne.2 (Option.some.inj e).symm)
  have hv' : ∀ g', v'.ownBlock = some g' → g' ≠ go := fun g' e => by
    rcases hat with a | a
    · rw [a, hv] at e; cases e; exact hne.2
    · rw [a] at e; cases e; have := h.lto; omega
  refine ⟨?_, ?_, hown.grown (grown_setCell (grown_refl _ _) (p := ⟨go, 0, none⟩) rfl _) (fun g' e a => hv' g' e (Option.some.inj a).symm), ?_, ?_, h.hgi, h.hgo⟩
  · rw [heap_setCell_other _ _ _ _ h.ne, t3, t2]
  · rw [heap_setCell_same _ _ _ _ _ _ (b3.trans hb2)]; rfl
  · rcases hat with a | a
    · rw [a]; exact h.ptr
    · rw [a]; rfl
  · exact (hk2.grown hg (fun k e => (ho2.lt k e).1)).setCell h.hgo _
end Go.Proofs.Ytenmnipgnjaheaa
