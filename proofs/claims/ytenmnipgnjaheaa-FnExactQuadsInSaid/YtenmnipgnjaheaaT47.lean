/- Choices: the lists that a search visits; rows of numbers that lie apart from two blocks; append onto a full row. -/
import Derived.Test.YtenmnipgnjaheaaT24
import Derived.Deep.RegionHeld3
import Derived.Deep.RegionLawGrows
import Derived.Deep.AppendLies
namespace Go.Proofs.Ytenmnipgnjaheaa
open Go.RowKit
/-- All choices of m more of the last d places of n, behind some, in the order of the search. -/
def chF (n : Nat) : Nat → Nat → List Int → List (List Int)
  | _, 0, l => [l]
  | 0, _ + 1, _ => []
  | d + 1, m + 1, l => chF n d m (l ++ [((n - (d + 1) : Nat) : Int)]) ++ chF n d (m + 1) l
theorem chF_zero (n d : Nat) (l : List Int) : chF n d 0 l = [l] := by cases d <;> rfl
theorem chF_none (n m : Nat) (l : List Int) : chF n 0 (m + 1) l = [] := rfl
theorem chF_next (n d m : Nat) (l : List Int) : chF n (d + 1) (m + 1) l = chF n d m (l ++ [((n - (d + 1) : Nat) : Int)]) ++ chF n d (m + 1) l := rfl
theorem chF_at {n k : Nat} (hk : k < n) (m : Nat) (l : List Int) : chF n (n - k) (m + 1) l = chF n (n - (k + 1)) m (l ++ [(k : Int)]) ++ chF n (n - (k + 1)) (m + 1) l := by
  rw [show n - k = (n - (k + 1)) + 1 by omega, chF_next, show n - (n - (k + 1) + 1) = k by omega]
/-- Where the next place begins. -/
def fromL (l : List Int) : Nat := if l = [] then 0 else (ix l (l.length - 1) + 1).toNat
theorem fromL_app (l : List Int) (k : Nat) : fromL (l ++ [(k : Int)]) = k + 1 := by
  unfold fromL
  rw [if_neg (by simp)]
  have : ix (l ++ [(k : Int)]) ((l ++ [(k : Int)]).length - 1) = k := by simp [ix]
  rw [this]; omega
/-- All blocks but two stand; one of the two may have moved to new memory. -/
def Fr (c : Nat) (r r' : Option Nat) (w w' : World) : Prop :=
  w'.os = w.os ∧ w'.tape = w.tape ∧ w'.output = w.output ∧ w.heap.size ≤ w'.heap.size ∧ (∀ k, k < w.heap.size → k ≠ c → r ≠ some k → w'.heap[k]? = w.heap[k]?) ∧ (r' = r ∨ ∃ g, r' = some g ∧ w.heap.size ≤ g)
theorem Fr.trans {c : Nat} {r r' r'' : Option Nat} {w w' w'' : World} (h : Fr c r r' w w') (k : Fr c r' r'' w' w'') : Fr c r r'' w w'' := by
  obtain ⟨a1, a2, a3, a4, a5, a6⟩ := h
  obtain ⟨b1, b2, b3, b4, b5, b6⟩ := k
  refine ⟨b1.trans a1, b2.trans a2, b3.trans a3, by omega, fun k hk h1 h2 => ?_, ?_⟩
  · rw [b5 k (by omega) h1 ?_, a5 k hk h1 h2]
    rcases a6 with rfl | ⟨g, rfl, hg⟩
    · exact h2
    · intro e; cases e; omega
  · rcases b6 with rfl | ⟨g, rfl, hg⟩
    · exact a6
    · exact .inr ⟨g, rfl, by omega⟩
theorem Kept.fr {c : Nat} {r : Option Nat} {w w' : World} (h : Kept w w') : Fr c r r w w' := ⟨h.below.os, h.below.tape, h.below.output, h.below.size, fun k hk _ _ => h.below.block k hk, .inl rfl⟩
theorem Kept.of_fr {a w w' : World} {c : Nat} {r r' : Option Nat} (h : Kept a w) (hf : Fr c r r' w w') (hc : a.heap.size ≤ c) (hr : ∀ g, r = some g → a.heap.size ≤ g) : Kept a w' := by
  have hb := h.below
  obtain ⟨a1, a2, a3, a4, a5, _⟩ := hf
  refine .of_below ⟨a1.trans hb.os, a2.trans hb.tape, a3.trans hb.output, Nat.le_trans hb.size a4, fun k hk => ?_⟩
  rw [a5 k (Nat.lt_of_lt_of_le hk hb.size) (by omega) (fun e => by have := hr k e; omega)]
  exact hb.block k hk
/-- A slice that reads as numbers and lies in neither of two blocks. -/
def ListAt (c : Nat) (r : Option Nat) (w : World) (v : Value) (l : List Int) : Prop :=
  (v = .slice none 0 0 ∧ l = []) ∨ ∃ g off cap, v = .slice (some ⟨g, off, none⟩) l.length cap ∧ g ≠ c ∧ r ≠ some g ∧ g < w.heap.size ∧ IntsAt w (some ⟨g, off, none⟩) l ∧ l.length ≤ cap
theorem ints_block {w w' : World} {g off : Nat} {l : List Int} (h : IntsAt w (some ⟨g, off, none⟩) l) (hs : w.heap.size ≤ w'.heap.size) (hb : w'.heap[g]? = w.heap[g]?) : IntsAt w' (some ⟨g, off, none⟩) l := by
  intro i hi
  obtain ⟨g', off', he, hg, h1⟩ := h i hi
  cases he
  exact ⟨g, off, rfl, Nat.lt_of_lt_of_le hg hs, (cell_block hb _).trans h1⟩
theorem ListAt.fr {c : Nat} {r r' : Option Nat} {w w' : World} {v : Value} {l : List Int} (h : ListAt c r w v l) (hf : Fr c r r' w w') : ListAt c r' w' v l := by
  obtain ⟨_, _, _, a4, a5, a6⟩ := hf
  rcases h with h | ⟨g, off, cap, rfl, h1, h2, h3, h4, h5⟩
  · exact .inl h
  · refine .inr ⟨g, off, cap, rfl, h1, ?_, Nat.lt_of_lt_of_le h3 a4, ints_block h4 a4 (a5 g h3 h1 h2), h5⟩
    rcases a6 with rfl | ⟨q, rfl, hq⟩
    · exact h2
    · intro e; cases e; omega
theorem ListAt.kept {c : Nat} {r : Option Nat} {w w' : World} {v : Value} {l : List Int} (h : ListAt c r w v l) (hk : Kept w w') : ListAt c r w' v l := h.fr hk.fr
theorem ListAt.ints {c : Nat} {r : Option Nat} {w : World} {ao : Option Addr} {n cap : Nat} {l : List Int} (h : ListAt c r w (.slice ao n cap) l) : IntsAt w ao l := by
  rcases h with ⟨e, e2⟩ | ⟨g, off, cap', e, _, _, _, h3, _⟩
  · rw [e2]; exact fun i hi => by simp at hi
  · cases e; exact h3
theorem ListAt.form {c : Nat} {r : Option Nat} {w : World} {v : Value} {l : List Int} (h : ListAt c r w v l) : ∃ ao cap, v = .slice ao l.length cap ∧ l.length ≤ cap := by
  rcases h with ⟨rfl, rfl⟩ | ⟨g, off, cap, rfl, _, _, _, _, h5⟩
  · exact ⟨none, 0, rfl, Nat.le_refl _⟩
  · exact ⟨_, _, rfl, h5⟩
theorem OwnI.list {B c : Nat} {r : Option Nat} {w : World} {v : Value} {l : List Int} (h : OwnI B w v l) (hc : c < B) (hr : ∀ g, r = some g → g < B) : ListAt c r w v l := by
  obtain ⟨ao, cap, hv, hx, hl⟩ := h.reads
  rcases h.2 with ⟨rfl, h0⟩ | ⟨g, cap', cur, rfl, hb, hg, _⟩
  · exact .inl ⟨rfl, List.eq_nil_of_length_eq_zero h0⟩
  · cases hv
    exact .inr ⟨g, 0, _, rfl, by omega, fun e => by have := hr g e; omega, (Array.getElem?_eq_some_iff.1 hg).1, hx, hl⟩
theorem wpList_append_intF {ops : Array Oper} {rest : List Oper} {o : Oper} {a : Act} {Q : Exit → Act → World → Prop} {w : World} (hgd : o.guard = none) (s x : Operand)
    (ho : o.op = .call { callee := .builtin .append, args := #[s, x], argTypes := #[33, 33] }) (b : List Int) (n : Nat) (hn : b.length = n) (c : Nat) (r : Option Nat) (cp : Nat) (ao : Option Addr) (hp : ListAt c r w (.slice ao n cp) b) (hs : a.eval s = .slice ao n n)
    (g cap : Nat) (l : Int) (hx : a.eval x = .slice (some ⟨g, 0, none⟩) 1 cap) (hc : w.cell? ⟨g, 0, none⟩ = some (.int .i64 l)) (hl : b.length ≤ 1048576)
    (h : ∀ v' w', OwnI w.heap.size w' v' (b ++ [l]) → Kept w w' → wpList Try.prog ops Q rest (a.put o.dst v') w') : wpList Try.prog ops Q (o :: rest) a w := by
  obtain ⟨i, hi, hz, hsz, hb⟩ := info_parts info_i64
  subst hn
  refine wpList_append_grows w hgd s x 33 ho 3 i _ 1 8 Try.underlying33 hi hz hsz hb rfl (by decide) ao b.length b.length (vals1 b) hs ?_ (by simp [vals1]) ?_ ⟨g, 0, none⟩ 1 cap
    [.int .i64 l] hx rfl ?_ ?_ (by omega) (by unfold maxLen; omega) (by omega) ?_
  · intro e
    rcases hp with ⟨hv, hb0⟩ | ⟨g', off, cap', hv, _⟩
    · rw [hb0]; exact ⟨rfl, rfl⟩
    · rw [e] at hv; cases hv
  · intro bb e j u hj
    rcases hp with ⟨hv, hb0⟩ | ⟨g', off, cap', hv, _, _, _, hL, _⟩
    · rw [e] at hv; cases hv
    · rw [e] at hv; cases hv
      rw [Addr.add_lit]
      have hlt : j < b.length := by
        have := (List.getElem?_eq_some_iff.1 hj).1
        simpa [vals1] using this
      obtain ⟨_, _, he, _, h1⟩ := hL j hlt
      cases he
      rw [h1]
      rw [← hj, ix_get _ _ hlt]
      simp [vals1, hlt]
  · intro j u hj
    match j, hj with
    | 0, hj => simp at hj; subst hj; exact hc
    | j + 1, hj => simp at hj
  · intro u hu
    simp at hu
    rcases hu with rfl; rfl
  · intro v' w' hown hg
    refine h v' w' ?_ ((Kept.refl w).grown hg fun k hk => by cases hk)
    unfold OwnI
    rw [List.length_append]
    simpa [vals1] using hown
theorem pre_mem {α : Type} {h t : List α} {p : α} (hp : h ++ [p] <+: t) : p ∈ t := by
  obtain ⟨s, rfl⟩ := hp; simp
theorem pre_len {α : Type} {h t : List α} {p : α} (hp : h ++ [p] <+: t) : h.length < t.length := by
  obtain ⟨s, rfl⟩ := hp; simp
end Go.Proofs.Ytenmnipgnjaheaa
