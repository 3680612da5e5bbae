/- Words that the walks and the plain laws share: cards, a number within bounds, memory that stands below a block number. Slices of cards in memory. Arguments read as data: arrays of ints, slices of arrays of ints, opened for the walks; the row's last step for laws that leave memory as it was. -/
import Derived.WalkKit
import Derived.WalkSpells
import Derived.WalkLawsBesides
import Derived.Deep.QuietTactic
import Derived.BigQuiet
import Derived.ProofKit
import Derived.OpenShut
import Derived.Deep.Slices
namespace Go.Proofs.Ytjlaoocomkonhaa
open Go.RowKit

theorem hid {p : Prop} (h : p) : Hid p := h

/-- A number within bounds. -/
def inB (n lo hi : Int) : Bool := decide (lo ≤ n ∧ n ≤ hi)
theorem inB_t {n lo hi : Int} (h : lo ≤ n) (h' : n ≤ hi) : inB n lo hi = true := decide_eq_true ⟨h, h'⟩
theorem inB_f1 {n lo hi : Int} (h : n < lo) : inB n lo hi = false := decide_eq_false (by omega)
theorem inB_f2 {n lo hi : Int} (h : hi < n) : inB n lo hi = false := decide_eq_false (by omega)
theorem inB_of {n lo hi : Int} (h : inB n lo hi = true) : lo ≤ n ∧ n ≤ hi := of_decide_eq_true h
theorem inB_not {n lo hi : Int} (h : inB n lo hi = false) : n < lo ∨ hi < n := by have := of_decide_eq_false h; omega
theorem inB_eq (n lo hi : Int) (h : lo ≤ n) : inB n lo hi = decide (n ≤ hi) := by simp [inB, h]

/-- A card, or any four numbers. -/
structure Card where
  a : Int
  b : Int
  c : Int
  d : Int
  deriving DecidableEq

abbrev Card.v (x : Card) : Value := .agg #[.int .i64 x.a, .int .i64 x.b, .int .i64 x.c, .int .i64 x.d]
def isCard (x : Card) : Bool := inB x.a 0 2 && inB x.b 0 2 && inB x.c 0 2 && inB x.d 0 2
theorem isCard_of {x : Card} (h : isCard x = true) : (0 ≤ x.a ∧ x.a ≤ 2) ∧ (0 ≤ x.b ∧ x.b ≤ 2) ∧ (0 ≤ x.c ∧ x.c ≤ 2) ∧ (0 ≤ x.d ∧ x.d ≤ 2) := by
  simp only [isCard, Bool.and_eq_true] at h
  exact ⟨inB_of h.1.1.1, inB_of h.1.1.2, inB_of h.1.2, inB_of h.2⟩

theorem ibeq (a b : Int) : (a == b) = decide (a = b) := rfl
theorem nbeq (a b : Nat) : ((a : Int) == (b : Int)) = decide (a = b) := by rw [ibeq]; exact decide_eq_decide.2 Int.ofNat_inj
theorem nbeq6 (a : Nat) : ((a : Int) == 6) = decide (a = 6) := nbeq a 6

/-- An ending by a value. -/
theorem ret_of {a b : Value} (h : a = b) : Ending.returned a = .returned b := by rw [h]

/-! ### Old memory stands: the world with more blocks behind the old ones, and other draws. -/
structure More where
  os : List Obj
  n : Nat
  deriving Inhabited
def More.add (x y : More) : More := ⟨x.os ++ y.os, y.n⟩
def More.bump (x : More) : More := ⟨x.os, x.n + 1⟩
def ext (W : World) (x : More) : World := { W with heap := W.heap ++ x.os.toArray, drawn := x.n }
/-- Nothing that was there has turned. -/
def Kept (W w' : World) : Prop := ∃ x, w' = ext W x

theorem ext_below (W : World) (x : More) : Below W.heap.size W (ext W x) :=
  ⟨rfl, rfl, rfl, by simp [ext], fun k hk => by simp only [ext]; rw [Array.getElem?_append_left hk]⟩
theorem Kept.below {W w' : World} (h : Kept W w') : Below W.heap.size W w' := by
  obtain ⟨x, rfl⟩ := h
  exact ext_below W x
theorem Kept.of_below {W w' : World} (h : Below W.heap.size W w') : Kept W w' := by
  obtain ⟨heap, tape, drawn, os, output⟩ := w'
  obtain ⟨h1, h2, h3, h4, h5⟩ := h
  simp only at h1 h2 h3 h4 h5
  refine ⟨⟨heap.toList.drop W.heap.size, drawn⟩, ?_⟩
  simp only [ext, h1, h2, h3, World.mk.injEq, and_true]
  apply Array.ext'
  rw [Array.toList_append]
  have e : W.heap.toList = heap.toList.take W.heap.size := by
    apply List.ext_getElem?
    intro k
    by_cases hk : k < W.heap.size
    · have := h5 k hk
      rw [List.getElem?_take, if_pos hk]
      simpa using this.symm
    · rw [List.getElem?_take, if_neg hk]
      simp; omega
  rw [e]
  simp
theorem Kept.refl (W : World) : Kept W W := .of_below (Below.refl _ _)
theorem Kept.trans {a b c : World} (h : Kept a b) (k : Kept b c) : Kept a c := .of_below (h.below.trans (k.below.mono h.below.size))
theorem Kept.alloc {a w : World} (h : Kept a w) (o : Obj) : Kept a (w.alloc o) := .of_below (h.below.alloc h.below.size o)
theorem Kept.ext {a w : World} (h : Kept a w) (x : More) : Kept a (ext w x) := h.trans ⟨x, rfl⟩
theorem Kept.drew {a w : World} (h : Kept a w) : Kept a w.drew := .of_below h.below.drew
theorem Kept.setCell {a w : World} (h : Kept a w) {p : Addr} (hp : a.heap.size ≤ p.block) (u : Value) : Kept a (w.setCell p u) := .of_below (h.below.setCell hp u)
theorem Kept.grown {a w w' : World} {row : Option Nat} (h : Kept a w) (hg : w.grownBy w' row) (hr : ∀ k, row = some k → a.heap.size ≤ k) : Kept a w' := .of_below (h.below.grown hg h.below.size hr)

section
variable (W : World) (x y : More)
@[go_sem] theorem ext_cell (b o : Nat) (h : b < W.heap.size) : (ext W x).cell? ⟨b, o, none⟩ = W.cell? ⟨b, o, none⟩ := (ext_below W x).cell (p := ⟨b, o, none⟩) h
@[go_sem] theorem ext_frozen (b o : Nat) (h : b < W.heap.size) : (ext W x).frozen? ⟨b, o, none⟩ = W.frozen? ⟨b, o, none⟩ := (ext_below W x).frozen (p := ⟨b, o, none⟩) h
@[go_sem, simp] theorem ext_size : (ext W x).heap.size = W.heap.size + x.os.length := by simp [ext]
theorem ext_heap (b : Nat) (h : b < W.heap.size) : (ext W x).heap[b]? = W.heap[b]? := (ext_below W x).block b h
@[go_sem] theorem ext_ext : ext (ext W x) y = ext W (x.add y) := by simp [ext, More.add]
@[go_sem] theorem ext_drew : (ext W x).drew = ext W x.bump := rfl
@[go_sem] theorem ext_of_drew : ext W.drew x = ext W x := rfl
@[go_sem] theorem ext_setCell (b o : Nat) (v : Value) (h : b < W.heap.size) : (ext W x).setCell ⟨b, o, none⟩ v = ext (W.setCell ⟨b, o, none⟩ v) x := by
  unfold ext World.setCell
  simp only
  congr 1
  apply Array.ext_getElem?
  intro k
  simp only [Array.getElem?_modify, Array.getElem?_append, Array.size_modify]
  by_cases hk : b = k
  · subst hk; simp [h]
  · simp [hk]
end

theorem kept_add {a W : World} {x y : More} (h : Kept a (ext W x)) : Kept a (ext W (x.add y)) := by rw [← ext_ext]; exact h.ext y

/-- A block's number stays below what has grown. -/
@[go_sem] theorem lt_more {a b c : Nat} (h : a < b) : (a < b + c) = True := eq_true (Nat.lt_add_right c h)
@[go_sem] theorem le_more {a b c : Nat} (h : a < b) : (a ≤ b + c) = True := eq_true (by omega)
@[go_sem] theorem lt_more2 {a b c d : Nat} (h : a < b) : (a < b + c + d) = True := eq_true (by omega)
@[go_sem] theorem le_more2 {a b c d : Nat} (h : a < b) : (a ≤ b + c + d) = True := eq_true (by omega)
@[go_sem] theorem lt_more3 {a b c d e : Nat} (h : a < b) : (a < b + c + d + e) = True := eq_true (by omega)
@[go_sem] theorem le_more3 {a b c d e : Nat} (h : a < b) : (a ≤ b + c + d + e) = True := eq_true (by omega)
@[go_sem] theorem lt_more4 {a b c d e f : Nat} (h : a < b) : (a < b + c + d + e + f) = True := eq_true (by omega)
@[go_sem] theorem le_more4 {a b c d e f : Nat} (h : a < b) : (a ≤ b + c + d + e + f) = True := eq_true (by omega)
@[go_sem] theorem le_of_less {a b : Nat} (h : a < b) : (a ≤ b) = True := eq_true (by omega)
@[go_sem] theorem lt_succ_more {a c : Nat} : (a < a + 1 + c) = True := eq_true (by omega)
@[go_sem] theorem lt_one_more {a c : Nat} : (a < a + c + 1) = True := eq_true (by omega)

/-! ### A region that draws its order, whose operations read old memory and whose calls leave it as it was. -/
theorem wp_region_ext {P : Program} {id : Nat} {Q : Exit → Act → World → Prop} {a : Act} {w : World} {l : List Oper} (hm : P.follows .mixedOrders = true) (hB : Region.lexB .any l.toArray = true)
    (h : wpQuiet P l.toArray (fun w' => ∃ x, w' = ext w x) (fun a' => ∀ w', (∃ x, w' = ext w x) → Q .normal a' w') l a) : (Code.region id l.toArray true).wp P Q a w :=
  wp_region_quiet (C := fun w' => ∃ x, w' = ext w x) hm hB (Kept.refl w).drew (by simpa using h)
theorem wpQuiet_end {P : Program} {ops : Array Oper} {w : World} {a : Act} {Q : Act → World → Prop} (h : ∀ x, Q a (ext w x)) : wpQuiet P ops (fun w' => ∃ x, w' = ext w x) (fun a' => ∀ w', (∃ x, w' = ext w x) → Q a' w') [] a :=
  wpQuiet_nil (fun _ ⟨x, hx⟩ => hx ▸ h x)
theorem ext_call {P : Program} {f : FuncId} {args : Array Value} {w : World} {x : More} {v : Value}
    (h : Calls P f args (ext w x) fun e w' => e = .returned v ∧ Kept (ext w x) w') : Calls P f args (ext w x) fun e w'' => e = .returned v ∧ ∃ y, w'' = ext w y :=
  h.mono fun _ _ ⟨he, hb⟩ => ⟨he, (Kept.trans ⟨x, rfl⟩ hb)⟩
theorem ext_call2 {P : Program} {f : FuncId} {args : Array Value} {w : World} {u x : More} {v : Value}
    (h : Calls P f args (ext w (u.add x)) fun e w' => e = .returned v ∧ Kept (ext w (u.add x)) w') : Calls P f args (ext w (u.add x)) fun e w'' => e = .returned v ∧ ∃ y, w'' = ext w (u.add y) :=
  h.mono fun _ _ ⟨he, y, hb⟩ => ⟨he, x.add y, by rw [hb, ext_ext]; simp [ext, More.add]⟩
theorem ext_call_same2 {P : Program} {f : FuncId} {args : Array Value} {w : World} {u x : More} {v : Value}
    (h : Calls P f args (ext w (u.add x)) fun e w' => e = .returned v ∧ ext w (u.add x) = w') : Calls P f args (ext w (u.add x)) fun e w'' => e = .returned v ∧ ∃ y, w'' = ext w (u.add y) :=
  h.mono fun _ _ ⟨he, hb⟩ => ⟨he, x, hb.symm⟩
theorem ext_call_same {P : Program} {f : FuncId} {args : Array Value} {w : World} {x : More} {v : Value}
    (h : Calls P f args (ext w x) fun e w' => e = .returned v ∧ ext w x = w') : Calls P f args (ext w x) fun e w'' => e = .returned v ∧ ∃ y, w'' = ext w y :=
  h.mono fun _ _ ⟨he, hb⟩ => ⟨he, x, hb.symm⟩

/-- The number at a place of a list; 0 behind its end. (A name of its own: the walk does not open it.) -/
def ix (xs : List Int) (i : Nat) : Int := xs.getD i 0
theorem ix_get (xs : List Int) (i : Nat) (h : i < xs.length) : ix xs i = xs[i] := by simp [ix, h]

/-- A slice's address reads as these numbers. -/
def IntsAt (w : World) (ao : Option Addr) (xs : List Int) : Prop :=
  ∀ i, i < xs.length → ∃ g off, ao = some ⟨g, off, none⟩ ∧ g < w.heap.size ∧ w.cell? ⟨g, off + i, none⟩ = some (.int .i64 (ix xs i))

theorem IntsAt.kept {w w' : World} {ao : Option Addr} {xs : List Int} (h : IntsAt w ao xs) (hk : Kept w w') : IntsAt w' ao xs := by
  have hb := hk.below
  intro i hi
  obtain ⟨g, off, ha, hg, hc⟩ := h i hi
  exact ⟨g, off, ha, Nat.lt_of_lt_of_le hg hb.size, (hb.cell (p := ⟨g, off + i, none⟩) hg).trans hc⟩

/-- A block that holds numbers reads as these numbers. -/
theorem intsAt_block {w : World} {g : Nat} {e : TypeId} {fr : Nat × Nat} {xs : List Int} (h : w.heap[g]? = some (.cells (xs.map (Value.int .i64)).toArray e fr)) : IntsAt w (some ⟨g, 0, none⟩) xs := by
  intro i hi
  refine ⟨g, 0, rfl, (Array.getElem?_eq_some_iff.1 h).1, ?_⟩
  rw [Nat.zero_add, cell_of_row w g i _ e fr h]
  simp [ix, hi]

theorem card_all (x : Card) : ([x.a, x.b, x.c, x.d].all fun t => inB t 0 2) = isCard x := by
  simp [isCard, Bool.and_assoc]

/-- The first place of which a test says yes, or -1. -/
def idxOf {α : Type} (p : α → Bool) (xs : List α) : Int := match xs.findIdx? p with | some i => (i : Int) | none => -1

theorem idxOf_some {α : Type} {p : α → Bool} {xs : List α} {d : α} {k : Nat} (hk : k < xs.length) (hp : p (xs.getD k d) = true) (hn : ∀ j, j < k → p (xs.getD j d) = false) : idxOf p xs = k := by
  have e : xs.findIdx? p = some k := by
    rw [List.findIdx?_eq_some_iff_getElem]
    refine ⟨hk, ?_, fun j hj => ?_⟩
    · simpa [List.getD, hk] using hp
    · have := hn j hj
      have hjl : j < xs.length := by omega
      simpa [List.getD, hjl] using this
  simp [idxOf, e]

theorem idxOf_none {α : Type} {p : α → Bool} {xs : List α} {d : α} (hn : ∀ j, j < xs.length → p (xs.getD j d) = false) : idxOf p xs = -1 := by
  have e : xs.findIdx? p = none := by
    rw [List.findIdx?_eq_none_iff]
    intro x hx
    obtain ⟨j, hj, rfl⟩ := List.mem_iff_getElem.1 hx
    have := hn j hj
    simpa [List.getD, hj] using this
  simp [idxOf, e]

theorem idxOf_any {α : Type} (p : α → Bool) (xs : List α) : decide (0 ≤ idxOf p xs) = xs.any p := by
  cases h : xs.findIdx? p with
  | none =>
    have : xs.any p = false := by
      rw [List.findIdx?_eq_none_iff] at h
      simpa [List.any_eq_false] using h
    simp [idxOf, h, this]
  | some i =>
    have : xs.any p = true := by
      obtain ⟨hi, hp, _⟩ := List.findIdx?_eq_some_iff_getElem.1 h
      exact List.any_eq_true.2 ⟨_, List.getElem_mem hi, hp⟩
    simp [idxOf, h, this]

theorem idxOf_le {α : Type} (p : α → Bool) (xs : List α) : -1 ≤ idxOf p xs ∧ idxOf p xs ≤ xs.length := by
  cases h : xs.findIdx? p with
  | none => simp [idxOf, h]
  | some i =>
    obtain ⟨hi, _⟩ := List.findIdx?_eq_some_iff_getElem.1 h
    simp [idxOf, h]; omega

end Go.Proofs.Ytjlaoocomkonhaa
namespace Go.Proofs.Ytjlaoocomkonhaa
open Go.RowKit

/-- The number of a card. -/
def numC (x : Card) : Int := 27 * x.a + 9 * x.b + 3 * x.c + x.d
theorem numC_bd {x : Card} (h : isCard x = true) : 0 ≤ numC x ∧ numC x ≤ 80 := by
  obtain ⟨x1, x2, x3, x4⟩ := isCard_of h
  unfold numC; omega
/-- The card at a place of a list; zeros behind its end. (A name of its own: the walk does not open it.) -/
def cx (cs : List Card) (i : Nat) : Card := cs.getD i ⟨0, 0, 0, 0⟩
theorem cx_get (cs : List Card) (i : Nat) (h : i < cs.length) : cx cs i = cs[i] := by simp [cx, h]
theorem cx_mem {cs : List Card} {i : Nat} (h : i < cs.length) : cx cs i ∈ cs := by rw [cx_get cs i h]; exact List.getElem_mem h

/-- A card's four cells at an address. -/
def CardCells (w : World) (g off : Nat) (x : Card) : Prop :=
  w.cell? ⟨g, off, none⟩ = some (.int .i64 x.a) ∧ w.cell? ⟨g, off + 1, none⟩ = some (.int .i64 x.b) ∧ w.cell? ⟨g, off + 2, none⟩ = some (.int .i64 x.c) ∧ w.cell? ⟨g, off + 3, none⟩ = some (.int .i64 x.d)

/-- A slice's address reads as these cards. -/
def CardsAt (w : World) (ao : Option Addr) (cs : List Card) : Prop :=
  ∀ i, i < cs.length → ∃ g off, ao = some ⟨g, off, none⟩ ∧ g < w.heap.size ∧ CardCells w g (off + i * 4) (cx cs i)

theorem CardsAt.kept {w w' : World} {ao : Option Addr} {cs : List Card} (h : CardsAt w ao cs) (hk : Kept w w') : CardsAt w' ao cs := by
  have hb := hk.below
  intro i hi
  obtain ⟨g, off, ha, hg, h1, h2, h3, h4⟩ := h i hi
  exact ⟨g, off, ha, Nat.lt_of_lt_of_le hg hb.size, (hb.cell (p := ⟨_, _, none⟩) hg).trans h1, (hb.cell (p := ⟨_, _, none⟩) hg).trans h2, (hb.cell (p := ⟨_, _, none⟩) hg).trans h3, (hb.cell (p := ⟨_, _, none⟩) hg).trans h4⟩
/-- The cells of a list of cards. -/
def cells4 (cs : List Card) : List Value := cs.flatMap fun x => [.int .i64 x.a, .int .i64 x.b, .int .i64 x.c, .int .i64 x.d]
theorem cells4_length (cs : List Card) : (cells4 cs).length = cs.length * 4 := by
  induction cs with
  | nil => rfl
  | cons x cs ih => simp only [cells4, List.flatMap_cons, List.length_append, List.length_cons] at ih ⊢; simp only [ih]; simp; omega
theorem cells4_get (cs : List Card) (i : Nat) (h : i < cs.length) :
    (cells4 cs)[i * 4]? = some (.int .i64 (cx cs i).a) ∧ (cells4 cs)[i * 4 + 1]? = some (.int .i64 (cx cs i).b) ∧ (cells4 cs)[i * 4 + 2]? = some (.int .i64 (cx cs i).c) ∧ (cells4 cs)[i * 4 + 3]? = some (.int .i64 (cx cs i).d) := by
  induction cs generalizing i with
  | nil => simp at h
  | cons x cs ih =>
    have e : cells4 (x :: cs) = [.int .i64 x.a, .int .i64 x.b, .int .i64 x.c, .int .i64 x.d] ++ cells4 cs := rfl
    cases i with
    | zero => rw [e]; simp [cx]
    | succ i =>
      have h' := ih i (by simpa using h)
      have ec : cx (x :: cs) (i + 1) = cx cs i := by simp [cx]
      rw [e, ec]
      have l : ∀ j, ([Value.int .i64 x.a, .int .i64 x.b, .int .i64 x.c, .int .i64 x.d] ++ cells4 cs)[(i + 1) * 4 + j]? = (cells4 cs)[i * 4 + j]? := fun j => by
        rw [List.getElem?_append_right (by simp; omega)]
        congr 1
        simp; omega
      exact ⟨(l 0).trans h'.1, (l 1).trans h'.2.1, (l 2).trans h'.2.2.1, (l 3).trans h'.2.2.2⟩
theorem cardsAt_of_cells {w : World} {g off : Nat} {cs : List Card} (hg : g < w.heap.size) (h : ∀ j u, (cells4 cs)[j]? = some u → w.cell? ⟨g, off + j, none⟩ = some u) : CardsAt w (some ⟨g, off, none⟩) cs := by
  intro i hi
  obtain ⟨h1, h2, h3, h4⟩ := cells4_get cs i hi
  exact ⟨g, off, rfl, hg, by simpa using h _ _ h1, by simpa [Nat.add_assoc] using h _ _ h2, by simpa [Nat.add_assoc] using h _ _ h3, by simpa [Nat.add_assoc] using h _ _ h4⟩
/-- A block that begins with the cells of cards reads as these cards. -/
theorem cardsAt_block {w : World} {g : Nat} {e : TypeId} {fr : Nat × Nat} {cs : List Card} (h : w.heap[g]? = some (.cells (cells4 cs).toArray e fr)) : CardsAt w (some ⟨g, 0, none⟩) cs := by
  refine cardsAt_of_cells (Array.getElem?_eq_some_iff.1 h).1 fun j u hu => ?_
  rw [Nat.zero_add, cell_of_row w g j _ e fr h]
  simpa using hu
/-- A row of n cards: first those of a list, behind them zeros. -/
def rowC (cs : List Card) (n : Nat) : Array Value := (cells4 cs ++ List.replicate (n * 4 - cs.length * 4) (Value.int .i64 0)).toArray
theorem rowC_size (cs : List Card) (n : Nat) (h : cs.length ≤ n) : (rowC cs n).size = n * 4 := by
  simp only [rowC, List.size_toArray, List.length_append, cells4_length, List.length_replicate]; omega
theorem rowC_some (cs : List Card) {n m : Nat} (h : cs.length ≤ n) (hm : m < n * 4) : ∃ v, (rowC cs n)[m]? = some v :=
  ⟨_, Array.getElem?_eq_getElem (by rw [rowC_size cs n h]; exact hm)⟩
theorem rowC_low (cs : List Card) {n m : Nat} (h : m < cs.length * 4) : (rowC cs n)[m]? = (cells4 cs)[m]? := by
  simp only [rowC, List.getElem?_toArray]
  rw [List.getElem?_append_left (by rw [cells4_length]; exact h)]
theorem rowC_high (cs : List Card) {n m : Nat} (h : cs.length * 4 ≤ m) (hm : m < n * 4) : (rowC cs n)[m]? = some (.int .i64 0) := by
  simp only [rowC, List.getElem?_toArray]
  rw [List.getElem?_append_right (by rw [cells4_length]; exact h), cells4_length, List.getElem?_replicate, if_pos (by omega)]
theorem rowC_none (cs : List Card) {n m : Nat} (h : cs.length ≤ n) (hm : n * 4 ≤ m) : (rowC cs n)[m]? = none :=
  Array.getElem?_eq_none (by rw [rowC_size cs n h]; exact hm)
theorem rowC_nil (n : Nat) : madeCells #[.int .i64 0, .int .i64 0, .int .i64 0, .int .i64 0] (n * 4) = rowC [] n := by
  apply Array.ext_getElem?
  intro i
  by_cases hi : i < n * 4
  · rw [rowC_high [] (by simp) hi]
    have h4 : i % 4 < 4 := Nat.mod_lt _ (by omega)
    have e : ∀ j, j < 4 → (#[Value.int .i64 0, .int .i64 0, .int .i64 0, .int .i64 0] : Array Value)[j]! = .int .i64 0 := by
      intro j hj
      match j, hj with
      | 0, _ => rfl
      | 1, _ => rfl
      | 2, _ => rfl
      | 3, _ => rfl
    simp only [madeCells, Array.getElem?_map, Array.getElem?_range, hi, if_true, Option.map_some]
    exact congrArg some (e _ h4)
  · rw [rowC_none [] (by simp) (by omega)]
    exact Array.getElem?_eq_none (by rw [size_madeCells]; omega)
theorem rowC_set (cs : List Card) {n k : Nat} (x : Card) (hk : cs.length = k) (h : k < n) :
    ((((rowC cs n).setIfInBounds (k * 4) (.int .i64 x.a)).setIfInBounds (k * 4 + 1) (.int .i64 x.b)).setIfInBounds (k * 4 + 2) (.int .i64 x.c)).setIfInBounds (k * 4 + 3) (.int .i64 x.d) = rowC (cs ++ [x]) n := by
  subst hk
  have hs := rowC_size cs n (by omega)
  have ex : cx (cs ++ [x]) cs.length = x := by simp [cx]
  obtain ⟨g1, g2, g3, g4⟩ := cells4_get (cs ++ [x]) cs.length (by simp)
  rw [ex] at g1 g2 g3 g4
  apply Array.ext_getElem?
  intro m
  simp only [Array.getElem?_setIfInBounds, Array.size_setIfInBounds, hs]
  by_cases h0 : m < cs.length * 4
  · rw [if_neg (by omega), if_neg (by omega), if_neg (by omega), if_neg (by omega), rowC_low cs h0, rowC_low (cs ++ [x]) (by simp; omega)]
    simp only [cells4, List.flatMap_append]
    rw [List.getElem?_append_left]
    exact Nat.lt_of_lt_of_eq h0 (cells4_length cs).symm
  · by_cases h1 : m < (cs.length + 1) * 4
    · rw [rowC_low (cs ++ [x]) (by simp; omega)]
      obtain rfl | rfl | rfl | rfl : m = cs.length * 4 ∨ m = cs.length * 4 + 1 ∨ m = cs.length * 4 + 2 ∨ m = cs.length * 4 + 3 := by omega
      · rw [if_neg (by omega), if_neg (by omega), if_neg (by omega), if_pos rfl, if_pos (by omega), g1]
      · rw [if_neg (by omega), if_neg (by omega), if_pos rfl, if_pos (by omega), g2]
      · rw [if_neg (by omega), if_pos rfl, if_pos (by omega), g3]
      · rw [if_pos rfl, if_pos (by omega), g4]
    · rw [if_neg (by omega), if_neg (by omega), if_neg (by omega), if_neg (by omega)]
      by_cases h2 : m < n * 4
      · rw [rowC_high cs (by omega) h2, rowC_high (cs ++ [x]) (by simp; omega) h2]
      · rw [rowC_none cs (by omega) (by omega), rowC_none (cs ++ [x]) (by simp; omega) (by omega)]
/-- A block that begins with such a row, all of it cards, reads as these cards. -/
theorem cardsAt_row {w : World} {g : Nat} {e : TypeId} {fr : Nat × Nat} {cs : List Card} {n : Nat} (h : w.heap[g]? = some (.cells (rowC cs n) e fr)) : CardsAt w (some ⟨g, 0, none⟩) cs := by
  refine cardsAt_of_cells (Array.getElem?_eq_some_iff.1 h).1 fun j u hu => ?_
  rw [Nat.zero_add, cell_of_row w g j _ e fr h]
  have hj : j < cs.length * 4 := by rw [← cells4_length]; exact (List.getElem?_eq_some_iff.1 hu).1
  rw [rowC_low cs hj, hu]
theorem take_cx (xs : List Card) (k : Nat) (h : k < xs.length) : xs.take (k + 1) = xs.take k ++ [cx xs k] := by
  rw [List.take_succ_eq_append_getElem h, cx_get xs k h]
theorem eq_of_cx {xs ys : List Card} (hl : xs.length = ys.length) (h : ∀ j, j < xs.length → cx xs j = cx ys j) : xs = ys := by
  apply List.ext_getElem hl
  intro j h1 h2
  have := h j h1
  rwa [cx_get xs j h1, cx_get ys j h2] at this
/-- One place of a hand: a card, and greater than the one ahead of it. -/
def handOk (xs : List Card) (i : Nat) : Bool := isCard (cx xs i) && (decide (i = 0) || decide (numC (cx xs (i - 1)) < numC (cx xs i)))
def isHand (xs : List Card) : Bool := decide (xs.length ≤ 27) && (List.range xs.length).all (handOk xs)
theorem isHand_no {xs : List Card} {k : Nat} (hk : k < xs.length) (h : handOk xs k = false) : isHand xs = false := by
  unfold isHand
  have : (List.range xs.length).all (handOk xs) = false := by
    rw [List.all_eq_false]
    exact ⟨k, List.mem_range.2 hk, by simp [h]⟩
  rw [this, Bool.and_false]
theorem isHand_long {xs : List Card} (h : 27 < xs.length) : isHand xs = false := by
  unfold isHand
  rw [decide_eq_false (by omega), Bool.false_and]
theorem isHand_yes {xs : List Card} (hl : xs.length ≤ 27) (h : ∀ j, j < xs.length → handOk xs j = true) : isHand xs = true := by
  unfold isHand
  rw [decide_eq_true hl, Bool.true_and]
  exact List.all_eq_true.2 fun j hj => h j (List.mem_range.1 hj)
theorem isHand_of {xs : List Card} (h : isHand xs = true) : xs.length ≤ 27 ∧ ∀ j, j < xs.length → handOk xs j = true := by
  simp only [isHand, Bool.and_eq_true, decide_eq_true_eq] at h
  exact ⟨h.1, fun j hj => List.all_eq_true.1 h.2 j (List.mem_range.2 hj)⟩
theorem handOk_card {xs : List Card} {i : Nat} (h : handOk xs i = true) : isCard (cx xs i) = true := by
  simp only [handOk, Bool.and_eq_true] at h
  exact h.1
theorem rowC_full (xs : List Card) : (rowC xs xs.length).toList = cells4 xs := by simp [rowC]
theorem heap_at {w : World} {o : Obj} {n : Nat} (h : n = w.heap.size) : (w.alloc o).heap[n]? = some o := h ▸ heap_alloc_new w o
theorem heap_past {w : World} {o x : Obj} {n : Nat} (hn : n < w.heap.size) (h : w.heap[n]? = some x) : (w.alloc o).heap[n]? = some x := (Below.heap_alloc w o n hn).trans h
end Go.Proofs.Ytjlaoocomkonhaa
namespace Go.Proofs.Ytjlaoocomkonhaa
open Go.ChangeShapes Go.WideShapes Go.ChangeAt Go.RowKit

section
variable {H : Type} {enc : TypeId × Value → H} {P : Program} {w : World} {base : Nat} {spare : Nat → Bool} {held : Bool}

/-- An array of ints, cell by cell. -/
theorem trod_arr_ints {t e : TypeId} {n fuel : Nat} {cs : List Value} {x : DataW H × List MemPlace} (ht : P.underlying t = some (.array n e)) (he : P.underlying e = some (.int .i64)) (hce : P.cellsOf e = 1) (hct : P.cellsOf t = n)
    (h : DataW.trod enc P w base spare held fuel t cs = some x) : ∃ xs : List Int, cs = xs.map (Value.int .i64) ∧ xs.length = n := by
  obtain ⟨ys, m, rfl, _, hl, hys, hi⟩ := DataW.trod_array ht h
  rw [hct] at hl
  have key : ∀ i, i < n → ∃ k : Int, cs[i]? = some (.int .i64 k) := by
    intro i hin
    have h1 := hi i hin
    rw [hce, Nat.mul_one] at h1
    have hy : ys[i]? = some (ys[i]'(by omega)) := List.getElem?_eq_getElem (by omega)
    rw [hy] at h1
    obtain ⟨k, hk, _⟩ := DataW.trod_int he h1
    have hd : cs[i]? = (cs.drop i).head? := by simp
    refine ⟨k, ?_⟩
    rw [hd]
    have hlt : i < cs.length := by omega
    have : (cs.drop i).take 1 = [cs[i]] := by
      rw [List.drop_eq_getElem_cons hlt]; rfl
    rw [this] at hk
    simp at hk
    simp [hlt, hk]
  refine ⟨cs.map fun v => (match v with | .int _ k => k | _ => 0), ?_, by simp [hl]⟩
  rw [List.map_map]
  apply List.ext_getElem?
  intro i
  by_cases hin : i < n
  · obtain ⟨k, hk⟩ := key i hin
    rw [List.getElem?_map, hk]; rfl
  · rw [List.getElem?_map, List.getElem?_eq_none (by omega)]; rfl

theorem okWide_array {r : Reach} {b n : Nat} {t e : TypeId} {v : Value} (ht : P.underlying t = some (.array n e)) (h : Value.okWide P w r b t v) : ∃ cs, v = .agg cs ∧ cs.size = P.cellsOf t := by
  simp only [Value.okWide, ht] at h
  obtain ⟨cs, h1, h2, _⟩ := h
  exact ⟨cs, h1, h2⟩

/-- An argument of type [4]int. -/
theorem open_card {r : Reach} {b : Nat} {t e : TypeId} {v : Value} {d : DataW H} {ps : List MemPlace} (ht : P.underlying t = some (.array 4 e)) (he : P.underlying e = some (.int .i64)) (hce : P.cellsOf e = 1) (hct : P.cellsOf t = 4)
    (hv : Value.okWide P w r b t v) (h : DataW.Trod enc P w base spare held t v d ps) : ∃ x : Card, v = x.v := by
  obtain ⟨cs, rfl, _⟩ := okWide_array ht hv
  obtain ⟨fuel, hf⟩ := h
  obtain ⟨xs, hx, hl⟩ := trod_arr_ints ht he hce hct hf
  match xs, hl with
  | [a, b, c, d], _ =>
    refine ⟨⟨a, b, c, d⟩, ?_⟩
    have : cs = (List.map (Value.int .i64) [a, b, c, d]).toArray := by
      apply Array.ext'
      simpa [Value.cells] using hx
    rw [this]; rfl

/-- A slice of arrays of n ints. -/
theorem open_rows {r : Reach} {b : Nat} {t e q : TypeId} {n : Nat} {v : Value} {d : DataW H} {ps : List MemPlace} (ht : P.underlying t = some (.slice e)) (he : P.underlying e = some (.array n q)) (hq : P.underlying q = some (.int .i64))
    (hcq : P.cellsOf q = 1) (hce : P.cellsOf e = n) (hn : 0 < n) (hv : Value.okWide P w r b t v) (h : DataW.Trod enc P w base spare held t v d ps) :
    ∃ (ao : Option Addr) (len cap : Nat) (Z : Nat → List Int), v = .slice ao len cap ∧ len ≤ maxLen ∧
      ∀ i, i < len → ∃ g off, ao = some ⟨g, off, none⟩ ∧ g < w.heap.size ∧ ∀ j, j < n → w.cell? ⟨g, off + i * n + j, none⟩ = some (.int .i64 ((Z i).getD j 0)) := by
  obtain ⟨ao, len, cap, rfl⟩ := okWide_slice ht hv
  obtain ⟨fuel, hf⟩ := h
  rcases Go.Deep.open_slice ht hf with ⟨h0, _⟩ | ⟨a, len', cap', m, k, D, Pl, h0, hb, hl, hm, hmm, _, hx⟩
  · simp [Value.cells] at h0
    obtain ⟨rfl, rfl, rfl⟩ := h0
    exact ⟨none, 0, 0, fun _ => [], rfl, Nat.zero_le _, fun i hi => absurd hi (Nat.not_lt_zero _)⟩
  · simp [Value.cells] at h0
    obtain ⟨rfl, rfl, rfl⟩ := h0
    have hlm : len ≤ m := by rw [hmm]; split <;> omega
    have each : ∀ i, i < len → ∃ z : List Int, ∃ g off, a = ⟨g, off, none⟩ ∧ g < w.heap.size ∧ ∀ j, j < n → w.cell? ⟨g, off + i * n + j, none⟩ = some (.int .i64 (z.getD j 0)) := by
      intro i hi
      obtain ⟨cs', h1, h2⟩ := hx i (by omega)
      obtain ⟨xs, rfl, hxl⟩ := trod_arr_ints he hq hcq hce h2
      rw [hce] at h1
      obtain ⟨_, _, hcell⟩ := World.cells?_some h1
      obtain ⟨g, off, spot⟩ := a
      have g0 := hcell 0 hn
      have hs0 : (xs.map (Value.int .i64))[0]? = some (.int .i64 (xs.getD 0 0)) := by
        rw [List.getElem?_map]
        simp [List.getD, List.getElem?_eq_getElem (show 0 < xs.length by omega)]
      rw [hs0] at g0
      have hspot : spot = none := by
        obtain ⟨cs0, k1, k2⟩ := hx 0 (by omega)
        obtain ⟨ys, rfl, hyl⟩ := trod_arr_ints he hq hcq hce k2
        rw [hce] at k1
        obtain ⟨_, _, kcell⟩ := World.cells?_some k1
        have k0 := kcell 0 hn
        rw [List.getElem?_map, List.getElem?_eq_getElem (show 0 < ys.length by omega)] at k0
        simpa [Addr.add] using World.cell?_spot k0
      subst hspot
      refine ⟨xs, g, off, rfl, ?_, fun j hj => ?_⟩
      · rw [add_plain, add_plain] at g0
        unfold World.cell? at g0
        split at g0
        · rename_i h; exact (Array.getElem?_eq_some_iff.1 h).1
        · cases g0
      · have := hcell j hj
        rw [add_plain, add_plain] at this
        rw [this, List.getElem?_map]
        simp [List.getD, List.getElem?_eq_getElem (show j < xs.length by omega)]
    have hZ : ∃ Z : Nat → List Int, ∀ i, i < len → ∃ g off, a = ⟨g, off, none⟩ ∧ g < w.heap.size ∧ ∀ j, j < n → w.cell? ⟨g, off + i * n + j, none⟩ = some (.int .i64 ((Z i).getD j 0)) := Go.Deep.choose_lt each
    obtain ⟨Z, hZ⟩ := hZ
    exact ⟨some a, len, cap, Z, rfl, by omega, fun i hi => by
      obtain ⟨g, off, rfl, hg, hc⟩ := hZ i hi
      exact ⟨g, off, rfl, hg, hc⟩⟩

/-- An argument of type [][4]int. -/
theorem open_cards {r : Reach} {b : Nat} {t e q : TypeId} {v : Value} {d : DataW H} {ps : List MemPlace} (ht : P.underlying t = some (.slice e)) (he : P.underlying e = some (.array 4 q)) (hq : P.underlying q = some (.int .i64))
    (hcq : P.cellsOf q = 1) (hce : P.cellsOf e = 4) (hv : Value.okWide P w r b t v) (h : DataW.Trod enc P w base spare held t v d ps) :
    ∃ (ao : Option Addr) (xs : List Card) (cap : Nat), v = .slice ao xs.length cap ∧ CardsAt w ao xs ∧ xs.length ≤ maxLen := by
  obtain ⟨ao, len, cap, Z, rfl, hl, hx⟩ := open_rows ht he hq hcq hce (by omega) hv h
  refine ⟨ao, (List.range len).map fun i => ⟨(Z i).getD 0 0, (Z i).getD 1 0, (Z i).getD 2 0, (Z i).getD 3 0⟩, cap, by simp, fun i hi => ?_, by simpa using hl⟩
  have hi' : i < len := by simpa using hi
  obtain ⟨g, off, ha, hg, hc⟩ := hx i hi'
  have e : cx ((List.range len).map fun i => (⟨(Z i).getD 0 0, (Z i).getD 1 0, (Z i).getD 2 0, (Z i).getD 3 0⟩ : Card)) i = ⟨(Z i).getD 0 0, (Z i).getD 1 0, (Z i).getD 2 0, (Z i).getD 3 0⟩ := by
    rw [cx_get _ _ hi]; simp
  rw [e]
  exact ⟨g, off, ha, hg, hc 0 (by omega), hc 1 (by omega), hc 2 (by omega), hc 3 (by omega)⟩
end
end Go.Proofs.Ytjlaoocomkonhaa
