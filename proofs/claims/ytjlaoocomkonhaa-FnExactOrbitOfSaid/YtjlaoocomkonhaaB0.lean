/- Words that the walks and the plain laws share: cards, a number within bounds, memory that stands below a block number. -/
import Derived.WalkKit
import Derived.WalkSpells
import Derived.WalkLawsBesides
import Derived.Deep.QuietTactic
import Derived.BigQuiet
namespace Go.Proofs.Ytjlaoocomkonhaa
open Go.RowKit

theorem hid {p : Prop} (h : p) : Hid p := h

/-- A number within bounds. -/
def inB (n lo hi : Int) : Bool := decide (lo ≤ n ∧ n ≤ hi)
theorem inB_t {n lo hi : Int} (h : lo ≤ n) (h' : n ≤ hi) : inB n lo hi = true := decide_eq_true ⟨h, h'⟩
theorem inB_f1 {n lo hi : Int} (h : n < lo) : inB n lo hi = false := decide_eq_false (by omega)
theorem inB_f2 {n lo hi : Int} (h : hi < n) : inB n lo hi = false := decide_eq_false (by omega)
theorem inB_of {n lo hi : Int} (h : inB n lo hi = true) : lo ≤ n ∧ n ≤ hi := of_decide_eq_true h
theorem inB_not {n lo hi : Int} (h : inB n lo hi = false) : n < lo ∨ hi < n := by have := of_decide_eq_false h; omega
theorem inB_eq (n lo hi : Int) (h : lo ≤ n) : inB n lo hi = decide (n ≤ hi) := by simp [inB, h]

/-- A card, or any four numbers. -/
structure Card where
  a : Int
  b : Int
  c : Int
  d : Int
  deriving DecidableEq

abbrev Card.v (x : Card) : Value := .agg #[.int .i64 x.a, .int .i64 x.b, .int .i64 x.c, .int .i64 x.d]
def isCard (x : Card) : Bool := inB x.a 0 2 && inB x.b 0 2 && inB x.c 0 2 && inB x.d 0 2
theorem isCard_of {x : Card} (h : isCard x = true) : (0 ≤ x.a ∧ x.a ≤ 2) ∧ (0 ≤ x.b ∧ x.b ≤ 2) ∧ (0 ≤ x.c ∧ x.c ≤ 2) ∧ (0 ≤ x.d ∧ x.d ≤ 2) := by
  simp only [isCard, Bool.and_eq_true] at h
  exact ⟨inB_of h.1.1.1, inB_of h.1.1.2, inB_of h.1.2, inB_of h.2⟩

theorem ibeq (a b : Int) : (a == b) = decide (a = b) := rfl
theorem nbeq (a b : Nat) : ((a : Int) == (b : Int)) = decide (a = b) := by rw [ibeq]; exact decide_eq_decide.2 Int.ofNat_inj
theorem nbeq6 (a : Nat) : ((a : Int) == 6) = decide (a = 6) := nbeq a 6

/-- An ending by a value. -/
theorem ret_of {a b : Value} (h : a = b) : Ending.returned a = .returned b := by rw [h]

/-! ### Old memory stands: the world with more blocks behind the old ones, and other draws. -/
structure More where
  os : List Obj
  n : Nat
  deriving Inhabited
def More.add (x y : More) : More := ⟨x.os ++ y.os, y.n⟩
def More.bump (x : More) : More := ⟨x.os, x.n + 1⟩
def ext (W : World) (x : More) : World := { W with heap := W.heap ++ x.os.toArray, drawn := x.n }
/-- Nothing that was there has turned. -/
def Kept (W w' : World) : Prop := ∃ x, w' = ext W x

theorem ext_below (W : World) (x : More) : Below W.heap.size W (ext W x) :=
  ⟨rfl, rfl, rfl, by simp [ext], fun k hk => by simp only [ext]; rw [Array.getElem?_append_left hk]⟩
theorem Kept.below {W w' : World} (h : Kept W w') : Below W.heap.size W w' := by
  obtain ⟨x, rfl⟩ := h
  exact ext_below W x
theorem Kept.of_below {W w' : World} (h : Below W.heap.size W w') : Kept W w' := by
  obtain ⟨heap, tape, drawn, os, output⟩ := w'
  obtain ⟨h1, h2, h3, h4, h5⟩ := h
  simp only at h1 h2 h3 h4 h5
  refine ⟨⟨heap.toList.drop W.heap.size, drawn⟩, ?_⟩
  simp only [ext, h1, h2, h3, World.mk.injEq, and_true]
  apply Array.ext'
  rw [Array.toList_append]
  have e : W.heap.toList = heap.toList.take W.heap.size := by
    apply List.ext_getElem?
    intro k
    by_cases hk : k < W.heap.size
    · have := h5 k hk
      rw [List.getElem?_take, if_pos hk]
      simpa using this.symm
    · rw [List.getElem?_take, if_neg hk]
      simp; omega
  rw [e]
  simp
theorem Kept.refl (W : World) : Kept W W := .of_below (Below.refl _ _)
theorem Kept.trans {a b c : World} (h : Kept a b) (k : Kept b c) : Kept a c := .of_below (h.below.trans (k.below.mono h.below.size))
theorem Kept.alloc {a w : World} (h : Kept a w) (o : Obj) : Kept a (w.alloc o) := .of_below (h.below.alloc h.below.size o)
theorem Kept.ext {a w : World} (h : Kept a w) (x : More) : Kept a (ext w x) := h.trans ⟨x, rfl⟩
theorem Kept.drew {a w : World} (h : Kept a w) : Kept a w.drew := .of_below h.below.drew
theorem Kept.setCell {a w : World} (h : Kept a w) {p : Addr} (hp : a.heap.size ≤ p.block) (u : Value) : Kept a (w.setCell p u) := .of_below (h.below.setCell hp u)
theorem Kept.grown {a w w' : World} {row : Option Nat} (h : Kept a w) (hg : w.grownBy w' row) (hr : ∀ k, row = some k → a.heap.size ≤ k) : Kept a w' := .of_below (h.below.grown hg h.below.size hr)

section
variable (W : World) (x y : More)
@[go_sem] theorem ext_cell (b o : Nat) (h : b < W.heap.size) : (ext W x).cell? ⟨b, o, none⟩ = W.cell? ⟨b, o, none⟩ := (ext_below W x).cell (p := ⟨b, o, none⟩) h
@[go_sem] theorem ext_frozen (b o : Nat) (h : b < W.heap.size) : (ext W x).frozen? ⟨b, o, none⟩ = W.frozen? ⟨b, o, none⟩ := (ext_below W x).frozen (p := ⟨b, o, none⟩) h
@[go_sem, simp] theorem ext_size : (ext W x).heap.size = W.heap.size + x.os.length := by simp [ext]
theorem ext_heap (b : Nat) (h : b < W.heap.size) : (ext W x).heap[b]? = W.heap[b]? := (ext_below W x).block b h
@[go_sem] theorem ext_ext : ext (ext W x) y = ext W (x.add y) := by simp [ext, More.add]
@[go_sem] theorem ext_drew : (ext W x).drew = ext W x.bump := rfl
@[go_sem] theorem ext_of_drew : ext W.drew x = ext W x := rfl
@[go_sem] theorem ext_setCell (b o : Nat) (v : Value) (h : b < W.heap.size) : (ext W x).setCell ⟨b, o, none⟩ v = ext (W.setCell ⟨b, o, none⟩ v) x := by
  unfold ext World.setCell
  simp only
  congr 1
  apply Array.ext_getElem?
  intro k
  simp only [Array.getElem?_modify, Array.getElem?_append, Array.size_modify]
  by_cases hk : b = k
  · subst hk; simp [h]
  · simp [hk]
end

theorem kept_add {a W : World} {x y : More} (h : Kept a (ext W x)) : Kept a (ext W (x.add y)) := by rw [← ext_ext]; exact h.ext y

/-- A block's number stays below what has grown. -/
@[go_sem] theorem lt_more {a b c : Nat} (h : a < b) : (a < b + c) = True := eq_true (Nat.lt_add_right c h)
@[go_sem] theorem le_more {a b c : Nat} (h : a < b) : (a ≤ b + c) = True := eq_true (by omega)
@[go_sem] theorem lt_more2 {a b c d : Nat} (h : a < b) : (a < b + c + d) = True := eq_true (by omega)
@[go_sem] theorem le_more2 {a b c d : Nat} (h : a < b) : (a ≤ b + c + d) = True := eq_true (by omega)
@[go_sem] theorem lt_more3 {a b c d e : Nat} (h : a < b) : (a < b + c + d + e) = True := eq_true (by omega)
@[go_sem] theorem le_more3 {a b c d e : Nat} (h : a < b) : (a ≤ b + c + d + e) = True := eq_true (by omega)
@[go_sem] theorem lt_more4 {a b c d e f : Nat} (h : a < b) : (a < b + c + d + e + f) = True := eq_true (by omega)
@[go_sem] theorem le_more4 {a b c d e f : Nat} (h : a < b) : (a ≤ b + c + d + e + f) = True := eq_true (by omega)
@[go_sem] theorem le_of_less {a b : Nat} (h : a < b) : (a ≤ b) = True := eq_true (by omega)
@[go_sem] theorem lt_succ_more {a c : Nat} : (a < a + 1 + c) = True := eq_true (by omega)
@[go_sem] theorem lt_one_more {a c : Nat} : (a < a + c + 1) = True := eq_true (by omega)

/-! ### A region that draws its order, whose operations read old memory and whose calls leave it as it was. -/
theorem wp_region_ext {P : Program} {id : Nat} {Q : Exit → Act → World → Prop} {a : Act} {w : World} {l : List Oper} (hm : P.follows .mixedOrders = true) (hB : Region.lexB .any l.toArray = true)
    (h : wpQuiet P l.toArray (fun w' => ∃ x, w' = ext w x) (fun a' => ∀ w', (∃ x, w' = ext w x) → Q .normal a' w') l a) : (Code.region id l.toArray true).wp P Q a w :=
  wp_region_quiet (C := fun w' => ∃ x, w' = ext w x) hm hB (Kept.refl w).drew (by simpa using h)
theorem wpQuiet_end {P : Program} {ops : Array Oper} {w : World} {a : Act} {Q : Act → World → Prop} (h : ∀ x, Q a (ext w x)) : wpQuiet P ops (fun w' => ∃ x, w' = ext w x) (fun a' => ∀ w', (∃ x, w' = ext w x) → Q a' w') [] a :=
  wpQuiet_nil (fun _ ⟨x, hx⟩ => hx ▸ h x)
theorem ext_call {P : Program} {f : FuncId} {args : Array Value} {w : World} {x : More} {v : Value}
    (h : Calls P f args (ext w x) fun e w' => e = .returned v ∧ Kept (ext w x) w') : Calls P f args (ext w x) fun e w'' => e = .returned v ∧ ∃ y, w'' = ext w y :=
  h.mono fun _ _ ⟨he, hb⟩ => ⟨he, (Kept.trans ⟨x, rfl⟩ hb)⟩
theorem ext_call2 {P : Program} {f : FuncId} {args : Array Value} {w : World} {u x : More} {v : Value}
    (h : Calls P f args (ext w (u.add x)) fun e w' => e = .returned v ∧ Kept (ext w (u.add x)) w') : Calls P f args (ext w (u.add x)) fun e w'' => e = .returned v ∧ ∃ y, w'' = ext w (u.add y) :=
  h.mono fun _ _ ⟨he, y, hb⟩ => ⟨he, x.add y, by rw [hb, ext_ext]; simp [ext, More.add]⟩
theorem ext_call_same2 {P : Program} {f : FuncId} {args : Array Value} {w : World} {u x : More} {v : Value}
    (h : Calls P f args (ext w (u.add x)) fun e w' => e = .returned v ∧ ext w (u.add x) = w') : Calls P f args (ext w (u.add x)) fun e w'' => e = .returned v ∧ ∃ y, w'' = ext w (u.add y) :=
  h.mono fun _ _ ⟨he, hb⟩ => ⟨he, x, hb.symm⟩
theorem ext_call_same {P : Program} {f : FuncId} {args : Array Value} {w : World} {x : More} {v : Value}
    (h : Calls P f args (ext w x) fun e w' => e = .returned v ∧ ext w x = w') : Calls P f args (ext w x) fun e w'' => e = .returned v ∧ ∃ y, w'' = ext w y :=
  h.mono fun _ _ ⟨he, hb⟩ => ⟨he, x, hb.symm⟩

/-- The number at a place of a list; 0 behind its end. (A name of its own: the walk does not open it.) -/
def ix (xs : List Int) (i : Nat) : Int := xs.getD i 0
theorem ix_get (xs : List Int) (i : Nat) (h : i < xs.length) : ix xs i = xs[i] := by simp [ix, h]

/-- A slice's address reads as these numbers. -/
def IntsAt (w : World) (ao : Option Addr) (xs : List Int) : Prop :=
  ∀ i, i < xs.length → ∃ g off, ao = some ⟨g, off, none⟩ ∧ g < w.heap.size ∧ w.cell? ⟨g, off + i, none⟩ = some (.int .i64 (ix xs i))

theorem IntsAt.kept {w w' : World} {ao : Option Addr} {xs : List Int} (h : IntsAt w ao xs) (hk : Kept w w') : IntsAt w' ao xs := by
  have hb := hk.below
  intro i hi
  obtain ⟨g, off, ha, hg, hc⟩ := h i hi
  exact ⟨g, off, ha, Nat.lt_of_lt_of_le hg hb.size, (hb.cell (p := ⟨g, off + i, none⟩) hg).trans hc⟩

/-- A block that holds numbers reads as these numbers. -/
theorem intsAt_block {w : World} {g : Nat} {e : TypeId} {fr : Nat × Nat} {xs : List Int} (h : w.heap[g]? = some (.cells (xs.map (Value.int .i64)).toArray e fr)) : IntsAt w (some ⟨g, 0, none⟩) xs := by
  intro i hi
  refine ⟨g, 0, rfl, (Array.getElem?_eq_some_iff.1 h).1, ?_⟩
  rw [Nat.zero_add, cell_of_row w g i _ e fr h]
  simp [ix, hi]

theorem card_all (x : Card) : ([x.a, x.b, x.c, x.d].all fun t => inB t 0 2) = isCard x := by
  simp [isCard, Bool.and_assoc]

/-- The first place of which a test says yes, or -1. -/
def idxOf {α : Type} (p : α → Bool) (xs : List α) : Int := match xs.findIdx? p with | some i => (i : Int) | none => -1

theorem idxOf_some {α : Type} {p : α → Bool} {xs : List α} {d : α} {k : Nat} (hk : k < xs.length) (hp : p (xs.getD k d) = true) (hn : ∀ j, j < k → p (xs.getD j d) = false) : idxOf p xs = k := by
  have e : xs.findIdx? p = some k := by
    rw [List.findIdx?_eq_some_iff_getElem]
    refine ⟨hk, ?_, fun j hj => ?_⟩
    · simpa [List.getD, hk] using hp
    · have := hn j hj
      have hjl : j < xs.length := by omega
      simpa [List.getD, hjl] using this
  simp [idxOf, e]

theorem idxOf_none {α : Type} {p : α → Bool} {xs : List α} {d : α} (hn : ∀ j, j < xs.length → p (xs.getD j d) = false) : idxOf p xs = -1 := by
  have e : xs.findIdx? p = none := by
    rw [List.findIdx?_eq_none_iff]
    intro x hx
    obtain ⟨j, hj, rfl⟩ := List.mem_iff_getElem.1 hx
    have := hn j hj
    simpa [List.getD, hj] using this
  simp [idxOf, e]

theorem idxOf_any {α : Type} (p : α → Bool) (xs : List α) : decide (0 ≤ idxOf p xs) = xs.any p := by
  cases h : xs.findIdx? p with
  | none =>
    have : xs.any p = false := by
      rw [List.findIdx?_eq_none_iff] at h
      simpa [List.any_eq_false] using h
    simp [idxOf, h, this]
  | some i =>
    have : xs.any p = true := by
      obtain ⟨hi, hp, _⟩ := List.findIdx?_eq_some_iff_getElem.1 h
      exact List.any_eq_true.2 ⟨_, List.getElem_mem hi, hp⟩
    simp [idxOf, h, this]

theorem idxOf_le {α : Type} (p : α → Bool) (xs : List α) : -1 ≤ idxOf p xs ∧ idxOf p xs ≤ xs.length := by
  cases h : xs.findIdx? p with
  | none => simp [idxOf, h]
  | some i =>
    obtain ⟨hi, _⟩ := List.findIdx?_eq_some_iff_getElem.1 h
    simp [idxOf, h]; omega

end Go.Proofs.Ytjlaoocomkonhaa
