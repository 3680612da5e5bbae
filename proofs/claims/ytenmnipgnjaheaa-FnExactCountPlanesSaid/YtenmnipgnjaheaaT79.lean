/- The planes of a hand: seventy-two threes of cards for each. Plain law, no program in sight. -/
import Derived.Test.YtenmnipgnjaheaaT77
import Derived.Test.YtenmnipgnjaheaaT55
namespace Go.Proofs.Ytenmnipgnjaheaa
open Go.RowKit
section
variable {α β : Type}
/-- The sum over a list. -/
def L1 (l : List α) (F : α → Nat) : Nat := (l.map F).sum
@[simp] theorem L1_nil (F : α → Nat) : L1 [] F = 0 := rfl
@[simp] theorem L1_cons (x : α) (l : List α) (F : α → Nat) : L1 (x :: l) F = F x + L1 l F := by simp [L1]
theorem L1_congr {l : List α} {F G : α → Nat} (h : ∀ x ∈ l, F x = G x) : L1 l F = L1 l G := by
  unfold L1; rw [List.map_congr_left h]
theorem L1_add (l : List α) (F G : α → Nat) : L1 l (fun x => F x + G x) = L1 l F + L1 l G := by
  induction l with
  | nil => rfl
  | cons x l ih => simp only [L1_cons, ih]; omega
theorem L1_zero {l : List α} {F : α → Nat} (h : ∀ x ∈ l, F x = 0) : L1 l F = 0 := by
  induction l with
  | nil => rfl
  | cons x l ih => rw [L1_cons, h x (by simp), ih fun y hy => h y (by simp [hy])]
theorem L1_mul (l : List α) (F : α → Nat) (c : Nat) : L1 l (fun x => F x * c) = L1 l F * c := by
  induction l with
  | nil => simp
  | cons x l ih => simp only [L1_cons, ih, Nat.add_mul]
theorem L1_map (l : List β) (f : β → α) (F : α → Nat) : L1 (l.map f) F = L1 l (fun x => F (f x)) := by simp [L1, Function.comp_def]
theorem L1_append (l m : List α) (F : α → Nat) : L1 (l ++ m) F = L1 l F + L1 m F := by simp [L1]
theorem L1_comm (l : List α) (m : List β) (F : α → β → Nat) : L1 l (fun x => L1 m (F x)) = L1 m (fun y => L1 l (fun x => F x y)) := by
  induction l with
  | nil => simp only [L1_nil]; exact (L1_zero fun _ _ => rfl).symm
  | cons x l ih => simp only [L1_cons, ih, L1_add]
theorem L1_perm {l m : List α} (h : l.Perm m) (F : α → Nat) : L1 l F = L1 m F := by
  induction h with
  | nil => rfl
  | cons x _ ih => simp only [L1_cons, ih]
  | swap x y l => simp only [L1_cons]; omega
  | trans _ _ a b => exact a.trans b
theorem L1_flatMap (l : List β) (f : β → List α) (F : α → Nat) : L1 (l.flatMap f) F = L1 l (fun x => L1 (f x) F) := by
  induction l with
  | nil => rfl
  | cons x l ih => simp only [List.flatMap_cons, L1_append, L1_cons, ih]
theorem L1_filter {l : List α} {F : α → Nat} (p : α → Bool) (h : ∀ x ∈ l, p x = false → F x = 0) : L1 l F = L1 (l.filter p) F := by
  induction l with
  | nil => rfl
  | cons x l ih =>
    rw [L1_cons, ih fun y hy => h y (by simp [hy])]
    cases hp : p x with
    | true => rw [List.filter_cons_of_pos hp, L1_cons]
    | false => rw [List.filter_cons_of_neg (by simp [hp]), h x (by simp) hp, Nat.zero_add]
end
theorem L1_supp {l m : List Card} {F : Card → Nat} (hl : l.Nodup) (hm : m.Nodup) (hs : ∀ x ∈ m, x ∈ l) (h0 : ∀ x ∈ l, ¬ x ∈ m → F x = 0) : L1 l F = L1 m F := by
  rw [L1_filter (fun x => decide (x ∈ m)) (fun x hx hp => h0 x hx (of_decide_eq_false hp))]
  refine L1_perm ((List.perm_ext_iff_of_nodup (hl.filter _) hm).2 fun x => ?_) F
  simp only [List.mem_filter, decide_eq_true_eq]
  exact ⟨fun h => h.2, fun h => ⟨hs x h, h⟩⟩
theorem L1_one {l : List Card} {F : Card → Nat} {a : Card} (hl : l.Nodup) (ha : a ∈ l) (h0 : ∀ x ∈ l, x ≠ a → F x = 0) : L1 l F = F a := by
  rw [L1_supp (m := [a]) hl (by simp) (by simpa using ha) (fun x hx hn => h0 x hx (by simpa using hn))]
  simp
def L3 (l : List Card) (F : Card → Card → Card → Nat) : Nat := L1 l fun x => L1 l fun y => L1 l fun z => F x y z
theorem L3_congr {l : List Card} {F G : Card → Card → Card → Nat} (h : ∀ x ∈ l, ∀ y ∈ l, ∀ z ∈ l, F x y z = G x y z) : L3 l F = L3 l G :=
  L1_congr fun x hx => L1_congr fun y hy => L1_congr fun z hz => h x hx y hy z hz
theorem L3_add (l : List Card) (F G : Card → Card → Card → Nat) : L3 l (fun x y z => F x y z + G x y z) = L3 l F + L3 l G := by
  unfold L3; simp only [L1_add]
theorem L3_swap12 (l : List Card) (F : Card → Card → Card → Nat) : L3 l (fun x y z => F y x z) = L3 l F := L1_comm l l fun x y => L1 l fun z => F y x z
theorem L3_swap23 (l : List Card) (F : Card → Card → Card → Nat) : L3 l (fun x y z => F x z y) = L3 l F := L1_congr fun x _ => L1_comm l l fun y z => F x z y
theorem L3_mul (l : List Card) (F : Card → Card → Card → Nat) (c : Nat) : L3 l (fun x y z => F x y z * c) = L3 l F * c := by
  unfold L3; simp only [L1_mul]
def trips (l : List Card) : List (Card × Card × Card) := l.flatMap fun x => l.flatMap fun y => l.map fun z => (x, y, z)
theorem L3_trips (l : List Card) (F : Card → Card → Card → Nat) : L3 l F = L1 (trips l) (fun t => F t.1 t.2.1 t.2.2) := by
  unfold L3 trips
  simp only [L1_flatMap, L1_map]
theorem L3_comm (l : List Card) (F : Card → Card → Card → Card → Card → Card → Nat) : L3 l (fun x y z => L3 l (F x y z)) = L3 l (fun a b c => L3 l (fun x y z => F x y z a b c)) := by
  simp only [L3_trips]
  exact L1_comm (trips l) (trips l) fun t u => F t.1 t.2.1 t.2.2 u.1 u.2.1 u.2.2
/-- One after another. -/
def ord3 (x y z : Card) : Bool := decide (numC y < numC x) && decide (numC z < numC y)
theorem L3_sym {l : List Card} {G : Card → Card → Card → Nat} (hi : ∀ x ∈ l, ∀ y ∈ l, numC x = numC y → x = y) (h12 : ∀ x y z, G x y z = G y x z) (h23 : ∀ x y z, G x y z = G x z y) (h0 : ∀ x z, G x x z = 0) : L3 l G = 6 * L3 l (fun x y z => if ord3 x y z = true then G x y z else 0) := by
  obtain ⟨H, hH⟩ : ∃ H : Card → Card → Card → Nat, H = fun x y z => if ord3 x y z = true then G x y z else 0 := ⟨_, rfl⟩
  have hp : L3 l G = L3 l (fun x y z => H x y z + (H x z y + (H y x z + (H y z x + (H z x y + H z y x))))) := L3_congr fun x hx y hy z hz => by
    have e1 : G x z y = G x y z := (h23 x y z).symm
    have e2 : G y x z = G x y z := (h12 x y z).symm
    have e3 : G y z x = G x y z := by rw [h23 y z x]; exact e2
    have e4 : G z x y = G x y z := by rw [h12 z x y]; exact e1
    have e5 : G z y x = G x y z := by rw [h23 z y x]; exact e4
    have n1 : numC x = numC y → G x y z = 0 := fun e => by rw [hi x hx y hy e]; exact h0 _ _
    have n2 : numC x = numC z → G x y z = 0 := fun e => by rw [← e1, hi x hx z hz e]; exact h0 _ _
    have n3 : numC y = numC z → G x y z = 0 := fun e => by rw [← e3, hi y hy z hz e]; exact h0 _ _
    rw [hH]
    simp only [e1, e2, e3, e4, e5, ord3, Bool.and_eq_true, decide_eq_true_eq]
    generalize G x y z = q at *
    generalize numC x = a at *
    generalize numC y = b at *
    generalize numC z = c at *
    by_cases x1 : b < a
    · by_cases x2 : c < b
      · simp [x1, x2, show ¬ b < c by omega, show c < a by omega, show ¬ a < b by omega, show ¬ a < c by omega]
      · by_cases x3 : b < c
        · by_cases x4 : c < a
          · simp [x1, x2, x3, x4, show ¬ a < b by omega, show ¬ a < c by omega]
          · by_cases x5 : a < c
            · simp [x1, x2, x3, x4, x5, show ¬ a < b by omega]
            · have := n2 (by omega); subst this; simp
        · have := n3 (by omega); subst this; simp
    · by_cases x2 : a < b
      · by_cases x3 : c < a
        · simp [x1, x2, x3, show c < b by omega, show ¬ b < c by omega, show ¬ a < c by omega]
        · by_cases x4 : a < c
          · by_cases x5 : c < b
            · simp [x1, x2, x3, x4, x5, show ¬ b < c by omega]
            · by_cases x6 : b < c
              · simp [x1, x2, x3, x4, x5, x6]
              · have := n3 (by omega); subst this; simp
          · have := n2 (by omega); subst this; simp
      · have := n1 (by omega); subst this; simp
  rw [hp, L3_add, L3_add, L3_add, L3_add, L3_add]
  have s1 : L3 l (fun x y z => H x z y) = L3 l H := L3_swap23 l H
  have s2 : L3 l (fun x y z => H y x z) = L3 l H := L3_swap12 l H
  have s3 : L3 l (fun x y z => H y z x) = L3 l H := (L3_swap12 l fun x y z => H x z y).trans s1
  have s4 : L3 l (fun x y z => H z x y) = L3 l H := (L3_swap23 l fun x y z => H y x z).trans s2
  have s5 : L3 l (fun x y z => H z y x) = L3 l H := (L3_swap12 l fun x y z => H z x y).trans s4
  rw [s1, s2, s3, s4, s5, ← hH]
  show L3 l H + _ = 6 * L3 l H
  omega
/-- The third of two points of the square. -/
def t9 (i j : Nat) : Nat := (6 - i % 3 - j % 3) % 3 + 3 * ((6 - i / 3 - j / 3) % 3)
def nc9 (i j k : Nat) : Bool := !(i == j) && !(i == k) && !(j == k) && !(t9 i j == k)
theorem nc9_sum : ((List.range 9).map fun i => ((List.range 9).map fun j => ((List.range 9).map fun k => if nc9 i j k = true then 1 else 0).sum).sum).sum = 432 := by decide +kernel
theorem t9_lt (i j : Nat) : t9 i j < 9 := by unfold t9; omega
theorem sqT_third0 : ∀ (a b c : Fin 3) (i j : Fin 9), thirdT (sqT (a.val : Int) (b.val : Int) (c.val : Int) (i.val : Int)) (sqT (a.val : Int) (b.val : Int) (c.val : Int) (j.val : Int)) = sqT (a.val : Int) (b.val : Int) (c.val : Int) ((t9 i.val j.val : Nat) : Int) := by decide +kernel
theorem sqT_inj0 : ∀ (i j : Fin 9), i ≠ j →
    (∀ a b c : Fin 3, sqT (a.val : Int) (b.val : Int) (c.val : Int) (i.val : Int) = sqT (a.val : Int) (b.val : Int) (c.val : Int) (j.val : Int) → a = b) ∨
    (∀ a b c : Fin 3, sqT (a.val : Int) (b.val : Int) (c.val : Int) (i.val : Int) = sqT (a.val : Int) (b.val : Int) (c.val : Int) (j.val : Int) → a = c) ∨
    (∀ a b c : Fin 3, sqT (a.val : Int) (b.val : Int) (c.val : Int) (i.val : Int) = sqT (a.val : Int) (b.val : Int) (c.val : Int) (j.val : Int) → b = c) ∨
    (∀ a b c : Fin 3, sqT (a.val : Int) (b.val : Int) (c.val : Int) (i.val : Int) = sqT (a.val : Int) (b.val : Int) (c.val : Int) (j.val : Int) → thirdT (a.val : Int) (b.val : Int) = (c.val : Int)) := by decide +kernel
/-- A trait as a number below three. -/
def f3 (a : Int) : Fin 3 := Fin.ofNat 3 a.toNat
theorem f3_val {a : Int} (h : 0 ≤ a ∧ a ≤ 2) : ((f3 a).val : Int) = a := by
  have : a.toNat < 3 := by omega
  simp [f3, Fin.ofNat]; omega
theorem sqT_third {a b c : Int} (ha : 0 ≤ a ∧ a ≤ 2) (hb : 0 ≤ b ∧ b ≤ 2) (hc : 0 ≤ c ∧ c ≤ 2) {i j : Nat} (hi : i < 9) (hj : j < 9) : thirdT (sqT a b c i) (sqT a b c j) = sqT a b c ((t9 i j : Nat) : Int) := by
  have h := sqT_third0 (f3 a) (f3 b) (f3 c) ⟨i, hi⟩ ⟨j, hj⟩
  rw [f3_val ha, f3_val hb, f3_val hc] at h
  exact h
theorem cardEq {x y : Card} (a : x.a = y.a) (b : x.b = y.b) (c : x.c = y.c) (d : x.d = y.d) : x = y := by
  cases x; cases y; simp only at a b c d; subst a; subst b; subst c; subst d; rfl
/-- A point of the plane of three cards. -/
def ptC (x y z : Card) (i : Nat) : Card := ⟨sqT x.a y.a z.a i, sqT x.b y.b z.b i, sqT x.c y.c z.c i, sqT x.d y.d z.d i⟩
theorem sqT_bd (a b c i : Int) : 0 ≤ sqT a b c i ∧ sqT a b c i ≤ 2 := by unfold sqT; omega
theorem ptC_card (x y z : Card) (i : Nat) : isCard (ptC x y z i) = true := by
  simp only [isCard, ptC, Bool.and_eq_true]
  exact ⟨⟨⟨inB_t (sqT_bd _ _ _ _).1 (sqT_bd _ _ _ _).2, inB_t (sqT_bd _ _ _ _).1 (sqT_bd _ _ _ _).2⟩, inB_t (sqT_bd _ _ _ _).1 (sqT_bd _ _ _ _).2⟩, inB_t (sqT_bd _ _ _ _).1 (sqT_bd _ _ _ _).2⟩
theorem ptC_third {x y z : Card} (hx : isCard x = true) (hy : isCard y = true) (hz : isCard z = true) {i j : Nat} (hi : i < 9) (hj : j < 9) : thirdC (ptC x y z i) (ptC x y z j) = ptC x y z (t9 i j) := by
  obtain ⟨x1, x2, x3, x4⟩ := isCard_of hx
  obtain ⟨y1, y2, y3, y4⟩ := isCard_of hy
  obtain ⟨z1, z2, z3, z4⟩ := isCard_of hz
  simp only [thirdC, ptC, sqT_third x1 y1 z1 hi hj, sqT_third x2 y2 z2 hi hj, sqT_third x3 y3 z3 hi hj, sqT_third x4 y4 z4 hi hj]
theorem f3_inj {a b : Int} (ha : 0 ≤ a ∧ a ≤ 2) (hb : 0 ≤ b ∧ b ≤ 2) (h : f3 a = f3 b) : a = b := by
  rw [← f3_val ha, ← f3_val hb, h]
theorem ptC_inj {x y z : Card} (hp : planeC x y z = true) {i j : Nat} (hi : i < 9) (hj : j < 9) (he : ptC x y z i = ptC x y z j) : i = j := by
  obtain ⟨hx, hy, hz⟩ := planeC_cards hp
  obtain ⟨x1, x2, x3, x4⟩ := isCard_of hx
  obtain ⟨y1, y2, y3, y4⟩ := isCard_of hy
  obtain ⟨z1, z2, z3, z4⟩ := isCard_of hz
  have ea : sqT x.a y.a z.a i = sqT x.a y.a z.a j := congrArg Card.a he
  have eb : sqT x.b y.b z.b i = sqT x.b y.b z.b j := congrArg Card.b he
  have ec : sqT x.c y.c z.c i = sqT x.c y.c z.c j := congrArg Card.c he
  have ed : sqT x.d y.d z.d i = sqT x.d y.d z.d j := congrArg Card.d he
  rw [← f3_val x1, ← f3_val y1, ← f3_val z1] at ea
  rw [← f3_val x2, ← f3_val y2, ← f3_val z2] at eb
  rw [← f3_val x3, ← f3_val y3, ← f3_val z3] at ec
  rw [← f3_val x4, ← f3_val y4, ← f3_val z4] at ed
  simp only [planeC, Bool.and_eq_true, Bool.not_eq_true', decide_eq_false_iff_not] at hp
  obtain ⟨⟨⟨⟨_, hxy⟩, hxz⟩, hyz⟩, hl⟩ := hp
  by_cases hij : i = j
  · exact hij
  · exfalso
    rcases sqT_inj0 ⟨i, hi⟩ ⟨j, hj⟩ (fun e => hij (congrArg Fin.val e)) with h | h | h | h
    · exact hxy (cardEq (f3_inj x1 y1 (h _ _ _ ea)) (f3_inj x2 y2 (h _ _ _ eb)) (f3_inj x3 y3 (h _ _ _ ec)) (f3_inj x4 y4 (h _ _ _ ed)))
    · exact hxz (cardEq (f3_inj x1 z1 (h _ _ _ ea)) (f3_inj x2 z2 (h _ _ _ eb)) (f3_inj x3 z3 (h _ _ _ ec)) (f3_inj x4 z4 (h _ _ _ ed)))
    · exact hyz (cardEq (f3_inj y1 z1 (h _ _ _ ea)) (f3_inj y2 z2 (h _ _ _ eb)) (f3_inj y3 z3 (h _ _ _ ec)) (f3_inj y4 z4 (h _ _ _ ed)))
    · have a := h _ _ _ ea
      have b := h _ _ _ eb
      have c := h _ _ _ ec
      have d := h _ _ _ ed
      rw [f3_val x1, f3_val y1, f3_val z1] at a
      rw [f3_val x2, f3_val y2, f3_val z2] at b
      rw [f3_val x3, f3_val y3, f3_val z3] at c
      rw [f3_val x4, f3_val y4, f3_val z4] at d
      have : lineC x y z = true := by
        simp only [lineC, Bool.and_eq_true, Bool.not_eq_true', decide_eq_false_iff_not, decide_eq_true_eq]
        exact ⟨hxy, cardEq a b c d⟩
      rw [this] at hl; cases hl
def planeL (x y z : Card) : List Card := (List.range 9).map (ptC x y z)
theorem planeL_mem {x y z : Card} {c : Card} : c ∈ planeL x y z ↔ ∃ i, i < 9 ∧ ptC x y z i = c := by simp [planeL]
theorem planeL_len (x y z : Card) : (planeL x y z).length = 9 := by simp [planeL]
theorem planeL_nodup {x y z : Card} (hp : planeC x y z = true) : (planeL x y z).Nodup := by
  unfold planeL
  rw [List.Nodup, List.pairwise_map]
  refine List.Pairwise.imp_of_mem (fun {a b} ha hb (hne : a ≠ b) e => hne (ptC_inj hp (List.mem_range.1 ha) (List.mem_range.1 hb) e)) List.nodup_range
theorem planeL_closed {x y z : Card} (hp : planeC x y z = true) : ClosedS (fun c => c ∈ planeL x y z) := fun a b ha hb _ => by
  obtain ⟨hx, hy, hz⟩ := planeC_cards hp
  obtain ⟨i, hi, rfl⟩ := planeL_mem.1 ha
  obtain ⟨j, hj, rfl⟩ := planeL_mem.1 hb
  exact planeL_mem.2 ⟨t9 i j, t9_lt i j, (ptC_third hx hy hz hi hj).symm⟩
theorem sqT_base {a b c : Int} (ha : 0 ≤ a ∧ a ≤ 2) (hb : 0 ≤ b ∧ b ≤ 2) (hc : 0 ≤ c ∧ c ≤ 2) : sqT a b c (0 : Nat) = a ∧ sqT a b c (1 : Nat) = b ∧ sqT a b c (3 : Nat) = c := by
  unfold sqT; simp; omega
theorem ptC_base {x y z : Card} (hx : isCard x = true) (hy : isCard y = true) (hz : isCard z = true) : ptC x y z 0 = x ∧ ptC x y z 1 = y ∧ ptC x y z 3 = z := by
  obtain ⟨x1, x2, x3, x4⟩ := isCard_of hx
  obtain ⟨y1, y2, y3, y4⟩ := isCard_of hy
  obtain ⟨z1, z2, z3, z4⟩ := isCard_of hz
  have a := sqT_base x1 y1 z1
  have b := sqT_base x2 y2 z2
  have c := sqT_base x3 y3 z3
  have d := sqT_base x4 y4 z4
  exact ⟨cardEq a.1 b.1 c.1 d.1, cardEq a.2.1 b.2.1 c.2.1 d.2.1, cardEq a.2.2 b.2.2 c.2.2 d.2.2⟩
theorem ptC_span {x y z : Card} (hp : planeC x y z = true) : ∀ i, i < 9 → inSpan [x, y, z] (ptC x y z i) := by
  obtain ⟨hx, hy, hz⟩ := planeC_cards hp
  obtain ⟨b0, b1, b3⟩ := ptC_base hx hy hz
  have s0 : inSpan [x, y, z] (ptC x y z 0) := by rw [b0]; exact inSpan_base (by simp)
  have s1 : inSpan [x, y, z] (ptC x y z 1) := by rw [b1]; exact inSpan_base (by simp)
  have s3 : inSpan [x, y, z] (ptC x y z 3) := by rw [b3]; exact inSpan_base (by simp)
  have st : ∀ i j, i < 9 → j < 9 → i ≠ j → inSpan [x, y, z] (ptC x y z i) → inSpan [x, y, z] (ptC x y z j) → inSpan [x, y, z] (ptC x y z (t9 i j)) := fun i j hi hj hne a b => by
    rw [← ptC_third hx hy hz hi hj]
    exact inSpan_third a b fun e => hne (ptC_inj hp hi hj e)
  have s2 := st 0 1 (by omega) (by omega) (by omega) s0 s1
  have s6 := st 0 3 (by omega) (by omega) (by omega) s0 s3
  have s8 := st 1 3 (by omega) (by omega) (by omega) s1 s3
  have s4 := st 0 8 (by omega) (by omega) (by omega) s0 s8
  have s7 := st 1 4 (by omega) (by omega) (by omega) s1 s4
  have s5 := st 3 4 (by omega) (by omega) (by omega) s3 s4
  intro i hi
  obtain rfl | rfl | rfl | rfl | rfl | rfl | rfl | rfl | rfl : i = 0 ∨ i = 1 ∨ i = 2 ∨ i = 3 ∨ i = 4 ∨ i = 5 ∨ i = 6 ∨ i = 7 ∨ i = 8 := by omega
  · exact s0
  · exact s1
  · exact s2
  · exact s3
  · exact s4
  · exact s5
  · exact s6
  · exact s7
  · exact s8
theorem planeL_span {x y z : Card} (hp : planeC x y z = true) : srt (planeL x y z) = spanC [x, y, z] := by
  obtain ⟨hx, hy, hz⟩ := planeC_cards hp
  obtain ⟨b0, b1, b3⟩ := ptC_base hx hy hz
  have hcl := planeL_closed hp
  refine srt_span (fun c hc => ?_) (fun c hc => ?_) (fun c hc => ?_) (fun i k hk hi => ?_)
  · obtain ⟨i, _, rfl⟩ := planeL_mem.1 hc; exact ptC_card _ _ _ _
  · simp only [List.mem_cons, List.not_mem_nil, or_false] at hc
    rcases hc with rfl | rfl | rfl
    · exact planeL_mem.2 ⟨0, by omega, b0⟩
    · exact planeL_mem.2 ⟨1, by omega, b1⟩
    · exact planeL_mem.2 ⟨3, by omega, b3⟩
  · obtain ⟨i, hi, rfl⟩ := planeL_mem.1 hc; exact ptC_span hp i hi
  · refine hcl _ _ (cx_mem hi) (cx_mem (by omega)) fun e => ?_
    have := nodup_dist.1 (planeL_nodup hp) i k hi (by omega) e
    omega
theorem ptC_plane {x y z : Card} (hp : planeC x y z = true) {i j k : Nat} (hi : i < 9) (hj : j < 9) (hk : k < 9) : planeC (ptC x y z i) (ptC x y z j) (ptC x y z k) = nc9 i j k := by
  obtain ⟨hx, hy, hz⟩ := planeC_cards hp
  have inj : ∀ a b, a < 9 → b < 9 → decide (ptC x y z a = ptC x y z b) = (a == b) := fun a b ha hb => by
    rw [Bool.eq_iff_iff]
    simp only [decide_eq_true_eq, beq_iff_eq]
    exact ⟨ptC_inj hp ha hb, fun e => by rw [e]⟩
  unfold planeC lineC nc9
  rw [ptC_card, ptC_card, ptC_card, inj i j hi hj, inj i k hi hk, inj j k hj hk, ptC_third hx hy hz hi hj, inj _ k (t9_lt i j) hk]
  cases (i == j) <;> simp
theorem sub_back {l m : List Card} (hl : l.Nodup) (hs : ∀ x, x ∈ l → x ∈ m) (hm : m.length ≤ l.length) : ∀ x, x ∈ m → x ∈ l := fun x hx => by
  by_cases h : x ∈ l
  · exact h
  · exfalso
    have := sub_len (l := x :: l) (m := m) (List.nodup_cons.2 ⟨h, hl⟩) fun y hy => by
      rcases List.mem_cons.1 hy with rfl | hy
      · exact hx
      · exact hs y hy
    simp at this; omega
/-- Three cards of a plane that are no line: their plane is the same. -/
theorem plane_same {x y z a b c : Card} (hp : planeC x y z = true) (hq : planeC a b c = true) (ha : a ∈ planeL x y z) (hb : b ∈ planeL x y z) (hc : c ∈ planeL x y z) : ∀ d, d ∈ planeL a b c ↔ d ∈ planeL x y z := by
  have hs : ∀ d, d ∈ planeL a b c → d ∈ planeL x y z := fun d hd => by
    obtain ⟨i, hi, rfl⟩ := planeL_mem.1 hd
    refine ptC_span hq i hi _ (planeL_closed hp) fun e he => ?_
    simp only [List.mem_cons, List.not_mem_nil, or_false] at he
    rcases he with rfl | rfl | rfl
    · exact ha
    · exact hb
    · exact hc
  exact fun d => ⟨hs d, sub_back (planeL_nodup hq) hs (by rw [planeL_len, planeL_len]; exact Nat.le_refl _) d⟩
theorem plane_same_span {x y z a b c : Card} (hp : planeC x y z = true) (hq : planeC a b c = true) (ha : a ∈ planeL x y z) (hb : b ∈ planeL x y z) (hc : c ∈ planeL x y z) : spanC [a, b, c] = spanC [x, y, z] := by
  rw [← planeL_span hp, ← planeL_span hq]
  exact srt_congr (plane_same hp hq ha hb hc)
theorem plane_base {x y z : Card} (hp : planeC x y z = true) : x ∈ planeL x y z ∧ y ∈ planeL x y z ∧ z ∈ planeL x y z := by
  obtain ⟨hx, hy, hz⟩ := planeC_cards hp
  obtain ⟨b0, b1, b3⟩ := ptC_base hx hy hz
  exact ⟨planeL_mem.2 ⟨0, by omega, b0⟩, planeL_mem.2 ⟨1, by omega, b1⟩, planeL_mem.2 ⟨3, by omega, b3⟩⟩
theorem span_plane_mem {x y z : Card} (hp : planeC x y z = true) (d : Card) : d ∈ spanC [x, y, z] ↔ d ∈ planeL x y z := by
  rw [← planeL_span hp]
  exact srt_mem (fun c hc => by obtain ⟨i, _, rfl⟩ := planeL_mem.1 hc; exact ptC_card _ _ _ _) d
theorem span_plane_len {x y z : Card} (hp : planeC x y z = true) : (spanC [x, y, z]).length = 9 := by
  have h : (spanC [x, y, z]).Perm (planeL x y z) := (List.perm_ext_iff_of_nodup (asc_nodup (spanC_asc _)) (planeL_nodup hp)).2 (span_plane_mem hp)
  rw [h.length_eq, planeL_len]
end Go.Proofs.Ytenmnipgnjaheaa
