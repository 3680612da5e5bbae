/- Cards in order: the plain law; the row of cards put in order by the library. -/
import Derived.Test.YtjlaoocomkonhaaT72
import Derived.Test.YtjlaoocomkonhaaT36
import Derived.Shelf.SlSortCmp.WholeK
namespace Go.Proofs.Ytjlaoocomkonhaa
open Go.RowKit Go.Sort Go.Shelf
/-- Ascending, each once. -/
def Asc (xs : List Card) : Prop := xs.Pairwise fun a b => numC a < numC b
theorem asc_unique : ∀ {xs ys : List Card}, Asc xs → Asc ys → (∀ c, c ∈ xs ↔ c ∈ ys) → xs = ys
  | [], [], _, _, _ => rfl
  | [], y :: ys, _, _, h => by have := (h y).2 (by simp); simp at this
  | x :: xs, [], _, _, h => by have := (h x).1 (by simp); simp at this
  | x :: xs, y :: ys, hx, hy, h => by
    obtain ⟨x1, x2⟩ := List.pairwise_cons.1 hx
    obtain ⟨y1, y2⟩ := List.pairwise_cons.1 hy
    have e : x = y := by
      have a := (h x).1 (by simp)
      have b := (h y).2 (by simp)
      rcases List.mem_cons.1 a with e | a
      · exact e
      · rcases List.mem_cons.1 b with e | b
        · exact e.symm
        · have := y1 x a; have := x1 y b; omega
    subst e
    congr 1
    refine asc_unique x2 y2 fun c => ⟨fun hc => ?_, fun hc => ?_⟩
    · rcases List.mem_cons.1 ((h c).1 (List.mem_cons_of_mem _ hc)) with e | r
      · subst e; have := x1 _ hc; omega
      · exact r
    · rcases List.mem_cons.1 ((h c).2 (List.mem_cons_of_mem _ hc)) with e | r
      · subst e; have := y1 _ hc; omega
      · exact r
/-- All cards with a property, in order. -/
def srtP (p : Card → Bool) : List Card := ((List.range 81).map fun n : Nat => cardN (n : Int)).filter p
theorem srtP_asc (p : Card → Bool) : Asc (srtP p) := by
  refine List.Pairwise.filter _ (List.pairwise_map.2 ?_)
  refine List.Pairwise.imp (fun {a b} (h : a < b) => ?_) List.pairwise_lt_range
  rw [numC_cardN, numC_cardN]; omega
theorem srtP_mem (p : Card → Bool) (c : Card) : c ∈ srtP p ↔ isCard c = true ∧ p c = true := by
  simp only [srtP, List.mem_filter, List.mem_map, List.mem_range]
  constructor
  · rintro ⟨⟨n, hn, rfl⟩, hp⟩
    exact ⟨isCard_cardN (by omega) (by omega), hp⟩
  · rintro ⟨hc, hp⟩
    have hb := numC_bd hc
    exact ⟨⟨(numC c).toNat, by omega, by rw [Int.toNat_of_nonneg hb.1]; exact cardN_numC hc⟩, hp⟩
/-- Cards in order, each once. -/
def srt (xs : List Card) : List Card := srtP fun c => decide (c ∈ xs)
theorem srt_asc (xs : List Card) : Asc (srt xs) := srtP_asc _
theorem srt_mem {xs : List Card} (hc : ∀ c ∈ xs, isCard c = true) (c : Card) : c ∈ srt xs ↔ c ∈ xs := by
  unfold srt
  rw [srtP_mem]
  simp only [decide_eq_true_eq]
  exact ⟨fun h => h.2, fun h => ⟨hc c h, h⟩⟩
theorem srt_self {xs : List Card} (hc : ∀ c ∈ xs, isCard c = true) (ha : Asc xs) : srt xs = xs := asc_unique (srt_asc xs) ha (srt_mem hc)
theorem srt_congr {xs ys : List Card} (h : ∀ c, c ∈ xs ↔ c ∈ ys) : srt xs = srt ys := by unfold srt; simp only [h]
theorem asc_nodup {xs : List Card} (h : Asc xs) : xs.Nodup := List.Pairwise.imp (fun {a b} (h : numC a < numC b) (e : a = b) => by rw [e] at h; omega) h
theorem nodup_dist {xs : List Card} : xs.Nodup ↔ distC xs := by
  constructor
  · intro h i j hi hj he
    rw [cx_get _ _ hi, cx_get _ _ hj] at he
    exact (List.getElem_inj h).1 he
  · intro h
    rw [List.Nodup, List.pairwise_iff_getElem]
    intro i j hi hj hij e
    have := h i j hi hj (by rw [cx_get _ _ hi, cx_get _ _ hj]; exact e)
    omega
def encN (i : Fin 81) : List Value := [.int .i64 (cardN (i.val : Int)).a, .int .i64 (cardN (i.val : Int)).b, .int .i64 (cardN (i.val : Int)).c, .int .i64 (cardN (i.val : Int)).d]
def cfN (i j : Fin 81) : Int := (i.val : Int) - (j.val : Int)
theorem swoN : SWO (ltOf cfN) := by
  constructor <;> (unfold ltOf cfN; simp only [decide_eq_true_eq, decide_eq_false_iff_not]; intros; omega)
theorem holdsN {w : World} {g n : Nat} {d : Array (Fin 81)} (h : RowW w g n (fun t => cardN (d[t]!.val : Int))) (hn : d.size = n) : HoldsK encN 4 w g 0 d := by
  intro j hj
  rw [size_flatK] at hj
  obtain ⟨⟨c1, c2, c3, c4⟩, f⟩ := h.2 (j / 4) (by omega)
  rw [get_flatK _ _ _ _ hj, Nat.zero_add]
  obtain ⟨q, r, rfl, hr⟩ : ∃ q r, j = q * 4 + r ∧ r < 4 := ⟨j / 4, j % 4, by omega, by omega⟩
  have hq : (q * 4 + r) / 4 = q := by omega
  have hm : (q * 4 + r) % 4 = r := by omega
  rw [hq] at c1 c2 c3 c4 f
  rw [hq, hm]
  refine ⟨?_, f r hr⟩
  obtain rfl | rfl | rfl | rfl : r = 0 ∨ r = 1 ∨ r = 2 ∨ r = 3 := by omega
  · exact c1
  · exact c2
  · exact c3
  · exact c4
theorem rowN {w : World} {g n : Nat} {d : Array (Fin 81)} (h : HoldsK encN 4 w g 0 d) (hg : g < w.heap.size) (hn : d.size = n) : RowW w g n (fun t => cardN (d[t]!.val : Int)) := by
  refine ⟨hg, fun t ht => ?_⟩
  have key : ∀ r, r < 4 → w.cell? ⟨g, t * 4 + r, none⟩ = some ((encN d[t]!)[r]!) ∧ w.frozen? ⟨g, t * 4 + r, none⟩ = false := fun r hr => by
    have := h (t * 4 + r) (by rw [size_flatK]; omega)
    rw [get_flatK _ _ _ _ (by omega), Nat.zero_add, show (t * 4 + r) / 4 = t by omega, show (t * 4 + r) % 4 = r by omega] at this
    exact this
  exact ⟨⟨(key 0 (by omega)).1, (key 1 (by omega)).1, (key 2 (by omega)).1, (key 3 (by omega)).1⟩, fun q hq => (key q hq).2⟩
theorem sortK_grown (w : World) (g m : Nat) (dk : Array (Fin 81)) (os : Array Obj) : w.grownBy (sortWorldK encN 4 w g 0 m dk os) (some g) := by
  refine ⟨rfl, rfl, rfl, ?_, fun k hk hne => ?_⟩
  · simp [sortWorldK, grow, putRowK, putRow, mapBlock, ahead]
  · have hne' : ¬ g = k := fun e => hne (by rw [e])
    show ((w.heap.modify g _) ++ os)[k]? = _
    rw [Array.getElem?_append_left (by simpa using hk), Array.getElem?_modify, if_neg hne']
/-- Places in the deck. -/
def plN (c : Card) : Fin 81 := Fin.ofNat 81 (numC c).toNat
theorem plN_card {c : Card} (h : isCard c = true) : cardN ((plN c).val : Int) = c := by
  have hb := numC_bd h
  have e : ((plN c).val : Int) = numC c := by simp [plN, Fin.ofNat]; omega
  rw [e, cardN_numC h]
theorem numC_plN (i : Fin 81) : numC (cardN (i.val : Int)) = (i.val : Int) := numC_cardN
set_option maxRecDepth 20000 in
theorem sortCards_any (g cap n : Nat) (cs : List Card) (w : World) (hc : ∀ c ∈ cs, isCard c = true) (hn : cs.length = n) (hrow : RowW w g n (cx cs)) (hl : n ≤ 1048576) :
    Calls Try.prog 57 #[.slice (some ⟨g, 0, none⟩) n cap, .func (.func 36) #[] #[]] w fun e w' => e = .returned (.tuple #[]) ∧ ∃ zs : List Card, zs.length = n ∧ zs.Perm cs ∧ zs.Pairwise (fun a b => numC a ≤ numC b) ∧ RowW w' g n (cx zs) ∧ w.grownBy w' (some g) := by
  obtain ⟨d, hd⟩ : ∃ d : Array (Fin 81), d = (cs.map plN).toArray := ⟨_, rfl⟩
  have hds : d.size = n := by rw [hd]; simp [hn]
  have hcx : ∀ t, t < n → cx cs t = cardN (d[t]!.val : Int) := fun t ht => by
    have e : d[t]! = plN (cs[t]'(by omega)) := by subst hd; rw [getElem!_pos _ t (by simp; omega)]; simp
    rw [cx_get _ _ (by omega), e]
    exact (plN_card (hc _ (List.getElem_mem _))).symm
  have hH : HoldsK encN 4 w g 0 d := holdsN (hrow.congr hcx) hds
  have hcmp : CmpLays Try.prog 36 #[] encN 4 cfN g 0 d.size w := fun m os dk _ x y => by
    refine Calls.mono (compareX_any (cardN (x.val : Int)) (cardN (y.val : Int)) (isCard_cardN (by omega) (by omega)) (isCard_cardN (by omega) (by omega)) _) ?_
    rintro e w' ⟨rfl, h⟩
    exact ⟨by rw [numC_plN, numC_plN]; rfl, h⟩
  have eg : ∀ args w, (callFunc 36 args).run Try.prog w = .ok (.enter 36 args) w := enters_of Try.func36 (by kernel_rfl) rfl
  have h := AnyQ.slices_SortFunc sortC 4 Try.isAgg29 Try.sizeOf29 encN (fun _ => rfl) (fun x v hv => by simp [encN] at hv; rcases hv with rfl | rfl | rfl | rfl <;> rfl) cfN swoN 36 #[] g 0 cap d w eg hcmp hH hrow.1 (by omega)
  rw [hds] at h
  refine Calls.mono h ?_
  rintro e w' ⟨rfl, d', m, os, hp, hs, rfl⟩
  have hs' : d'.size = n := hp.1.trans hds
  refine ⟨rfl, d'.toList.map (fun i => cardN (i.val : Int)), by simp [hs'], ?_, ?_, ?_, sortK_grown w g m d' os⟩
  · have h3 := hp.2.2
    have e1 : d'.extract 0 n = d' := by rw [← hs']; simp
    have e2 : d.extract 0 n = d := by rw [← hds]; simp
    rw [e1, e2] at h3
    have h4 := h3.map (fun i : Fin 81 => cardN (i.val : Int))
    refine h4.trans ?_
    rw [hd]
    have : ((cs.map plN).map fun i : Fin 81 => cardN (i.val : Int)) = cs := by
      rw [List.map_map]
      conv => rhs; rw [← List.map_id cs]
      exact List.map_congr_left fun c h => plN_card (hc c h)
    simp only [this]; exact List.Perm.refl _
  · rw [List.pairwise_map, List.pairwise_iff_getElem]
    intro i j hi hj hij
    rw [numC_plN, numC_plN]
    have := hs i j (Nat.zero_le _) hij (by simpa [hs'] using hj)
    rw [getElem!_pos d' j (by simpa using hj), getElem!_pos d' i (by simpa using hi)] at this
    have this := of_decide_eq_false (show decide (cfN _ _ < 0) = false from this)
    unfold cfN at this
    have ei : d'.toList[i] = d'[i]'(by simpa using hi) := by simp
    have ej : d'.toList[j] = d'[j]'(by simpa using hj) := by simp
    rw [ei, ej]
    exact Int.not_lt.1 (fun h => this (by omega))
  · refine (rowN (holdsK_sortWorldK encN 4 w g 0 m d d' os hrow.1 hH (hs'.trans hds.symm)) (lt_sortWorldK encN 4 w g 0 m d' os hrow.1) hs').congr fun t ht => ?_
    rw [cx_get _ _ (by simp; omega), getElem!_pos d' t (by omega)]
    simp
end Go.Proofs.Ytjlaoocomkonhaa
