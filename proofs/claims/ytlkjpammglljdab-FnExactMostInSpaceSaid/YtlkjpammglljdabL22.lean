/- Walk: the law of MostInSpace. -/
import Derived.Test.YtlkjpammglljdabT29
import Derived.Test.YtlkjpammglljdabT16
import Derived.RegionTactic
namespace Go.Proofs.Ytlkjpammglljdab
open Go.RowKit
structure Mis where
  m : Int
  w : Card
  v : Int
def misUp (s : Mis) (n : Int) (c : Card) (v : Int) : Mis := if s.m < n then ⟨n, c, v⟩ else s
def misIn (xs : List Card) (c : Card) (s : Mis) : Nat → Mis
  | 0 => s
  | q + 1 => misUp (misIn xs c s q) (cnt (vals xs c) xs.length q) c q
def misStep (xs : List Card) (s : Mis) (c : Card) : Mis := misIn xs c s 3
def misL (xs : List Card) (l : List Card) : Mis := l.foldl (misStep xs) ⟨-1, ⟨0, 0, 0, 0⟩, 0⟩
theorem misL_next (xs l : List Card) (c : Card) : misL xs (l ++ [c]) = misStep xs (misL xs l) c := by simp [misL, List.foldl_append]
theorem misIn_next (xs : List Card) (c : Card) (s : Mis) (q : Nat) : misIn xs c s (q + 1) = misUp (misIn xs c s q) (cnt (vals xs c) xs.length q) c q := rfl
theorem mis_yes {xs : List Card} {k : Nat} (h : isWeight (cardN k) = true) : misL xs (wtK (k + 1)) = misIn xs (cardN k) (misL xs (wtK k)) 3 := by
  rw [wtK_next, if_pos h, misL_next]; rfl
theorem mis_no {xs : List Card} {k : Nat} (h : isWeight (cardN k) = false) : misL xs (wtK (k + 1)) = misL xs (wtK k) := by
  rw [wtK_next, if_neg (by simp [h]), List.append_nil]
theorem up_ways (s : Mis) (a0 a1 a2 : Int) (c : Card) :
    (s.m < a0 ∧ a0 < a1 ∧ a1 < a2 ∧ misUp (misUp (misUp s a0 c 0) a1 c 1) a2 c 2 = ⟨a2, c, 2⟩) ∨ (s.m < a0 ∧ a0 < a1 ∧ ¬ a1 < a2 ∧ misUp (misUp (misUp s a0 c 0) a1 c 1) a2 c 2 = ⟨a1, c, 1⟩) ∨
    (s.m < a0 ∧ ¬ a0 < a1 ∧ a0 < a2 ∧ misUp (misUp (misUp s a0 c 0) a1 c 1) a2 c 2 = ⟨a2, c, 2⟩) ∨ (s.m < a0 ∧ ¬ a0 < a1 ∧ ¬ a0 < a2 ∧ misUp (misUp (misUp s a0 c 0) a1 c 1) a2 c 2 = ⟨a0, c, 0⟩) ∨
    (¬ s.m < a0 ∧ s.m < a1 ∧ a1 < a2 ∧ misUp (misUp (misUp s a0 c 0) a1 c 1) a2 c 2 = ⟨a2, c, 2⟩) ∨ (¬ s.m < a0 ∧ s.m < a1 ∧ ¬ a1 < a2 ∧ misUp (misUp (misUp s a0 c 0) a1 c 1) a2 c 2 = ⟨a1, c, 1⟩) ∨
    (¬ s.m < a0 ∧ ¬ s.m < a1 ∧ s.m < a2 ∧ misUp (misUp (misUp s a0 c 0) a1 c 1) a2 c 2 = ⟨a2, c, 2⟩) ∨ (¬ s.m < a0 ∧ ¬ s.m < a1 ∧ ¬ s.m < a2 ∧ misUp (misUp (misUp s a0 c 0) a1 c 1) a2 c 2 = s) := by
  unfold misUp
  by_cases h0 : s.m < a0
  · rw [if_pos h0]
    by_cases h1 : a0 < a1
    · rw [if_pos (show (⟨a0, c, 0⟩ : Mis).m < a1 from h1)]
      by_cases h2 : a1 < a2
      · rw [if_pos (show (⟨a1, c, 1⟩ : Mis).m < a2 from h2)]; exact .inl ⟨h0, h1, h2, rfl⟩
      · rw [if_neg (show ¬ (⟨a1, c, 1⟩ : Mis).m < a2 from h2)]; exact .inr (.inl ⟨h0, h1, h2, rfl⟩)
    · rw [if_neg (show ¬ (⟨a0, c, 0⟩ : Mis).m < a1 from h1)]
      by_cases h2 : a0 < a2
      · rw [if_pos (show (⟨a0, c, 0⟩ : Mis).m < a2 from h2)]; exact .inr (.inr (.inl ⟨h0, h1, h2, rfl⟩))
      · rw [if_neg (show ¬ (⟨a0, c, 0⟩ : Mis).m < a2 from h2)]; exact .inr (.inr (.inr (.inl ⟨h0, h1, h2, rfl⟩)))
  · rw [if_neg h0]
    by_cases h1 : s.m < a1
    · rw [if_pos h1]
      by_cases h2 : a1 < a2
      · rw [if_pos (show (⟨a1, c, 1⟩ : Mis).m < a2 from h2)]; exact .inr (.inr (.inr (.inr (.inl ⟨h0, h1, h2, rfl⟩))))
      · rw [if_neg (show ¬ (⟨a1, c, 1⟩ : Mis).m < a2 from h2)]; exact .inr (.inr (.inr (.inr (.inr (.inl ⟨h0, h1, h2, rfl⟩)))))
    · rw [if_neg h1]
      by_cases h2 : s.m < a2
      · rw [if_pos h2]; exact .inr (.inr (.inr (.inr (.inr (.inr (.inl ⟨h0, h1, h2, rfl⟩))))))
      · rw [if_neg h2]; exact .inr (.inr (.inr (.inr (.inr (.inr (.inr ⟨h0, h1, h2, rfl⟩))))))
def misOk (s : Mis) : Prop := -1 ≤ s.m ∧ s.m ≤ 27 ∧ 0 ≤ s.v ∧ s.v ≤ 2
theorem misIn_ok (xs : List Card) (c : Card) {s : Mis} (hs : misOk s) (hl : xs.length ≤ 27) : ∀ q, q ≤ 3 → misOk (misIn xs c s q)
  | 0, _ => hs
  | q + 1, hq => by
    have h := misIn_ok xs c hs hl q (by omega)
    have hb := cnt_bd (vals xs c) xs.length q
    rw [misIn_next]
    unfold misUp
    split
    · exact ⟨by simp only; omega, by simp only; omega, by simp only; omega, by simp only; omega⟩
    · exact h
theorem misL_ok (xs : List Card) (hl : xs.length ≤ 27) (l : List Card) : misOk (misL xs l) := by
  unfold misL
  have key : ∀ (l : List Card) (s : Mis), misOk s → misOk (l.foldl (misStep xs) s) := by
    intro l
    induction l with
    | nil => intro s h; exact h
    | cons c l ih => intro s h; exact ih _ (misIn_ok xs c h hl 3 (by omega))
  exact key l _ ⟨by decide, by decide, by decide, by decide⟩
theorem own_swap {V : World} {o o' : Obj} {z : More} {B : Nat} {v : Value} {cs : List Card} (h : OwnC B (ext (V.alloc o) z) v cs) (hB : V.heap.size < B) : OwnC B (ext (V.alloc o') z) v cs := by
  rcases h.2 with h0 | ⟨g, cap, cur, h1, hb, h2, h3⟩
  · exact ⟨h.1, .inl h0⟩
  · refine ⟨h.1, .inr ⟨g, cap, cur, h1, hb, ?_, h3⟩⟩
    rw [← h2]
    simp only [ext, World.alloc]
    have hs : ∀ o : Obj, (V.heap.push o).size ≤ g := fun o => by simp; omega
    rw [Array.getElem?_append_right (hs _), Array.getElem?_append_right (hs _)]
    simp
abbrev misV (s : Mis) (ok : Bool) : Value := .tuple #[.int .i64 s.m, s.w.v, .int .i64 s.v, .bool ok]
theorem sMostInSpace_no (ao : Option Addr) (cap : Nat) (xs : List Card) (w : World) (hx : CardsAt w ao xs) (hl : xs.length ≤ 1048576) (h : isHand xs = false) :
    Calls Try.prog 18 #[.slice ao xs.length cap] w fun e w' => e = .returned (misV ⟨0, ⟨0, 0, 0, 0⟩, 0⟩ false) ∧ Kept w w' := by
  go_enter Try.func18, Try.ntmps18
  go_wp2_with (first | (go_at_call 27; refine Calls.mono (l2Hand_any _ _ _ _ (by first | assumption | exact CardsAt.kept (by assumption) (by (try simp only [ext_ext]); repeat (first | exact Kept.refl _ | apply Kept.alloc | apply Kept.drew | apply kept_add | apply Kept.ext))) hl) ?_; rintro e w' ⟨rfl, y, rfl⟩) | go_region)
  refine bodyPost_ret (v := misV ⟨0, ⟨0, 0, 0, 0⟩, 0⟩ false) (by simp [results, Try.results18, go_sem]) rfl ⟨rfl, ?_⟩
  exact (by (try simp only [ext_ext]); repeat (first | exact Kept.refl _ | apply Kept.alloc | apply Kept.drew | apply kept_add | apply Kept.ext))
theorem iMostInSpace_no (ao : Option Addr) (cap : Nat) (xs : List Card) (w : World) (hx : CardsAt w ao xs) (hl : xs.length ≤ 1048576) (h : isHand xs = false) :
    Calls Try.prog 19 #[.slice ao xs.length cap] w fun e w' => e = .returned (misV ⟨0, ⟨0, 0, 0, 0⟩, 0⟩ false) ∧ Kept w w' := by
  go_enter Try.func19, Try.ntmps19
  go_wp2_with (first | (go_at_call 31; refine Calls.mono (IsHand_any _ _ _ _ (by first | assumption | exact CardsAt.kept (by assumption) (by (try simp only [ext_ext]); repeat (first | exact Kept.refl _ | apply Kept.alloc | apply Kept.drew | apply kept_add | apply Kept.ext))) hl) ?_; rintro e w' ⟨rfl, y, rfl⟩) | go_region)
  refine bodyPost_ret (v := misV ⟨0, ⟨0, 0, 0, 0⟩, 0⟩ false) (by simp [results, Try.results19, go_sem]) rfl ⟨rfl, ?_⟩
  exact (by (try simp only [ext_ext]); repeat (first | exact Kept.refl _ | apply Kept.alloc | apply Kept.drew | apply kept_add | apply Kept.ext))
set_option maxHeartbeats 4000000 in
theorem sMostInSpace_yes (ao : Option Addr) (cap : Nat) (xs : List Card) (w : World) (hx : CardsAt w ao xs) (hh : isHand xs = true) :
    Calls Try.prog 18 #[.slice ao xs.length cap] w fun e w' => e = .returned (misV (misL xs (wtK 81)) true) ∧ Kept w w' := by
  have hl27 := (isHand_of hh).1
  have hc := areC_hand hh
  go_enter Try.func18, Try.ntmps18
  go_wp2_with (first | (go_at_call 27; refine Calls.mono (l2Hand_any _ _ _ _ (by first | assumption | exact CardsAt.kept (by assumption) (by (try simp only [ext_ext]); repeat (first | exact Kept.refl _ | apply Kept.alloc | apply Kept.drew | apply kept_add | apply Kept.ext))) (by omega)) ?_; rintro e w' ⟨rfl, y, rfl⟩))
  go_loopw [9, 6, 8] (fun i m v wr => ∃ n : Nat, n ≤ 81 ∧ i = .int .i64 n ∧ m = .int .i64 (misL xs (wtK n)).m ∧ v = .int .i64 (misL xs (wtK n)).v ∧ Kept ((w.alloc (.cells #[.int .i64 0, .int .i64 0, .int .i64 0, .int .i64 0] 24)).alloc (.cells #[.int .i64 (misL xs (wtK n)).w.a, .int .i64 (misL xs (wtK n)).w.b, .int .i64 (misL xs (wtK n)).w.c, .int .i64 (misL xs (wtK n)).w.d] 24)) wr) (fun i _ _ _ => 81 - (intOf i).toNat)
  case atStart => exact ⟨0, by omega, rfl, rfl, rfl, show Kept ((w.alloc (.cells #[.int .i64 0, .int .i64 0, .int .i64 0, .int .i64 0] 24)).alloc (.cells #[.int .i64 0, .int .i64 0, .int .i64 0, .int .i64 0] 24)) _ from (by (try simp only [ext_ext]); repeat (first | exact Kept.refl _ | apply Kept.alloc | apply Kept.drew | apply kept_add | apply Kept.ext))⟩
  case round =>
    obtain ⟨n, hn, rfl, rfl, rfl, z, rfl⟩ := hrel
    have hok := misL_ok xs hl27 (wtK n)
    by_cases hlt : n < 81
    · have hck := isCard_cardN (n := (n : Int)) (by omega) (by omega)
      have hsp := hid (fun w' hw => l6Split_any ao cap xs (cardN n) w' (hx.kept hw) (by omega) hc hck)
      obtain ⟨k1, k2, k3, k4⟩ := hok
      cases hw : isWeight (cardN n) with
      | false =>
        have e1 := hid (mis_no (xs := xs) hw)
        go_wp2_with (first | (go_at_call 29; refine Calls.mono (l2At_any _ (by omega) (by omega) _) ?_; rintro e w' ⟨rfl, y, rfl⟩) | (go_at_call 42; refine Calls.mono (l6Weight_any (cardN n) _) ?_; rintro e w' ⟨rfl, y, rfl⟩))
        go_roundw
        case rel => exact ⟨n + 1, by omega, by go_num, by rw [e1.out], by rw [e1.out], by rw [e1.out]; exact (by (try simp only [ext_ext]); repeat (first | exact Kept.refl _ | apply Kept.alloc | apply Kept.drew | apply kept_add | apply Kept.ext))⟩
        case measure => simp [intOf]; omega
      | true =>
        have e1 := hid (mis_yes (xs := xs) hw)
        generalize misL xs (wtK n) = s0 at *
        go_wp2_with (first | (go_at_call 29; refine Calls.mono (l2At_any _ (by omega) (by omega) _) ?_; rintro e w' ⟨rfl, y, rfl⟩) | (go_at_call 42; refine Calls.mono (l6Weight_any (cardN n) _) ?_; rintro e w' ⟨rfl, y, rfl⟩) | (go_at_call 43; refine Calls.mono (hsp.out _ ((by (try simp only [ext_ext]); repeat (first | exact Kept.refl _ | apply Kept.alloc | apply Kept.drew | apply kept_add | apply Kept.ext)))) ?_; rintro e w' ⟨rfl, y, rfl⟩))
        have e3 : Hid (misIn xs (cardN n) s0 3 = misUp (misUp (misUp s0 (cnt (vals xs (cardN n)) xs.length 0) (cardN n) 0) (cnt (vals xs (cardN n)) xs.length 1) (cardN n) 1) (cnt (vals xs (cardN n)) xs.length 2) (cardN n) 2) := hid rfl
        have b0 := cnt_bd (vals xs (cardN n)) xs.length 0
        have b1 := cnt_bd (vals xs (cardN n)) xs.length 1
        have b2 := cnt_bd (vals xs (cardN n)) xs.length 2
        generalize cnt (vals xs (cardN n)) xs.length 0 = a0 at *
        generalize cnt (vals xs (cardN n)) xs.length 1 = a1 at *
        generalize cnt (vals xs (cardN n)) xs.length 2 = a2 at *
        rcases up_ways s0 a0 a1 a2 (cardN n) with ⟨g0, g1, g2, e⟩ | ⟨g0, g1, g2, e⟩ | ⟨g0, g1, g2, e⟩ | ⟨g0, g1, g2, e⟩ | ⟨g0, g1, g2, e⟩ | ⟨g0, g1, g2, e⟩ | ⟨g0, g1, g2, e⟩ | ⟨g0, g1, g2, e⟩
        all_goals
          have e4 := hid (e1.out.trans (e3.out.trans e))
          clear e
          refine wp_loop_rounds 4 ?_
          iterate 4
            rw [rounds_succ]
            go_wp2
          go_roundw
          case rel => exact ⟨n + 1, by omega, by go_num, by rw [e4.out], by rw [e4.out], by rw [e4.out]; exact (by (try simp only [ext_ext]); repeat (first | exact Kept.refl _ | apply Kept.alloc | apply Kept.drew | apply kept_add | apply Kept.ext))⟩
          case measure => simp [intOf]; omega
    · obtain rfl : n = 81 := by omega
      go_wp2_with (first | go_region)
      refine bodyPost_ret (v := misV (misL xs (wtK 81)) true) (by simp [results, Try.results18, go_sem]) rfl ⟨rfl, ?_⟩
      exact (by (try simp only [ext_ext]); repeat (first | exact Kept.refl _ | apply Kept.alloc | apply Kept.drew | apply kept_add | apply Kept.ext))
set_option maxHeartbeats 8000000 in
theorem iMostInSpace_yes (ao : Option Addr) (cap : Nat) (xs : List Card) (w : World) (hx : CardsAt w ao xs) (hh : isHand xs = true) :
    Calls Try.prog 19 #[.slice ao xs.length cap] w fun e w' => e = .returned (misV (misL xs (wtK 81)) true) ∧ Kept w w' := by
  have hl27 := (isHand_of hh).1
  have hc := areC_hand hh
  have hwl := wtK_len 81
  have hwc := wtK_card (k := 81) (by omega)
  have hend : Hid (misL xs ((wtK 81).take (wtK 81).length) = misL xs (wtK 81)) := hid (by rw [List.take_length])
  go_enter Try.func19, Try.ntmps19
  go_wp2_with (first | (go_at_call 31; refine Calls.mono (IsHand_any _ _ _ _ (by first | assumption | exact CardsAt.kept (by assumption) (by (try simp only [ext_ext]); repeat (first | exact Kept.refl _ | apply Kept.alloc | apply Kept.drew | apply kept_add | apply Kept.ext))) (by omega)) ?_; rintro e w' ⟨rfl, y, rfl⟩) | (go_at_call 44; refine Calls.mono (weights_any _) ?_; rintro e w' ⟨v, rfl, ho, z, rfl⟩; obtain ⟨ao', cap', hv, hx', hcap'⟩ := ho.reads; subst hv))
  go_loopw [20, 6, 8] (fun i m v wr => ∃ n : Nat, n ≤ (wtK 81).length ∧ i = .int .i64 n ∧ m = .int .i64 (misL xs ((wtK 81).take n)).m ∧ v = .int .i64 (misL xs ((wtK 81).take n)).v ∧ Kept ((ext (w.alloc (.cells #[.int .i64 0, .int .i64 0, .int .i64 0, .int .i64 0] 24)) y).alloc (.cells #[.int .i64 (misL xs ((wtK 81).take n)).w.a, .int .i64 (misL xs ((wtK 81).take n)).w.b, .int .i64 (misL xs ((wtK 81).take n)).w.c, .int .i64 (misL xs ((wtK 81).take n)).w.d] 24)) wr ∧ OwnC (w.heap.size + 1 + y.os.length + 1) wr (.slice ao' (wtK 81).length cap') (wtK 81)) (fun i _ _ _ => 81 - (intOf i).toNat)
  case atStart => exact ⟨0, by omega, rfl, rfl, rfl, show Kept ((ext (w.alloc (.cells #[.int .i64 0, .int .i64 0, .int .i64 0, .int .i64 0] 24)) y).alloc (.cells #[.int .i64 0, .int .i64 0, .int .i64 0, .int .i64 0] 24)) _ from (by (try simp only [ext_ext]); repeat (first | exact Kept.refl _ | apply Kept.alloc | apply Kept.drew | apply kept_add | apply Kept.ext)), (ho.mono (by simp)).kept (by (try simp only [ext_ext]); repeat (first | exact Kept.refl _ | apply Kept.alloc | apply Kept.drew | apply kept_add | apply Kept.ext))⟩
  case round =>
    obtain ⟨n, hn, rfl, rfl, rfl, ⟨z, rfl⟩, hown⟩ := hrel
    have hownH := hid hown
    by_cases hlt : n < (wtK 81).length
    · obtain ⟨ao2, cap2, hv2, hx2, _⟩ := hown.reads
      cases hv2
      obtain ⟨gl, ol, rfl, hgl, q1, q2, q3, q4⟩ := hx2 n hlt
      have hck := hwc n hlt
      have e1 : Hid (misL xs ((wtK 81).take (n + 1)) = misIn xs (cx (wtK 81) n) (misL xs ((wtK 81).take n)) 3) := hid (by rw [take_cx _ _ hlt, misL_next]; rfl)
      have hok := misL_ok xs hl27 ((wtK 81).take n)
      obtain ⟨k1, k2, k3, k4⟩ := hok
      have hsp : ∀ w', Kept w w' → Calls Try.prog 45 #[.slice ao xs.length cap, (cx (wtK 81) n).v] w' fun e w'' => e = .returned (v3 (cnt (vals xs (cx (wtK 81) n)) xs.length 0) (cnt (vals xs (cx (wtK 81) n)) xs.length 1) (cnt (vals xs (cx (wtK 81) n)) xs.length 2)) ∧ Kept w' w'' := fun w' hw => split_any ao cap xs (cx (wtK 81) n) w' (hx.kept hw) (by omega) hc hck
      clear hown hx2
      generalize misL xs ((wtK 81).take n) = s0 at *
      have e3 : misIn xs (cx (wtK 81) n) s0 3 = misUp (misUp (misUp s0 (cnt (vals xs (cx (wtK 81) n)) xs.length 0) (cx (wtK 81) n) 0) (cnt (vals xs (cx (wtK 81) n)) xs.length 1) (cx (wtK 81) n) 1) (cnt (vals xs (cx (wtK 81) n)) xs.length 2) (cx (wtK 81) n) 2 := rfl
      have b0 := cnt_bd (vals xs (cx (wtK 81) n)) xs.length 0
      have b1 := cnt_bd (vals xs (cx (wtK 81) n)) xs.length 1
      have b2 := cnt_bd (vals xs (cx (wtK 81) n)) xs.length 2
      generalize cnt (vals xs (cx (wtK 81) n)) xs.length 0 = a0 at *
      generalize cnt (vals xs (cx (wtK 81) n)) xs.length 1 = a1 at *
      generalize cnt (vals xs (cx (wtK 81) n)) xs.length 2 = a2 at *
      have e3H := hid e3
      have hspH := hid hsp
      clear e3 hsp
      go_wp2_with (first | (go_at_call 45; refine Calls.mono (hspH.out _ ((by (try simp only [ext_ext]); repeat (first | exact Kept.refl _ | apply Kept.alloc | apply Kept.drew | apply kept_add | apply Kept.ext)))) ?_; rintro e w' ⟨rfl, y, rfl⟩))
      have i0 : ∀ w : World, (Instr.index 58 (.agg #[.int .i64 a0, .int .i64 a1, .int .i64 a2]) (.int .i64 0)).run Try.prog w = .ok (.int .i64 a0) w := fun _ => by kernel_rfl
      have i1 : ∀ w : World, (Instr.index 58 (.agg #[.int .i64 a0, .int .i64 a1, .int .i64 a2]) (.int .i64 1)).run Try.prog w = .ok (.int .i64 a1) w := fun _ => by kernel_rfl
      have i2 : ∀ w : World, (Instr.index 58 (.agg #[.int .i64 a0, .int .i64 a1, .int .i64 a2]) (.int .i64 2)).run Try.prog w = .ok (.int .i64 a2) w := fun _ => by kernel_rfl
      rcases up_ways s0 a0 a1 a2 (cx (wtK 81) n) with ⟨g0, g1, g2, e⟩ | ⟨g0, g1, g2, e⟩ | ⟨g0, g1, g2, e⟩ | ⟨g0, g1, g2, e⟩ | ⟨g0, g1, g2, e⟩ | ⟨g0, g1, g2, e⟩ | ⟨g0, g1, g2, e⟩ | ⟨g0, g1, g2, e⟩
      all_goals
        have e4 := hid (e1.out.trans (e3H.out.trans e))
        clear e
        refine wp_loop_rounds 4 ?_
        iterate 4
          rw [rounds_succ]
          go_wp2_with (first | go_region)
        go_roundw
        case rel => exact ⟨n + 1, hlt, by go_num, by rw [e4.out], by rw [e4.out], by rw [e4.out]; exact (by (try simp only [ext_ext]); repeat (first | exact Kept.refl _ | apply Kept.alloc | apply Kept.drew | apply kept_add | apply Kept.ext)), (own_swap hownH.out (by simp)).kept (by (try simp only [ext_ext]); repeat (first | exact Kept.refl _ | apply Kept.alloc | apply Kept.drew | apply kept_add | apply Kept.ext))⟩
        case measure => simp [intOf]; omega
    · obtain rfl : n = (wtK 81).length := by omega
      clear hown
      go_wp2_with (first | go_region)
      refine bodyPost_ret (v := misV (misL xs ((wtK 81).take (wtK 81).length)) true) (by simp [results, Try.results19, go_sem]) rfl ⟨by rw [hend.out], ?_⟩
      exact (by (try simp only [ext_ext]); repeat (first | exact Kept.refl _ | apply Kept.alloc | apply Kept.drew | apply kept_add | apply Kept.ext))
theorem walk_FnExactMostInSpace (ao : Option Addr) (xs : List Card) (cap : Nat) {w : World} (hx : CardsAt w ao xs) (hl : xs.length ≤ maxLen) (_ : World) :
    Calls Try.prog 5 #[.slice ao xs.length cap] w fun e w' => e = .returned (.bool true) ∧ Kept w w' := by
  have hl' : xs.length ≤ 9223372036854775807 := by unfold maxLen at hl; omega
  by_cases hn : xs.length ≤ 1048576
  · obtain ⟨s, ok, hS, hI⟩ : ∃ (s : Mis) (ok : Bool), (∀ ao cap w, CardsAt w ao xs → Calls Try.prog 18 #[.slice ao xs.length cap] w fun e w' => e = .returned (misV s ok) ∧ Kept w w') ∧ (∀ ao cap w, CardsAt w ao xs → Calls Try.prog 19 #[.slice ao xs.length cap] w fun e w' => e = .returned (misV s ok) ∧ Kept w w') := by
      cases hg : isHand xs with
      | false => exact ⟨⟨0, ⟨0, 0, 0, 0⟩, 0⟩, false, fun _ _ _ hx => sMostInSpace_no _ _ _ _ hx hn hg, fun _ _ _ hx => iMostInSpace_no _ _ _ _ hx hn hg⟩
      | true => exact ⟨misL xs (wtK 81), true, fun _ _ _ hx => sMostInSpace_yes _ _ _ _ hx hg, fun _ _ _ hx => iMostInSpace_yes _ _ _ _ hx hg⟩
    have hSH := hid hS
    have hIH := hid hI
    clear hS hI
    go_enter Try.func5, Try.ntmps5
    go_wp2_with (first | (go_at_call 9; refine Calls.mono (szIntA4S_any _ _ _ hl' _) ?_; rintro e w' ⟨rfl, rfl⟩) | (go_at_call 11; refine Calls.mono (toIntA4S_any _ _ _ _ (by first | assumption | exact CardsAt.kept (by assumption) (by (try simp only [ext_ext]); repeat (first | exact Kept.refl _ | apply Kept.alloc | apply Kept.drew | apply kept_add | apply Kept.ext))) hn) ?_; rintro e w' ⟨v, rfl, ho, z, rfl⟩; obtain ⟨ao', cap', rfl, hx', hcap'⟩ := ho.reads; clear ho) | (go_at_call 18; refine Calls.mono (hSH.out _ _ _ ((by first | assumption | exact CardsAt.kept (by assumption) (by (try simp only [ext_ext]); repeat (first | exact Kept.refl _ | apply Kept.alloc | apply Kept.drew | apply kept_add | apply Kept.ext))))) ?_; rintro e w' ⟨rfl, y, rfl⟩) | (go_at_call 19; refine Calls.mono (hIH.out _ _ _ ((by first | assumption | exact CardsAt.kept (by assumption) (by (try simp only [ext_ext]); repeat (first | exact Kept.refl _ | apply Kept.alloc | apply Kept.drew | apply kept_add | apply Kept.ext))))) ?_; rintro e w' ⟨rfl, y, rfl⟩) | (go_at_call 14; refine Calls.mono (eqIntA4S_any _ _ _ _ _ _ _ (by first | assumption | exact CardsAt.kept (by assumption) (by (try simp only [ext_ext]); repeat (first | exact Kept.refl _ | apply Kept.alloc | apply Kept.drew | apply kept_add | apply Kept.ext))) (by first | assumption | exact CardsAt.kept (by assumption) (by (try simp only [ext_ext]); repeat (first | exact Kept.refl _ | apply Kept.alloc | apply Kept.drew | apply kept_add | apply Kept.ext))) hn hn) ?_; rintro e w' ⟨rfl, y, rfl⟩) | (go_at_call 13; refine Calls.mono (eqIntA4_any s.w s.w _) ?_; rintro e w' ⟨rfl, y, rfl⟩))
    all_goals
      go_ret
      exact ⟨rfl, (by (try simp only [ext_ext]); repeat (first | exact Kept.refl _ | apply Kept.alloc | apply Kept.drew | apply kept_add | apply Kept.ext))⟩
  · go_enter Try.func5, Try.ntmps5
    go_wp2_with (first | (go_at_call 9; refine Calls.mono (szIntA4S_any _ _ _ hl' _) ?_; rintro e w' ⟨rfl, rfl⟩))
    go_ret
    exact ⟨rfl, (by (try simp only [ext_ext]); repeat (first | exact Kept.refl _ | apply Kept.alloc | apply Kept.drew | apply kept_add | apply Kept.ext))⟩
end Go.Proofs.Ytlkjpammglljdab
