/- Contracts: rows of three numbers compared. -/
import Derived.Test.YtmdnnejaipdkhabT18
import Derived.Test.YtmdnnejaipdkhabT4
namespace Go.Proofs.Ytmdnnejaipdkhab
open Go.RowKit
/-- A call hands back rows and whether there are some, in memory of its own. -/
def RetLT (W : World) (ok : Bool) (ls : List Ln) (e : Ending) (w' : World) : Prop := ∃ v, e = .returned (.tuple #[v, .bool ok]) ∧ OwnL W.heap.size w' v ls ∧ Kept W w'
theorem ownL_none (B : Nat) (w : World) : OwnL B w (.slice none 0 0) [] := ⟨rfl, .inl ⟨rfl, rfl⟩⟩
theorem eqL_any (v u : Value) (B B' : Nat) (ls : List Ln) (w : World) (h : OwnL B w v ls) (h' : OwnL B' w u ls) (hl : ls.length ≤ 1048576) :
    Calls Try.prog 14 #[v, u] w fun e w' => e = .returned (.bool true) ∧ Kept w w' := by
  obtain ⟨ao, cap, rfl, hx, _⟩ := h.reads
  obtain ⟨bo, cap', rfl, hy, _⟩ := h'.reads
  clear h h'
  go_enter Try.func14, Try.ntmps14
  go_wp2
  go_loopw [5] (fun i wr => ∃ k : Nat, k ≤ ls.length ∧ i = .int .i64 k ∧ Kept w wr) (fun i _ => ls.length - (intOf i).toNat)
  case atStart => exact ⟨0, Nat.zero_le _, rfl, (by (try simp only [ext_ext]); repeat (first | exact Kept.refl _ | apply Kept.alloc | apply Kept.drew | apply kept_add | apply Kept.ext))⟩
  case round =>
    obtain ⟨k, hk, rfl, z, rfl⟩ := hrel
    by_cases hlt : k < ls.length
    · obtain ⟨g, off, rfl, hg, h1, h2, h3⟩ := hx k hlt
      obtain ⟨g', off', rfl, hg', p1, p2, p3⟩ := hy k hlt
      go_wp2_with (first | (refine wp_region_ext (by kernel_rfl) (by kernel_rfl) ?_; (repeat (go_big_quiet_step (((go_at_call 44; first | exact ext_call (eqIntA3_any _ _ _ _ _ _ _) | exact ext_call2 (eqIntA3_any _ _ _ _ _ _ _)))))); refine wpQuiet_end fun z => ?_))
      go_roundw
      case rel => exact ⟨k + 1, hlt, by go_num, (by (try simp only [ext_ext]); repeat (first | exact Kept.refl _ | apply Kept.alloc | apply Kept.drew | apply kept_add | apply Kept.ext))⟩
      case measure => simp [intOf]; omega
    · obtain rfl : k = ls.length := by omega
      go_wp2
      go_ret
      exact ⟨rfl, (by (try simp only [ext_ext]); repeat (first | exact Kept.refl _ | apply Kept.alloc | apply Kept.drew | apply kept_add | apply Kept.ext))⟩
end Go.Proofs.Ytmdnnejaipdkhab
