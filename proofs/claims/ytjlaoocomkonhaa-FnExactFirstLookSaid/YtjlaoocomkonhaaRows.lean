/-
  No cell of these rows narrows 'for every input' (looked for: loops, veiled, ifaces, maps, wideKeys, modest, calm, conditions, laid).
  DERIVED. THE GIVEN ROWS OF THIS SEAT. 4 by the template 'for every input the law returns true; each argument reads behind the call as it read before'; 0 by the template 'total and deterministic' (their statements: YtjlaoocomkonhaaTotals.lean).
  GIVEN WITH THE SEED: the statements are not yours to turn. If you find one false, say at which input.
  Laid BY PROGRAM, IN A SANDBOX (cutbox-rows.mjs): the forced cells as the released guide's own fill.sh prints them over the translation 24024c0d889bab65… (all of the seat's roots in one cut). By AI agents, Wed Nov 11 2026. No macro, syntax, notation, axiom, sorry.
-/
import Derived.Test.YtjlaoocomkonhaaChecked
import GoSem.Claim
import GoSem.ClaimJoined
import GoSem.ClaimMapViews
import Derived.JoinedTies
import Derived.KernelRfl
namespace Go.Proofs.Ytjlaoocomkonhaa
/- THE CELL 'sum', in the pinned program and in every row, IS THE sha256 OF THE DUMP (.gsa) THAT YtjlaoocomkonhaaProg.lean LOADS. Nothing in Lean hashes anything: it is a label: what it is worth is what the hold of that sum in a sandbox is worth. -/
noncomputable def Try.pinned : Pinned := { name := "ytjlaoocomkonhaa", sum := "24024c0d889bab65eabf8492c28fe68c0db839578bf7376fa2485dc5ace7c914", checked := Try.checked }
namespace Rows
def none {H : Type} : Left H := { results := [], args := [] }

/-- 'laws.FnExactFirstLook': WHATEVER THE INPUT: true; the input reads as it did. -/
def fnExactFirstLookSpec : ChangeSpec := { name := "fnExactFirstLook", fn := fun _ => fun
  | [d] => { results := [.lit (.bool true)], args := [d] }
  | _ => none }
def fnExactFirstLookRow : OpenClaim := { program := "ytjlaoocomkonhaa", sum := "24024c0d889bab65eabf8492c28fe68c0db839578bf7376fa2485dc5ace7c914", func := "loop.example/g01203/laws.FnExactFirstLook", spec := "fnExactFirstLook", unfollowed := true, recurses := true, apart := false }
def FnExactFirstLookSaid : Prop := fnExactFirstLookRow.holds Try.pinned (OpenSpec.ofChange fnExactFirstLookSpec)

/-- ITS FALSE NEIGHBOUR: 'it returns false'. Refute it at one input. -/
def fnExactFirstLookWrong : ChangeSpec := { name := "fnExactFirstLook", fn := fun _ => fun
  | [d] => { results := [.lit (.bool false)], args := [d] }
  | _ => none }
def FnExactFirstLookWrongFalsely : Prop := fnExactFirstLookRow.holds Try.pinned (OpenSpec.ofChange fnExactFirstLookWrong)

/-- 'laws.FnExactMapHand': WHATEVER THE INPUT: true; the input reads as it did. -/
def fnExactMapHandSpec : ChangeSpec := { name := "fnExactMapHand", fn := fun _ => fun
  | [d1, d2] => { results := [.lit (.bool true)], args := [d1, d2] }
  | _ => none }
def fnExactMapHandRow : OpenClaim := { program := "ytjlaoocomkonhaa", sum := "24024c0d889bab65eabf8492c28fe68c0db839578bf7376fa2485dc5ace7c914", func := "loop.example/g01203/laws.FnExactMapHand", spec := "fnExactMapHand", unfollowed := true, recurses := true, apart := false }
def FnExactMapHandSaid : Prop := fnExactMapHandRow.holds Try.pinned (OpenSpec.ofChange fnExactMapHandSpec)

/-- ITS FALSE NEIGHBOUR: 'it returns false'. Refute it at one input. -/
def fnExactMapHandWrong : ChangeSpec := { name := "fnExactMapHand", fn := fun _ => fun
  | [d1, d2] => { results := [.lit (.bool false)], args := [d1, d2] }
  | _ => none }
def FnExactMapHandWrongFalsely : Prop := fnExactMapHandRow.holds Try.pinned (OpenSpec.ofChange fnExactMapHandWrong)

/-- 'laws.FnExactFixedCards': WHATEVER THE INPUT: true; the input reads as it did. -/
def fnExactFixedCardsSpec : ChangeSpec := { name := "fnExactFixedCards", fn := fun _ => fun
  | [d] => { results := [.lit (.bool true)], args := [d] }
  | _ => none }
def fnExactFixedCardsRow : OpenClaim := { program := "ytjlaoocomkonhaa", sum := "24024c0d889bab65eabf8492c28fe68c0db839578bf7376fa2485dc5ace7c914", func := "loop.example/g01203/laws.FnExactFixedCards", spec := "fnExactFixedCards", unfollowed := true, recurses := true, apart := false }
def FnExactFixedCardsSaid : Prop := fnExactFixedCardsRow.holds Try.pinned (OpenSpec.ofChange fnExactFixedCardsSpec)

/-- ITS FALSE NEIGHBOUR: 'it returns false'. Refute it at one input. -/
def fnExactFixedCardsWrong : ChangeSpec := { name := "fnExactFixedCards", fn := fun _ => fun
  | [d] => { results := [.lit (.bool false)], args := [d] }
  | _ => none }
def FnExactFixedCardsWrongFalsely : Prop := fnExactFixedCardsRow.holds Try.pinned (OpenSpec.ofChange fnExactFixedCardsWrong)

/-- 'laws.FnExactOrbitOf': WHATEVER THE INPUT: true; the input reads as it did. -/
def fnExactOrbitOfSpec : ChangeSpec := { name := "fnExactOrbitOf", fn := fun _ => fun
  | [d1, d2] => { results := [.lit (.bool true)], args := [d1, d2] }
  | _ => none }
def fnExactOrbitOfRow : OpenClaim := { program := "ytjlaoocomkonhaa", sum := "24024c0d889bab65eabf8492c28fe68c0db839578bf7376fa2485dc5ace7c914", func := "loop.example/g01203/laws.FnExactOrbitOf", spec := "fnExactOrbitOf", unfollowed := true, recurses := true, apart := false }
def FnExactOrbitOfSaid : Prop := fnExactOrbitOfRow.holds Try.pinned (OpenSpec.ofChange fnExactOrbitOfSpec)

/-- ITS FALSE NEIGHBOUR: 'it returns false'. Refute it at one input. -/
def fnExactOrbitOfWrong : ChangeSpec := { name := "fnExactOrbitOf", fn := fun _ => fun
  | [d1, d2] => { results := [.lit (.bool false)], args := [d1, d2] }
  | _ => none }
def FnExactOrbitOfWrongFalsely : Prop := fnExactOrbitOfRow.holds Try.pinned (OpenSpec.ofChange fnExactOrbitOfWrong)

/- THE SECOND FORM. 'bulk': how many values and letters a reading holds, each counted each time it is reached (what is shared counts as often as it is met; a slice's spare places count too). A statement '..UptoSaid' is the law's where the arguments, and the package variables that the reading takes, are together of bulk at most 1048576: NARROWER than '..Said'. Prove '..Said' where nothing that the law and all that it calls make is longer than what came in: it says more and counts as full. Else prove '..UptoSaid'. A law counts once. -/
mutual
def uptoBulk {H : Type} : DataW H → Nat
  | .lit (.string bytes) => bytes.length + 1
  | .lit _ => 1
  | .nil => 1
  | .ptr d => uptoBulk d + 1
  | .slice elems spare => uptoBulkAll elems + uptoBulkAll spare + 1
  | .agg parts => uptoBulkAll parts + 1
  | .iface _ d => uptoBulk d + 1
  | .map entries => uptoBulkEntries entries + 1
  | .held _ => 1
def uptoBulkAll {H : Type} : List (DataW H) → Nat
  | [] => 0
  | d :: r => uptoBulk d + uptoBulkAll r
def uptoBulkEntries {H : Type} : List (Lit × DataW H) → Nat
  | [] => 0
  | x :: r => uptoBulkEntry x + uptoBulkEntries r
def uptoBulkEntry {H : Type} : Lit × DataW H → Nat
  | (.string bytes, d) => bytes.length + uptoBulk d + 1
  | (_, d) => uptoBulk d + 1
 end
def uptoSmall : (H : Type) → List (DataW H) → Bool := fun _ ds => decide (uptoBulkAll ds ≤ 1048576)
def OpenSpec.upto (s : _root_.Go.ChangeSpec) : _root_.Go.OpenSpec := { _root_.Go.OpenSpec.ofChange s with cond := some uptoSmall }

/-- 'laws.FnExactFirstLook', WHERE WHAT IT READS IS OF BULK AT MOST 1048576: true; the input reads as it did. -/
def fnExactFirstLookUptoRow : OpenClaim := { program := "ytjlaoocomkonhaa", sum := "24024c0d889bab65eabf8492c28fe68c0db839578bf7376fa2485dc5ace7c914", func := "loop.example/g01203/laws.FnExactFirstLook", spec := "fnExactFirstLook", unfollowed := true, recurses := true, apart := false, narrowed := true }
def FnExactFirstLookUptoSaid : Prop := fnExactFirstLookUptoRow.holds Try.pinned (OpenSpec.upto fnExactFirstLookSpec)

/-- 'laws.FnExactMapHand', WHERE WHAT IT READS IS OF BULK AT MOST 1048576: true; the input reads as it did. -/
def fnExactMapHandUptoRow : OpenClaim := { program := "ytjlaoocomkonhaa", sum := "24024c0d889bab65eabf8492c28fe68c0db839578bf7376fa2485dc5ace7c914", func := "loop.example/g01203/laws.FnExactMapHand", spec := "fnExactMapHand", unfollowed := true, recurses := true, apart := false, narrowed := true }
def FnExactMapHandUptoSaid : Prop := fnExactMapHandUptoRow.holds Try.pinned (OpenSpec.upto fnExactMapHandSpec)

/-- 'laws.FnExactFixedCards', WHERE WHAT IT READS IS OF BULK AT MOST 1048576: true; the input reads as it did. -/
def fnExactFixedCardsUptoRow : OpenClaim := { program := "ytjlaoocomkonhaa", sum := "24024c0d889bab65eabf8492c28fe68c0db839578bf7376fa2485dc5ace7c914", func := "loop.example/g01203/laws.FnExactFixedCards", spec := "fnExactFixedCards", unfollowed := true, recurses := true, apart := false, narrowed := true }
def FnExactFixedCardsUptoSaid : Prop := fnExactFixedCardsUptoRow.holds Try.pinned (OpenSpec.upto fnExactFixedCardsSpec)

/-- 'laws.FnExactOrbitOf', WHERE WHAT IT READS IS OF BULK AT MOST 1048576: true; the input reads as it did. -/
def fnExactOrbitOfUptoRow : OpenClaim := { program := "ytjlaoocomkonhaa", sum := "24024c0d889bab65eabf8492c28fe68c0db839578bf7376fa2485dc5ace7c914", func := "loop.example/g01203/laws.FnExactOrbitOf", spec := "fnExactOrbitOf", unfollowed := true, recurses := true, apart := false, narrowed := true }
def FnExactOrbitOfUptoSaid : Prop := fnExactOrbitOfUptoRow.holds Try.pinned (OpenSpec.upto fnExactOrbitOfSpec)

end Rows
end Go.Proofs.Ytjlaoocomkonhaa
