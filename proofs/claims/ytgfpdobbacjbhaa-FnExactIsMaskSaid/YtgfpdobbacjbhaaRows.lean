/-
  No cell of these rows narrows 'for every input' (looked for: loops, veiled, ifaces, maps, wideKeys, modest, calm, conditions, laid).
  DERIVED. THE GIVEN ROWS OF THIS SEAT. 6 by the template 'for every input the law returns true; each argument reads behind the call as it read before'; 0 by the template 'total and deterministic' (their statements: YtgfpdobbacjbhaaTotals.lean).
  GIVEN WITH THE SEED: the statements are not yours to turn. If you find one false, say at which input.
  Laid BY PROGRAM, IN A SANDBOX (cutbox-rows.mjs): the forced cells as the released guide's own fill.sh prints them over the translation 05432c507aebcb7d… (all of the seat's roots in one cut). By AI agents, Wed Nov 11 2026. No macro, syntax, notation, axiom, sorry.
-/
import Derived.Test.YtgfpdobbacjbhaaChecked
import GoSem.Claim
import GoSem.ClaimJoined
import GoSem.ClaimMapViews
import Derived.JoinedTies
import Derived.KernelRfl
namespace Go.Proofs.Ytgfpdobbacjbhaa
/- THE CELL 'sum', in the pinned program and in every row, IS THE sha256 OF THE DUMP (.gsa) THAT YtgfpdobbacjbhaaProg.lean LOADS. Nothing in Lean hashes anything: it is a label: what it is worth is what the hold of that sum in a sandbox is worth. -/
noncomputable def Try.pinned : Pinned := { name := "ytgfpdobbacjbhaa", sum := "05432c507aebcb7d54c4a74636166fe078d4e206950c7fbc29d80e7d86be730a", checked := Try.checked }
namespace Rows
def none {H : Type} : Left H := { results := [], args := [] }

/-- 'laws.FnExactIsMask': WHATEVER THE INPUT: true; the input reads as it did. -/
def fnExactIsMaskSpec : ChangeSpec := { name := "fnExactIsMask", fn := fun _ => fun
  | [d] => { results := [.lit (.bool true)], args := [d] }
  | _ => none }
def fnExactIsMaskRow : OpenClaim := { program := "ytgfpdobbacjbhaa", sum := "05432c507aebcb7d54c4a74636166fe078d4e206950c7fbc29d80e7d86be730a", func := "loop.example/g01203/laws.FnExactIsMask", spec := "fnExactIsMask", apart := false }
def FnExactIsMaskSaid : Prop := fnExactIsMaskRow.holds Try.pinned (OpenSpec.ofChange fnExactIsMaskSpec)

/-- ITS FALSE NEIGHBOUR: 'it returns false'. Refute it at one input. -/
def fnExactIsMaskWrong : ChangeSpec := { name := "fnExactIsMask", fn := fun _ => fun
  | [d] => { results := [.lit (.bool false)], args := [d] }
  | _ => none }
def FnExactIsMaskWrongFalsely : Prop := fnExactIsMaskRow.holds Try.pinned (OpenSpec.ofChange fnExactIsMaskWrong)

/-- 'laws.FnExactAllOfKind': WHATEVER THE INPUT: true; the input reads as it did. -/
def fnExactAllOfKindSpec : ChangeSpec := { name := "fnExactAllOfKind", fn := fun _ => fun
  | [d] => { results := [.lit (.bool true)], args := [d] }
  | _ => none }
def fnExactAllOfKindRow : OpenClaim := { program := "ytgfpdobbacjbhaa", sum := "05432c507aebcb7d54c4a74636166fe078d4e206950c7fbc29d80e7d86be730a", func := "loop.example/g01203/laws.FnExactAllOfKind", spec := "fnExactAllOfKind", apart := false }
def FnExactAllOfKindSaid : Prop := fnExactAllOfKindRow.holds Try.pinned (OpenSpec.ofChange fnExactAllOfKindSpec)

/-- ITS FALSE NEIGHBOUR: 'it returns false'. Refute it at one input. -/
def fnExactAllOfKindWrong : ChangeSpec := { name := "fnExactAllOfKind", fn := fun _ => fun
  | [d] => { results := [.lit (.bool false)], args := [d] }
  | _ => none }
def FnExactAllOfKindWrongFalsely : Prop := fnExactAllOfKindRow.holds Try.pinned (OpenSpec.ofChange fnExactAllOfKindWrong)

/-- 'laws.FnExactCountFlats': WHATEVER THE INPUT: true; the input reads as it did. -/
def fnExactCountFlatsSpec : ChangeSpec := { name := "fnExactCountFlats", fn := fun _ => fun
  | [d] => { results := [.lit (.bool true)], args := [d] }
  | _ => none }
def fnExactCountFlatsRow : OpenClaim := { program := "ytgfpdobbacjbhaa", sum := "05432c507aebcb7d54c4a74636166fe078d4e206950c7fbc29d80e7d86be730a", func := "loop.example/g01203/laws.FnExactCountFlats", spec := "fnExactCountFlats", apart := false }
def FnExactCountFlatsSaid : Prop := fnExactCountFlatsRow.holds Try.pinned (OpenSpec.ofChange fnExactCountFlatsSpec)

/-- ITS FALSE NEIGHBOUR: 'it returns false'. Refute it at one input. -/
def fnExactCountFlatsWrong : ChangeSpec := { name := "fnExactCountFlats", fn := fun _ => fun
  | [d] => { results := [.lit (.bool false)], args := [d] }
  | _ => none }
def FnExactCountFlatsWrongFalsely : Prop := fnExactCountFlatsRow.holds Try.pinned (OpenSpec.ofChange fnExactCountFlatsWrong)

/-- 'laws.FnExactIsCodeword': WHATEVER THE INPUT: true; the input reads as it did. -/
def fnExactIsCodewordSpec : ChangeSpec := { name := "fnExactIsCodeword", fn := fun _ => fun
  | [d] => { results := [.lit (.bool true)], args := [d] }
  | _ => none }
def fnExactIsCodewordRow : OpenClaim := { program := "ytgfpdobbacjbhaa", sum := "05432c507aebcb7d54c4a74636166fe078d4e206950c7fbc29d80e7d86be730a", func := "loop.example/g01203/laws.FnExactIsCodeword", spec := "fnExactIsCodeword", unfollowed := true, recurses := true, apart := false }
def FnExactIsCodewordSaid : Prop := fnExactIsCodewordRow.holds Try.pinned (OpenSpec.ofChange fnExactIsCodewordSpec)

/-- ITS FALSE NEIGHBOUR: 'it returns false'. Refute it at one input. -/
def fnExactIsCodewordWrong : ChangeSpec := { name := "fnExactIsCodeword", fn := fun _ => fun
  | [d] => { results := [.lit (.bool false)], args := [d] }
  | _ => none }
def FnExactIsCodewordWrongFalsely : Prop := fnExactIsCodewordRow.holds Try.pinned (OpenSpec.ofChange fnExactIsCodewordWrong)

/-- 'laws.FnExactIsWeight': WHATEVER THE INPUT: true; the input reads as it did. -/
def fnExactIsWeightSpec : ChangeSpec := { name := "fnExactIsWeight", fn := fun _ => fun
  | [d] => { results := [.lit (.bool true)], args := [d] }
  | _ => none }
def fnExactIsWeightRow : OpenClaim := { program := "ytgfpdobbacjbhaa", sum := "05432c507aebcb7d54c4a74636166fe078d4e206950c7fbc29d80e7d86be730a", func := "loop.example/g01203/laws.FnExactIsWeight", spec := "fnExactIsWeight", unfollowed := true, recurses := true, apart := false }
def FnExactIsWeightSaid : Prop := fnExactIsWeightRow.holds Try.pinned (OpenSpec.ofChange fnExactIsWeightSpec)

/-- ITS FALSE NEIGHBOUR: 'it returns false'. Refute it at one input. -/
def fnExactIsWeightWrong : ChangeSpec := { name := "fnExactIsWeight", fn := fun _ => fun
  | [d] => { results := [.lit (.bool false)], args := [d] }
  | _ => none }
def FnExactIsWeightWrongFalsely : Prop := fnExactIsWeightRow.holds Try.pinned (OpenSpec.ofChange fnExactIsWeightWrong)

/-- 'laws.FnExactMeanLines': WHATEVER THE INPUT: true; the input reads as it did. -/
def fnExactMeanLinesSpec : ChangeSpec := { name := "fnExactMeanLines", fn := fun _ => fun
  | [d] => { results := [.lit (.bool true)], args := [d] }
  | _ => none }
def fnExactMeanLinesRow : OpenClaim := { program := "ytgfpdobbacjbhaa", sum := "05432c507aebcb7d54c4a74636166fe078d4e206950c7fbc29d80e7d86be730a", func := "loop.example/g01203/laws.FnExactMeanLines", spec := "fnExactMeanLines", apart := false }
def FnExactMeanLinesSaid : Prop := fnExactMeanLinesRow.holds Try.pinned (OpenSpec.ofChange fnExactMeanLinesSpec)

/-- ITS FALSE NEIGHBOUR: 'it returns false'. Refute it at one input. -/
def fnExactMeanLinesWrong : ChangeSpec := { name := "fnExactMeanLines", fn := fun _ => fun
  | [d] => { results := [.lit (.bool false)], args := [d] }
  | _ => none }
def FnExactMeanLinesWrongFalsely : Prop := fnExactMeanLinesRow.holds Try.pinned (OpenSpec.ofChange fnExactMeanLinesWrong)

/- THE SECOND FORM. 'bulk': how many values and letters a reading holds, each counted each time it is reached (what is shared counts as often as it is met; a slice's spare places count too). A statement '..UptoSaid' is the law's where the arguments, and the package variables that the reading takes, are together of bulk at most 1048576: NARROWER than '..Said'. Prove '..Said' where nothing that the law and all that it calls make is longer than what came in: it says more and counts as full. Else prove '..UptoSaid'. A law counts once. -/
mutual
def uptoBulk {H : Type} : DataW H → Nat
  | .lit (.string bytes) => bytes.length + 1
  | .lit _ => 1
  | .nil => 1
  | .ptr d => uptoBulk d + 1
  | .slice elems spare => uptoBulkAll elems + uptoBulkAll spare + 1
  | .agg parts => uptoBulkAll parts + 1
  | .iface _ d => uptoBulk d + 1
  | .map entries => uptoBulkEntries entries + 1
  | .held _ => 1
def uptoBulkAll {H : Type} : List (DataW H) → Nat
  | [] => 0
  | d :: r => uptoBulk d + uptoBulkAll r
def uptoBulkEntries {H : Type} : List (Lit × DataW H) → Nat
  | [] => 0
  | x :: r => uptoBulkEntry x + uptoBulkEntries r
def uptoBulkEntry {H : Type} : Lit × DataW H → Nat
  | (.string bytes, d) => bytes.length + uptoBulk d + 1
  | (_, d) => uptoBulk d + 1
 end
def uptoSmall : (H : Type) → List (DataW H) → Bool := fun _ ds => decide (uptoBulkAll ds ≤ 1048576)
def OpenSpec.upto (s : _root_.Go.ChangeSpec) : _root_.Go.OpenSpec := { _root_.Go.OpenSpec.ofChange s with cond := some uptoSmall }

/-- 'laws.FnExactIsMask', WHERE WHAT IT READS IS OF BULK AT MOST 1048576: true; the input reads as it did. -/
def fnExactIsMaskUptoRow : OpenClaim := { program := "ytgfpdobbacjbhaa", sum := "05432c507aebcb7d54c4a74636166fe078d4e206950c7fbc29d80e7d86be730a", func := "loop.example/g01203/laws.FnExactIsMask", spec := "fnExactIsMask", apart := false, narrowed := true }
def FnExactIsMaskUptoSaid : Prop := fnExactIsMaskUptoRow.holds Try.pinned (OpenSpec.upto fnExactIsMaskSpec)

/-- 'laws.FnExactAllOfKind', WHERE WHAT IT READS IS OF BULK AT MOST 1048576: true; the input reads as it did. -/
def fnExactAllOfKindUptoRow : OpenClaim := { program := "ytgfpdobbacjbhaa", sum := "05432c507aebcb7d54c4a74636166fe078d4e206950c7fbc29d80e7d86be730a", func := "loop.example/g01203/laws.FnExactAllOfKind", spec := "fnExactAllOfKind", apart := false, narrowed := true }
def FnExactAllOfKindUptoSaid : Prop := fnExactAllOfKindUptoRow.holds Try.pinned (OpenSpec.upto fnExactAllOfKindSpec)

/-- 'laws.FnExactCountFlats', WHERE WHAT IT READS IS OF BULK AT MOST 1048576: true; the input reads as it did. -/
def fnExactCountFlatsUptoRow : OpenClaim := { program := "ytgfpdobbacjbhaa", sum := "05432c507aebcb7d54c4a74636166fe078d4e206950c7fbc29d80e7d86be730a", func := "loop.example/g01203/laws.FnExactCountFlats", spec := "fnExactCountFlats", apart := false, narrowed := true }
def FnExactCountFlatsUptoSaid : Prop := fnExactCountFlatsUptoRow.holds Try.pinned (OpenSpec.upto fnExactCountFlatsSpec)

/-- 'laws.FnExactIsCodeword', WHERE WHAT IT READS IS OF BULK AT MOST 1048576: true; the input reads as it did. -/
def fnExactIsCodewordUptoRow : OpenClaim := { program := "ytgfpdobbacjbhaa", sum := "05432c507aebcb7d54c4a74636166fe078d4e206950c7fbc29d80e7d86be730a", func := "loop.example/g01203/laws.FnExactIsCodeword", spec := "fnExactIsCodeword", unfollowed := true, recurses := true, apart := false, narrowed := true }
def FnExactIsCodewordUptoSaid : Prop := fnExactIsCodewordUptoRow.holds Try.pinned (OpenSpec.upto fnExactIsCodewordSpec)

/-- 'laws.FnExactIsWeight', WHERE WHAT IT READS IS OF BULK AT MOST 1048576: true; the input reads as it did. -/
def fnExactIsWeightUptoRow : OpenClaim := { program := "ytgfpdobbacjbhaa", sum := "05432c507aebcb7d54c4a74636166fe078d4e206950c7fbc29d80e7d86be730a", func := "loop.example/g01203/laws.FnExactIsWeight", spec := "fnExactIsWeight", unfollowed := true, recurses := true, apart := false, narrowed := true }
def FnExactIsWeightUptoSaid : Prop := fnExactIsWeightUptoRow.holds Try.pinned (OpenSpec.upto fnExactIsWeightSpec)

/-- 'laws.FnExactMeanLines', WHERE WHAT IT READS IS OF BULK AT MOST 1048576: true; the input reads as it did. -/
def fnExactMeanLinesUptoRow : OpenClaim := { program := "ytgfpdobbacjbhaa", sum := "05432c507aebcb7d54c4a74636166fe078d4e206950c7fbc29d80e7d86be730a", func := "loop.example/g01203/laws.FnExactMeanLines", spec := "fnExactMeanLines", apart := false, narrowed := true }
def FnExactMeanLinesUptoSaid : Prop := fnExactMeanLinesUptoRow.holds Try.pinned (OpenSpec.upto fnExactMeanLinesSpec)

end Rows
end Go.Proofs.Ytgfpdobbacjbhaa
