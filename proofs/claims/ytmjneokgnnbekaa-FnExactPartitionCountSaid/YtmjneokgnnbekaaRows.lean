/-
  No cell of these rows narrows 'for every input' (looked for: loops, veiled, ifaces, maps, wideKeys, modest, calm, conditions, laid).
  DERIVED. THE GIVEN ROWS OF THIS SEAT. 5 by the template 'for every input the law returns true; each argument reads behind the call as it read before'; 0 by the template 'total and deterministic' (their statements: YtmjneokgnnbekaaTotals.lean).
  GIVEN WITH THE SEED: the statements are not yours to turn. If you find one false, say at which input.
  Laid BY PROGRAM, IN A SANDBOX (cutbox-rows.mjs): the forced cells as the released guide's own fill.sh prints them over the translation ee426d94bb2d4339… (all of the seat's roots in one cut). By AI agents, Wed Nov 11 2026. No macro, syntax, notation, axiom, sorry.
-/
import Derived.Test.YtmjneokgnnbekaaChecked
import GoSem.Claim
import GoSem.ClaimJoined
import GoSem.ClaimMapViews
import Derived.JoinedTies
import Derived.KernelRfl
namespace Go.Proofs.Ytmjneokgnnbekaa
/- THE CELL 'sum', in the pinned program and in every row, IS THE sha256 OF THE DUMP (.gsa) THAT YtmjneokgnnbekaaProg.lean LOADS. Nothing in Lean hashes anything: it is a label: what it is worth is what the hold of that sum in a sandbox is worth. -/
noncomputable def Try.pinned : Pinned := { name := "ytmjneokgnnbekaa", sum := "ee426d94bb2d4339c2663ddbdc270b3d81784c588753ca45d97112cbfe594f5d", checked := Try.checked }
namespace Rows
def none {H : Type} : Left H := { results := [], args := [] }

/-- 'laws.FnExactPartitionCount': WHATEVER THE INPUT: true; the input reads as it did. -/
def fnExactPartitionCountSpec : ChangeSpec := { name := "fnExactPartitionCount", fn := fun _ => fun
  | [d1, d2] => { results := [.lit (.bool true)], args := [d1, d2] }
  | _ => none }
def fnExactPartitionCountRow : OpenClaim := { program := "ytmjneokgnnbekaa", sum := "ee426d94bb2d4339c2663ddbdc270b3d81784c588753ca45d97112cbfe594f5d", func := "loop.example/g02076/laws.FnExactPartitionCount", spec := "fnExactPartitionCount", unfollowed := true, recurses := true, plainKeys := false, apart := false }
def FnExactPartitionCountSaid : Prop := fnExactPartitionCountRow.holds Try.pinned (OpenSpec.ofChange fnExactPartitionCountSpec)

/-- ITS FALSE NEIGHBOUR: 'it returns false'. Refute it at one input. -/
def fnExactPartitionCountWrong : ChangeSpec := { name := "fnExactPartitionCount", fn := fun _ => fun
  | [d1, d2] => { results := [.lit (.bool false)], args := [d1, d2] }
  | _ => none }
def FnExactPartitionCountWrongFalsely : Prop := fnExactPartitionCountRow.holds Try.pinned (OpenSpec.ofChange fnExactPartitionCountWrong)

/-- 'laws.FnExactDimensionOfSum': WHATEVER THE INPUT: true; the input reads as it did. -/
def fnExactDimensionOfSumSpec : ChangeSpec := { name := "fnExactDimensionOfSum", fn := fun _ => fun
  | [d1, d2] => { results := [.lit (.bool true)], args := [d1, d2] }
  | _ => none }
def fnExactDimensionOfSumRow : OpenClaim := { program := "ytmjneokgnnbekaa", sum := "ee426d94bb2d4339c2663ddbdc270b3d81784c588753ca45d97112cbfe594f5d", func := "loop.example/g02076/laws.FnExactDimensionOfSum", spec := "fnExactDimensionOfSum", unfollowed := true, recurses := true, plainKeys := false, apart := false }
def FnExactDimensionOfSumSaid : Prop := fnExactDimensionOfSumRow.holds Try.pinned (OpenSpec.ofChange fnExactDimensionOfSumSpec)

/-- ITS FALSE NEIGHBOUR: 'it returns false'. Refute it at one input. -/
def fnExactDimensionOfSumWrong : ChangeSpec := { name := "fnExactDimensionOfSum", fn := fun _ => fun
  | [d1, d2] => { results := [.lit (.bool false)], args := [d1, d2] }
  | _ => none }
def FnExactDimensionOfSumWrongFalsely : Prop := fnExactDimensionOfSumRow.holds Try.pinned (OpenSpec.ofChange fnExactDimensionOfSumWrong)

/-- 'laws.FnExactDemazureStep': WHATEVER THE INPUT: true; the input reads as it did. -/
def fnExactDemazureStepSpec : ChangeSpec := { name := "fnExactDemazureStep", fn := fun _ => fun
  | [d1, d2, d3] => { results := [.lit (.bool true)], args := [d1, d2, d3] }
  | _ => none }
def fnExactDemazureStepRow : OpenClaim := { program := "ytmjneokgnnbekaa", sum := "ee426d94bb2d4339c2663ddbdc270b3d81784c588753ca45d97112cbfe594f5d", func := "loop.example/g02076/laws.FnExactDemazureStep", spec := "fnExactDemazureStep", unfollowed := true, recurses := true, plainKeys := false, apart := false }
def FnExactDemazureStepSaid : Prop := fnExactDemazureStepRow.holds Try.pinned (OpenSpec.ofChange fnExactDemazureStepSpec)

/-- ITS FALSE NEIGHBOUR: 'it returns false'. Refute it at one input. -/
def fnExactDemazureStepWrong : ChangeSpec := { name := "fnExactDemazureStep", fn := fun _ => fun
  | [d1, d2, d3] => { results := [.lit (.bool false)], args := [d1, d2, d3] }
  | _ => none }
def FnExactDemazureStepWrongFalsely : Prop := fnExactDemazureStepRow.holds Try.pinned (OpenSpec.ofChange fnExactDemazureStepWrong)

/-- 'laws.FnExactDemazureCharacter': WHATEVER THE INPUT: true; the input reads as it did. -/
def fnExactDemazureCharacterSpec : ChangeSpec := { name := "fnExactDemazureCharacter", fn := fun _ => fun
  | [d1, d2, d3] => { results := [.lit (.bool true)], args := [d1, d2, d3] }
  | _ => none }
def fnExactDemazureCharacterRow : OpenClaim := { program := "ytmjneokgnnbekaa", sum := "ee426d94bb2d4339c2663ddbdc270b3d81784c588753ca45d97112cbfe594f5d", func := "loop.example/g02076/laws.FnExactDemazureCharacter", spec := "fnExactDemazureCharacter", unfollowed := true, recurses := true, plainKeys := false, apart := false }
def FnExactDemazureCharacterSaid : Prop := fnExactDemazureCharacterRow.holds Try.pinned (OpenSpec.ofChange fnExactDemazureCharacterSpec)

/-- ITS FALSE NEIGHBOUR: 'it returns false'. Refute it at one input. -/
def fnExactDemazureCharacterWrong : ChangeSpec := { name := "fnExactDemazureCharacter", fn := fun _ => fun
  | [d1, d2, d3] => { results := [.lit (.bool false)], args := [d1, d2, d3] }
  | _ => none }
def FnExactDemazureCharacterWrongFalsely : Prop := fnExactDemazureCharacterRow.holds Try.pinned (OpenSpec.ofChange fnExactDemazureCharacterWrong)

/-- 'laws.FnExactFilterSizes': WHATEVER THE INPUT: true; the input reads as it did. -/
def fnExactFilterSizesSpec : ChangeSpec := { name := "fnExactFilterSizes", fn := fun _ => fun
  | [d1, d2, d3] => { results := [.lit (.bool true)], args := [d1, d2, d3] }
  | _ => none }
def fnExactFilterSizesRow : OpenClaim := { program := "ytmjneokgnnbekaa", sum := "ee426d94bb2d4339c2663ddbdc270b3d81784c588753ca45d97112cbfe594f5d", func := "loop.example/g02076/laws.FnExactFilterSizes", spec := "fnExactFilterSizes", unfollowed := true, recurses := true, plainKeys := false, apart := false }
def FnExactFilterSizesSaid : Prop := fnExactFilterSizesRow.holds Try.pinned (OpenSpec.ofChange fnExactFilterSizesSpec)

/-- ITS FALSE NEIGHBOUR: 'it returns false'. Refute it at one input. -/
def fnExactFilterSizesWrong : ChangeSpec := { name := "fnExactFilterSizes", fn := fun _ => fun
  | [d1, d2, d3] => { results := [.lit (.bool false)], args := [d1, d2, d3] }
  | _ => none }
def FnExactFilterSizesWrongFalsely : Prop := fnExactFilterSizesRow.holds Try.pinned (OpenSpec.ofChange fnExactFilterSizesWrong)

/- THE SECOND FORM. 'bulk': how many values and letters a reading holds, each counted each time it is reached (what is shared counts as often as it is met; a slice's spare places count too). A statement '..UptoSaid' is the law's where the arguments, and the package variables that the reading takes, are together of bulk at most 1048576: NARROWER than '..Said'. Prove '..Said' where nothing that the law and all that it calls make is longer than what came in: it says more and counts as full. Else prove '..UptoSaid'. A law counts once. -/
mutual
def uptoBulk {H : Type} : DataW H → Nat
  | .lit (.string bytes) => bytes.length + 1
  | .lit _ => 1
  | .nil => 1
  | .ptr d => uptoBulk d + 1
  | .slice elems spare => uptoBulkAll elems + uptoBulkAll spare + 1
  | .agg parts => uptoBulkAll parts + 1
  | .iface _ d => uptoBulk d + 1
  | .map entries => uptoBulkEntries entries + 1
  | .held _ => 1
def uptoBulkAll {H : Type} : List (DataW H) → Nat
  | [] => 0
  | d :: r => uptoBulk d + uptoBulkAll r
def uptoBulkEntries {H : Type} : List (Lit × DataW H) → Nat
  | [] => 0
  | x :: r => uptoBulkEntry x + uptoBulkEntries r
def uptoBulkEntry {H : Type} : Lit × DataW H → Nat
  | (.string bytes, d) => bytes.length + uptoBulk d + 1
  | (_, d) => uptoBulk d + 1
 end
def uptoSmall : (H : Type) → List (DataW H) → Bool := fun _ ds => decide (uptoBulkAll ds ≤ 1048576)
def OpenSpec.upto (s : _root_.Go.ChangeSpec) : _root_.Go.OpenSpec := { _root_.Go.OpenSpec.ofChange s with cond := some uptoSmall }

/-- 'laws.FnExactPartitionCount', WHERE WHAT IT READS IS OF BULK AT MOST 1048576: true; the input reads as it did. -/
def fnExactPartitionCountUptoRow : OpenClaim := { program := "ytmjneokgnnbekaa", sum := "ee426d94bb2d4339c2663ddbdc270b3d81784c588753ca45d97112cbfe594f5d", func := "loop.example/g02076/laws.FnExactPartitionCount", spec := "fnExactPartitionCount", unfollowed := true, recurses := true, plainKeys := false, apart := false, narrowed := true }
def FnExactPartitionCountUptoSaid : Prop := fnExactPartitionCountUptoRow.holds Try.pinned (OpenSpec.upto fnExactPartitionCountSpec)

/-- 'laws.FnExactDimensionOfSum', WHERE WHAT IT READS IS OF BULK AT MOST 1048576: true; the input reads as it did. -/
def fnExactDimensionOfSumUptoRow : OpenClaim := { program := "ytmjneokgnnbekaa", sum := "ee426d94bb2d4339c2663ddbdc270b3d81784c588753ca45d97112cbfe594f5d", func := "loop.example/g02076/laws.FnExactDimensionOfSum", spec := "fnExactDimensionOfSum", unfollowed := true, recurses := true, plainKeys := false, apart := false, narrowed := true }
def FnExactDimensionOfSumUptoSaid : Prop := fnExactDimensionOfSumUptoRow.holds Try.pinned (OpenSpec.upto fnExactDimensionOfSumSpec)

/-- 'laws.FnExactDemazureStep', WHERE WHAT IT READS IS OF BULK AT MOST 1048576: true; the input reads as it did. -/
def fnExactDemazureStepUptoRow : OpenClaim := { program := "ytmjneokgnnbekaa", sum := "ee426d94bb2d4339c2663ddbdc270b3d81784c588753ca45d97112cbfe594f5d", func := "loop.example/g02076/laws.FnExactDemazureStep", spec := "fnExactDemazureStep", unfollowed := true, recurses := true, plainKeys := false, apart := false, narrowed := true }
def FnExactDemazureStepUptoSaid : Prop := fnExactDemazureStepUptoRow.holds Try.pinned (OpenSpec.upto fnExactDemazureStepSpec)

/-- 'laws.FnExactDemazureCharacter', WHERE WHAT IT READS IS OF BULK AT MOST 1048576: true; the input reads as it did. -/
def fnExactDemazureCharacterUptoRow : OpenClaim := { program := "ytmjneokgnnbekaa", sum := "ee426d94bb2d4339c2663ddbdc270b3d81784c588753ca45d97112cbfe594f5d", func := "loop.example/g02076/laws.FnExactDemazureCharacter", spec := "fnExactDemazureCharacter", unfollowed := true, recurses := true, plainKeys := false, apart := false, narrowed := true }
def FnExactDemazureCharacterUptoSaid : Prop := fnExactDemazureCharacterUptoRow.holds Try.pinned (OpenSpec.upto fnExactDemazureCharacterSpec)

/-- 'laws.FnExactFilterSizes', WHERE WHAT IT READS IS OF BULK AT MOST 1048576: true; the input reads as it did. -/
def fnExactFilterSizesUptoRow : OpenClaim := { program := "ytmjneokgnnbekaa", sum := "ee426d94bb2d4339c2663ddbdc270b3d81784c588753ca45d97112cbfe594f5d", func := "loop.example/g02076/laws.FnExactFilterSizes", spec := "fnExactFilterSizes", unfollowed := true, recurses := true, plainKeys := false, apart := false, narrowed := true }
def FnExactFilterSizesUptoSaid : Prop := fnExactFilterSizesUptoRow.holds Try.pinned (OpenSpec.upto fnExactFilterSizesSpec)

end Rows
end Go.Proofs.Ytmjneokgnnbekaa
