/-
  No cell of these rows narrows 'for every input' (looked for: loops, veiled, ifaces, maps, wideKeys, modest, calm, conditions, laid).
  DERIVED. THE GIVEN ROWS OF THIS SEAT. 3 by the template 'for every input the law returns true; each argument reads behind the call as it read before'; 0 by the template 'total and deterministic' (their statements: YtihfbbpkgmkbcaaTotals.lean).
  GIVEN WITH THE SEED: the statements are not yours to turn. If you find one false, say at which input.
  Laid BY PROGRAM, IN A SANDBOX (cutbox-rows.mjs): the forced cells as the released guide's own fill.sh prints them over the translation 72c54a0564f71135… (all of the seat's roots in one cut). By AI agents, Wed Nov 11 2026. No macro, syntax, notation, axiom, sorry.
-/
import Derived.Test.YtihfbbpkgmkbcaaChecked
import GoSem.Claim
import GoSem.ClaimJoined
import GoSem.ClaimMapViews
import Derived.JoinedTies
import Derived.KernelRfl
namespace Go.Proofs.Ytihfbbpkgmkbcaa
/- THE CELL 'sum', in the pinned program and in every row, IS THE sha256 OF THE DUMP (.gsa) THAT YtihfbbpkgmkbcaaProg.lean LOADS. Nothing in Lean hashes anything: it is a label: what it is worth is what the hold of that sum in a sandbox is worth. -/
noncomputable def Try.pinned : Pinned := { name := "ytihfbbpkgmkbcaa", sum := "72c54a0564f71135851e2f8251f3c10e6dd9a6161a4da7af5996331672eef568", checked := Try.checked }
namespace Rows
def none {H : Type} : Left H := { results := [], args := [] }

/-- 'laws.FnExactDemazureStep': WHATEVER THE INPUT: true; the input reads as it did. -/
def fnExactDemazureStepSpec : ChangeSpec := { name := "fnExactDemazureStep", fn := fun _ => fun
  | [d1, d2, d3] => { results := [.lit (.bool true)], args := [d1, d2, d3] }
  | _ => none }
def fnExactDemazureStepRow : OpenClaim := { program := "ytihfbbpkgmkbcaa", sum := "72c54a0564f71135851e2f8251f3c10e6dd9a6161a4da7af5996331672eef568", func := "loop.example/g02076/laws.FnExactDemazureStep", spec := "fnExactDemazureStep", unfollowed := true, recurses := true, apart := false }
def FnExactDemazureStepSaid : Prop := fnExactDemazureStepRow.holds Try.pinned (OpenSpec.ofChange fnExactDemazureStepSpec)

/-- ITS FALSE NEIGHBOUR: 'it returns false'. Refute it at one input. -/
def fnExactDemazureStepWrong : ChangeSpec := { name := "fnExactDemazureStep", fn := fun _ => fun
  | [d1, d2, d3] => { results := [.lit (.bool false)], args := [d1, d2, d3] }
  | _ => none }
def FnExactDemazureStepWrongFalsely : Prop := fnExactDemazureStepRow.holds Try.pinned (OpenSpec.ofChange fnExactDemazureStepWrong)

/-- 'laws.FnExactDemazureCharacter': WHATEVER THE INPUT: true; the input reads as it did. -/
def fnExactDemazureCharacterSpec : ChangeSpec := { name := "fnExactDemazureCharacter", fn := fun _ => fun
  | [d1, d2, d3] => { results := [.lit (.bool true)], args := [d1, d2, d3] }
  | _ => none }
def fnExactDemazureCharacterRow : OpenClaim := { program := "ytihfbbpkgmkbcaa", sum := "72c54a0564f71135851e2f8251f3c10e6dd9a6161a4da7af5996331672eef568", func := "loop.example/g02076/laws.FnExactDemazureCharacter", spec := "fnExactDemazureCharacter", unfollowed := true, recurses := true, apart := false }
def FnExactDemazureCharacterSaid : Prop := fnExactDemazureCharacterRow.holds Try.pinned (OpenSpec.ofChange fnExactDemazureCharacterSpec)

/-- ITS FALSE NEIGHBOUR: 'it returns false'. Refute it at one input. -/
def fnExactDemazureCharacterWrong : ChangeSpec := { name := "fnExactDemazureCharacter", fn := fun _ => fun
  | [d1, d2, d3] => { results := [.lit (.bool false)], args := [d1, d2, d3] }
  | _ => none }
def FnExactDemazureCharacterWrongFalsely : Prop := fnExactDemazureCharacterRow.holds Try.pinned (OpenSpec.ofChange fnExactDemazureCharacterWrong)

/-- 'laws.FnExactFilterSizes': WHATEVER THE INPUT: true; the input reads as it did. -/
def fnExactFilterSizesSpec : ChangeSpec := { name := "fnExactFilterSizes", fn := fun _ => fun
  | [d1, d2, d3] => { results := [.lit (.bool true)], args := [d1, d2, d3] }
  | _ => none }
def fnExactFilterSizesRow : OpenClaim := { program := "ytihfbbpkgmkbcaa", sum := "72c54a0564f71135851e2f8251f3c10e6dd9a6161a4da7af5996331672eef568", func := "loop.example/g02076/laws.FnExactFilterSizes", spec := "fnExactFilterSizes", unfollowed := true, recurses := true, apart := false }
def FnExactFilterSizesSaid : Prop := fnExactFilterSizesRow.holds Try.pinned (OpenSpec.ofChange fnExactFilterSizesSpec)

/-- ITS FALSE NEIGHBOUR: 'it returns false'. Refute it at one input. -/
def fnExactFilterSizesWrong : ChangeSpec := { name := "fnExactFilterSizes", fn := fun _ => fun
  | [d1, d2, d3] => { results := [.lit (.bool false)], args := [d1, d2, d3] }
  | _ => none }
def FnExactFilterSizesWrongFalsely : Prop := fnExactFilterSizesRow.holds Try.pinned (OpenSpec.ofChange fnExactFilterSizesWrong)

/- THE SECOND FORM. 'bulk': how many values and letters a reading holds, each counted each time it is reached (what is shared counts as often as it is met; a slice's spare places count too). A statement '..UptoSaid' is the law's where the arguments, and the package variables that the reading takes, are together of bulk at most 1048576: NARROWER than '..Said'. Prove '..Said' where nothing that the law and all that it calls make is longer than what came in: it says more and counts as full. Else prove '..UptoSaid'. A law counts once. -/
mutual
def uptoBulk {H : Type} : DataW H → Nat
  | .lit (.string bytes) => bytes.length + 1
  | .lit _ => 1
  | .nil => 1
  | .ptr d => uptoBulk d + 1
  | .slice elems spare => uptoBulkAll elems + uptoBulkAll spare + 1
  | .agg parts => uptoBulkAll parts + 1
  | .iface _ d => uptoBulk d + 1
  | .map entries => uptoBulkEntries entries + 1
  | .held _ => 1
def uptoBulkAll {H : Type} : List (DataW H) → Nat
  | [] => 0
  | d :: r => uptoBulk d + uptoBulkAll r
def uptoBulkEntries {H : Type} : List (Lit × DataW H) → Nat
  | [] => 0
  | x :: r => uptoBulkEntry x + uptoBulkEntries r
def uptoBulkEntry {H : Type} : Lit × DataW H → Nat
  | (.string bytes, d) => bytes.length + uptoBulk d + 1
  | (_, d) => uptoBulk d + 1
 end
def uptoSmall : (H : Type) → List (DataW H) → Bool := fun _ ds => decide (uptoBulkAll ds ≤ 1048576)
def OpenSpec.upto (s : _root_.Go.ChangeSpec) : _root_.Go.OpenSpec := { _root_.Go.OpenSpec.ofChange s with cond := some uptoSmall }

/-- 'laws.FnExactDemazureStep', WHERE WHAT IT READS IS OF BULK AT MOST 1048576: true; the input reads as it did. -/
def fnExactDemazureStepUptoRow : OpenClaim := { program := "ytihfbbpkgmkbcaa", sum := "72c54a0564f71135851e2f8251f3c10e6dd9a6161a4da7af5996331672eef568", func := "loop.example/g02076/laws.FnExactDemazureStep", spec := "fnExactDemazureStep", unfollowed := true, recurses := true, apart := false, narrowed := true }
def FnExactDemazureStepUptoSaid : Prop := fnExactDemazureStepUptoRow.holds Try.pinned (OpenSpec.upto fnExactDemazureStepSpec)

/-- 'laws.FnExactDemazureCharacter', WHERE WHAT IT READS IS OF BULK AT MOST 1048576: true; the input reads as it did. -/
def fnExactDemazureCharacterUptoRow : OpenClaim := { program := "ytihfbbpkgmkbcaa", sum := "72c54a0564f71135851e2f8251f3c10e6dd9a6161a4da7af5996331672eef568", func := "loop.example/g02076/laws.FnExactDemazureCharacter", spec := "fnExactDemazureCharacter", unfollowed := true, recurses := true, apart := false, narrowed := true }
def FnExactDemazureCharacterUptoSaid : Prop := fnExactDemazureCharacterUptoRow.holds Try.pinned (OpenSpec.upto fnExactDemazureCharacterSpec)

/-- 'laws.FnExactFilterSizes', WHERE WHAT IT READS IS OF BULK AT MOST 1048576: true; the input reads as it did. -/
def fnExactFilterSizesUptoRow : OpenClaim := { program := "ytihfbbpkgmkbcaa", sum := "72c54a0564f71135851e2f8251f3c10e6dd9a6161a4da7af5996331672eef568", func := "loop.example/g02076/laws.FnExactFilterSizes", spec := "fnExactFilterSizes", unfollowed := true, recurses := true, apart := false, narrowed := true }
def FnExactFilterSizesUptoSaid : Prop := fnExactFilterSizesUptoRow.holds Try.pinned (OpenSpec.upto fnExactFilterSizesSpec)

end Rows
end Go.Proofs.Ytihfbbpkgmkbcaa
