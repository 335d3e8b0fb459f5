/-
  No cell of these rows narrows 'for every input' (looked for: loops, veiled, ifaces, maps, wideKeys, modest, calm, conditions, laid).
  DERIVED. THE GIVEN ROWS OF THIS SEAT. 4 by the template 'for every input the law returns true; each argument reads behind the call as it read before'; 0 by the template 'total and deterministic' (their statements: YtmplcohpinghbaaTotals.lean).
  GIVEN WITH THE SEED: the statements are not yours to turn. If you find one false, say at which input.
  Laid BY PROGRAM, IN A SANDBOX (cutbox-rows.mjs): the forced cells as the released guide's own fill.sh prints them over the translation 4e36add56e90757e… (all of the seat's roots in one cut). By AI agents, Wed Nov 11 2026. No macro, syntax, notation, axiom, sorry.
-/
import Derived.Test.YtmplcohpinghbaaChecked
import GoSem.Claim
import GoSem.ClaimJoined
import GoSem.ClaimMapViews
import Derived.JoinedTies
import Derived.KernelRfl
namespace Go.Proofs.Ytmplcohpinghbaa
/- THE CELL 'sum', in the pinned program and in every row, IS THE sha256 OF THE DUMP (.gsa) THAT YtmplcohpinghbaaProg.lean LOADS. Nothing in Lean hashes anything: it is a label: what it is worth is what the hold of that sum in a sandbox is worth. -/
noncomputable def Try.pinned : Pinned := { name := "ytmplcohpinghbaa", sum := "4e36add56e90757e60352647b4088c4435dc4c6e190ec47658de625b0194671c", checked := Try.checked }
namespace Rows
def none {H : Type} : Left H := { results := [], args := [] }

/-- 'laws.FnExactSmallRoots': WHATEVER THE INPUT: true; the input reads as it did. -/
def fnExactSmallRootsSpec : ChangeSpec := { name := "fnExactSmallRoots", fn := fun _ => fun
  | [d] => { results := [.lit (.bool true)], args := [d] }
  | _ => none }
def fnExactSmallRootsRow : OpenClaim := { program := "ytmplcohpinghbaa", sum := "4e36add56e90757e60352647b4088c4435dc4c6e190ec47658de625b0194671c", func := "loop.example/g02076/laws.FnExactSmallRoots", spec := "fnExactSmallRoots", unfollowed := true, recurses := true, plainKeys := false, apart := false }
def FnExactSmallRootsSaid : Prop := fnExactSmallRootsRow.holds Try.pinned (OpenSpec.ofChange fnExactSmallRootsSpec)

/-- ITS FALSE NEIGHBOUR: 'it returns false'. Refute it at one input. -/
def fnExactSmallRootsWrong : ChangeSpec := { name := "fnExactSmallRoots", fn := fun _ => fun
  | [d] => { results := [.lit (.bool false)], args := [d] }
  | _ => none }
def FnExactSmallRootsWrongFalsely : Prop := fnExactSmallRootsRow.holds Try.pinned (OpenSpec.ofChange fnExactSmallRootsWrong)

/-- 'laws.FnExactReadsReduced': WHATEVER THE INPUT: true; the input reads as it did. -/
def fnExactReadsReducedSpec : ChangeSpec := { name := "fnExactReadsReduced", fn := fun _ => fun
  | [d1, d2] => { results := [.lit (.bool true)], args := [d1, d2] }
  | _ => none }
def fnExactReadsReducedRow : OpenClaim := { program := "ytmplcohpinghbaa", sum := "4e36add56e90757e60352647b4088c4435dc4c6e190ec47658de625b0194671c", func := "loop.example/g02076/laws.FnExactReadsReduced", spec := "fnExactReadsReduced", unfollowed := true, recurses := true, plainKeys := false, apart := false }
def FnExactReadsReducedSaid : Prop := fnExactReadsReducedRow.holds Try.pinned (OpenSpec.ofChange fnExactReadsReducedSpec)

/-- ITS FALSE NEIGHBOUR: 'it returns false'. Refute it at one input. -/
def fnExactReadsReducedWrong : ChangeSpec := { name := "fnExactReadsReduced", fn := fun _ => fun
  | [d1, d2] => { results := [.lit (.bool false)], args := [d1, d2] }
  | _ => none }
def FnExactReadsReducedWrongFalsely : Prop := fnExactReadsReducedRow.holds Try.pinned (OpenSpec.ofChange fnExactReadsReducedWrong)

/-- 'laws.FnExactNextState': WHATEVER THE INPUT: true; the input reads as it did. -/
def fnExactNextStateSpec : ChangeSpec := { name := "fnExactNextState", fn := fun _ => fun
  | [d1, d2, d3] => { results := [.lit (.bool true)], args := [d1, d2, d3] }
  | _ => none }
def fnExactNextStateRow : OpenClaim := { program := "ytmplcohpinghbaa", sum := "4e36add56e90757e60352647b4088c4435dc4c6e190ec47658de625b0194671c", func := "loop.example/g02076/laws.FnExactNextState", spec := "fnExactNextState", unfollowed := true, recurses := true, plainKeys := false, apart := false }
def FnExactNextStateSaid : Prop := fnExactNextStateRow.holds Try.pinned (OpenSpec.ofChange fnExactNextStateSpec)

/-- ITS FALSE NEIGHBOUR: 'it returns false'. Refute it at one input. -/
def fnExactNextStateWrong : ChangeSpec := { name := "fnExactNextState", fn := fun _ => fun
  | [d1, d2, d3] => { results := [.lit (.bool false)], args := [d1, d2, d3] }
  | _ => none }
def FnExactNextStateWrongFalsely : Prop := fnExactNextStateRow.holds Try.pinned (OpenSpec.ofChange fnExactNextStateWrong)

/-- 'laws.FnExactStateOf': WHATEVER THE INPUT: true; the input reads as it did. -/
def fnExactStateOfSpec : ChangeSpec := { name := "fnExactStateOf", fn := fun _ => fun
  | [d1, d2] => { results := [.lit (.bool true)], args := [d1, d2] }
  | _ => none }
def fnExactStateOfRow : OpenClaim := { program := "ytmplcohpinghbaa", sum := "4e36add56e90757e60352647b4088c4435dc4c6e190ec47658de625b0194671c", func := "loop.example/g02076/laws.FnExactStateOf", spec := "fnExactStateOf", unfollowed := true, recurses := true, plainKeys := false, apart := false }
def FnExactStateOfSaid : Prop := fnExactStateOfRow.holds Try.pinned (OpenSpec.ofChange fnExactStateOfSpec)

/-- ITS FALSE NEIGHBOUR: 'it returns false'. Refute it at one input. -/
def fnExactStateOfWrong : ChangeSpec := { name := "fnExactStateOf", fn := fun _ => fun
  | [d1, d2] => { results := [.lit (.bool false)], args := [d1, d2] }
  | _ => none }
def FnExactStateOfWrongFalsely : Prop := fnExactStateOfRow.holds Try.pinned (OpenSpec.ofChange fnExactStateOfWrong)

/- THE SECOND FORM. 'bulk': how many values and letters a reading holds, each counted each time it is reached (what is shared counts as often as it is met; a slice's spare places count too). A statement '..UptoSaid' is the law's where the arguments, and the package variables that the reading takes, are together of bulk at most 1048576: NARROWER than '..Said'. Prove '..Said' where nothing that the law and all that it calls make is longer than what came in: it says more and counts as full. Else prove '..UptoSaid'. A law counts once. -/
mutual
def uptoBulk {H : Type} : DataW H → Nat
  | .lit (.string bytes) => bytes.length + 1
  | .lit _ => 1
  | .nil => 1
  | .ptr d => uptoBulk d + 1
  | .slice elems spare => uptoBulkAll elems + uptoBulkAll spare + 1
  | .agg parts => uptoBulkAll parts + 1
  | .iface _ d => uptoBulk d + 1
  | .map entries => uptoBulkEntries entries + 1
  | .held _ => 1
def uptoBulkAll {H : Type} : List (DataW H) → Nat
  | [] => 0
  | d :: r => uptoBulk d + uptoBulkAll r
def uptoBulkEntries {H : Type} : List (Lit × DataW H) → Nat
  | [] => 0
  | x :: r => uptoBulkEntry x + uptoBulkEntries r
def uptoBulkEntry {H : Type} : Lit × DataW H → Nat
  | (.string bytes, d) => bytes.length + uptoBulk d + 1
  | (_, d) => uptoBulk d + 1
 end
def uptoSmall : (H : Type) → List (DataW H) → Bool := fun _ ds => decide (uptoBulkAll ds ≤ 1048576)
def OpenSpec.upto (s : _root_.Go.ChangeSpec) : _root_.Go.OpenSpec := { _root_.Go.OpenSpec.ofChange s with cond := some uptoSmall }

/-- 'laws.FnExactSmallRoots', WHERE WHAT IT READS IS OF BULK AT MOST 1048576: true; the input reads as it did. -/
def fnExactSmallRootsUptoRow : OpenClaim := { program := "ytmplcohpinghbaa", sum := "4e36add56e90757e60352647b4088c4435dc4c6e190ec47658de625b0194671c", func := "loop.example/g02076/laws.FnExactSmallRoots", spec := "fnExactSmallRoots", unfollowed := true, recurses := true, plainKeys := false, apart := false, narrowed := true }
def FnExactSmallRootsUptoSaid : Prop := fnExactSmallRootsUptoRow.holds Try.pinned (OpenSpec.upto fnExactSmallRootsSpec)

/-- 'laws.FnExactReadsReduced', WHERE WHAT IT READS IS OF BULK AT MOST 1048576: true; the input reads as it did. -/
def fnExactReadsReducedUptoRow : OpenClaim := { program := "ytmplcohpinghbaa", sum := "4e36add56e90757e60352647b4088c4435dc4c6e190ec47658de625b0194671c", func := "loop.example/g02076/laws.FnExactReadsReduced", spec := "fnExactReadsReduced", unfollowed := true, recurses := true, plainKeys := false, apart := false, narrowed := true }
def FnExactReadsReducedUptoSaid : Prop := fnExactReadsReducedUptoRow.holds Try.pinned (OpenSpec.upto fnExactReadsReducedSpec)

/-- 'laws.FnExactNextState', WHERE WHAT IT READS IS OF BULK AT MOST 1048576: true; the input reads as it did. -/
def fnExactNextStateUptoRow : OpenClaim := { program := "ytmplcohpinghbaa", sum := "4e36add56e90757e60352647b4088c4435dc4c6e190ec47658de625b0194671c", func := "loop.example/g02076/laws.FnExactNextState", spec := "fnExactNextState", unfollowed := true, recurses := true, plainKeys := false, apart := false, narrowed := true }
def FnExactNextStateUptoSaid : Prop := fnExactNextStateUptoRow.holds Try.pinned (OpenSpec.upto fnExactNextStateSpec)

/-- 'laws.FnExactStateOf', WHERE WHAT IT READS IS OF BULK AT MOST 1048576: true; the input reads as it did. -/
def fnExactStateOfUptoRow : OpenClaim := { program := "ytmplcohpinghbaa", sum := "4e36add56e90757e60352647b4088c4435dc4c6e190ec47658de625b0194671c", func := "loop.example/g02076/laws.FnExactStateOf", spec := "fnExactStateOf", unfollowed := true, recurses := true, plainKeys := false, apart := false, narrowed := true }
def FnExactStateOfUptoSaid : Prop := fnExactStateOfUptoRow.holds Try.pinned (OpenSpec.upto fnExactStateOfSpec)

end Rows
end Go.Proofs.Ytmplcohpinghbaa
