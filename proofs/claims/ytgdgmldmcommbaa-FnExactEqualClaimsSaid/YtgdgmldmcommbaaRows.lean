/-
  No cell of these rows narrows 'for every input' (looked for: loops, veiled, ifaces, maps, wideKeys, modest, calm, conditions, laid).
  DERIVED. THE GIVEN ROWS OF THIS SEAT. 12 by the template 'for every input the law returns true; each argument reads behind the call as it read before'; 0 by the template 'total and deterministic' (their statements: YtgdgmldmcommbaaTotals.lean).
  GIVEN WITH THE SEED: the statements are not yours to turn. If you find one false, say at which input.
  Laid BY PROGRAM, IN A SANDBOX (cutbox-rows.mjs): the forced cells as the released guide's own fill.sh prints them over the translation ef292344e3691504… (all of the seat's roots in one cut). By AI agents, Wed Nov 11 2026. No macro, syntax, notation, axiom, sorry.
-/
import Derived.Test.YtgdgmldmcommbaaChecked
import GoSem.Claim
import GoSem.ClaimJoined
import GoSem.ClaimMapViews
import Derived.JoinedTies
import Derived.KernelRfl
namespace Go.Proofs.Ytgdgmldmcommbaa
/- THE CELL 'sum', in the pinned program and in every row, IS THE sha256 OF THE DUMP (.gsa) THAT YtgdgmldmcommbaaProg.lean LOADS. Nothing in Lean hashes anything: it is a label: what it is worth is what the hold of that sum in a sandbox is worth. -/
noncomputable def Try.pinned : Pinned := { name := "ytgdgmldmcommbaa", sum := "ef292344e36915043b9f006d2c7fdb1e050f42bdb9676223ac738ec6a4b69114", checked := Try.checked }
namespace Rows
def none {H : Type} : Left H := { results := [], args := [] }

/-- 'laws.FnExactClaimWord': WHATEVER THE INPUT: true; the input reads as it did. -/
def fnExactClaimWordSpec : ChangeSpec := { name := "fnExactClaimWord", fn := fun _ => fun
  | [d] => { results := [.lit (.bool true)], args := [d] }
  | _ => none }
def fnExactClaimWordRow : OpenClaim := { program := "ytgdgmldmcommbaa", sum := "ef292344e36915043b9f006d2c7fdb1e050f42bdb9676223ac738ec6a4b69114", func := "loop.example/g02076/laws.FnExactClaimWord", spec := "fnExactClaimWord", apart := false }
def FnExactClaimWordSaid : Prop := fnExactClaimWordRow.holds Try.pinned (OpenSpec.ofChange fnExactClaimWordSpec)

/-- ITS FALSE NEIGHBOUR: 'it returns false'. Refute it at one input. -/
def fnExactClaimWordWrong : ChangeSpec := { name := "fnExactClaimWord", fn := fun _ => fun
  | [d] => { results := [.lit (.bool false)], args := [d] }
  | _ => none }
def FnExactClaimWordWrongFalsely : Prop := fnExactClaimWordRow.holds Try.pinned (OpenSpec.ofChange fnExactClaimWordWrong)

/-- 'laws.FnExactIsUnimodal': WHATEVER THE INPUT: true; the input reads as it did. -/
def fnExactIsUnimodalSpec : ChangeSpec := { name := "fnExactIsUnimodal", fn := fun _ => fun
  | [d] => { results := [.lit (.bool true)], args := [d] }
  | _ => none }
def fnExactIsUnimodalRow : OpenClaim := { program := "ytgdgmldmcommbaa", sum := "ef292344e36915043b9f006d2c7fdb1e050f42bdb9676223ac738ec6a4b69114", func := "loop.example/g02076/laws.FnExactIsUnimodal", spec := "fnExactIsUnimodal", apart := false }
def FnExactIsUnimodalSaid : Prop := fnExactIsUnimodalRow.holds Try.pinned (OpenSpec.ofChange fnExactIsUnimodalSpec)

/-- ITS FALSE NEIGHBOUR: 'it returns false'. Refute it at one input. -/
def fnExactIsUnimodalWrong : ChangeSpec := { name := "fnExactIsUnimodal", fn := fun _ => fun
  | [d] => { results := [.lit (.bool false)], args := [d] }
  | _ => none }
def FnExactIsUnimodalWrongFalsely : Prop := fnExactIsUnimodalRow.holds Try.pinned (OpenSpec.ofChange fnExactIsUnimodalWrong)

/-- 'laws.FnExactCountInversions': WHATEVER THE INPUT: true; the input reads as it did. -/
def fnExactCountInversionsSpec : ChangeSpec := { name := "fnExactCountInversions", fn := fun _ => fun
  | [d] => { results := [.lit (.bool true)], args := [d] }
  | _ => none }
def fnExactCountInversionsRow : OpenClaim := { program := "ytgdgmldmcommbaa", sum := "ef292344e36915043b9f006d2c7fdb1e050f42bdb9676223ac738ec6a4b69114", func := "loop.example/g02076/laws.FnExactCountInversions", spec := "fnExactCountInversions", apart := false }
def FnExactCountInversionsSaid : Prop := fnExactCountInversionsRow.holds Try.pinned (OpenSpec.ofChange fnExactCountInversionsSpec)

/-- ITS FALSE NEIGHBOUR: 'it returns false'. Refute it at one input. -/
def fnExactCountInversionsWrong : ChangeSpec := { name := "fnExactCountInversions", fn := fun _ => fun
  | [d] => { results := [.lit (.bool false)], args := [d] }
  | _ => none }
def FnExactCountInversionsWrongFalsely : Prop := fnExactCountInversionsRow.holds Try.pinned (OpenSpec.ofChange fnExactCountInversionsWrong)

/-- 'laws.FnExactSortStep': WHATEVER THE INPUT: true; the input reads as it did. -/
def fnExactSortStepSpec : ChangeSpec := { name := "fnExactSortStep", fn := fun _ => fun
  | [d1, d2] => { results := [.lit (.bool true)], args := [d1, d2] }
  | _ => none }
def fnExactSortStepRow : OpenClaim := { program := "ytgdgmldmcommbaa", sum := "ef292344e36915043b9f006d2c7fdb1e050f42bdb9676223ac738ec6a4b69114", func := "loop.example/g02076/laws.FnExactSortStep", spec := "fnExactSortStep", apart := false }
def FnExactSortStepSaid : Prop := fnExactSortStepRow.holds Try.pinned (OpenSpec.ofChange fnExactSortStepSpec)

/-- ITS FALSE NEIGHBOUR: 'it returns false'. Refute it at one input. -/
def fnExactSortStepWrong : ChangeSpec := { name := "fnExactSortStep", fn := fun _ => fun
  | [d1, d2] => { results := [.lit (.bool false)], args := [d1, d2] }
  | _ => none }
def FnExactSortStepWrongFalsely : Prop := fnExactSortStepRow.holds Try.pinned (OpenSpec.ofChange fnExactSortStepWrong)

/-- 'laws.FnExactIsPalindrome': WHATEVER THE INPUT: true; the input reads as it did. -/
def fnExactIsPalindromeSpec : ChangeSpec := { name := "fnExactIsPalindrome", fn := fun _ => fun
  | [d] => { results := [.lit (.bool true)], args := [d] }
  | _ => none }
def fnExactIsPalindromeRow : OpenClaim := { program := "ytgdgmldmcommbaa", sum := "ef292344e36915043b9f006d2c7fdb1e050f42bdb9676223ac738ec6a4b69114", func := "loop.example/g02076/laws.FnExactIsPalindrome", spec := "fnExactIsPalindrome", apart := false }
def FnExactIsPalindromeSaid : Prop := fnExactIsPalindromeRow.holds Try.pinned (OpenSpec.ofChange fnExactIsPalindromeSpec)

/-- ITS FALSE NEIGHBOUR: 'it returns false'. Refute it at one input. -/
def fnExactIsPalindromeWrong : ChangeSpec := { name := "fnExactIsPalindrome", fn := fun _ => fun
  | [d] => { results := [.lit (.bool false)], args := [d] }
  | _ => none }
def FnExactIsPalindromeWrongFalsely : Prop := fnExactIsPalindromeRow.holds Try.pinned (OpenSpec.ofChange fnExactIsPalindromeWrong)

/-- 'laws.FnExactSortBy': WHATEVER THE INPUT: true; the input reads as it did. -/
def fnExactSortBySpec : ChangeSpec := { name := "fnExactSortBy", fn := fun _ => fun
  | [d1, d2] => { results := [.lit (.bool true)], args := [d1, d2] }
  | _ => none }
def fnExactSortByRow : OpenClaim := { program := "ytgdgmldmcommbaa", sum := "ef292344e36915043b9f006d2c7fdb1e050f42bdb9676223ac738ec6a4b69114", func := "loop.example/g02076/laws.FnExactSortBy", spec := "fnExactSortBy", apart := false }
def FnExactSortBySaid : Prop := fnExactSortByRow.holds Try.pinned (OpenSpec.ofChange fnExactSortBySpec)

/-- ITS FALSE NEIGHBOUR: 'it returns false'. Refute it at one input. -/
def fnExactSortByWrong : ChangeSpec := { name := "fnExactSortBy", fn := fun _ => fun
  | [d1, d2] => { results := [.lit (.bool false)], args := [d1, d2] }
  | _ => none }
def FnExactSortByWrongFalsely : Prop := fnExactSortByRow.holds Try.pinned (OpenSpec.ofChange fnExactSortByWrong)

/-- 'laws.FnExactProductCounts': WHATEVER THE INPUT: true; the input reads as it did. -/
def fnExactProductCountsSpec : ChangeSpec := { name := "fnExactProductCounts", fn := fun _ => fun
  | [d1, d2] => { results := [.lit (.bool true)], args := [d1, d2] }
  | _ => none }
def fnExactProductCountsRow : OpenClaim := { program := "ytgdgmldmcommbaa", sum := "ef292344e36915043b9f006d2c7fdb1e050f42bdb9676223ac738ec6a4b69114", func := "loop.example/g02076/laws.FnExactProductCounts", spec := "fnExactProductCounts", apart := false }
def FnExactProductCountsSaid : Prop := fnExactProductCountsRow.holds Try.pinned (OpenSpec.ofChange fnExactProductCountsSpec)

/-- ITS FALSE NEIGHBOUR: 'it returns false'. Refute it at one input. -/
def fnExactProductCountsWrong : ChangeSpec := { name := "fnExactProductCounts", fn := fun _ => fun
  | [d1, d2] => { results := [.lit (.bool false)], args := [d1, d2] }
  | _ => none }
def FnExactProductCountsWrongFalsely : Prop := fnExactProductCountsRow.holds Try.pinned (OpenSpec.ofChange fnExactProductCountsWrong)

/-- 'laws.FnExactPermutationOf': WHATEVER THE INPUT: true; the input reads as it did. -/
def fnExactPermutationOfSpec : ChangeSpec := { name := "fnExactPermutationOf", fn := fun _ => fun
  | [d1, d2] => { results := [.lit (.bool true)], args := [d1, d2] }
  | _ => none }
def fnExactPermutationOfRow : OpenClaim := { program := "ytgdgmldmcommbaa", sum := "ef292344e36915043b9f006d2c7fdb1e050f42bdb9676223ac738ec6a4b69114", func := "loop.example/g02076/laws.FnExactPermutationOf", spec := "fnExactPermutationOf", apart := false }
def FnExactPermutationOfSaid : Prop := fnExactPermutationOfRow.holds Try.pinned (OpenSpec.ofChange fnExactPermutationOfSpec)

/-- ITS FALSE NEIGHBOUR: 'it returns false'. Refute it at one input. -/
def fnExactPermutationOfWrong : ChangeSpec := { name := "fnExactPermutationOf", fn := fun _ => fun
  | [d1, d2] => { results := [.lit (.bool false)], args := [d1, d2] }
  | _ => none }
def FnExactPermutationOfWrongFalsely : Prop := fnExactPermutationOfRow.holds Try.pinned (OpenSpec.ofChange fnExactPermutationOfWrong)

/-- 'laws.FnExactSwapWord': WHATEVER THE INPUT: true; the input reads as it did. -/
def fnExactSwapWordSpec : ChangeSpec := { name := "fnExactSwapWord", fn := fun _ => fun
  | [d] => { results := [.lit (.bool true)], args := [d] }
  | _ => none }
def fnExactSwapWordRow : OpenClaim := { program := "ytgdgmldmcommbaa", sum := "ef292344e36915043b9f006d2c7fdb1e050f42bdb9676223ac738ec6a4b69114", func := "loop.example/g02076/laws.FnExactSwapWord", spec := "fnExactSwapWord", apart := false }
def FnExactSwapWordSaid : Prop := fnExactSwapWordRow.holds Try.pinned (OpenSpec.ofChange fnExactSwapWordSpec)

/-- ITS FALSE NEIGHBOUR: 'it returns false'. Refute it at one input. -/
def fnExactSwapWordWrong : ChangeSpec := { name := "fnExactSwapWord", fn := fun _ => fun
  | [d] => { results := [.lit (.bool false)], args := [d] }
  | _ => none }
def FnExactSwapWordWrongFalsely : Prop := fnExactSwapWordRow.holds Try.pinned (OpenSpec.ofChange fnExactSwapWordWrong)

/-- 'laws.FnExactIsSorter': WHATEVER THE INPUT: true; the input reads as it did. -/
def fnExactIsSorterSpec : ChangeSpec := { name := "fnExactIsSorter", fn := fun _ => fun
  | [d1, d2] => { results := [.lit (.bool true)], args := [d1, d2] }
  | _ => none }
def fnExactIsSorterRow : OpenClaim := { program := "ytgdgmldmcommbaa", sum := "ef292344e36915043b9f006d2c7fdb1e050f42bdb9676223ac738ec6a4b69114", func := "loop.example/g02076/laws.FnExactIsSorter", spec := "fnExactIsSorter", apart := false }
def FnExactIsSorterSaid : Prop := fnExactIsSorterRow.holds Try.pinned (OpenSpec.ofChange fnExactIsSorterSpec)

/-- ITS FALSE NEIGHBOUR: 'it returns false'. Refute it at one input. -/
def fnExactIsSorterWrong : ChangeSpec := { name := "fnExactIsSorter", fn := fun _ => fun
  | [d1, d2] => { results := [.lit (.bool false)], args := [d1, d2] }
  | _ => none }
def FnExactIsSorterWrongFalsely : Prop := fnExactIsSorterRow.holds Try.pinned (OpenSpec.ofChange fnExactIsSorterWrong)

/-- 'laws.FnExactFirstUnsorted': WHATEVER THE INPUT: true; the input reads as it did. -/
def fnExactFirstUnsortedSpec : ChangeSpec := { name := "fnExactFirstUnsorted", fn := fun _ => fun
  | [d1, d2] => { results := [.lit (.bool true)], args := [d1, d2] }
  | _ => none }
def fnExactFirstUnsortedRow : OpenClaim := { program := "ytgdgmldmcommbaa", sum := "ef292344e36915043b9f006d2c7fdb1e050f42bdb9676223ac738ec6a4b69114", func := "loop.example/g02076/laws.FnExactFirstUnsorted", spec := "fnExactFirstUnsorted", apart := false }
def FnExactFirstUnsortedSaid : Prop := fnExactFirstUnsortedRow.holds Try.pinned (OpenSpec.ofChange fnExactFirstUnsortedSpec)

/-- ITS FALSE NEIGHBOUR: 'it returns false'. Refute it at one input. -/
def fnExactFirstUnsortedWrong : ChangeSpec := { name := "fnExactFirstUnsorted", fn := fun _ => fun
  | [d1, d2] => { results := [.lit (.bool false)], args := [d1, d2] }
  | _ => none }
def FnExactFirstUnsortedWrongFalsely : Prop := fnExactFirstUnsortedRow.holds Try.pinned (OpenSpec.ofChange fnExactFirstUnsortedWrong)

/-- 'laws.FnExactEqualClaims': WHATEVER THE INPUT: true; the input reads as it did. -/
def fnExactEqualClaimsSpec : ChangeSpec := { name := "fnExactEqualClaims", fn := fun _ => fun
  | [d1, d2] => { results := [.lit (.bool true)], args := [d1, d2] }
  | _ => none }
def fnExactEqualClaimsRow : OpenClaim := { program := "ytgdgmldmcommbaa", sum := "ef292344e36915043b9f006d2c7fdb1e050f42bdb9676223ac738ec6a4b69114", func := "loop.example/g02076/laws.FnExactEqualClaims", spec := "fnExactEqualClaims", unfollowed := true, recurses := true, apart := false }
def FnExactEqualClaimsSaid : Prop := fnExactEqualClaimsRow.holds Try.pinned (OpenSpec.ofChange fnExactEqualClaimsSpec)

/-- ITS FALSE NEIGHBOUR: 'it returns false'. Refute it at one input. -/
def fnExactEqualClaimsWrong : ChangeSpec := { name := "fnExactEqualClaims", fn := fun _ => fun
  | [d1, d2] => { results := [.lit (.bool false)], args := [d1, d2] }
  | _ => none }
def FnExactEqualClaimsWrongFalsely : Prop := fnExactEqualClaimsRow.holds Try.pinned (OpenSpec.ofChange fnExactEqualClaimsWrong)

/- THE SECOND FORM. 'bulk': how many values and letters a reading holds, each counted each time it is reached (what is shared counts as often as it is met; a slice's spare places count too). A statement '..UptoSaid' is the law's where the arguments, and the package variables that the reading takes, are together of bulk at most 1048576: NARROWER than '..Said'. Prove '..Said' where nothing that the law and all that it calls make is longer than what came in: it says more and counts as full. Else prove '..UptoSaid'. A law counts once. -/
mutual
def uptoBulk {H : Type} : DataW H → Nat
  | .lit (.string bytes) => bytes.length + 1
  | .lit _ => 1
  | .nil => 1
  | .ptr d => uptoBulk d + 1
  | .slice elems spare => uptoBulkAll elems + uptoBulkAll spare + 1
  | .agg parts => uptoBulkAll parts + 1
  | .iface _ d => uptoBulk d + 1
  | .map entries => uptoBulkEntries entries + 1
  | .held _ => 1
def uptoBulkAll {H : Type} : List (DataW H) → Nat
  | [] => 0
  | d :: r => uptoBulk d + uptoBulkAll r
def uptoBulkEntries {H : Type} : List (Lit × DataW H) → Nat
  | [] => 0
  | x :: r => uptoBulkEntry x + uptoBulkEntries r
def uptoBulkEntry {H : Type} : Lit × DataW H → Nat
  | (.string bytes, d) => bytes.length + uptoBulk d + 1
  | (_, d) => uptoBulk d + 1
 end
def uptoSmall : (H : Type) → List (DataW H) → Bool := fun _ ds => decide (uptoBulkAll ds ≤ 1048576)
def OpenSpec.upto (s : _root_.Go.ChangeSpec) : _root_.Go.OpenSpec := { _root_.Go.OpenSpec.ofChange s with cond := some uptoSmall }

/-- 'laws.FnExactClaimWord', WHERE WHAT IT READS IS OF BULK AT MOST 1048576: true; the input reads as it did. -/
def fnExactClaimWordUptoRow : OpenClaim := { program := "ytgdgmldmcommbaa", sum := "ef292344e36915043b9f006d2c7fdb1e050f42bdb9676223ac738ec6a4b69114", func := "loop.example/g02076/laws.FnExactClaimWord", spec := "fnExactClaimWord", apart := false, narrowed := true }
def FnExactClaimWordUptoSaid : Prop := fnExactClaimWordUptoRow.holds Try.pinned (OpenSpec.upto fnExactClaimWordSpec)

/-- 'laws.FnExactIsUnimodal', WHERE WHAT IT READS IS OF BULK AT MOST 1048576: true; the input reads as it did. -/
def fnExactIsUnimodalUptoRow : OpenClaim := { program := "ytgdgmldmcommbaa", sum := "ef292344e36915043b9f006d2c7fdb1e050f42bdb9676223ac738ec6a4b69114", func := "loop.example/g02076/laws.FnExactIsUnimodal", spec := "fnExactIsUnimodal", apart := false, narrowed := true }
def FnExactIsUnimodalUptoSaid : Prop := fnExactIsUnimodalUptoRow.holds Try.pinned (OpenSpec.upto fnExactIsUnimodalSpec)

/-- 'laws.FnExactCountInversions', WHERE WHAT IT READS IS OF BULK AT MOST 1048576: true; the input reads as it did. -/
def fnExactCountInversionsUptoRow : OpenClaim := { program := "ytgdgmldmcommbaa", sum := "ef292344e36915043b9f006d2c7fdb1e050f42bdb9676223ac738ec6a4b69114", func := "loop.example/g02076/laws.FnExactCountInversions", spec := "fnExactCountInversions", apart := false, narrowed := true }
def FnExactCountInversionsUptoSaid : Prop := fnExactCountInversionsUptoRow.holds Try.pinned (OpenSpec.upto fnExactCountInversionsSpec)

/-- 'laws.FnExactSortStep', WHERE WHAT IT READS IS OF BULK AT MOST 1048576: true; the input reads as it did. -/
def fnExactSortStepUptoRow : OpenClaim := { program := "ytgdgmldmcommbaa", sum := "ef292344e36915043b9f006d2c7fdb1e050f42bdb9676223ac738ec6a4b69114", func := "loop.example/g02076/laws.FnExactSortStep", spec := "fnExactSortStep", apart := false, narrowed := true }
def FnExactSortStepUptoSaid : Prop := fnExactSortStepUptoRow.holds Try.pinned (OpenSpec.upto fnExactSortStepSpec)

/-- 'laws.FnExactIsPalindrome', WHERE WHAT IT READS IS OF BULK AT MOST 1048576: true; the input reads as it did. -/
def fnExactIsPalindromeUptoRow : OpenClaim := { program := "ytgdgmldmcommbaa", sum := "ef292344e36915043b9f006d2c7fdb1e050f42bdb9676223ac738ec6a4b69114", func := "loop.example/g02076/laws.FnExactIsPalindrome", spec := "fnExactIsPalindrome", apart := false, narrowed := true }
def FnExactIsPalindromeUptoSaid : Prop := fnExactIsPalindromeUptoRow.holds Try.pinned (OpenSpec.upto fnExactIsPalindromeSpec)

/-- 'laws.FnExactSortBy', WHERE WHAT IT READS IS OF BULK AT MOST 1048576: true; the input reads as it did. -/
def fnExactSortByUptoRow : OpenClaim := { program := "ytgdgmldmcommbaa", sum := "ef292344e36915043b9f006d2c7fdb1e050f42bdb9676223ac738ec6a4b69114", func := "loop.example/g02076/laws.FnExactSortBy", spec := "fnExactSortBy", apart := false, narrowed := true }
def FnExactSortByUptoSaid : Prop := fnExactSortByUptoRow.holds Try.pinned (OpenSpec.upto fnExactSortBySpec)

/-- 'laws.FnExactProductCounts', WHERE WHAT IT READS IS OF BULK AT MOST 1048576: true; the input reads as it did. -/
def fnExactProductCountsUptoRow : OpenClaim := { program := "ytgdgmldmcommbaa", sum := "ef292344e36915043b9f006d2c7fdb1e050f42bdb9676223ac738ec6a4b69114", func := "loop.example/g02076/laws.FnExactProductCounts", spec := "fnExactProductCounts", apart := false, narrowed := true }
def FnExactProductCountsUptoSaid : Prop := fnExactProductCountsUptoRow.holds Try.pinned (OpenSpec.upto fnExactProductCountsSpec)

/-- 'laws.FnExactPermutationOf', WHERE WHAT IT READS IS OF BULK AT MOST 1048576: true; the input reads as it did. -/
def fnExactPermutationOfUptoRow : OpenClaim := { program := "ytgdgmldmcommbaa", sum := "ef292344e36915043b9f006d2c7fdb1e050f42bdb9676223ac738ec6a4b69114", func := "loop.example/g02076/laws.FnExactPermutationOf", spec := "fnExactPermutationOf", apart := false, narrowed := true }
def FnExactPermutationOfUptoSaid : Prop := fnExactPermutationOfUptoRow.holds Try.pinned (OpenSpec.upto fnExactPermutationOfSpec)

/-- 'laws.FnExactSwapWord', WHERE WHAT IT READS IS OF BULK AT MOST 1048576: true; the input reads as it did. -/
def fnExactSwapWordUptoRow : OpenClaim := { program := "ytgdgmldmcommbaa", sum := "ef292344e36915043b9f006d2c7fdb1e050f42bdb9676223ac738ec6a4b69114", func := "loop.example/g02076/laws.FnExactSwapWord", spec := "fnExactSwapWord", apart := false, narrowed := true }
def FnExactSwapWordUptoSaid : Prop := fnExactSwapWordUptoRow.holds Try.pinned (OpenSpec.upto fnExactSwapWordSpec)

/-- 'laws.FnExactIsSorter', WHERE WHAT IT READS IS OF BULK AT MOST 1048576: true; the input reads as it did. -/
def fnExactIsSorterUptoRow : OpenClaim := { program := "ytgdgmldmcommbaa", sum := "ef292344e36915043b9f006d2c7fdb1e050f42bdb9676223ac738ec6a4b69114", func := "loop.example/g02076/laws.FnExactIsSorter", spec := "fnExactIsSorter", apart := false, narrowed := true }
def FnExactIsSorterUptoSaid : Prop := fnExactIsSorterUptoRow.holds Try.pinned (OpenSpec.upto fnExactIsSorterSpec)

/-- 'laws.FnExactFirstUnsorted', WHERE WHAT IT READS IS OF BULK AT MOST 1048576: true; the input reads as it did. -/
def fnExactFirstUnsortedUptoRow : OpenClaim := { program := "ytgdgmldmcommbaa", sum := "ef292344e36915043b9f006d2c7fdb1e050f42bdb9676223ac738ec6a4b69114", func := "loop.example/g02076/laws.FnExactFirstUnsorted", spec := "fnExactFirstUnsorted", apart := false, narrowed := true }
def FnExactFirstUnsortedUptoSaid : Prop := fnExactFirstUnsortedUptoRow.holds Try.pinned (OpenSpec.upto fnExactFirstUnsortedSpec)

/-- 'laws.FnExactEqualClaims', WHERE WHAT IT READS IS OF BULK AT MOST 1048576: true; the input reads as it did. -/
def fnExactEqualClaimsUptoRow : OpenClaim := { program := "ytgdgmldmcommbaa", sum := "ef292344e36915043b9f006d2c7fdb1e050f42bdb9676223ac738ec6a4b69114", func := "loop.example/g02076/laws.FnExactEqualClaims", spec := "fnExactEqualClaims", unfollowed := true, recurses := true, apart := false, narrowed := true }
def FnExactEqualClaimsUptoSaid : Prop := fnExactEqualClaimsUptoRow.holds Try.pinned (OpenSpec.upto fnExactEqualClaimsSpec)

end Rows
end Go.Proofs.Ytgdgmldmcommbaa
