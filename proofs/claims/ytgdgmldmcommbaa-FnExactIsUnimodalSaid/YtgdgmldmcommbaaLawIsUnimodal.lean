/-
  PROVED HERE: the law FnExactIsUnimodal returns true for every input and leaves its arguments as they were. CONDITIONS: none beyond the given row's own.
  The frame round the walk began as the kit's proof-skeleton; the walk was printed by a program of mine (law.py) out of contracts that the imported texts prove.
-/
import Derived.Test.YtgdgmldmcommbaaRows
import Derived.Test.YtgdgmldmcommbaaHelp
import Derived.Test.YtgdgmldmcommbaaUni
import Derived.WalkKit
import Derived.ProofKit
import Derived.OpenShut
import Derived.ShutString
import Derived.ChangeOld
import Derived.Below
namespace Go.Proofs.Ytgdgmldmcommbaa.fnExactIsUnimodal
open Go.ChangeShapes Go.WideShapes Go.ChangeAt Go.RowKit
open Go.ChangeMaps (open_string shut_string)
open Go.Proofs.Ytgdgmldmcommbaa
set_option linter.unusedVariables false

theorem own : ownKnob Try.prog.godebug = none := by kernel_rfl
theorem laidOut : laidOutB Try.prog = true := by kernel_rfl

/-- WHAT THE WALK IS TOLD OF A SLICE OF INTEGERS THAT CAME IN: it is nil; or it leads to a row of 'cap' cells, the numbers 'zs' (the first 'len' are its elements, the rest its spare room), each fitting its kind. -/
def IsRow (k : IntKind) (w : World) (a : Option Addr) (len cap : Nat) (zs : List Int) : Prop :=
  (a = none ∧ len = 0 ∧ cap = 0 ∧ zs = []) ∨
  ∃ x, a = some x ∧ len ≤ cap ∧ cap ≤ maxLen ∧ zs.length = cap ∧ (∀ i, i < zs.length → w.cell? (x.add i) = some (.int k (zs.getD i 0))) ∧ ∀ n ∈ zs, (Lit.int k n).wf = true

/-! ### STEP 1: THE WALK: the Go text returns true, AND WRITES NOTHING THAT WAS THERE: 'Below w.heap.size w w'' (Derived/Below.lean: '.refl', '.alloc', '.drew', '.setCell' at a new block, '.trans'). Open each 'IsRow' by 'rcases' AHEAD of 'go_enter'; part every test ahead of the walk. -/
set_option maxHeartbeats 1000000 in
theorem walk (a0 : Option Addr) (len0 cap0 : Nat) (z0 : List Int) (w : World) (w0 : IsRow .i64 w a0 len0 cap0 z0) :
    Calls Try.prog 4 #[.slice a0 len0 cap0] w fun e w' => e = .returned (.bool true) ∧ Below w.heap.size w w' := by
  obtain ⟨haw0, hl0, hwf0⟩ := argInts_of w0
  clear w0
  generalize z0.take len0 = xs0 at haw0 hl0 hwf0
  subst hl0
  by_cases hx0 : 1048576 < xs0.length
  · have hbig : (1048576 : Int) < (xs0.length : Int) := by omega
    go_enter Try.func4, Try.ntmps4
    go_wp2
    go_ret
    exact ⟨rfl, Below.refl _ _⟩
  have hx0' : xs0.length ≤ 1099511627776 := by omega
  have hs0 : xs0.length ≤ 1048576 := by omega
  have hB : Below w.heap.size w w := Below.refl _ _
  have ha0 := haw0
  go_enter Try.func4, Try.ntmps4
  go_wp2_with fail
  refine (toIntS_any _ _ xs0 _ hx0' ha0).mono ?_
  rintro e v1 ⟨g1, c1, rfl, ho1, hb1⟩
  have hB01 := hB
  have hB := hB.trans (hb1.mono hB.size)
  have ha0 := haw0.below hB
  go_wp2_with fail
  refine (spec_IsUnimodal_any g1 0 _ c1 xs0 _ rfl hx0' ho1.cells).mono ?_
  rintro e v2 ⟨rfl, m2, rfl⟩
  have ho1 := ho1.drewN m2
  have hB := below_drewN hB m2
  have ha0 := haw0.below hB
  clear ho1
  go_wp2_with fail
  refine (toIntS_any _ _ xs0 _ hx0' ha0).mono ?_
  rintro e v3 ⟨g3, c3, rfl, ho3, hb3⟩
  have hB03 := hB
  have hB := hB.trans (hb3.mono hB.size)
  have ha0 := haw0.below hB
  go_wp2_with fail
  refine (impl_IsUnimodal_any g3 0 _ c3 xs0 _ rfl hx0' ho3.cells).mono ?_
  rintro e v4 ⟨rfl, m4, rfl⟩
  have ho3 := ho3.drewN m4
  have hB := below_drewN hB m4
  have ha0 := haw0.below hB
  go_wp2_with fail
  refine (toIntS_any _ _ xs0 _ hx0' ha0).mono ?_
  rintro e v5 ⟨g5, c5, rfl, ho5, hb5⟩
  have n_3_5 : g3 < g5 := by have h1 := ho3.lt; have h2 := ho5.base; omega
  have hB05 := hB
  have ho3 := ho3.below hb5 ho3.lt
  have hB := hB.trans (hb5.mono hB.size)
  have ha0 := haw0.below hB
  go_wp2_with fail
  refine (eqIntS_same g3 0 _ c3 g5 0 _ c5 (xs0) _ rfl rfl hx0' ho3.cells ho5.cells).mono ?_
  rintro e v6 ⟨rfl, m6, rfl⟩
  have ho3 := ho3.drewN m6
  have ho5 := ho5.drewN m6
  have hB := below_drewN hB m6
  have ha0 := haw0.below hB
  clear ho5
  go_wp2_with fail
  go_ret
  exact ⟨rfl, below_same hB rfl rfl rfl rfl⟩

/-! ### THE ROW's STEP: WRITTEN OUT: LEAVE IT -/
set_option maxRecDepth 100000 in
theorem lifted (os : Os) (started : os.Started) (H : Type) (enc : TypeId × Value → H) :
    ReturnsInHanded {} Try.checked os 4 .any (Rows.fnExactIsUnimodalSpec.pre6 enc Try.prog Try.f4 Rows.fnExactIsUnimodalRow.domain false) (Rows.fnExactIsUnimodalSpec.post enc Try.prog Try.f4 false true false false) := by
  refine returnsInHanded_of_change (C := Try.checked) own started (by kernel_rfl) Try.func4
    (ChangeSpec.witness6 (enc := enc) (C := Try.checked) false ⟨#[], #[.slice none 0 0], []⟩ 8 (by kernel_rfl) (by kernel_rfl) (by kernel_rfl) (by kernel_rfl)) ?_
  intro W base args ds gs before hval0 hW hcnd _
  have hval : ∀ (j : Nat) t v, Try.f4.params[j]? = some t → args[j]? = some v → Value.okWide Try.prog W .any base t v := hval0
  have hW' := hW
  obtain ⟨p, q, hA0, hV, rfl, hfz, hnd⟩ := hW
  have hA : DataW.TrodAll enc Try.prog W 0 (fun _ => true) true Try.f4.params.toList args.toList ds p := hA0
  rw [Try.params4] at hA hval
  obtain ⟨v0, vs0, d0, ds0, p0, q0, hargs, rfl, rfl, h0, r0⟩ := trodAll_cons hA
  obtain ⟨rfl, rfl, rfl⟩ := trodAll_nil r0
  obtain rfl : args = #[v0] := by cases args; simp_all
  obtain ⟨rfl, rfl⟩ := trodVars_none hV
  obtain ⟨a0, len0, cap0, rfl⟩ := okWide_slice Try.underlying24 (hval 0 24 v0 rfl rfl)
  have k0 := h0
  have lt0 : ∀ x ∈ p0, x.block < W.heap.size := by obtain ⟨m, hm⟩ := k0; exact DataW.trod_lt m _ _ _ hm
  obtain ⟨z0, w0⟩ : ∃ zs, IsRow .i64 W a0 len0 cap0 zs := by
    obtain ⟨fuel, hf⟩ := h0
    rcases open_ints Try.underlying24 Try.underlying3 (by kernel_rfl) hf with ⟨hcs, _⟩ | ⟨x, l, c, zs, hcs, _, hl, hm, hz, _, hcell, hwz⟩
    · simp [Value.cells] at hcs
      obtain ⟨rfl, rfl, rfl⟩ := hcs
      exact ⟨[], .inl ⟨rfl, rfl, rfl, rfl⟩⟩
    · simp [Value.cells] at hcs
      obtain ⟨rfl, rfl, rfl⟩ := hcs
      exact ⟨zs, .inr ⟨_, rfl, hl, hm, by simpa using hz, hcell, hwz⟩⟩
  clear hA0 hval0
  refine (walk a0 len0 cap0 z0 W w0).mono fun e W' ⟨he, bel⟩ => ?_
  subst he
  exact ⟨_, rfl, _, _, _, [], _, [], hW', trodAll_mk1 (shut_bool Try.underlying4 _), (trodAll_cons_mk (Below.trod laidOut (by kernel_rfl) (of_decide_eq_true (by kernel_rfl)) k0 bel lt0) trodAll_mk0), rfl, bel.frame _, fun h => by cases h⟩

theorem over : Rows.fnExactIsUnimodalRow.holds Try.pinned (OpenSpec.ofChange Rows.fnExactIsUnimodalSpec) :=
  OpenClaim.holds_of_wide 4 Try.f4 rfl rfl rfl rfl rfl rfl rfl ⟨rfl, rfl, rfl, rfl, rfl⟩ rfl rfl rfl rfl rfl (by kernel_rfl) Try.func4 (by kernel_rfl)
    (of_decide_eq_true (by kernel_rfl)) (by unfold Func.isWrapper; first | (rw [if_pos (by decide +kernel)]; kernel_rfl) | (rw [if_neg (by decide +kernel)]; exact ⟨rfl, rfl⟩))
    (fun os started H enc _ => lifted os started H enc)

/-- ████ THE STATEMENT ████ -/
theorem proved : Rows.FnExactIsUnimodalSaid := over
#print axioms proved
end Go.Proofs.Ytgdgmldmcommbaa.fnExactIsUnimodal
