/-
  PROVED HERE: the law FnExactIsSorter returns true for every input and leaves its arguments as they were. CONDITIONS: none beyond the given row's own.
  The frame round the walk began as the kit's proof-skeleton; the walk was printed by a program of mine (law.py) out of contracts that the imported texts prove.
-/
import Derived.Test.YtgdgmldmcommbaaRows
import Derived.Test.YtgdgmldmcommbaaHelp
import Derived.Test.YtgdgmldmcommbaaFu2
import Derived.WalkKit
import Derived.ProofKit
import Derived.OpenShut
import Derived.ShutString
import Derived.ChangeOld
import Derived.Below
namespace Go.Proofs.Ytgdgmldmcommbaa.fnExactIsSorter
open Go.ChangeShapes Go.WideShapes Go.ChangeAt Go.RowKit
open Go.ChangeMaps (open_string shut_string)
open Go.Proofs.Ytgdgmldmcommbaa
set_option linter.unusedVariables false

theorem own : ownKnob Try.prog.godebug = none := by kernel_rfl
theorem laidOut : laidOutB Try.prog = true := by kernel_rfl

/-- WHAT THE WALK IS TOLD OF A SLICE OF INTEGERS THAT CAME IN: it is nil; or it leads to a row of 'cap' cells, the numbers 'zs' (the first 'len' are its elements, the rest its spare room), each fitting its kind. -/
def IsRow (k : IntKind) (w : World) (a : Option Addr) (len cap : Nat) (zs : List Int) : Prop :=
  (a = none ∧ len = 0 ∧ cap = 0 ∧ zs = []) ∨
  ∃ x, a = some x ∧ len ≤ cap ∧ cap ≤ maxLen ∧ zs.length = cap ∧ (∀ i, i < zs.length → w.cell? (x.add i) = some (.int k (zs.getD i 0))) ∧ ∀ n ∈ zs, (Lit.int k n).wf = true

/-! ### STEP 1: THE WALK: the Go text returns true, AND WRITES NOTHING THAT WAS THERE: 'Below w.heap.size w w'' (Derived/Below.lean: '.refl', '.alloc', '.drew', '.setCell' at a new block, '.trans'). Open each 'IsRow' by 'rcases' AHEAD of 'go_enter'; part every test ahead of the walk. -/
set_option maxHeartbeats 1000000 in
theorem walk (a0 : Int) (a1 : Option Addr) (len1 cap1 : Nat) (z1 : List Int) (w : World) (w0 : (Lit.int .i64 a0).wf = true) (w1 : IsRow .i64 w a1 len1 cap1 z1) :
    Calls Try.prog 12 #[.int .i64 a0, .slice a1 len1 cap1] w fun e w' => e = .returned (.bool true) ∧ Below w.heap.size w w' := by
  obtain ⟨haw1, hl1, hwf1⟩ := argInts_of w1
  clear w1
  generalize z1.take len1 = xs1 at haw1 hl1 hwf1
  subst hl1
  by_cases hx1 : 1048576 < xs1.length
  · have hbig : (1048576 : Int) < (xs1.length : Int) := by omega
    go_enter Try.func12, Try.ntmps12
    go_wp2
    go_ret
    exact ⟨rfl, Below.refl _ _⟩
  have hx1' : xs1.length ≤ 1099511627776 := by omega
  have hs1 : xs1.length ≤ 1048576 := by omega
  have hB : Below w.heap.size w w := Below.refl _ _
  have ha1 := haw1
  go_enter Try.func12, Try.ntmps12
  have hN := bounds_i64 w0
  go_wp2_with fail
  refine (toIntS_any _ _ xs1 _ hx1' ha1).mono ?_
  rintro e v1 ⟨g1, c1, rfl, ho1, hb1⟩
  have hB01 := hB
  have hB := hB.trans (hb1.mono hB.size)
  have ha1 := haw1.below hB
  go_wp2_with fail
  refine (spec_IsSorter_any a0 g1 0 _ c1 xs1 _ hN rfl hs1 ho1.lt ho1.cells).mono ?_
  rintro e v2 ⟨rfl, hb2⟩
  have ho1 := ho1.below hb2 ho1.lt
  have hB := hB.trans (hb2.mono hB.size)
  have ha1 := haw1.below hB
  clear ho1
  go_wp2_with fail
  refine (toIntS_any _ _ xs1 _ hx1' ha1).mono ?_
  rintro e v3 ⟨g3, c3, rfl, ho3, hb3⟩
  have hB03 := hB
  have hB := hB.trans (hb3.mono hB.size)
  have ha1 := haw1.below hB
  go_wp2_with fail
  refine (impl_IsSorter_any a0 g3 0 _ c3 xs1 _ rfl hs1 ho3.lt ho3.cells).mono ?_
  rintro e v4 ⟨rfl, hb4⟩
  have ho3 := ho3.below hb4 ho3.lt
  have hB := hB.trans (hb4.mono hB.size)
  have ha1 := haw1.below hB
  go_wp2_with fail
  refine (toIntS_any _ _ xs1 _ hx1' ha1).mono ?_
  rintro e v5 ⟨g5, c5, rfl, ho5, hb5⟩
  have n_3_5 : g3 < g5 := by have h1 := ho3.lt; have h2 := ho5.base; omega
  have hB05 := hB
  have ho3 := ho3.below hb5 ho3.lt
  have hB := hB.trans (hb5.mono hB.size)
  have ha1 := haw1.below hB
  go_wp2_with fail
  refine (eqIntS_same g3 0 _ c3 g5 0 _ c5 (xs1) _ rfl rfl hx1' ho3.cells ho5.cells).mono ?_
  rintro e v6 ⟨rfl, m6, rfl⟩
  have ho3 := ho3.drewN m6
  have ho5 := ho5.drewN m6
  have hB := below_drewN hB m6
  have ha1 := haw1.below hB
  clear ho5
  go_wp2_with fail
  go_ret
  exact ⟨rfl, below_same hB rfl rfl rfl rfl⟩

/-! ### THE ROW's STEP: WRITTEN OUT: LEAVE IT -/
set_option maxRecDepth 100000 in
theorem lifted (os : Os) (started : os.Started) (H : Type) (enc : TypeId × Value → H) :
    ReturnsInHanded {} Try.checked os 12 .any (Rows.fnExactIsSorterSpec.pre6 enc Try.prog Try.f12 Rows.fnExactIsSorterRow.domain false) (Rows.fnExactIsSorterSpec.post enc Try.prog Try.f12 false true false false) := by
  refine returnsInHanded_of_change (C := Try.checked) own started (by kernel_rfl) Try.func12
    (ChangeSpec.witness6 (enc := enc) (C := Try.checked) false ⟨#[], #[.int .i64 0, .slice none 0 0], []⟩ 8 (by kernel_rfl) (by kernel_rfl) (by kernel_rfl) (by kernel_rfl)) ?_
  intro W base args ds gs before hval0 hW hcnd _
  have hval : ∀ (j : Nat) t v, Try.f12.params[j]? = some t → args[j]? = some v → Value.okWide Try.prog W .any base t v := hval0
  have hW' := hW
  obtain ⟨p, q, hA0, hV, rfl, hfz, hnd⟩ := hW
  have hA : DataW.TrodAll enc Try.prog W 0 (fun _ => true) true Try.f12.params.toList args.toList ds p := hA0
  rw [Try.params12] at hA hval
  obtain ⟨v0, vs0, d0, ds0, p0, q0, hargs, rfl, rfl, h0, r0⟩ := trodAll_cons hA
  obtain ⟨v1, vs1, d1, ds1, p1, q1, rfl, rfl, rfl, h1, r1⟩ := trodAll_cons r0
  obtain ⟨rfl, rfl, rfl⟩ := trodAll_nil r1
  obtain rfl : args = #[v0, v1] := by cases args; simp_all
  obtain ⟨rfl, rfl⟩ := trodVars_none hV
  obtain ⟨a0, rfl, rfl, rfl, w0⟩ := open_int Try.underlying3 (hval 0 3 v0 rfl rfl) h0
  obtain ⟨a1, len1, cap1, rfl⟩ := okWide_slice Try.underlying24 (hval 1 24 v1 rfl rfl)
  have k1 := h1
  have lt1 : ∀ x ∈ p1, x.block < W.heap.size := by obtain ⟨m, hm⟩ := k1; exact DataW.trod_lt m _ _ _ hm
  obtain ⟨z1, w1⟩ : ∃ zs, IsRow .i64 W a1 len1 cap1 zs := by
    obtain ⟨fuel, hf⟩ := h1
    rcases open_ints Try.underlying24 Try.underlying3 (by kernel_rfl) hf with ⟨hcs, _⟩ | ⟨x, l, c, zs, hcs, _, hl, hm, hz, _, hcell, hwz⟩
    · simp [Value.cells] at hcs
      obtain ⟨rfl, rfl, rfl⟩ := hcs
      exact ⟨[], .inl ⟨rfl, rfl, rfl, rfl⟩⟩
    · simp [Value.cells] at hcs
      obtain ⟨rfl, rfl, rfl⟩ := hcs
      exact ⟨zs, .inr ⟨_, rfl, hl, hm, by simpa using hz, hcell, hwz⟩⟩
  clear hA0 hval0
  refine (walk a0 a1 len1 cap1 z1 W w0 w1).mono fun e W' ⟨he, bel⟩ => ?_
  subst he
  exact ⟨_, rfl, _, _, _, [], _, [], hW', trodAll_mk1 (shut_bool Try.underlying4 _), (trodAll_cons_mk (shut_int Try.underlying3 w0) (trodAll_cons_mk (Below.trod laidOut (by kernel_rfl) (of_decide_eq_true (by kernel_rfl)) k1 bel lt1) trodAll_mk0)), rfl, bel.frame _, fun h => by cases h⟩

theorem over : Rows.fnExactIsSorterRow.holds Try.pinned (OpenSpec.ofChange Rows.fnExactIsSorterSpec) :=
  OpenClaim.holds_of_wide 12 Try.f12 rfl rfl rfl rfl rfl rfl rfl ⟨rfl, rfl, rfl, rfl, rfl⟩ rfl rfl rfl rfl rfl (by kernel_rfl) Try.func12 (by kernel_rfl)
    (of_decide_eq_true (by kernel_rfl)) (by unfold Func.isWrapper; first | (rw [if_pos (by decide +kernel)]; kernel_rfl) | (rw [if_neg (by decide +kernel)]; exact ⟨rfl, rfl⟩))
    (fun os started H enc _ => lifted os started H enc)

/-- ████ THE STATEMENT ████ -/
theorem proved : Rows.FnExactIsSorterSaid := over
#print axioms proved
end Go.Proofs.Ytgdgmldmcommbaa.fnExactIsSorter
