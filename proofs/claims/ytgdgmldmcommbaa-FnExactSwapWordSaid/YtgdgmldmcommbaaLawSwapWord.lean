/-
  PROVED HERE: the law FnExactSwapWord returns true for every input and leaves its arguments as they were. CONDITIONS: none beyond the given row's own.
  The frame round the walk began as the kit's proof-skeleton; the walk was printed by a program of mine (law.py) out of contracts that the imported texts prove.
-/
import Derived.Test.YtgdgmldmcommbaaRows
import Derived.Test.YtgdgmldmcommbaaHelp
import Derived.Test.YtgdgmldmcommbaaSwap2
import Derived.WalkKit
import Derived.ProofKit
import Derived.OpenShut
import Derived.ShutString
import Derived.ChangeOld
import Derived.Below
namespace Go.Proofs.Ytgdgmldmcommbaa.fnExactSwapWord
open Go.ChangeShapes Go.WideShapes Go.ChangeAt Go.RowKit
open Go.ChangeMaps (open_string shut_string)
open Go.Proofs.Ytgdgmldmcommbaa
set_option linter.unusedVariables false

theorem own : ownKnob Try.prog.godebug = none := by kernel_rfl
theorem laidOut : laidOutB Try.prog = true := by kernel_rfl

/-- WHAT THE WALK IS TOLD OF A SLICE OF INTEGERS THAT CAME IN: it is nil; or it leads to a row of 'cap' cells, the numbers 'zs' (the first 'len' are its elements, the rest its spare room), each fitting its kind. -/
def IsRow (k : IntKind) (w : World) (a : Option Addr) (len cap : Nat) (zs : List Int) : Prop :=
  (a = none ∧ len = 0 ∧ cap = 0 ∧ zs = []) ∨
  ∃ x, a = some x ∧ len ≤ cap ∧ cap ≤ maxLen ∧ zs.length = cap ∧ (∀ i, i < zs.length → w.cell? (x.add i) = some (.int k (zs.getD i 0))) ∧ ∀ n ∈ zs, (Lit.int k n).wf = true

/-! ### STEP 1: THE WALK: the Go text returns true, AND WRITES NOTHING THAT WAS THERE: 'Below w.heap.size w w'' (Derived/Below.lean: '.refl', '.alloc', '.drew', '.setCell' at a new block, '.trans'). Open each 'IsRow' by 'rcases' AHEAD of 'go_enter'; part every test ahead of the walk. -/
set_option maxHeartbeats 1000000 in
theorem walk (a0 : Option Addr) (len0 cap0 : Nat) (z0 : List Int) (w : World) (w0 : IsRow .i64 w a0 len0 cap0 z0) :
    Calls Try.prog 11 #[.slice a0 len0 cap0] w fun e w' => e = .returned (.bool true) ∧ Below w.heap.size w w' := by
  obtain ⟨haw0, hl0, hwf0⟩ := argInts_of w0
  clear w0
  generalize z0.take len0 = xs0 at haw0 hl0 hwf0
  subst hl0
  by_cases hx0 : 1048576 < xs0.length
  · have hbig : (1048576 : Int) < (xs0.length : Int) := by omega
    go_enter Try.func11, Try.ntmps11
    go_wp2
    go_ret
    exact ⟨rfl, Below.refl _ _⟩
  have hx0' : xs0.length ≤ 1099511627776 := by omega
  have hs0 : xs0.length ≤ 1048576 := by omega
  have hB : Below w.heap.size w w := Below.refl _ _
  have ha0 := haw0
  have hmL : (swapWord xs0).length ≤ 1099511627776 := by have := swapWord_len xs0; omega
  go_enter Try.func11, Try.ntmps11
  go_wp2_with fail
  refine (toIntS_any _ _ xs0 _ hx0' ha0).mono ?_
  rintro e v1 ⟨g1, c1, rfl, ho1, hb1⟩
  have hB01 := hB
  have hB := hB.trans (hb1.mono hB.size)
  have ha0 := haw0.below hB
  go_wp2_with fail
  refine (spec_SwapWord_any g1 0 _ c1 xs0 _ rfl hs0 ho1.capLe ho1.lt ho1.cells).mono ?_
  rintro e v2 ⟨g2, c2, rfl, ho2, hb2⟩
  have n_1_2 : g1 < g2 := by have h1 := ho1.lt; have h2 := ho2.base; omega
  have hB02 := hB
  have ho1 := ho1.below hb2 ho1.lt
  have hB := hB.trans (hb2.mono hB.size)
  have ha0 := haw0.below hB
  clear ho1
  go_wp2_with fail
  refine (toIntS_any _ _ xs0 _ hx0' ha0).mono ?_
  rintro e v3 ⟨g3, c3, rfl, ho3, hb3⟩
  have n_2_3 : g2 < g3 := by have h1 := ho2.lt; have h2 := ho3.base; omega
  have hB03 := hB
  have ho2 := ho2.below hb3 ho2.lt
  have hB := hB.trans (hb3.mono hB.size)
  have ha0 := haw0.below hB
  go_wp2_with fail
  refine (impl_SwapWord_any g3 0 _ c3 xs0 _ rfl hs0 ho3.lt ho3.cells).mono ?_
  rintro e v4 ⟨g4, c4, rfl, ho4, hb4⟩
  have n_2_4 : g2 < g4 := by have h1 := ho2.lt; have h2 := ho4.base; omega
  have n_3_4 : g3 < g4 := by have h1 := ho3.lt; have h2 := ho4.base; omega
  have hB04 := hB
  have ho2 := ho2.below hb4 ho2.lt
  have ho3 := ho3.below hb4 ho3.lt
  have hB := hB.trans (hb4.mono hB.size)
  have ha0 := haw0.below hB
  go_wp2_with fail
  refine (eqIntS_same g4 0 _ c4 g2 0 _ c2 (swapWord xs0) _ rfl rfl hmL ho4.cells ho2.cells).mono ?_
  rintro e v5 ⟨rfl, m5, rfl⟩
  have ho2 := ho2.drewN m5
  have ho3 := ho3.drewN m5
  have ho4 := ho4.drewN m5
  have hB := below_drewN hB m5
  have ha0 := haw0.below hB
  go_wp2_with fail
  refine (toIntS_any _ _ xs0 _ hx0' ha0).mono ?_
  rintro e v6 ⟨g6, c6, rfl, ho6, hb6⟩
  have n_2_6 : g2 < g6 := by have h1 := ho2.lt; have h2 := ho6.base; omega
  have n_3_6 : g3 < g6 := by have h1 := ho3.lt; have h2 := ho6.base; omega
  have n_4_6 : g4 < g6 := by have h1 := ho4.lt; have h2 := ho6.base; omega
  have hB06 := hB
  have ho2 := ho2.below hb6 ho2.lt
  have ho3 := ho3.below hb6 ho3.lt
  have ho4 := ho4.below hb6 ho4.lt
  have hB := hB.trans (hb6.mono hB.size)
  have ha0 := haw0.below hB
  go_wp2_with fail
  refine (eqIntS_same g3 0 _ c3 g6 0 _ c6 (xs0) _ rfl rfl hx0' ho3.cells ho6.cells).mono ?_
  rintro e v7 ⟨rfl, m7, rfl⟩
  have ho2 := ho2.drewN m7
  have ho3 := ho3.drewN m7
  have ho4 := ho4.drewN m7
  have ho6 := ho6.drewN m7
  have hB := below_drewN hB m7
  have ha0 := haw0.below hB
  clear ho6
  have bs2 : w.heap.size ≤ g2 := by have h1 := ho2.base; have h2 := hB02.size; omega
  have bs3 : w.heap.size ≤ g3 := by have h1 := ho3.base; have h2 := hB03.size; omega
  have bs4 : w.heap.size ≤ g4 := by have h1 := ho4.base; have h2 := hB04.size; omega
  go_wp2_with fail
  refine (markIntS_n _ g3 _ c3 _ (1) _ _ (by simp) rfl hx0' (by omega) ho3).mono ?_
  rintro e v8 ⟨rfl, hm8, hg8⟩
  have ho2 := ho2.grown hg8 (by intro e; cases e; omega)
  have ho4 := ho4.grown hg8 (by intro e; cases e; omega)
  have hB := hB.grown hg8 hB.size (by intro k hk; cases hk; omega)
  clear ho3
  have ho3 := hm8
  clear hm8
  have ha0 := haw0.below hB
  go_wp2_with fail
  refine (eqIntS_same g4 0 _ c4 g2 0 _ c2 (swapWord xs0) _ rfl rfl hmL ho4.cells ho2.cells).mono ?_
  rintro e v9 ⟨rfl, m9, rfl⟩
  have ho2 := ho2.drewN m9
  have ho3 := ho3.drewN m9
  have ho4 := ho4.drewN m9
  have hB := below_drewN hB m9
  have ha0 := haw0.below hB
  go_wp2_with fail
  refine (markIntS_n _ g4 _ c4 _ (1) _ _ (by simp) rfl hmL (by omega) ho4).mono ?_
  rintro e v10 ⟨rfl, hm10, hg10⟩
  have ho2 := ho2.grown hg10 (by intro e; cases e; omega)
  have ho3 := ho3.grown hg10 (by intro e; cases e; omega)
  have hB := hB.grown hg10 hB.size (by intro k hk; cases hk; omega)
  clear ho4
  have ho4 := hm10
  clear hm10
  have ha0 := haw0.below hB
  go_wp2_with fail
  refine (heldIntS_n g4 _ c4 1 _ _ (by simp) hmL (by omega) ho4.cells).mono ?_
  rintro e v11 ⟨rfl, m11, rfl⟩
  have ho2 := ho2.drewN m11
  have ho3 := ho3.drewN m11
  have ho4 := ho4.drewN m11
  have hB := below_drewN hB m11
  have ha0 := haw0.below hB
  go_wp2_with fail
  refine (toIntS_any _ _ xs0 _ hx0' ha0).mono ?_
  rintro e v12 ⟨g12, c12, rfl, ho12, hb12⟩
  have n_2_12 : g2 < g12 := by have h1 := ho2.lt; have h2 := ho12.base; omega
  have n_3_12 : g3 < g12 := by have h1 := ho3.lt; have h2 := ho12.base; omega
  have n_4_12 : g4 < g12 := by have h1 := ho4.lt; have h2 := ho12.base; omega
  have hB012 := hB
  have ho2 := ho2.below hb12 ho2.lt
  have ho3 := ho3.below hb12 ho3.lt
  have ho4 := ho4.below hb12 ho4.lt
  have hB := hB.trans (hb12.mono hB.size)
  have ha0 := haw0.below hB
  go_wp2_with fail
  refine (impl_SwapWord_any g12 0 _ c12 xs0 _ rfl hs0 ho12.lt ho12.cells).mono ?_
  rintro e v13 ⟨g13, c13, rfl, ho13, hb13⟩
  have n_2_13 : g2 < g13 := by have h1 := ho2.lt; have h2 := ho13.base; omega
  have n_3_13 : g3 < g13 := by have h1 := ho3.lt; have h2 := ho13.base; omega
  have n_4_13 : g4 < g13 := by have h1 := ho4.lt; have h2 := ho13.base; omega
  have n_12_13 : g12 < g13 := by have h1 := ho12.lt; have h2 := ho13.base; omega
  have hB013 := hB
  have ho2 := ho2.below hb13 ho2.lt
  have ho3 := ho3.below hb13 ho3.lt
  have ho4 := ho4.below hb13 ho4.lt
  have ho12 := ho12.below hb13 ho12.lt
  have hB := hB.trans (hb13.mono hB.size)
  have ha0 := haw0.below hB
  go_wp2_with fail
  refine (eqIntS_same g13 0 _ c13 g2 0 _ c2 (swapWord xs0) _ rfl rfl hmL ho13.cells ho2.cells).mono ?_
  rintro e v14 ⟨rfl, m14, rfl⟩
  have ho2 := ho2.drewN m14
  have ho3 := ho3.drewN m14
  have ho4 := ho4.drewN m14
  have ho12 := ho12.drewN m14
  have ho13 := ho13.drewN m14
  have hB := below_drewN hB m14
  have ha0 := haw0.below hB
  go_wp2_with fail
  refine (heldIntS_n g4 _ c4 1 _ _ (by simp) hmL (by omega) ho4.cells).mono ?_
  rintro e v15 ⟨rfl, m15, rfl⟩
  have ho2 := ho2.drewN m15
  have ho3 := ho3.drewN m15
  have ho4 := ho4.drewN m15
  have ho12 := ho12.drewN m15
  have ho13 := ho13.drewN m15
  have hB := below_drewN hB m15
  have ha0 := haw0.below hB
  go_wp2_with fail
  go_ret
  exact ⟨rfl, below_same hB rfl rfl rfl rfl⟩

/-! ### THE ROW's STEP: WRITTEN OUT: LEAVE IT -/
set_option maxRecDepth 100000 in
theorem lifted (os : Os) (started : os.Started) (H : Type) (enc : TypeId × Value → H) :
    ReturnsInHanded {} Try.checked os 11 .any (Rows.fnExactSwapWordSpec.pre6 enc Try.prog Try.f11 Rows.fnExactSwapWordRow.domain false) (Rows.fnExactSwapWordSpec.post enc Try.prog Try.f11 false true false false) := by
  refine returnsInHanded_of_change (C := Try.checked) own started (by kernel_rfl) Try.func11
    (ChangeSpec.witness6 (enc := enc) (C := Try.checked) false ⟨#[], #[.slice none 0 0], []⟩ 8 (by kernel_rfl) (by kernel_rfl) (by kernel_rfl) (by kernel_rfl)) ?_
  intro W base args ds gs before hval0 hW hcnd _
  have hval : ∀ (j : Nat) t v, Try.f11.params[j]? = some t → args[j]? = some v → Value.okWide Try.prog W .any base t v := hval0
  have hW' := hW
  obtain ⟨p, q, hA0, hV, rfl, hfz, hnd⟩ := hW
  have hA : DataW.TrodAll enc Try.prog W 0 (fun _ => true) true Try.f11.params.toList args.toList ds p := hA0
  rw [Try.params11] at hA hval
  obtain ⟨v0, vs0, d0, ds0, p0, q0, hargs, rfl, rfl, h0, r0⟩ := trodAll_cons hA
  obtain ⟨rfl, rfl, rfl⟩ := trodAll_nil r0
  obtain rfl : args = #[v0] := by cases args; simp_all
  obtain ⟨rfl, rfl⟩ := trodVars_none hV
  obtain ⟨a0, len0, cap0, rfl⟩ := okWide_slice Try.underlying24 (hval 0 24 v0 rfl rfl)
  have k0 := h0
  have lt0 : ∀ x ∈ p0, x.block < W.heap.size := by obtain ⟨m, hm⟩ := k0; exact DataW.trod_lt m _ _ _ hm
  obtain ⟨z0, w0⟩ : ∃ zs, IsRow .i64 W a0 len0 cap0 zs := by
    obtain ⟨fuel, hf⟩ := h0
    rcases open_ints Try.underlying24 Try.underlying3 (by kernel_rfl) hf with ⟨hcs, _⟩ | ⟨x, l, c, zs, hcs, _, hl, hm, hz, _, hcell, hwz⟩
    · simp [Value.cells] at hcs
      obtain ⟨rfl, rfl, rfl⟩ := hcs
      exact ⟨[], .inl ⟨rfl, rfl, rfl, rfl⟩⟩
    · simp [Value.cells] at hcs
      obtain ⟨rfl, rfl, rfl⟩ := hcs
      exact ⟨zs, .inr ⟨_, rfl, hl, hm, by simpa using hz, hcell, hwz⟩⟩
  clear hA0 hval0
  refine (walk a0 len0 cap0 z0 W w0).mono fun e W' ⟨he, bel⟩ => ?_
  subst he
  exact ⟨_, rfl, _, _, _, [], _, [], hW', trodAll_mk1 (shut_bool Try.underlying4 _), (trodAll_cons_mk (Below.trod laidOut (by kernel_rfl) (of_decide_eq_true (by kernel_rfl)) k0 bel lt0) trodAll_mk0), rfl, bel.frame _, fun h => by cases h⟩

theorem over : Rows.fnExactSwapWordRow.holds Try.pinned (OpenSpec.ofChange Rows.fnExactSwapWordSpec) :=
  OpenClaim.holds_of_wide 11 Try.f11 rfl rfl rfl rfl rfl rfl rfl ⟨rfl, rfl, rfl, rfl, rfl⟩ rfl rfl rfl rfl rfl (by kernel_rfl) Try.func11 (by kernel_rfl)
    (of_decide_eq_true (by kernel_rfl)) (by unfold Func.isWrapper; first | (rw [if_pos (by decide +kernel)]; kernel_rfl) | (rw [if_neg (by decide +kernel)]; exact ⟨rfl, rfl⟩))
    (fun os started H enc _ => lifted os started H enc)

/-- ████ THE STATEMENT ████ -/
theorem proved : Rows.FnExactSwapWordSaid := over
#print axioms proved
end Go.Proofs.Ytgdgmldmcommbaa.fnExactSwapWord
