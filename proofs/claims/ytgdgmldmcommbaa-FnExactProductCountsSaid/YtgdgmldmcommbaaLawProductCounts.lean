/-
  PROVED HERE: the law FnExactProductCounts returns true for every input and leaves its arguments as they were. CONDITIONS: none beyond the given row's own.
  The frame round the walk began as the kit's proof-skeleton; the walk was printed by a program of mine (law.py) out of contracts that the imported texts prove.
-/
import Derived.Test.YtgdgmldmcommbaaRows
import Derived.Test.YtgdgmldmcommbaaHelp
import Derived.Test.YtgdgmldmcommbaaMul
import Derived.WalkKit
import Derived.ProofKit
import Derived.OpenShut
import Derived.ShutString
import Derived.ChangeOld
import Derived.Below
namespace Go.Proofs.Ytgdgmldmcommbaa.fnExactProductCounts
open Go.ChangeShapes Go.WideShapes Go.ChangeAt Go.RowKit
open Go.ChangeMaps (open_string shut_string)
open Go.Proofs.Ytgdgmldmcommbaa
set_option linter.unusedVariables false

theorem own : ownKnob Try.prog.godebug = none := by kernel_rfl
theorem laidOut : laidOutB Try.prog = true := by kernel_rfl

/-- WHAT THE WALK IS TOLD OF A SLICE OF INTEGERS THAT CAME IN: it is nil; or it leads to a row of 'cap' cells, the numbers 'zs' (the first 'len' are its elements, the rest its spare room), each fitting its kind. -/
def IsRow (k : IntKind) (w : World) (a : Option Addr) (len cap : Nat) (zs : List Int) : Prop :=
  (a = none ∧ len = 0 ∧ cap = 0 ∧ zs = []) ∨
  ∃ x, a = some x ∧ len ≤ cap ∧ cap ≤ maxLen ∧ zs.length = cap ∧ (∀ i, i < zs.length → w.cell? (x.add i) = some (.int k (zs.getD i 0))) ∧ ∀ n ∈ zs, (Lit.int k n).wf = true

/-! ### STEP 1: THE WALK: the Go text returns true, AND WRITES NOTHING THAT WAS THERE: 'Below w.heap.size w w'' (Derived/Below.lean: '.refl', '.alloc', '.drew', '.setCell' at a new block, '.trans'). Open each 'IsRow' by 'rcases' AHEAD of 'go_enter'; part every test ahead of the walk. -/
set_option maxHeartbeats 1000000 in
theorem walk (a0 : Option Addr) (len0 cap0 : Nat) (z0 : List Int) (a1 : Option Addr) (len1 cap1 : Nat) (z1 : List Int) (w : World) (w0 : IsRow .i64 w a0 len0 cap0 z0) (w1 : IsRow .i64 w a1 len1 cap1 z1) :
    Calls Try.prog 9 #[.slice a0 len0 cap0, .slice a1 len1 cap1] w fun e w' => e = .returned (.bool true) ∧ Below w.heap.size w w' := by
  obtain ⟨haw0, hl0, hwf0⟩ := argInts_of w0
  clear w0
  generalize z0.take len0 = xs0 at haw0 hl0 hwf0
  subst hl0
  obtain ⟨haw1, hl1, hwf1⟩ := argInts_of w1
  clear w1
  generalize z1.take len1 = xs1 at haw1 hl1 hwf1
  subst hl1
  by_cases hx0 : 1048576 < xs0.length
  · have hbig : (1048576 : Int) < (xs0.length : Int) := by omega
    go_enter Try.func9, Try.ntmps9
    go_wp2
    go_ret
    exact ⟨rfl, Below.refl _ _⟩
  by_cases hx1 : 1048576 < xs1.length
  · have hbig : (1048576 : Int) < (xs1.length : Int) := by omega
    go_enter Try.func9, Try.ntmps9
    go_wp2
    go_ret
    exact ⟨rfl, Below.refl _ _⟩
  have hx0' : xs0.length ≤ 1099511627776 := by omega
  have hs0 : xs0.length ≤ 1048576 := by omega
  have hx1' : xs1.length ≤ 1099511627776 := by omega
  have hs1 : xs1.length ≤ 1048576 := by omega
  have hB : Below w.heap.size w w := Below.refl _ _
  have ha0 := haw0
  have ha1 := haw1
  have hmL : (mul (trim xs0) (trim xs1)).length ≤ 1099511627776 := by have := mul_length_le (trim xs0) (trim xs1); omega
  go_enter Try.func9, Try.ntmps9
  go_wp2_with fail
  refine (toIntS_any _ _ xs0 _ hx0' ha0).mono ?_
  rintro e v1 ⟨g1, c1, rfl, ho1, hb1⟩
  have hB01 := hB
  have hB := hB.trans (hb1.mono hB.size)
  have ha0 := haw0.below hB
  have ha1 := haw1.below hB
  go_wp2_with fail
  refine (toIntS_any _ _ xs1 _ hx1' ha1).mono ?_
  rintro e v2 ⟨g2, c2, rfl, ho2, hb2⟩
  have n_1_2 : g1 < g2 := by have h1 := ho1.lt; have h2 := ho2.base; omega
  have hB02 := hB
  have ho1 := ho1.below hb2 ho1.lt
  have hB := hB.trans (hb2.mono hB.size)
  have ha0 := haw0.below hB
  have ha1 := haw1.below hB
  go_wp2_with fail
  refine (spec_ProductCounts_any g1 0 _ c1 g2 0 _ c2 xs0 xs1 _ rfl rfl hx0' hx1' ho1.capLe ho2.capLe ho1.lt ho2.lt ho1.cells ho2.cells).mono ?_
  rintro e v3 ⟨g3, c3, rfl, ho3, hb3⟩
  have n_1_3 : g1 < g3 := by have h1 := ho1.lt; have h2 := ho3.base; omega
  have n_2_3 : g2 < g3 := by have h1 := ho2.lt; have h2 := ho3.base; omega
  have hB03 := hB
  have ho1 := ho1.below hb3 ho1.lt
  have ho2 := ho2.below hb3 ho2.lt
  have hB := hB.trans (hb3.mono hB.size)
  have ha0 := haw0.below hB
  have ha1 := haw1.below hB
  clear ho1
  clear ho2
  go_wp2_with fail
  refine (toIntS_any _ _ xs0 _ hx0' ha0).mono ?_
  rintro e v4 ⟨g4, c4, rfl, ho4, hb4⟩
  have n_3_4 : g3 < g4 := by have h1 := ho3.lt; have h2 := ho4.base; omega
  have hB04 := hB
  have ho3 := ho3.below hb4 ho3.lt
  have hB := hB.trans (hb4.mono hB.size)
  have ha0 := haw0.below hB
  have ha1 := haw1.below hB
  go_wp2_with fail
  refine (toIntS_any _ _ xs1 _ hx1' ha1).mono ?_
  rintro e v5 ⟨g5, c5, rfl, ho5, hb5⟩
  have n_3_5 : g3 < g5 := by have h1 := ho3.lt; have h2 := ho5.base; omega
  have n_4_5 : g4 < g5 := by have h1 := ho4.lt; have h2 := ho5.base; omega
  have hB05 := hB
  have ho3 := ho3.below hb5 ho3.lt
  have ho4 := ho4.below hb5 ho4.lt
  have hB := hB.trans (hb5.mono hB.size)
  have ha0 := haw0.below hB
  have ha1 := haw1.below hB
  go_wp2_with fail
  refine (impl_ProductCounts_any g4 0 _ c4 g5 0 _ c5 xs0 xs1 _ rfl rfl hx0' hx1' ho4.capLe ho5.capLe ho4.lt ho5.lt ho4.cells ho5.cells).mono ?_
  rintro e v6 ⟨g6, c6, rfl, ho6, hb6⟩
  have n_3_6 : g3 < g6 := by have h1 := ho3.lt; have h2 := ho6.base; omega
  have n_4_6 : g4 < g6 := by have h1 := ho4.lt; have h2 := ho6.base; omega
  have n_5_6 : g5 < g6 := by have h1 := ho5.lt; have h2 := ho6.base; omega
  have hB06 := hB
  have ho3 := ho3.below hb6 ho3.lt
  have ho4 := ho4.below hb6 ho4.lt
  have ho5 := ho5.below hb6 ho5.lt
  have hB := hB.trans (hb6.mono hB.size)
  have ha0 := haw0.below hB
  have ha1 := haw1.below hB
  go_wp2_with fail
  refine (eqIntS_same g6 0 _ c6 g3 0 _ c3 (mul (trim xs0) (trim xs1)) _ rfl rfl hmL ho6.cells ho3.cells).mono ?_
  rintro e v7 ⟨rfl, m7, rfl⟩
  have ho3 := ho3.drewN m7
  have ho4 := ho4.drewN m7
  have ho5 := ho5.drewN m7
  have ho6 := ho6.drewN m7
  have hB := below_drewN hB m7
  have ha0 := haw0.below hB
  have ha1 := haw1.below hB
  go_wp2_with fail
  refine (toIntS_any _ _ xs0 _ hx0' ha0).mono ?_
  rintro e v8 ⟨g8, c8, rfl, ho8, hb8⟩
  have n_3_8 : g3 < g8 := by have h1 := ho3.lt; have h2 := ho8.base; omega
  have n_4_8 : g4 < g8 := by have h1 := ho4.lt; have h2 := ho8.base; omega
  have n_5_8 : g5 < g8 := by have h1 := ho5.lt; have h2 := ho8.base; omega
  have n_6_8 : g6 < g8 := by have h1 := ho6.lt; have h2 := ho8.base; omega
  have hB08 := hB
  have ho3 := ho3.below hb8 ho3.lt
  have ho4 := ho4.below hb8 ho4.lt
  have ho5 := ho5.below hb8 ho5.lt
  have ho6 := ho6.below hb8 ho6.lt
  have hB := hB.trans (hb8.mono hB.size)
  have ha0 := haw0.below hB
  have ha1 := haw1.below hB
  go_wp2_with fail
  refine (eqIntS_same g4 0 _ c4 g8 0 _ c8 (xs0) _ rfl rfl hx0' ho4.cells ho8.cells).mono ?_
  rintro e v9 ⟨rfl, m9, rfl⟩
  have ho3 := ho3.drewN m9
  have ho4 := ho4.drewN m9
  have ho5 := ho5.drewN m9
  have ho6 := ho6.drewN m9
  have ho8 := ho8.drewN m9
  have hB := below_drewN hB m9
  have ha0 := haw0.below hB
  have ha1 := haw1.below hB
  clear ho8
  go_wp2_with fail
  refine (toIntS_any _ _ xs1 _ hx1' ha1).mono ?_
  rintro e v10 ⟨g10, c10, rfl, ho10, hb10⟩
  have n_3_10 : g3 < g10 := by have h1 := ho3.lt; have h2 := ho10.base; omega
  have n_4_10 : g4 < g10 := by have h1 := ho4.lt; have h2 := ho10.base; omega
  have n_5_10 : g5 < g10 := by have h1 := ho5.lt; have h2 := ho10.base; omega
  have n_6_10 : g6 < g10 := by have h1 := ho6.lt; have h2 := ho10.base; omega
  have hB010 := hB
  have ho3 := ho3.below hb10 ho3.lt
  have ho4 := ho4.below hb10 ho4.lt
  have ho5 := ho5.below hb10 ho5.lt
  have ho6 := ho6.below hb10 ho6.lt
  have hB := hB.trans (hb10.mono hB.size)
  have ha0 := haw0.below hB
  have ha1 := haw1.below hB
  go_wp2_with fail
  refine (eqIntS_same g5 0 _ c5 g10 0 _ c10 (xs1) _ rfl rfl hx1' ho5.cells ho10.cells).mono ?_
  rintro e v11 ⟨rfl, m11, rfl⟩
  have ho3 := ho3.drewN m11
  have ho4 := ho4.drewN m11
  have ho5 := ho5.drewN m11
  have ho6 := ho6.drewN m11
  have ho10 := ho10.drewN m11
  have hB := below_drewN hB m11
  have ha0 := haw0.below hB
  have ha1 := haw1.below hB
  clear ho10
  have bs3 : w.heap.size ≤ g3 := by have h1 := ho3.base; have h2 := hB03.size; omega
  have bs4 : w.heap.size ≤ g4 := by have h1 := ho4.base; have h2 := hB04.size; omega
  have bs5 : w.heap.size ≤ g5 := by have h1 := ho5.base; have h2 := hB05.size; omega
  have bs6 : w.heap.size ≤ g6 := by have h1 := ho6.base; have h2 := hB06.size; omega
  go_wp2_with fail
  refine (markIntS_n _ g4 _ c4 _ (1) _ _ (by simp) rfl hx0' (by omega) ho4).mono ?_
  rintro e v12 ⟨rfl, hm12, hg12⟩
  have ho3 := ho3.grown hg12 (by intro e; cases e; omega)
  have ho5 := ho5.grown hg12 (by intro e; cases e; omega)
  have ho6 := ho6.grown hg12 (by intro e; cases e; omega)
  have hB := hB.grown hg12 hB.size (by intro k hk; cases hk; omega)
  clear ho4
  have ho4 := hm12
  clear hm12
  have ha0 := haw0.below hB
  have ha1 := haw1.below hB
  go_wp2_with fail
  refine (markIntS_n _ g5 _ c5 _ (1 + xs0.length) _ _ (by simp) rfl hx1' (by omega) ho5).mono ?_
  rintro e v13 ⟨rfl, hm13, hg13⟩
  have ho3 := ho3.grown hg13 (by intro e; cases e; omega)
  have ho4 := ho4.grown hg13 (by intro e; cases e; omega)
  have ho6 := ho6.grown hg13 (by intro e; cases e; omega)
  have hB := hB.grown hg13 hB.size (by intro k hk; cases hk; omega)
  clear ho5
  have ho5 := hm13
  clear hm13
  have ha0 := haw0.below hB
  have ha1 := haw1.below hB
  go_wp2_with fail
  refine (eqIntS_same g6 0 _ c6 g3 0 _ c3 (mul (trim xs0) (trim xs1)) _ rfl rfl hmL ho6.cells ho3.cells).mono ?_
  rintro e v14 ⟨rfl, m14, rfl⟩
  have ho3 := ho3.drewN m14
  have ho4 := ho4.drewN m14
  have ho5 := ho5.drewN m14
  have ho6 := ho6.drewN m14
  have hB := below_drewN hB m14
  have ha0 := haw0.below hB
  have ha1 := haw1.below hB
  go_wp2_with fail
  refine (markIntS_n _ g6 _ c6 _ (1) _ _ (by simp) rfl hmL (by omega) ho6).mono ?_
  rintro e v15 ⟨rfl, hm15, hg15⟩
  have ho3 := ho3.grown hg15 (by intro e; cases e; omega)
  have ho4 := ho4.grown hg15 (by intro e; cases e; omega)
  have ho5 := ho5.grown hg15 (by intro e; cases e; omega)
  have hB := hB.grown hg15 hB.size (by intro k hk; cases hk; omega)
  clear ho6
  have ho6 := hm15
  clear hm15
  have ha0 := haw0.below hB
  have ha1 := haw1.below hB
  go_wp2_with fail
  refine (heldIntS_n g6 _ c6 1 _ _ (by simp) hmL (by omega) ho6.cells).mono ?_
  rintro e v16 ⟨rfl, m16, rfl⟩
  have ho3 := ho3.drewN m16
  have ho4 := ho4.drewN m16
  have ho5 := ho5.drewN m16
  have ho6 := ho6.drewN m16
  have hB := below_drewN hB m16
  have ha0 := haw0.below hB
  have ha1 := haw1.below hB
  go_wp2_with fail
  refine (toIntS_any _ _ xs0 _ hx0' ha0).mono ?_
  rintro e v17 ⟨g17, c17, rfl, ho17, hb17⟩
  have n_3_17 : g3 < g17 := by have h1 := ho3.lt; have h2 := ho17.base; omega
  have n_4_17 : g4 < g17 := by have h1 := ho4.lt; have h2 := ho17.base; omega
  have n_5_17 : g5 < g17 := by have h1 := ho5.lt; have h2 := ho17.base; omega
  have n_6_17 : g6 < g17 := by have h1 := ho6.lt; have h2 := ho17.base; omega
  have hB017 := hB
  have ho3 := ho3.below hb17 ho3.lt
  have ho4 := ho4.below hb17 ho4.lt
  have ho5 := ho5.below hb17 ho5.lt
  have ho6 := ho6.below hb17 ho6.lt
  have hB := hB.trans (hb17.mono hB.size)
  have ha0 := haw0.below hB
  have ha1 := haw1.below hB
  go_wp2_with fail
  refine (toIntS_any _ _ xs1 _ hx1' ha1).mono ?_
  rintro e v18 ⟨g18, c18, rfl, ho18, hb18⟩
  have n_3_18 : g3 < g18 := by have h1 := ho3.lt; have h2 := ho18.base; omega
  have n_4_18 : g4 < g18 := by have h1 := ho4.lt; have h2 := ho18.base; omega
  have n_5_18 : g5 < g18 := by have h1 := ho5.lt; have h2 := ho18.base; omega
  have n_6_18 : g6 < g18 := by have h1 := ho6.lt; have h2 := ho18.base; omega
  have n_17_18 : g17 < g18 := by have h1 := ho17.lt; have h2 := ho18.base; omega
  have hB018 := hB
  have ho3 := ho3.below hb18 ho3.lt
  have ho4 := ho4.below hb18 ho4.lt
  have ho5 := ho5.below hb18 ho5.lt
  have ho6 := ho6.below hb18 ho6.lt
  have ho17 := ho17.below hb18 ho17.lt
  have hB := hB.trans (hb18.mono hB.size)
  have ha0 := haw0.below hB
  have ha1 := haw1.below hB
  go_wp2_with fail
  refine (impl_ProductCounts_any g17 0 _ c17 g18 0 _ c18 xs0 xs1 _ rfl rfl hx0' hx1' ho17.capLe ho18.capLe ho17.lt ho18.lt ho17.cells ho18.cells).mono ?_
  rintro e v19 ⟨g19, c19, rfl, ho19, hb19⟩
  have n_3_19 : g3 < g19 := by have h1 := ho3.lt; have h2 := ho19.base; omega
  have n_4_19 : g4 < g19 := by have h1 := ho4.lt; have h2 := ho19.base; omega
  have n_5_19 : g5 < g19 := by have h1 := ho5.lt; have h2 := ho19.base; omega
  have n_6_19 : g6 < g19 := by have h1 := ho6.lt; have h2 := ho19.base; omega
  have n_17_19 : g17 < g19 := by have h1 := ho17.lt; have h2 := ho19.base; omega
  have n_18_19 : g18 < g19 := by have h1 := ho18.lt; have h2 := ho19.base; omega
  have hB019 := hB
  have ho3 := ho3.below hb19 ho3.lt
  have ho4 := ho4.below hb19 ho4.lt
  have ho5 := ho5.below hb19 ho5.lt
  have ho6 := ho6.below hb19 ho6.lt
  have ho17 := ho17.below hb19 ho17.lt
  have ho18 := ho18.below hb19 ho18.lt
  have hB := hB.trans (hb19.mono hB.size)
  have ha0 := haw0.below hB
  have ha1 := haw1.below hB
  go_wp2_with fail
  refine (eqIntS_same g19 0 _ c19 g3 0 _ c3 (mul (trim xs0) (trim xs1)) _ rfl rfl hmL ho19.cells ho3.cells).mono ?_
  rintro e v20 ⟨rfl, m20, rfl⟩
  have ho3 := ho3.drewN m20
  have ho4 := ho4.drewN m20
  have ho5 := ho5.drewN m20
  have ho6 := ho6.drewN m20
  have ho17 := ho17.drewN m20
  have ho18 := ho18.drewN m20
  have ho19 := ho19.drewN m20
  have hB := below_drewN hB m20
  have ha0 := haw0.below hB
  have ha1 := haw1.below hB
  go_wp2_with fail
  refine (heldIntS_n g6 _ c6 1 _ _ (by simp) hmL (by omega) ho6.cells).mono ?_
  rintro e v21 ⟨rfl, m21, rfl⟩
  have ho3 := ho3.drewN m21
  have ho4 := ho4.drewN m21
  have ho5 := ho5.drewN m21
  have ho6 := ho6.drewN m21
  have ho17 := ho17.drewN m21
  have ho18 := ho18.drewN m21
  have ho19 := ho19.drewN m21
  have hB := below_drewN hB m21
  have ha0 := haw0.below hB
  have ha1 := haw1.below hB
  go_wp2_with fail
  go_ret
  exact ⟨rfl, below_same hB rfl rfl rfl rfl⟩

/-! ### THE ROW's STEP: WRITTEN OUT: LEAVE IT -/
set_option maxRecDepth 100000 in
theorem lifted (os : Os) (started : os.Started) (H : Type) (enc : TypeId × Value → H) :
    ReturnsInHanded {} Try.checked os 9 .any (Rows.fnExactProductCountsSpec.pre6 enc Try.prog Try.f9 Rows.fnExactProductCountsRow.domain false) (Rows.fnExactProductCountsSpec.post enc Try.prog Try.f9 false true false false) := by
  refine returnsInHanded_of_change (C := Try.checked) own started (by kernel_rfl) Try.func9
    (ChangeSpec.witness6 (enc := enc) (C := Try.checked) false ⟨#[], #[.slice none 0 0, .slice none 0 0], []⟩ 8 (by kernel_rfl) (by kernel_rfl) (by kernel_rfl) (by kernel_rfl)) ?_
  intro W base args ds gs before hval0 hW hcnd _
  have hval : ∀ (j : Nat) t v, Try.f9.params[j]? = some t → args[j]? = some v → Value.okWide Try.prog W .any base t v := hval0
  have hW' := hW
  obtain ⟨p, q, hA0, hV, rfl, hfz, hnd⟩ := hW
  have hA : DataW.TrodAll enc Try.prog W 0 (fun _ => true) true Try.f9.params.toList args.toList ds p := hA0
  rw [Try.params9] at hA hval
  obtain ⟨v0, vs0, d0, ds0, p0, q0, hargs, rfl, rfl, h0, r0⟩ := trodAll_cons hA
  obtain ⟨v1, vs1, d1, ds1, p1, q1, rfl, rfl, rfl, h1, r1⟩ := trodAll_cons r0
  obtain ⟨rfl, rfl, rfl⟩ := trodAll_nil r1
  obtain rfl : args = #[v0, v1] := by cases args; simp_all
  obtain ⟨rfl, rfl⟩ := trodVars_none hV
  obtain ⟨a0, len0, cap0, rfl⟩ := okWide_slice Try.underlying24 (hval 0 24 v0 rfl rfl)
  have k0 := h0
  have lt0 : ∀ x ∈ p0, x.block < W.heap.size := by obtain ⟨m, hm⟩ := k0; exact DataW.trod_lt m _ _ _ hm
  obtain ⟨z0, w0⟩ : ∃ zs, IsRow .i64 W a0 len0 cap0 zs := by
    obtain ⟨fuel, hf⟩ := h0
    rcases open_ints Try.underlying24 Try.underlying3 (by kernel_rfl) hf with ⟨hcs, _⟩ | ⟨x, l, c, zs, hcs, _, hl, hm, hz, _, hcell, hwz⟩
    · simp [Value.cells] at hcs
      obtain ⟨rfl, rfl, rfl⟩ := hcs
      exact ⟨[], .inl ⟨rfl, rfl, rfl, rfl⟩⟩
    · simp [Value.cells] at hcs
      obtain ⟨rfl, rfl, rfl⟩ := hcs
      exact ⟨zs, .inr ⟨_, rfl, hl, hm, by simpa using hz, hcell, hwz⟩⟩
  obtain ⟨a1, len1, cap1, rfl⟩ := okWide_slice Try.underlying24 (hval 1 24 v1 rfl rfl)
  have k1 := h1
  have lt1 : ∀ x ∈ p1, x.block < W.heap.size := by obtain ⟨m, hm⟩ := k1; exact DataW.trod_lt m _ _ _ hm
  obtain ⟨z1, w1⟩ : ∃ zs, IsRow .i64 W a1 len1 cap1 zs := by
    obtain ⟨fuel, hf⟩ := h1
    rcases open_ints Try.underlying24 Try.underlying3 (by kernel_rfl) hf with ⟨hcs, _⟩ | ⟨x, l, c, zs, hcs, _, hl, hm, hz, _, hcell, hwz⟩
    · simp [Value.cells] at hcs
      obtain ⟨rfl, rfl, rfl⟩ := hcs
      exact ⟨[], .inl ⟨rfl, rfl, rfl, rfl⟩⟩
    · simp [Value.cells] at hcs
      obtain ⟨rfl, rfl, rfl⟩ := hcs
      exact ⟨zs, .inr ⟨_, rfl, hl, hm, by simpa using hz, hcell, hwz⟩⟩
  clear hA0 hval0
  refine (walk a0 len0 cap0 z0 a1 len1 cap1 z1 W w0 w1).mono fun e W' ⟨he, bel⟩ => ?_
  subst he
  exact ⟨_, rfl, _, _, _, [], _, [], hW', trodAll_mk1 (shut_bool Try.underlying4 _), (trodAll_cons_mk (Below.trod laidOut (by kernel_rfl) (of_decide_eq_true (by kernel_rfl)) k0 bel lt0) (trodAll_cons_mk (Below.trod laidOut (by kernel_rfl) (of_decide_eq_true (by kernel_rfl)) k1 bel lt1) trodAll_mk0)), rfl, bel.frame _, fun h => by cases h⟩

theorem over : Rows.fnExactProductCountsRow.holds Try.pinned (OpenSpec.ofChange Rows.fnExactProductCountsSpec) :=
  OpenClaim.holds_of_wide 9 Try.f9 rfl rfl rfl rfl rfl rfl rfl ⟨rfl, rfl, rfl, rfl, rfl⟩ rfl rfl rfl rfl rfl (by kernel_rfl) Try.func9 (by kernel_rfl)
    (of_decide_eq_true (by kernel_rfl)) (by unfold Func.isWrapper; first | (rw [if_pos (by decide +kernel)]; kernel_rfl) | (rw [if_neg (by decide +kernel)]; exact ⟨rfl, rfl⟩))
    (fun os started H enc _ => lifted os started H enc)

/-- ████ THE STATEMENT ████ -/
theorem proved : Rows.FnExactProductCountsSaid := over
#print axioms proved
end Go.Proofs.Ytgdgmldmcommbaa.fnExactProductCounts
