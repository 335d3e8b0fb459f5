/-
  PROVED HERE: the law FnExactWeightLine returns true for every input and leaves its arguments as they were. CONDITIONS: none beyond the given row's own.
-/
import Derived.Test.YtmjneokgnnbekaaGreatDoorRows
import Derived.Test.YtmjneokgnnbekaaGreatDoorCards
import Derived.Test.YtmjneokgnnbekaaGreatDoorTie
import Derived.SevenTiedAt
import Derived.LaidMore
import Derived.Stop.Joined
import Derived.Lib.LaidTab
import Derived.Test.YtmjneokgnnbekaaGreatDoorG04
import Derived.Test.YtmjneokgnnbekaaGreatDoorG05
import Derived.Test.YtmjneokgnnbekaaGreatDoorG49
import Derived.Test.YtmjneokgnnbekaaGreatDoorG50
import Derived.WalkKit
import Derived.ProofKit
import Derived.OpenShut
import Derived.ChangeOld
import Derived.Below
namespace Go.Proofs.YtmjneokgnnbekaaGreatDoor.fnExactWeightLine
open Go.ChangeShapes Go.WideShapes Go.ChangeAt Go.RowKit
open Go.Proofs.YtmjneokgnnbekaaGreatDoor
set_option linter.unusedVariables false
set_option maxRecDepth 100000

theorem own : ownKnob Tryz.prog.godebug = none := by kernel_rfl
theorem laidOut : laidOutB Tryz.prog = true := by kernel_rfl

set_option maxHeartbeats 4000000 in
theorem walk (a0 : Option Addr) (c0 : Nat) (x0 : List (List Int)) (a1 : Option Addr) (c1 : Nat) (x1 : List Int) (w : World) (ax0 : Hid (ArgRows w a0 x0)) (nx0 : x0.length ≤ maxLen) (rx0 : Hid (∀ j, j < x0.length → (x0.getD j []).length ≤ maxLen)) (ax1 : Hid (ArgInts w a1 x1)) (nx1 : x1.length ≤ maxLen) (ht : Tab w) :
    Calls Tryz.prog 3 #[.slice a0 x0.length c0, .slice a1 x1.length c1] w fun e w' => e = .returned (.bool true) ∧ Below w.heap.size w w' := by
  have Ht := Lib.hid ht; clear ht
  by_cases hx1 : 1048576 < x1.length
  · have hbig : (1048576 : Int) < (x1.length : Int) := by omega
    go_enter Tryz.func3, Tryz.ntmps3
    go_wp2_with fail
    go_ret
    exact ⟨rfl, Below.refl _ _⟩
  have few1 : x1.length ≤ 1048576 := by omega
  go_enter Tryz.func3, Tryz.ntmps3
  have hB : Below w.heap.size w w := Below.refl _ _
  go_wp2_with fail
  refine (szIntSS_h _ _ x0 1048576 _ ⟨by omega, by omega⟩ nx0 rx0.out (ax0.out.below hB)).mono ?_
  rintro e s1 ⟨L1, rfl, hL1, hz1⟩
  have hB := hB.trans (hz1.mono hB.size)
  have HL1 := Lib.hid hL1; clear hL1
  by_cases hneg1 : L1 < 0
  · go_wp2_with fail
    go_ret
    exact ⟨rfl, hB⟩
  obtain ⟨few0, hl1⟩ := HL1.out (by omega)
  obtain ⟨M, bM, hM⟩ := Game.orbM_ex x0 x1
  have HM := Lib.hid hM
  clear hM
  go_wp2_with fail
  refine (toIntSS_h _ _ x0 _ few0 (ax0.out.below hB)).mono ?_
  rintro e v1 ⟨g1, c1, rfl, ho1, hb1⟩
  have bs1 := hB.size
  have hB := hB.trans (hb1.mono hB.size)
  have he1 := Nat.le_refl v1.heap.size
  go_wp2_with fail
  refine (toIntS_h _ _ x1 _ few1 (ax1.out.below hB)).mono ?_
  rintro e v2 ⟨g2, c2, rfl, ho2, hb2⟩
  have d1_2 := he1
  have bs2 := hB.size
  have ho1 := ho1.below hb2 he1; have he1 := Nat.le_trans he1 hb2.size
  have hB := hB.trans (hb2.mono hB.size)
  have he2 := Nat.le_refl v2.heap.size
  go_wp2_with fail
  refine (spec_WeightLine_any g1 0 _ c1 g2 0 _ c2 x0 x1 M bM _ rfl rfl HM.out few0.1 few0.2.1 few1 ho1.lt ho2.lt ho1.rows2 ho2.cells).mono ?_
  rintro e v3 ⟨rfl, hb3⟩
  have ho1 := ho1.below hb3 he1; have he1 := Nat.le_trans he1 hb3.size
  have ho2 := ho2.below hb3 he2; have he2 := Nat.le_trans he2 hb3.size
  have hB := hB.trans (hb3.mono hB.size)
  clear ho1
  clear ho2
  go_wp2_with fail
  refine (toIntSS_h _ _ x0 _ few0 (ax0.out.below hB)).mono ?_
  rintro e v4 ⟨g4, c4, rfl, ho4, hb4⟩
  have bs4 := hB.size
  have hB := hB.trans (hb4.mono hB.size)
  have he4 := Nat.le_refl v4.heap.size
  go_wp2_with fail
  refine (toIntS_h _ _ x1 _ few1 (ax1.out.below hB)).mono ?_
  rintro e v5 ⟨g5, c5, rfl, ho5, hb5⟩
  have d4_5 := he4
  have bs5 := hB.size
  have ho4 := ho4.below hb5 he4; have he4 := Nat.le_trans he4 hb5.size
  have hB := hB.trans (hb5.mono hB.size)
  have he5 := Nat.le_refl v5.heap.size
  go_wp2_with fail
  refine (impl_WeightLine_any g4 0 _ c4 g5 0 _ c5 x0 x1 M bM _ rfl rfl HM.out few0.1 few0.2.1 few1 ho4.lt ho5.lt ho4.rows2 ho5.cells (Ht.out.below hB)).mono ?_
  rintro e v6 ⟨rfl, hb6⟩
  have ho4 := ho4.below hb6 he4; have he4 := Nat.le_trans he4 hb6.size
  have ho5 := ho5.below hb6 he5; have he5 := Nat.le_trans he5 hb6.size
  have hB := hB.trans (hb6.mono hB.size)
  generalize weightLineL x0 x1 M.length bM = LG
  go_wp2_with fail
  refine (toIntSS_h _ _ x0 _ few0 (ax0.out.below hB)).mono ?_
  rintro e v7 ⟨g7, c7, rfl, ho7, hb7⟩
  have d4_7 := he4
  have d5_7 := he5
  have bs7 := hB.size
  have ho4 := ho4.below hb7 he4; have he4 := Nat.le_trans he4 hb7.size
  have ho5 := ho5.below hb7 he5; have he5 := Nat.le_trans he5 hb7.size
  have hB := hB.trans (hb7.mono hB.size)
  have he7 := Nat.le_refl v7.heap.size
  go_wp2_with fail
  refine (eqIntSS_h few0 ho4 ho7).mono ?_
  rintro e v8 ⟨rfl, hb8⟩
  have ho4 := ho4.below hb8 he4; have he4 := Nat.le_trans he4 hb8.size
  have ho5 := ho5.below hb8 he5; have he5 := Nat.le_trans he5 hb8.size
  have ho7 := ho7.below hb8 he7; have he7 := Nat.le_trans he7 hb8.size
  have hB := hB.trans (hb8.mono hB.size)
  clear ho7
  go_wp2_with fail
  refine (toIntS_h _ _ x1 _ few1 (ax1.out.below hB)).mono ?_
  rintro e v9 ⟨g9, c9, rfl, ho9, hb9⟩
  have d4_9 := he4
  have d5_9 := he5
  have bs9 := hB.size
  have ho4 := ho4.below hb9 he4; have he4 := Nat.le_trans he4 hb9.size
  have ho5 := ho5.below hb9 he5; have he5 := Nat.le_trans he5 hb9.size
  have hB := hB.trans (hb9.mono hB.size)
  have he9 := Nat.le_refl v9.heap.size
  go_wp2_with fail
  refine (eqIntS_h few1 ho5 ho9).mono ?_
  rintro e v10 ⟨rfl, hb10⟩
  have ho4 := ho4.below hb10 he4; have he4 := Nat.le_trans he4 hb10.size
  have ho5 := ho5.below hb10 he5; have he5 := Nat.le_trans he5 hb10.size
  have ho9 := ho9.below hb10 he9; have he9 := Nat.le_trans he9 hb10.size
  have hB := hB.trans (hb10.mono hB.size)
  clear ho9
  go_wp2_with fail
  go_ret
  exact ⟨rfl, hB⟩

def laidL {H : Type} : List (String × DataW H) := [("math/bits.deBruijn32tab", Rows.laid_math_bits_deBruijn32tab), ("math/bits.deBruijn64tab", Rows.laid_math_bits_deBruijn64tab), ("internal/strconv.uint64pow10", Rows.laid_internal_strconv_uint64pow10)]
theorem gT : Program.globalNamed Tryz.prog "internal/strconv.uint64pow10" = some 0 := by kernel_rfl
theorem gTType : (Tryz.prog.globals[0]?).map (·.type) = some 125 := by kernel_rfl
theorem tab_of_laid {W : World} (h : laidMetH Tryz.prog laidL W) : Tab W := by
  have h' : laidMet Tryz.prog laidL W := h
  obtain ⟨ps, h1, _⟩ := h'
  obtain ⟨_, _, _, _, _, q0, _, _, _, _, h2, _⟩ := h1
  obtain ⟨_, _, _, _, _, q1, _, _, _, _, h3, _⟩ := h2
  obtain ⟨g', t', cs, fuel, p3, q3, hg', ht', hvar, hd, _, _⟩ := h3
  obtain rfl := Option.some.inj (gT.symm.trans hg')
  obtain rfl := Option.some.inj (gTType.symm.trans ht')
  unfold Tab Lib.TabIs
  rw [hvar, ← Lib.cells_of_tab (zs := Lib.pow10Tab) Tryz.underlying125 Tryz.underlying100 (by kernel_rfl) (by kernel_rfl) hd]
theorem door_met (os : Os) (args : Array Value) : laidMetH Tryz.prog laidL ((World.doorLaid Tryz.prog 400 os).forCall (fun _ _ => 0) ⟨#[], args, []⟩).memory :=
  laidMetH_of_parts3 (fuel := 8) (laidMet_of_run' 8 (by kernel_rfl) (by kernel_rfl)) (by kernel_rfl) (by kernel_rfl)

theorem lifted (os : Os) (started : os.Started) (H : Type) (enc : TypeId × Value → H) :
    ReturnsInHanded {} Tryz.checked os 3 .any (fun w args => (Rows.fnExactWeightLineSpec.pre enc Tryz.prog Tryz.f3 [] false w args ∧ laidMetH Tryz.prog laidL w) ∧ sizedMet enc Tryz.prog Tryz.f3 (OpenSpec.ofChange Rows.fnExactWeightLineSpec) false w args)
      (Rows.fnExactWeightLineSpec.post enc Tryz.prog Tryz.f3 false true false false) := by
  refine returnsInHanded_of_change_and (C := Tryz.checked) (X := fun w _ => laidMetH Tryz.prog laidL w) (fun _ _ _ hh h => h.of_heap hh) own started (by kernel_rfl) Tryz.func3
    (ChangeSpec.witness_shaped (enc := enc) (C := Tryz.checked) (os := os) (X := fun w _ => laidMetH Tryz.prog laidL w) false (World.doorLaid Tryz.prog 400 os) #[.slice none 0 0, .slice none 0 0] 8 rfl (World.shaped_of_RefB (by kernel_rfl) (by kernel_rfl)) (by kernel_rfl) (by kernel_rfl) (by kernel_rfl) (door_met os _)) ?_
  intro W base args ds gs before hval0 hW _ _ hL _
  have hval : ∀ (j : Nat) t v, Tryz.f3.params[j]? = some t → args[j]? = some v → Value.okWide Tryz.prog W .any base t v := hval0
  have hW' := hW
  obtain ⟨p, q, hA0, hV, rfl, hfz, hnd⟩ := hW
  have hA : DataW.TrodAll enc Tryz.prog W 0 (fun _ => true) true Tryz.f3.params.toList args.toList ds p := hA0
  rw [Tryz.params3] at hA hval
  obtain ⟨v0, vs0, d0, ds0, p0, q0, hargs, rfl, rfl, h0, r0⟩ := trodAll_cons hA
  obtain ⟨v1, vs1, d1, ds1, p1, q1, rfl, rfl, rfl, h1, r1⟩ := trodAll_cons r0
  obtain ⟨rfl, rfl, rfl⟩ := trodAll_nil r1
  obtain rfl : args = #[v0, v1] := by cases args; simp_all
  obtain ⟨rfl, rfl⟩ := trodVars_none hV
  have k0 := h0
  have k1 := h1
  have lt0 : ∀ x ∈ p0, x.block < W.heap.size := by obtain ⟨m, hm⟩ := k0; exact DataW.trod_lt m _ _ _ hm
  have lt1 : ∀ x ∈ p1, x.block < W.heap.size := by obtain ⟨m, hm⟩ := k1; exact DataW.trod_lt m _ _ _ hm
  obtain ⟨a0, c0, x0, rfl, ax0, nx0, rx0⟩ := argRows_at (hval 0 22 v0 rfl rfl) h0
  obtain ⟨a1, c1, x1, rfl, ax1, nx1⟩ := argInts_at (hval 1 23 v1 rfl rfl) h1
  clear hA0 hval0
  refine (walk a0 c0 x0 a1 c1 x1 W ax0 nx0 rx0 ax1 nx1 (tab_of_laid hL)).mono fun e W' ⟨he, bel⟩ => ?_
  subst he
  exact ⟨_, rfl, _, _, _, [], _, [], hW', trodAll_mk1 (shut_bool Tryz.underlying4 _), (trodAll_cons_mk (Below.trod laidOut (by kernel_rfl) (of_decide_eq_true (by kernel_rfl)) k0 bel lt0) (trodAll_cons_mk (Below.trod laidOut (by kernel_rfl) (of_decide_eq_true (by kernel_rfl)) k1 bel lt1) trodAll_mk0)), rfl, bel.frame _, fun h => by cases h⟩

theorem over : Rows.fnExactWeightLineRow.holds Tryz.pinned (OpenSpec.ofChange Rows.fnExactWeightLineSpec) :=
  OpenClaim.holds_of_wide 3 Tryz.f3 rfl rfl rfl rfl rfl rfl rfl ⟨rfl, rfl, rfl, rfl, rfl⟩ rfl rfl rfl rfl rfl (by kernel_rfl) Tryz.func3 (by kernel_rfl)
    (of_decide_eq_true (by kernel_rfl)) (by unfold Func.isWrapper; first | (rw [if_pos (by decide +kernel)]; kernel_rfl) | (rw [if_neg (by decide +kernel)]; exact ⟨rfl, rfl⟩))
    (fun os started H enc _ => lifted os started H enc)

/-- THE STATEMENT -/
theorem proved : Rows.FnExactWeightLineCardSaid :=
  Claim7.holds_tied_plain_at .later [] [.data, .data, .data] true (true, "51b8dffb6d45a0d07318d33b513c793c523a71a2392af9a121f7b8f888eb8879") false
    over (fun _ h => by cases h) (by kernel_rfl) (fun _ h => by cases h) fnExactWeightLine_row_tie rfl ⟨rfl, rfl⟩ (by kernel_rfl) rfl
    (fun f fn hf hfn => by
      obtain rfl : f = 3 := Option.some.inj ((show Tryz.prog.funcNamed "loop.example/g02076/laws.FnExactWeightLine" = some 3 by kernel_rfl).symm.trans hf) |>.symm
      obtain rfl : fn = Tryz.f3 := (Option.some.inj (Tryz.func3.symm.trans hfn)).symm
      exact ⟨by kernel_rfl, fun j t ht => by
        rw [Tryz.params3] at ht
        have hm : t ∈ [22, 23] := by simpa using Array.mem_of_getElem? ht
        have hall : ([22, 23].all fun u => !Tryz.prog.wantsStandIn u) = true := by kernel_rfl
        exact (show Tryz.prog.wantsStandIn t = false by simpa using List.all_eq_true.1 hall t hm)⟩)
    (by kernel_rfl)
#print axioms proved
end Go.Proofs.YtmjneokgnnbekaaGreatDoor.fnExactWeightLine
