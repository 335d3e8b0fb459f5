/-
  PROVED HERE: the law FnExactPairLine returns true for every input and leaves its arguments as they were. CONDITIONS: none beyond the given row's own.
-/
import Derived.Test.YtdedkfbiookofaaGreatDoorRows
import Derived.Test.YtdedkfbiookofaaGreatDoorCards
import Derived.Test.YtdedkfbiookofaaGreatDoorTie
import Derived.SevenTiedAt
import Derived.LaidMore
import Derived.Lay
import Derived.Stop.Joined
import Derived.Lib.LaidTab
import Derived.Test.YtdedkfbiookofaaGreatDoorM03
import Derived.Test.YtdedkfbiookofaaGreatDoorM50
import Derived.Test.YtdedkfbiookofaaGreatDoorM19
import Derived.WalkKit
import Derived.ProofKit
import Derived.OpenShut
import Derived.ChangeOld
import Derived.Below
namespace Go.Proofs.YtdedkfbiookofaaGreatDoor.fnExactPairLine
open Go.ChangeShapes Go.WideShapes Go.ChangeAt Go.RowKit
open Go.Proofs.YtdedkfbiookofaaGreatDoor
set_option linter.unusedVariables false
set_option maxRecDepth 100000

theorem own : ownKnob Tryz.prog.godebug = none := by kernel_rfl
theorem laidOut : laidOutB Tryz.prog = true := by kernel_rfl

set_option maxHeartbeats 4000000 in
theorem walk (a0 : Option Addr) (c0 : Nat) (x0 : List (List Int)) (a1 : Option Addr) (c1 : Nat) (x1 : List Int) (a2 : Option Addr) (c2 : Nat) (x2 : List Int) (w : World) (ax0 : Hid (ArgRows w a0 x0)) (nx0 : x0.length ≤ maxLen) (rx0 : Hid (∀ j, j < x0.length → (x0.getD j []).length ≤ maxLen)) (ax1 : Hid (ArgInts w a1 x1)) (nx1 : x1.length ≤ maxLen) (ax2 : Hid (ArgInts w a2 x2)) (nx2 : x2.length ≤ maxLen) (ht : Tab w) (hmx : MaxL w) :
    Calls Tryz.prog 4 #[.slice a0 x0.length c0, .slice a1 x1.length c1, .slice a2 x2.length c2] w fun e w' => e = .returned (.bool true) ∧ Below w.heap.size w w' := by
  have Hmx := Lib.hid hmx; clear hmx
  have Ht := Lib.hid ht; clear ht
  by_cases hx1 : 1048576 < x1.length
  · have hbig : (1048576 : Int) < (x1.length : Int) := by omega
    go_enter Tryz.func4, Tryz.ntmps4
    go_wp2_with fail
    go_ret
    exact ⟨rfl, Below.refl _ _⟩
  have few1 : x1.length ≤ 1048576 := by omega
  by_cases hx2 : 1048576 < x2.length
  · have hbig : (1048576 : Int) < (x2.length : Int) := by omega
    go_enter Tryz.func4, Tryz.ntmps4
    go_wp2_with fail
    go_ret
    exact ⟨rfl, Below.refl _ _⟩
  have few2 : x2.length ≤ 1048576 := by omega
  go_enter Tryz.func4, Tryz.ntmps4
  have hB : Below w.heap.size w w := Below.refl _ _
  go_wp2_with fail
  refine (szIntSS_h _ _ x0 1048576 _ ⟨by omega, by omega⟩ nx0 rx0.out (ax0.out.below hB)).mono ?_
  rintro e s1 ⟨L1, rfl, hL1, hz1⟩
  have hB := hB.trans (hz1.mono hB.size)
  have HL1 := Lib.hid hL1; clear hL1
  by_cases hneg1 : L1 < 0
  · go_wp2_with fail
    go_ret
    exact ⟨rfl, hB⟩
  obtain ⟨few0, hl1⟩ := HL1.out (by omega)
  go_wp2_with fail
  refine (toIntSS_h _ _ x0 _ few0 (ax0.out.below hB)).mono ?_
  rintro e v1 ⟨g1, c1, rfl, ho1, hb1⟩
  have bs1 := hB.size
  have hB := hB.trans (hb1.mono hB.size)
  have he1 := Nat.le_refl v1.heap.size
  go_wp2_with fail
  refine (toIntS_h _ _ x1 _ few1 (ax1.out.below hB)).mono ?_
  rintro e v2 ⟨g2, c2, rfl, ho2, hb2⟩
  have d1_2 := he1
  have bs2 := hB.size
  have ho1 := ho1.below hb2 he1; have he1 := Nat.le_trans he1 hb2.size
  have hB := hB.trans (hb2.mono hB.size)
  have he2 := Nat.le_refl v2.heap.size
  go_wp2_with fail
  refine (toIntS_h _ _ x2 _ few2 (ax2.out.below hB)).mono ?_
  rintro e v3 ⟨g3, c3, rfl, ho3, hb3⟩
  have d1_3 := he1
  have d2_3 := he2
  have bs3 := hB.size
  have ho1 := ho1.below hb3 he1; have he1 := Nat.le_trans he1 hb3.size
  have ho2 := ho2.below hb3 he2; have he2 := Nat.le_trans he2 hb3.size
  have hB := hB.trans (hb3.mono hB.size)
  have he3 := Nat.le_refl v3.heap.size
  go_wp2_with fail
  refine (spec_PairLine_any g1 0 _ c1 g2 0 _ c2 g3 0 _ c3 x0 x1 x2 _ rfl rfl rfl few0.1 few0.2.1 few1 few2 ho1.lt ho2.lt ho3.lt ho1.rows2 ho2.cells ho3.cells).mono ?_
  rintro e v4 ⟨rfl, hb4⟩
  have ho1 := ho1.below hb4 he1; have he1 := Nat.le_trans he1 hb4.size
  have ho2 := ho2.below hb4 he2; have he2 := Nat.le_trans he2 hb4.size
  have ho3 := ho3.below hb4 he3; have he3 := Nat.le_trans he3 hb4.size
  have hB := hB.trans (hb4.mono hB.size)
  clear ho1
  clear ho2
  clear ho3
  go_wp2_with fail
  refine (toIntSS_h _ _ x0 _ few0 (ax0.out.below hB)).mono ?_
  rintro e v5 ⟨g5, c5, rfl, ho5, hb5⟩
  have bs5 := hB.size
  have hB := hB.trans (hb5.mono hB.size)
  have he5 := Nat.le_refl v5.heap.size
  go_wp2_with fail
  refine (toIntS_h _ _ x1 _ few1 (ax1.out.below hB)).mono ?_
  rintro e v6 ⟨g6, c6, rfl, ho6, hb6⟩
  have d5_6 := he5
  have bs6 := hB.size
  have ho5 := ho5.below hb6 he5; have he5 := Nat.le_trans he5 hb6.size
  have hB := hB.trans (hb6.mono hB.size)
  have he6 := Nat.le_refl v6.heap.size
  go_wp2_with fail
  refine (toIntS_h _ _ x2 _ few2 (ax2.out.below hB)).mono ?_
  rintro e v7 ⟨g7, c7, rfl, ho7, hb7⟩
  have d5_7 := he5
  have d6_7 := he6
  have bs7 := hB.size
  have ho5 := ho5.below hb7 he5; have he5 := Nat.le_trans he5 hb7.size
  have ho6 := ho6.below hb7 he6; have he6 := Nat.le_trans he6 hb7.size
  have hB := hB.trans (hb7.mono hB.size)
  have he7 := Nat.le_refl v7.heap.size
  go_wp2_with fail
  refine (impl_PairLine_any g5 0 _ c5 g6 0 _ c6 g7 0 _ c7 x0 x1 x2 _ rfl rfl rfl few0.1 few0.2.1 few1 few2 ho7.capLe ho5.lt ho6.lt ho7.lt ho5.rows2 ho6.cells ho7.cells (Hmx.out.below hB) (Ht.out.below hB)).mono ?_
  rintro e v8 ⟨rfl, hb8⟩
  have ho5 := ho5.below hb8 he5; have he5 := Nat.le_trans he5 hb8.size
  have ho6 := ho6.below hb8 he6; have he6 := Nat.le_trans he6 hb8.size
  have ho7 := ho7.below hb8 he7; have he7 := Nat.le_trans he7 hb8.size
  have hB := hB.trans (hb8.mono hB.size)
  generalize pairLineL x0 x1 x2 = LG
  go_wp2_with fail
  refine (toIntSS_h _ _ x0 _ few0 (ax0.out.below hB)).mono ?_
  rintro e v9 ⟨g9, c9, rfl, ho9, hb9⟩
  have d5_9 := he5
  have d6_9 := he6
  have d7_9 := he7
  have bs9 := hB.size
  have ho5 := ho5.below hb9 he5; have he5 := Nat.le_trans he5 hb9.size
  have ho6 := ho6.below hb9 he6; have he6 := Nat.le_trans he6 hb9.size
  have ho7 := ho7.below hb9 he7; have he7 := Nat.le_trans he7 hb9.size
  have hB := hB.trans (hb9.mono hB.size)
  have he9 := Nat.le_refl v9.heap.size
  go_wp2_with fail
  refine (eqIntSS_h few0 ho5 ho9).mono ?_
  rintro e v10 ⟨rfl, hb10⟩
  have ho5 := ho5.below hb10 he5; have he5 := Nat.le_trans he5 hb10.size
  have ho6 := ho6.below hb10 he6; have he6 := Nat.le_trans he6 hb10.size
  have ho7 := ho7.below hb10 he7; have he7 := Nat.le_trans he7 hb10.size
  have ho9 := ho9.below hb10 he9; have he9 := Nat.le_trans he9 hb10.size
  have hB := hB.trans (hb10.mono hB.size)
  clear ho9
  go_wp2_with fail
  refine (toIntS_h _ _ x1 _ few1 (ax1.out.below hB)).mono ?_
  rintro e v11 ⟨g11, c11, rfl, ho11, hb11⟩
  have d5_11 := he5
  have d6_11 := he6
  have d7_11 := he7
  have bs11 := hB.size
  have ho5 := ho5.below hb11 he5; have he5 := Nat.le_trans he5 hb11.size
  have ho6 := ho6.below hb11 he6; have he6 := Nat.le_trans he6 hb11.size
  have ho7 := ho7.below hb11 he7; have he7 := Nat.le_trans he7 hb11.size
  have hB := hB.trans (hb11.mono hB.size)
  have he11 := Nat.le_refl v11.heap.size
  go_wp2_with fail
  refine (eqIntS_h few1 ho6 ho11).mono ?_
  rintro e v12 ⟨rfl, hb12⟩
  have ho5 := ho5.below hb12 he5; have he5 := Nat.le_trans he5 hb12.size
  have ho6 := ho6.below hb12 he6; have he6 := Nat.le_trans he6 hb12.size
  have ho7 := ho7.below hb12 he7; have he7 := Nat.le_trans he7 hb12.size
  have ho11 := ho11.below hb12 he11; have he11 := Nat.le_trans he11 hb12.size
  have hB := hB.trans (hb12.mono hB.size)
  clear ho11
  go_wp2_with fail
  refine (toIntS_h _ _ x2 _ few2 (ax2.out.below hB)).mono ?_
  rintro e v13 ⟨g13, c13, rfl, ho13, hb13⟩
  have d5_13 := he5
  have d6_13 := he6
  have d7_13 := he7
  have bs13 := hB.size
  have ho5 := ho5.below hb13 he5; have he5 := Nat.le_trans he5 hb13.size
  have ho6 := ho6.below hb13 he6; have he6 := Nat.le_trans he6 hb13.size
  have ho7 := ho7.below hb13 he7; have he7 := Nat.le_trans he7 hb13.size
  have hB := hB.trans (hb13.mono hB.size)
  have he13 := Nat.le_refl v13.heap.size
  go_wp2_with fail
  refine (eqIntS_h few2 ho7 ho13).mono ?_
  rintro e v14 ⟨rfl, hb14⟩
  have ho5 := ho5.below hb14 he5; have he5 := Nat.le_trans he5 hb14.size
  have ho6 := ho6.below hb14 he6; have he6 := Nat.le_trans he6 hb14.size
  have ho7 := ho7.below hb14 he7; have he7 := Nat.le_trans he7 hb14.size
  have ho13 := ho13.below hb14 he13; have he13 := Nat.le_trans he13 hb14.size
  have hB := hB.trans (hb14.mono hB.size)
  clear ho13
  go_wp2_with fail
  go_ret
  exact ⟨rfl, hB⟩

def laidL : List (String × DataW Unit) := [("math/bits.deBruijn32tab", Rows.laid_math_bits_deBruijn32tab), ("math/bits.deBruijn64tab", Rows.laid_math_bits_deBruijn64tab), ("internal/strconv.uint64pow10", Rows.laid_internal_strconv_uint64pow10), ("unicode/utf8.acceptRanges", Rows.laid_unicode_utf8_acceptRanges), ("unicode/utf8.first", Rows.laid_unicode_utf8_first)]
theorem gT : Program.globalNamed Tryz.prog "internal/strconv.uint64pow10" = some 0 := by kernel_rfl
theorem gTType : (Tryz.prog.globals[0]?).map (·.type) = some 172 := by kernel_rfl
theorem tab_of_laid {W : World} (h : laidMetH Tryz.prog laidL W) : Tab W := by
  have h' : laidMet Tryz.prog laidL W := h
  obtain ⟨ps, h1, _⟩ := h'
  obtain ⟨_, _, _, _, _, q0, _, _, _, _, h2, _⟩ := h1
  obtain ⟨_, _, _, _, _, q1, _, _, _, _, h3, _⟩ := h2
  obtain ⟨g', t', cs, fuel, p3, q3, hg', ht', hvar, hd, _, _⟩ := h3
  obtain rfl := Option.some.inj (gT.symm.trans hg')
  obtain rfl := Option.some.inj (gTType.symm.trans ht')
  unfold Tab Lib.TabIs
  rw [hvar, ← Lib.cells_of_tab (zs := Lib.pow10Tab) Tryz.underlying172 Tryz.underlying149 (by kernel_rfl) (by kernel_rfl) hd]
theorem door_met (os : Os) (args : Array Value) : laidMetH Tryz.prog laidL ((World.laidAll Tryz.prog os laidL).forCall (fun _ _ => 0) ⟨#[], args, []⟩).memory := laidMet_laidAll args (by kernel_rfl) (by kernel_rfl)

/-- the wrap that hands on the world's shape too -/
theorem handed_shape {H : Type} {enc : TypeId × Value → H} {a : Assume} {C : Checked} {os : Os} {f : FuncId} {fn : Func} {s : ChangeSpec} {conds : List PathCond} {apart fresh handsOn again : Bool} {X : World → Array Value → Prop}
    (hX : ∀ (w w' : World) (args : Array Value), w.heap = w'.heap → X w args → X w' args)
    (own : ownKnob C.prog.godebug = none) (started : os.Started) (noInit : C.prog.inits.idxOf? f = none) (hfn : C.prog.funcs[f]? = some fn)
    (witness : ∃ (w : World) (tape : Tape) (i : Input), w.os = os ∧ (w.forCall tape i).Shaped C.prog ∧ i.vars = [] ∧ Input.okWide C.prog (w.forCall tape i) .any w.heap.size f i ∧
      ((s.pre enc C.prog fn conds apart (w.forCall tape i).memory i.args ∧ X (w.forCall tape i).memory i.args) ∧ sizedMet enc C.prog fn (OpenSpec.ofChange s) apart (w.forCall tape i).memory i.args) ∧ a.holds C.prog (lone (Frame.enter C.prog f i.args .normal) [] (w.forCall tape i)))
    (contract : ∀ (W : World) (base : Nat) (args : Array Value) (ds gs : List (DataW H)) (before : List MemPlace),
      (∀ (j : Nat) t v, fn.params[j]? = some t → args[j]? = some v → Value.okWide C.prog W .any base t v) →
      DataW.Whole enc C.prog fn.params.toList s.vars apart W args.toList ds gs before →
      conds.all (PathCond.test C.prog ⟨fn.params.toList, ds, s.plain.varTypes C.prog, gs⟩) = true →
      (DataW.weightsEach C.prog (fn.params.toList ++ s.plain.varTypes C.prog) (ds ++ gs)).all (· ≤ reachBytes) = true → X W args → W.ShapedOpen C.prog →
      a.holds C.prog (lone (Frame.enter C.prog f args .normal) [] W) →
      Calls C.prog f args W fun e W' => ∃ v, e = .returned v ∧ s.post enc C.prog fn apart fresh handsOn again W args v W') :
    ReturnsInHanded a C os f .any (fun w args => (s.pre enc C.prog fn conds apart w args ∧ X w args) ∧ sizedMet enc C.prog fn (OpenSpec.ofChange s) apart w args) (s.post enc C.prog fn apart fresh handsOn again) := by
  refine returnsInHanded_of_calls own started noInit witness ?_
  intro w tape i _ hsh _ hok hpre hholds
  obtain ⟨_, _, _, fn', hfn', _, _, _, _, hval⟩ := hok
  have e : fn' = fn := Option.some.inj (hfn'.symm.trans hfn)
  subst e
  obtain ⟨⟨⟨ds, gs, before, hw, hc⟩, hx⟩, hz⟩ := hpre
  have hw' := DataW.Whole.of_heap (w' := w.forCall tape i) (by rfl) hw
  refine (contract (w.forCall tape i) w.heap.size i.args ds gs before hval hw' hc (hz.weights hw) (hX _ _ _ (by rfl) hx) hsh hholds).mono fun e W' ⟨v, he, hp⟩ => ?_
  subst he
  exact ChangeSpec.post_blind hp

theorem lifted (os : Os) (started : os.Started) (H : Type) (enc : TypeId × Value → H) :
    ReturnsInHanded {} Tryz.checked os 4 .any (fun w args => (Rows.fnExactPairLineSpec.pre enc Tryz.prog Tryz.f4 [] false w args ∧ laidMetH Tryz.prog laidL w) ∧ sizedMet enc Tryz.prog Tryz.f4 (OpenSpec.ofChange Rows.fnExactPairLineSpec) false w args)
      (Rows.fnExactPairLineSpec.post enc Tryz.prog Tryz.f4 false true false false) := by
  refine handed_shape (C := Tryz.checked) (X := fun w _ => laidMetH Tryz.prog laidL w) (fun _ _ _ hh h => h.of_heap hh) own started (by kernel_rfl) Tryz.func4
    (ChangeSpec.witness_shaped (enc := enc) (C := Tryz.checked) (os := os) (X := fun w _ => laidMetH Tryz.prog laidL w) false (World.laidAll Tryz.prog os laidL) #[.slice none 0 0, .slice none 0 0, .slice none 0 0] 8 (World.laidAll_os _ _ _) (World.shaped_of_ZipB (by kernel_rfl) (by kernel_rfl)) (by kernel_rfl) (by kernel_rfl) (by kernel_rfl) (door_met os _)) ?_
  intro W base args ds gs before hval0 hW _ _ hL hsh _
  have hval : ∀ (j : Nat) t v, Tryz.f4.params[j]? = some t → args[j]? = some v → Value.okWide Tryz.prog W .any base t v := hval0
  have hW' := hW
  obtain ⟨p, q, hA0, hV, rfl, hfz, hnd⟩ := hW
  have hA : DataW.TrodAll enc Tryz.prog W 0 (fun _ => true) true Tryz.f4.params.toList args.toList ds p := hA0
  rw [Tryz.params4] at hA hval
  obtain ⟨v0, vs0, d0, ds0, p0, q0, hargs, rfl, rfl, h0, r0⟩ := trodAll_cons hA
  obtain ⟨v1, vs1, d1, ds1, p1, q1, rfl, rfl, rfl, h1, r1⟩ := trodAll_cons r0
  obtain ⟨v2, vs2, d2, ds2, p2, q2, rfl, rfl, rfl, h2, r2⟩ := trodAll_cons r1
  obtain ⟨rfl, rfl, rfl⟩ := trodAll_nil r2
  obtain rfl : args = #[v0, v1, v2] := by cases args; simp_all
  obtain ⟨rfl, rfl⟩ := trodVars_none hV
  have k0 := h0
  have k1 := h1
  have k2 := h2
  have lt0 : ∀ x ∈ p0, x.block < W.heap.size := by obtain ⟨m, hm⟩ := k0; exact DataW.trod_lt m _ _ _ hm
  have lt1 : ∀ x ∈ p1, x.block < W.heap.size := by obtain ⟨m, hm⟩ := k1; exact DataW.trod_lt m _ _ _ hm
  have lt2 : ∀ x ∈ p2, x.block < W.heap.size := by obtain ⟨m, hm⟩ := k2; exact DataW.trod_lt m _ _ _ hm
  obtain ⟨a0, c0, x0, rfl, ax0, nx0, rx0⟩ := argRows_at (hval 0 24 v0 rfl rfl) h0
  obtain ⟨a1, c1, x1, rfl, ax1, nx1⟩ := argInts_at (hval 1 25 v1 rfl rfl) h1
  obtain ⟨a2, c2, x2, rfl, ax2, nx2⟩ := argInts_at (hval 2 25 v2 rfl rfl) h2
  clear hA0 hval0
  refine (walk a0 c0 x0 a1 c1 x1 a2 c2 x2 W ax0 nx0 rx0 ax1 nx1 ax2 nx2 (tab_of_laid hL) (maxL_shape hsh)).mono fun e W' ⟨he, bel⟩ => ?_
  subst he
  exact ⟨_, rfl, _, _, _, [], _, [], hW', trodAll_mk1 (shut_bool Tryz.underlying4 _), (trodAll_cons_mk (Below.trod laidOut (by kernel_rfl) (of_decide_eq_true (by kernel_rfl)) k0 bel lt0) (trodAll_cons_mk (Below.trod laidOut (by kernel_rfl) (of_decide_eq_true (by kernel_rfl)) k1 bel lt1) (trodAll_cons_mk (Below.trod laidOut (by kernel_rfl) (of_decide_eq_true (by kernel_rfl)) k2 bel lt2) trodAll_mk0))), rfl, bel.frame _, fun h => by cases h⟩

theorem over : Rows.fnExactPairLineRow.holds Tryz.pinned (OpenSpec.ofChange Rows.fnExactPairLineSpec) :=
  OpenClaim.holds_of_wide 4 Tryz.f4 rfl rfl rfl rfl rfl rfl rfl ⟨rfl, rfl, rfl, rfl, rfl⟩ rfl rfl rfl rfl rfl (by kernel_rfl) Tryz.func4 (by kernel_rfl)
    (of_decide_eq_true (by kernel_rfl)) (by unfold Func.isWrapper; first | (rw [if_pos (by decide +kernel)]; kernel_rfl) | (rw [if_neg (by decide +kernel)]; exact ⟨rfl, rfl⟩))
    (fun os started H enc _ => lifted os started H enc)

/-- THE STATEMENT -/
theorem proved : Rows.FnExactPairLineCardSaid :=
  Claim7.holds_tied_plain_at .later [] [.data, .data, .data, .data, .pinned] true (true, "d385bcc6513dd31d431338a489c63914f60d89447ef4c1dcd6f0364ab8e293dd") false
    over (fun _ h => by cases h) (by kernel_rfl) (fun _ h => by cases h) fnExactPairLine_row_tie rfl ⟨rfl, rfl⟩ (by kernel_rfl) rfl
    (fun f fn hf hfn => by
      obtain rfl : f = 4 := Option.some.inj ((show Tryz.prog.funcNamed "loop.example/g02076/laws.FnExactPairLine" = some 4 by kernel_rfl).symm.trans hf) |>.symm
      obtain rfl : fn = Tryz.f4 := (Option.some.inj (Tryz.func4.symm.trans hfn)).symm
      exact ⟨by kernel_rfl, fun j t ht => by
        rw [Tryz.params4] at ht
        have hm : t ∈ [24, 25, 25] := by simpa using Array.mem_of_getElem? ht
        have hall : ([24, 25, 25].all fun u => !Tryz.prog.wantsStandIn u) = true := by kernel_rfl
        exact (show Tryz.prog.wantsStandIn t = false by simpa using List.all_eq_true.1 hall t hm)⟩)
    (by kernel_rfl)
#print axioms proved
end Go.Proofs.YtdedkfbiookofaaGreatDoor.fnExactPairLine
