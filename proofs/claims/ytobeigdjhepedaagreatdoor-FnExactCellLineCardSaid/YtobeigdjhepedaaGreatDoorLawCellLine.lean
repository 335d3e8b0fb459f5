/-
  PROVED HERE: the law FnExactCellLine returns true for every input and leaves its arguments as they were. CONDITIONS: none beyond the given row's own.
-/
import Derived.Test.YtobeigdjhepedaaGreatDoorRows
import Derived.Test.YtobeigdjhepedaaGreatDoorCards
import Derived.Test.YtobeigdjhepedaaGreatDoorTie
import Derived.SevenTiedAt
import Derived.LaidMore
import Derived.Lay
import Derived.Stop.Joined
import Derived.Lib.LaidTab
import Derived.Test.YtobeigdjhepedaaGreatDoorG03
import Derived.Test.YtobeigdjhepedaaGreatDoorG04
import Derived.Test.YtobeigdjhepedaaGreatDoorG50
import Derived.Test.YtobeigdjhepedaaGreatDoorG06
import Derived.WalkKit
import Derived.ProofKit
import Derived.OpenShut
import Derived.ChangeOld
import Derived.Below
namespace Go.Proofs.YtobeigdjhepedaaGreatDoor.fnExactCellLine
open Go.ChangeShapes Go.WideShapes Go.ChangeAt Go.RowKit
open Go.Proofs.YtobeigdjhepedaaGreatDoor
set_option linter.unusedVariables false
set_option maxRecDepth 100000

theorem own : ownKnob Tryz.prog.godebug = none := by kernel_rfl
theorem laidOut : laidOutB Tryz.prog = true := by kernel_rfl

set_option maxHeartbeats 4000000 in
theorem walk (a0 : Option Addr) (c0 : Nat) (x0 : List (List Int)) (w : World) (ax0 : Hid (ArgRows w a0 x0)) (nx0 : x0.length ≤ maxLen) (rx0 : Hid (∀ j, j < x0.length → (x0.getD j []).length ≤ maxLen)) (ht : Tab w) (hmx : MaxL w) :
    Calls Tryz.prog 3 #[.slice a0 x0.length c0] w fun e w' => e = .returned (.bool true) ∧ Below w.heap.size w w' := by
  have Hmx := Lib.hid hmx; clear hmx
  have Ht := Lib.hid ht; clear ht
  go_enter Tryz.func3, Tryz.ntmps3
  have hB : Below w.heap.size w w := Below.refl _ _
  go_wp2_with fail
  refine (szIntSS_h _ _ x0 1048576 _ ⟨by omega, by omega⟩ nx0 rx0.out (ax0.out.below hB)).mono ?_
  rintro e s1 ⟨L1, rfl, hL1, hz1⟩
  have hB := hB.trans (hz1.mono hB.size)
  have HL1 := Lib.hid hL1; clear hL1
  by_cases hneg1 : L1 < 0
  · go_wp2_with fail
    go_ret
    exact ⟨rfl, hB⟩
  obtain ⟨few0, hl1⟩ := HL1.out (by omega)
  go_wp2_with fail
  refine (toIntSS_h _ _ x0 _ few0 (ax0.out.below hB)).mono ?_
  rintro e v1 ⟨g1, c1, rfl, ho1, hb1⟩
  have bs1 := hB.size
  have hB := hB.trans (hb1.mono hB.size)
  have he1 := Nat.le_refl v1.heap.size
  go_wp2_with fail
  refine (spec_CellLine_any g1 0 _ c1 x0 _ rfl few0.1 few0.2.1 ho1.lt ho1.rows2).mono ?_
  rintro e v2 ⟨rfl, hb2⟩
  have ho1 := ho1.below hb2 he1; have he1 := Nat.le_trans he1 hb2.size
  have hB := hB.trans (hb2.mono hB.size)
  clear ho1
  go_wp2_with fail
  refine (toIntSS_h _ _ x0 _ few0 (ax0.out.below hB)).mono ?_
  rintro e v3 ⟨g3, c3, rfl, ho3, hb3⟩
  have bs3 := hB.size
  have hB := hB.trans (hb3.mono hB.size)
  have he3 := Nat.le_refl v3.heap.size
  go_wp2_with fail
  refine (impl_CellLine_any g3 0 _ c3 x0 _ rfl few0.1 few0.2.1 ho3.lt ho3.rows2 (Hmx.out.below hB) (Ht.out.below hB)).mono ?_
  rintro e v4 ⟨rfl, hb4⟩
  have ho3 := ho3.below hb4 he3; have he3 := Nat.le_trans he3 hb4.size
  have hB := hB.trans (hb4.mono hB.size)
  generalize cellLineL x0 = LG
  go_wp2_with fail
  refine (toIntSS_h _ _ x0 _ few0 (ax0.out.below hB)).mono ?_
  rintro e v5 ⟨g5, c5, rfl, ho5, hb5⟩
  have d3_5 := he3
  have bs5 := hB.size
  have ho3 := ho3.below hb5 he3; have he3 := Nat.le_trans he3 hb5.size
  have hB := hB.trans (hb5.mono hB.size)
  have he5 := Nat.le_refl v5.heap.size
  go_wp2_with fail
  refine (eqIntSS_h few0 ho3 ho5).mono ?_
  rintro e v6 ⟨rfl, hb6⟩
  have ho3 := ho3.below hb6 he3; have he3 := Nat.le_trans he3 hb6.size
  have ho5 := ho5.below hb6 he5; have he5 := Nat.le_trans he5 hb6.size
  have hB := hB.trans (hb6.mono hB.size)
  clear ho5
  go_wp2_with fail
  go_ret
  exact ⟨rfl, hB⟩

def laidL : List (String × DataW Unit) := [("math/bits.deBruijn32tab", Rows.laid_math_bits_deBruijn32tab), ("math/bits.deBruijn64tab", Rows.laid_math_bits_deBruijn64tab), ("internal/strconv.uint64pow10", Rows.laid_internal_strconv_uint64pow10), ("unicode/utf8.acceptRanges", Rows.laid_unicode_utf8_acceptRanges), ("unicode/utf8.first", Rows.laid_unicode_utf8_first)]
theorem gT : Program.globalNamed Tryz.prog "internal/strconv.uint64pow10" = some 0 := by kernel_rfl
theorem gTType : (Tryz.prog.globals[0]?).map (·.type) = some 145 := by kernel_rfl
theorem tab_of_laid {W : World} (h : laidMetH Tryz.prog laidL W) : Tab W := by
  have h' : laidMet Tryz.prog laidL W := h
  obtain ⟨ps, h1, _⟩ := h'
  obtain ⟨_, _, _, _, _, q0, _, _, _, _, h2, _⟩ := h1
  obtain ⟨_, _, _, _, _, q1, _, _, _, _, h3, _⟩ := h2
  obtain ⟨g', t', cs, fuel, p3, q3, hg', ht', hvar, hd, _, _⟩ := h3
  obtain rfl := Option.some.inj (gT.symm.trans hg')
  obtain rfl := Option.some.inj (gTType.symm.trans ht')
  unfold Tab Lib.TabIs
  rw [hvar, ← Lib.cells_of_tab (zs := Lib.pow10Tab) Tryz.underlying145 Tryz.underlying123 (by kernel_rfl) (by kernel_rfl) hd]
theorem door_met (os : Os) (args : Array Value) : laidMetH Tryz.prog laidL ((World.laidAll Tryz.prog os laidL).forCall (fun _ _ => 0) ⟨#[], args, []⟩).memory := laidMet_laidAll args (by kernel_rfl) (by kernel_rfl)

/-- the wrap that hands on the world's shape too -/
theorem handed_shape {H : Type} {enc : TypeId × Value → H} {a : Assume} {C : Checked} {os : Os} {f : FuncId} {fn : Func} {s : ChangeSpec} {conds : List PathCond} {apart fresh handsOn again : Bool} {X : World → Array Value → Prop}
    (hX : ∀ (w w' : World) (args : Array Value), w.heap = w'.heap → X w args → X w' args)
    (own : ownKnob C.prog.godebug = none) (started : os.Started) (noInit : C.prog.inits.idxOf? f = none) (hfn : C.prog.funcs[f]? = some fn)
    (witness : ∃ (w : World) (tape : Tape) (i : Input), w.os = os ∧ (w.forCall tape i).Shaped C.prog ∧ i.vars = [] ∧ Input.okWide C.prog (w.forCall tape i) .any w.heap.size f i ∧
      ((s.pre enc C.prog fn conds apart (w.forCall tape i).memory i.args ∧ X (w.forCall tape i).memory i.args) ∧ sizedMet enc C.prog fn (OpenSpec.ofChange s) apart (w.forCall tape i).memory i.args) ∧ a.holds C.prog (lone (Frame.enter C.prog f i.args .normal) [] (w.forCall tape i)))
    (contract : ∀ (W : World) (base : Nat) (args : Array Value) (ds gs : List (DataW H)) (before : List MemPlace),
      (∀ (j : Nat) t v, fn.params[j]? = some t → args[j]? = some v → Value.okWide C.prog W .any base t v) →
      DataW.Whole enc C.prog fn.params.toList s.vars apart W args.toList ds gs before →
      conds.all (PathCond.test C.prog ⟨fn.params.toList, ds, s.plain.varTypes C.prog, gs⟩) = true →
      (DataW.weightsEach C.prog (fn.params.toList ++ s.plain.varTypes C.prog) (ds ++ gs)).all (· ≤ reachBytes) = true → X W args → W.ShapedOpen C.prog →
      a.holds C.prog (lone (Frame.enter C.prog f args .normal) [] W) →
      Calls C.prog f args W fun e W' => ∃ v, e = .returned v ∧ s.post enc C.prog fn apart fresh handsOn again W args v W') :
    ReturnsInHanded a C os f .any (fun w args => (s.pre enc C.prog fn conds apart w args ∧ X w args) ∧ sizedMet enc C.prog fn (OpenSpec.ofChange s) apart w args) (s.post enc C.prog fn apart fresh handsOn again) := by
  refine returnsInHanded_of_calls own started noInit witness ?_
  intro w tape i _ hsh _ hok hpre hholds
  obtain ⟨_, _, _, fn', hfn', _, _, _, _, hval⟩ := hok
  have e : fn' = fn := Option.some.inj (hfn'.symm.trans hfn)
  subst e
  obtain ⟨⟨⟨ds, gs, before, hw, hc⟩, hx⟩, hz⟩ := hpre
  have hw' := DataW.Whole.of_heap (w' := w.forCall tape i) (by rfl) hw
  refine (contract (w.forCall tape i) w.heap.size i.args ds gs before hval hw' hc (hz.weights hw) (hX _ _ _ (by rfl) hx) hsh hholds).mono fun e W' ⟨v, he, hp⟩ => ?_
  subst he
  exact ChangeSpec.post_blind hp

theorem lifted (os : Os) (started : os.Started) (H : Type) (enc : TypeId × Value → H) :
    ReturnsInHanded {} Tryz.checked os 3 .any (fun w args => (Rows.fnExactCellLineSpec.pre enc Tryz.prog Tryz.f3 [] false w args ∧ laidMetH Tryz.prog laidL w) ∧ sizedMet enc Tryz.prog Tryz.f3 (OpenSpec.ofChange Rows.fnExactCellLineSpec) false w args)
      (Rows.fnExactCellLineSpec.post enc Tryz.prog Tryz.f3 false true false false) := by
  refine handed_shape (C := Tryz.checked) (X := fun w _ => laidMetH Tryz.prog laidL w) (fun _ _ _ hh h => h.of_heap hh) own started (by kernel_rfl) Tryz.func3
    (ChangeSpec.witness_shaped (enc := enc) (C := Tryz.checked) (os := os) (X := fun w _ => laidMetH Tryz.prog laidL w) false (World.laidAll Tryz.prog os laidL) #[.slice none 0 0] 8 (World.laidAll_os _ _ _) (World.shaped_of_ZipB (by kernel_rfl) (by kernel_rfl)) (by kernel_rfl) (by kernel_rfl) (by kernel_rfl) (door_met os _)) ?_
  intro W base args ds gs before hval0 hW _ _ hL hsh _
  have hval : ∀ (j : Nat) t v, Tryz.f3.params[j]? = some t → args[j]? = some v → Value.okWide Tryz.prog W .any base t v := hval0
  have hW' := hW
  obtain ⟨p, q, hA0, hV, rfl, hfz, hnd⟩ := hW
  have hA : DataW.TrodAll enc Tryz.prog W 0 (fun _ => true) true Tryz.f3.params.toList args.toList ds p := hA0
  rw [Tryz.params3] at hA hval
  obtain ⟨v0, vs0, d0, ds0, p0, q0, hargs, rfl, rfl, h0, r0⟩ := trodAll_cons hA
  obtain ⟨rfl, rfl, rfl⟩ := trodAll_nil r0
  obtain rfl : args = #[v0] := by cases args; simp_all
  obtain ⟨rfl, rfl⟩ := trodVars_none hV
  have k0 := h0
  have lt0 : ∀ x ∈ p0, x.block < W.heap.size := by obtain ⟨m, hm⟩ := k0; exact DataW.trod_lt m _ _ _ hm
  obtain ⟨a0, c0, x0, rfl, ax0, nx0, rx0⟩ := argRows_at (hval 0 22 v0 rfl rfl) h0
  clear hA0 hval0
  refine (walk a0 c0 x0 W ax0 nx0 rx0 (tab_of_laid hL) (maxL_shape hsh)).mono fun e W' ⟨he, bel⟩ => ?_
  subst he
  exact ⟨_, rfl, _, _, _, [], _, [], hW', trodAll_mk1 (shut_bool Tryz.underlying4 _), (trodAll_cons_mk (Below.trod laidOut (by kernel_rfl) (of_decide_eq_true (by kernel_rfl)) k0 bel lt0) trodAll_mk0), rfl, bel.frame _, fun h => by cases h⟩

theorem over : Rows.fnExactCellLineRow.holds Tryz.pinned (OpenSpec.ofChange Rows.fnExactCellLineSpec) :=
  OpenClaim.holds_of_wide 3 Tryz.f3 rfl rfl rfl rfl rfl rfl rfl ⟨rfl, rfl, rfl, rfl, rfl⟩ rfl rfl rfl rfl rfl (by kernel_rfl) Tryz.func3 (by kernel_rfl)
    (of_decide_eq_true (by kernel_rfl)) (by unfold Func.isWrapper; first | (rw [if_pos (by decide +kernel)]; kernel_rfl) | (rw [if_neg (by decide +kernel)]; exact ⟨rfl, rfl⟩))
    (fun os started H enc _ => lifted os started H enc)

/-- THE STATEMENT -/
theorem proved : Rows.FnExactCellLineCardSaid :=
  Claim7.holds_tied_plain_at .later [] [.data, .data, .data, .data, .pinned] true (true, "a2b9150fa8dd895369f8f3f7fc6d2e563625b5c611c460d47b656cba05ceec1b") false
    over (fun _ h => by cases h) (by kernel_rfl) (fun _ h => by cases h) fnExactCellLine_row_tie rfl ⟨rfl, rfl⟩ (by kernel_rfl) rfl
    (fun f fn hf hfn => by
      obtain rfl : f = 3 := Option.some.inj ((show Tryz.prog.funcNamed "loop.example/g02076/laws.FnExactCellLine" = some 3 by kernel_rfl).symm.trans hf) |>.symm
      obtain rfl : fn = Tryz.f3 := (Option.some.inj (Tryz.func3.symm.trans hfn)).symm
      exact ⟨by kernel_rfl, fun j t ht => by
        rw [Tryz.params3] at ht
        have hm : t ∈ [22] := by simpa using Array.mem_of_getElem? ht
        have hall : ([22].all fun u => !Tryz.prog.wantsStandIn u) = true := by kernel_rfl
        exact (show Tryz.prog.wantsStandIn t = false by simpa using List.all_eq_true.1 hall t hm)⟩)
    (by kernel_rfl)
#print axioms proved
end Go.Proofs.YtobeigdjhepedaaGreatDoor.fnExactCellLine
