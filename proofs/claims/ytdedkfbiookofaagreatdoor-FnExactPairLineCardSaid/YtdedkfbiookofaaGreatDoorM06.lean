/- The reference's l19Power: contract. append of a row to rows of the call's own. Worlds that only drew; an insertion into a list of rows under way. BondOf, AlternatingWord of both: contracts. slices.Concat of lists of integers that hold one at least: contract. -/
import Derived.Test.YtdedkfbiookofaaGreatDoorM05
import Derived.Test.YtdedkfbiookofaaGreatDoorM01
import Derived.Test.YtdedkfbiookofaaGreatDoorM02
import Derived.Test.YtdedkfbiookofaaGreatDoorM03
import Derived.BigQuiet
import Derived.Lib.AppendZeros
namespace Go.Proofs.YtdedkfbiookofaaGreatDoor
set_option maxRecDepth 100000
open Go.RowKit
open Go.Lib (join decDigits itoa)
theorem itoa_one {a : Int} : itoa a = [49] ↔ a = 1 := by
  by_cases h : a < 0
  · rw [itoa_neg h]
    constructor
    · intro e; simp at e
    · intro e; omega
  · rw [itoa_pos h, dec_one]; omega
theorem itoa_len20 {a : Int} (h : (Lit.int .i64 a).wf = true) : (itoa a).length ≤ 21 := by
  have := itoas_lens (v := [a]) (fun x hx => by rw [List.mem_singleton] at hx; rw [hx]; exact h)
  simpa [itoas, Lib.lens] using this
set_option maxHeartbeats 1000000 in
theorem spec_l19Power_any (a : Int) (i : Nat) (w : World) (ha : (Lit.int .i64 a).wf = true) (hi : i ≤ 1000000) :
    Calls Tryz.prog 111 #[.int .i64 a, .int .i64 (i : Int)] w (Gives w (.string ⟨(powT (itoa a) i).toArray⟩)) := by
  have hF := Lib.hid (fun W => spec_FormatInt_any a W ha)
  have hFi := Lib.hid (fun W => spec_FormatInt_any (i : Int) W (by simp [Lit.wf, IntKind.min, IntKind.max, IntKind.signed, IntKind.bits]; omega))
  have hl := itoa_len20 ha
  have hli := itoa_len20 (a := (i : Int)) (by simp [Lit.wf, IntKind.min, IntKind.max, IntKind.signed, IntKind.bits]; omega)
  have hii : itoa (i : Int) = decDigits i := by rw [itoa_pos (by omega)]; rfl
  by_cases h0 : i = 0
  · subst h0
    rw [powT_0]
    clear hFi hl hli hii
    generalize itoa a = A at *
    go_enter Tryz.func111, Tryz.ntmps111
    go_wp2_with fail
    refine (hF.out _).mono ?_
    rintro e w1 ⟨rfl, hb1⟩
    go_wp2_with fail
    go_ret
    exact ⟨rfl, hb1⟩
  have hi0 : ((i : Int) == 0) = false := by rw [beq_eq_false_iff_ne]; omega
  by_cases h1 : a = 1
  · have h1' : (a == 1) = true := by simp [h1]
    have hA : itoa a = [49] := itoa_one.2 h1
    by_cases h2 : 1 < i
    · have hd : (1 : Int) < (i : Int) := by omega
      rw [powT_2 h2, if_pos hA, List.nil_append]
      obtain ⟨s1, e1, q1⟩ := addEK [113, 94] #[113, 94] rfl (itoa (i : Int)) (by simp only [List.length_append, List.length_cons, List.length_nil]; omega)
      rw [show (113 :: 94 :: decDigits i : List UInt8) = [113, 94] ++ itoa (i : Int) by rw [hii]; rfl, ← e1]
      clear hF hl hli hii hA e1 ha
      generalize itoa (i : Int) = D at *
      go_enter Tryz.func111, Tryz.ntmps111
      go_wp2_with fail
      refine (hFi.out _).mono ?_
      rintro e w1 ⟨rfl, hb1⟩
      go_wp2_with fail
      go_ret
      exact ⟨rfl, hb1⟩
    · obtain rfl : i = 1 := by omega
      rw [powT_1, if_pos hA, List.nil_append]
      clear hF hFi hl hli hii hA ha
      go_enter Tryz.func111, Tryz.ntmps111
      go_wp2_with fail
      go_ret
      exact ⟨rfl, Below.refl _ _⟩
  · have h1' : (a == 1) = false := by rw [beq_eq_false_iff_ne]; exact h1
    have hA : ¬ itoa a = [49] := fun e => h1 (itoa_one.1 e)
    by_cases h2 : 1 < i
    · have hd : (1 : Int) < (i : Int) := by omega
      rw [powT_2 h2, if_neg hA]
      obtain ⟨s1, e1, q1⟩ := addEK [113, 94] #[113, 94] rfl (itoa (i : Int)) (by simp only [List.length_append, List.length_cons, List.length_nil]; omega)
      obtain ⟨s2, e2, q2⟩ := addEK (itoa a) _ rfl ([113, 94] ++ itoa (i : Int)) (by simp only [List.length_append, List.length_cons, List.length_nil]; omega)
      rw [← e1] at q2
      rw [show (113 :: 94 :: decDigits i : List UInt8) = [113, 94] ++ itoa (i : Int) by rw [hii]; rfl, ← e2]
      clear hl hli hii hA e1 e2 ha
      generalize itoa (i : Int) = D at *
      generalize itoa a = A at *
      go_enter Tryz.func111, Tryz.ntmps111
      go_wp2_with fail
      refine (hFi.out _).mono ?_
      rintro e w1 ⟨rfl, hb1⟩
      go_wp2_with fail
      refine (hF.out _).mono ?_
      rintro e w2 ⟨rfl, hb2⟩
      go_wp2_with fail
      go_ret
      exact ⟨rfl, hb1.trans (hb2.mono hb1.size)⟩
    · obtain rfl : i = 1 := by omega
      rw [powT_1, if_neg hA]
      obtain ⟨s2, e2, q2⟩ := addEK (itoa a) _ rfl [113] (by simp only [List.length_append, List.length_cons, List.length_nil]; omega)
      rw [← e2]
      clear hFi hl hli hii hA e2 ha
      generalize itoa a = A at *
      go_enter Tryz.func111, Tryz.ntmps111
      go_wp2_with fail
      refine (hF.out _).mono ?_
      rintro e w1 ⟨rfl, hb1⟩
      go_wp2_with fail
      go_ret
      exact ⟨rfl, hb1⟩
theorem i64_cell {p : List Int} (hp : I64s p) (i : Nat) : (Lit.int .i64 (p.getD i 0)).wf = true := by
  by_cases hi : i < p.length
  · exact hp _ (by simp [List.getD, hi])
  · rw [show p.getD i 0 = 0 by simp [List.getD, Nat.le_of_not_lt hi]]; decide
set_option maxHeartbeats 2000000 in
theorem spec_FormatPoly_any (g o n cp : Nat) (p : List Int) (w : World) (hn : p.length = n) (hp : I64s p) (hl : p.length ≤ 1000) (hg : g < w.heap.size) (hc : Cells w g o p) :
    Calls Tryz.prog 74 #[(Value.slice (some ⟨g, o, none⟩) n cp)] w (Gives w (.string ⟨(polyS p).toArray⟩)) := by
  subst hn
  have hW := fun i => i64_cell hp i
  have hT := Lib.hid (fun t (ht : t ≤ 1000) => polyT_len (fun i => wf_bounds (hW i)) t (by omega))
  have HW := Lib.hid hW
  have hdef := Lib.hid (show polyS p = if polyT p p.length = [] then [48] else polyT p p.length from rfl)
  have hsu : Hid (∀ t, polyT p (t + 1) = termP (polyT p t) (p.getD t 0) t) := Lib.hid (fun _ => rfl)
  have h0 : polyT p 0 = [] := rfl
  clear hp hW
  generalize polyS p = out at *
  go_enter Tryz.func74, Tryz.ntmps74
  go_wp2_with fail
  go_loopw [3, 4] (fun sv iv wr => ∃ (i : Nat) (s : List UInt8), i ≤ p.length ∧ iv = .int .i64 (i : Nat) ∧ sv = .string ⟨s.toArray⟩ ∧ Hid (polyT p i = s) ∧ Below w.heap.size w wr) (fun _ iv _ => p.length - (intOf iv).toNat)
  case atStart => exact ⟨0, [], Nat.zero_le _, rfl, rfl, h0, Below.refl _ _⟩
  case round =>
    obtain ⟨i, s, hi, rfl, rfl, hs, hb⟩ := hrel
    by_cases hlt : i < p.length
    · have h1 := hc.below hb hg i hlt
      have hw := HW.out i
      have hsl := hT.out i (by omega)
      have hsc := hsu.out i
      rw [hs.out] at hsl hsc
      generalize p.getD i 0 = x at *
      have hbx := wf_bounds hw
      have Hsc := Lib.hid hsc
      have HP := Lib.hid (fun W => spec_l19Power_any x i W hw (by omega))
      clear hsc
      by_cases hx0 : x = 0
      · subst hx0
        go_wp2_with fail
        go_roundw
        case rel => exact ⟨i + 1, s, by omega, by go_num, rfl, Lib.hid (by rw [Hsc.out, termP_zero rfl]), hb⟩
        case measure => simp [intOf]; omega
      · have hpl : ∀ y : Int, (Lit.int .i64 y).wf = true → (powT (itoa y) i).length ≤ 44 := fun y hy => powT_len (itoa_len20 hy) (by omega)
        by_cases hx1 : 0 < x
        · have hT1 := hpl x hw
          have hit : Hid (powT (itoa x) i = powT (decDigits x.natAbs) i) := Lib.hid (by rw [itoa_pos (by omega)])
          generalize powT (itoa x) i = Pw at *
          by_cases hse : s = []
          · subst hse
            clear hpl
            go_wp2_with fail
            refine (HP.out _).mono ?_
            rintro e w1 ⟨rfl, hb1⟩
            have hb2 := hb.trans (hb1.mono hb.size)
            go_wp2_with fail
            go_roundw
            case rel => exact ⟨i + 1, Pw, by omega, by go_num, rfl, Lib.hid (by rw [Hsc.out, termP_first hx1, hit.out]), hb2⟩
            case measure => simp [intOf]; omega
          · have hse' : s.isEmpty = false := by simpa using hse
            obtain ⟨s1, e1, q1⟩ := addEK s s.toArray rfl [43] (by simp only [List.length_append, List.length_cons, List.length_nil]; omega)
            obtain ⟨s2, e2, q2⟩ := addEK (s ++ [43]) s1 e1 Pw (by simp only [List.length_append, List.length_cons, List.length_nil]; omega)
            have E2 := Lib.hid e2
            have Hse := Lib.hid hse
            clear hpl e1 e2 hse
            go_wp2_with fail
            refine (HP.out _).mono ?_
            rintro e w1 ⟨rfl, hb1⟩
            have hb2 := hb.trans (hb1.mono hb.size)
            go_wp2_with fail
            go_roundw
            case rel => exact ⟨i + 1, s ++ (43 :: Pw), by omega, by go_num, by rw [E2.out]; simp, Lib.hid (by rw [Hsc.out, termP_more hx1 Hse.out, hit.out]), hb2⟩
            case measure => simp [intOf]; omega
        · have hxn : x < 0 := by omega
          by_cases hmin : x = -9223372036854775808
          · subst hmin
            have hT1 := hpl _ hw
            have hit : Hid (powT (itoa (-9223372036854775808)) i = 45 :: powT (decDigits (Int.natAbs (-9223372036854775808))) i) := Lib.hid (by rw [itoa_neg (by decide)]; exact powT_neg (by decide))
            have hwr2 : wrap64 9223372036854775808 = -9223372036854775808 := by unfold wrap64; omega
            generalize powT (itoa (-9223372036854775808)) i = Pw at *
            obtain ⟨s1, e1, q1⟩ := addEK s s.toArray rfl Pw (by simp only [List.length_append]; omega)
            have E1 := Lib.hid e1
            clear hpl e1
            go_wp2_with fail
            refine (HP.out _).mono ?_
            rintro e w1 ⟨rfl, hb1⟩
            have hb2 := hb.trans (hb1.mono hb.size)
            go_wp2_with fail
            go_roundw
            case rel => exact ⟨i + 1, s ++ Pw, by omega, by go_num, by rw [E1.out], Lib.hid (by rw [Hsc.out, termP_neg (by decide), hit.out]), hb2⟩
            case measure => simp [intOf]; omega
          · have hw2 : (Lit.int .i64 (-x)).wf = true := by simp [Lit.wf, IntKind.min, IntKind.max, IntKind.signed, IntKind.bits]; omega
            have hT1 := hpl _ hw2
            have HP2 := Lib.hid (fun W => spec_l19Power_any (-x) i W hw2 (by omega))
            have hit : Hid (powT (itoa (-x)) i = powT (decDigits x.natAbs) i) := Lib.hid (by rw [itoa_pos (by omega), Int.natAbs_neg])
            have hwr : IntKind.i64.wrap (-x) = -x := IntWalk.i64_in _ (by omega)
            generalize powT (itoa (-x)) i = Pw at *
            obtain ⟨s1, e1, q1⟩ := addEK s s.toArray rfl [45] (by simp only [List.length_append, List.length_cons, List.length_nil]; omega)
            obtain ⟨s2, e2, q2⟩ := addEK (s ++ [45]) s1 e1 Pw (by simp only [List.length_append, List.length_cons, List.length_nil]; omega)
            have E2 := Lib.hid e2
            clear hpl e1 e2
            go_wp2_with fail
            refine (HP2.out _).mono ?_
            rintro e w1 ⟨rfl, hb1⟩
            have hb2 := hb.trans (hb1.mono hb.size)
            go_wp2_with fail
            go_roundw
            case rel => exact ⟨i + 1, s ++ (45 :: Pw), by omega, by go_num, by rw [E2.out]; simp, Lib.hid (by rw [Hsc.out, termP_neg hxn, hit.out]), hb2⟩
            case measure => simp [intOf]; omega
    · obtain rfl : i = p.length := by omega
      by_cases hse : s = []
      · subst hse
        go_wp2_with fail
        go_ret
        exact ⟨by rw [hdef.out, if_pos hs.out]; rfl, hb⟩
      · have hse' : s.isEmpty = false := by simpa using hse
        have Hse := Lib.hid hse
        clear hse
        go_wp2_with fail
        go_ret
        exact ⟨by rw [hdef.out, hs.out, if_neg Hse.out]; rfl, hb⟩
end Go.Proofs.YtdedkfbiookofaaGreatDoor
namespace Go.Proofs.YtdedkfbiookofaaGreatDoor
set_option maxRecDepth 100000
open Go.RowKit
theorem OwnV.new {w : World} {B : Nat} {E : TypeId} (v : Value) (_hv : v.oneCell' = true) (hB : B ≤ w.heap.size) : OwnV (w.alloc (.cells #[v] E)) B E w.heap.size 1 [v] :=
  World.ownsRow_lit w #[v] 1 hB (by decide) rfl
theorem run_append_row {w : World} {B g cap : Nat} {vs : List Value} (hown : OwnV w B 25 g cap vs) (v : Value) (hv : v.oneCell' = true) (hlen : vs.length + 1 ≤ 1048576) (ty : TypeId) :
    ∃ g' cap' w', (Builtin.append_ #[24, 24] ty #[(Value.slice (some ⟨g, 0, none⟩) vs.length cap), (Value.slice (some ⟨w.heap.size, 0, none⟩) 1 1)]).run Tryz.prog (w.alloc (.cells #[v] 25)) = .ok (Value.slice (some ⟨g', 0, none⟩) (vs.length + 1) cap') w' ∧
      OwnV w' B 25 g' cap' (vs ++ [v]) ∧ w.grownBy w' (some g) ∧ (g' = g ∨ w.heap.size < g') := by
  obtain ⟨i0, hi, hz0, hz1, hz2⟩ := info_parts infoRow
  have hBg := hown.base
  have hlt := hown.lt
  have hown' : OwnV (w.alloc (.cells #[v] 25)) B 25 g cap vs := hown.alloc _
  have hcell : (w.alloc (.cells #[v] 25)).cell? ⟨w.heap.size, 0, none⟩ = some v := (OwnV.new (B := w.heap.size) v hv (Nat.le_refl _)).cell 0 (by simp)
  have hnews : ∀ j u, ([v] : List Value)[j]? = some u → (w.alloc (.cells #[v] 25)).cell? ((⟨w.heap.size, 0, none⟩ : Addr).add j) = some u := by
    intro j u hu
    have hj : j = 0 := by have := (List.getElem?_eq_some_iff.1 hu).1; simp at this; exact this
    subst hj
    simp at hu; subst hu
    rw [Addr.add_lit]; exact hcell
  have h1 : ∀ u ∈ ([v] : List Value), u.oneCell' = true := by simp [hv]
  have hl : ([v] : List Value).length = 1 * i0.size := by simp [hz1]
  obtain ⟨v', w', hr, ho, hg, -⟩ := run_append_own (P := Tryz.prog) (w.alloc (.cells #[v] 25)) B 24 ty 25 i0 (.slice none 0 0) 1 24 Tryz.underlying24 hi hz0 hz1 hz2 rfl (by decide) _ vs.length _ hown' ⟨w.heap.size, 0, none⟩ 1 1
    [v] (by simp) hnews h1 (by unfold maxLen; omega) (by omega) (by simp; omega)
  have hgr : w.grownBy w' (some g) := ⟨hg.os, hg.tape, hg.output, Nat.le_trans (by simp) hg.size, fun k hk hne => (hg.block k (by simp; omega) hne).trans (Below.heap_alloc _ _ _ hk)⟩
  have fin : ∀ g' cap', v' = (Value.slice (some ⟨g', 0, none⟩) (vs.length + 1) cap') → (g' = g ∨ w.heap.size < g') → ∃ g' cap' w', (Builtin.append_ #[24, 24] ty #[(Value.slice (some ⟨g, 0, none⟩) vs.length cap), (Value.slice (some ⟨w.heap.size, 0, none⟩) 1 1)]).run Tryz.prog (w.alloc (.cells #[v] 25)) = .ok (Value.slice (some ⟨g', 0, none⟩) (vs.length + 1) cap') w' ∧
      OwnV w' B 25 g' cap' (vs ++ [v]) ∧ w.grownBy w' (some g) ∧ (g' = g ∨ w.heap.size < g') := by
    intro g' cap' hv' hor
    subst hv'
    refine ⟨g', cap', w', hr, ?_, hgr, hor⟩
    unfold OwnV
    rw [List.length_append]
    exact ho
  by_cases hroom : vs.length + 1 ≤ cap
  · rcases hown'.2 with ⟨h', _⟩ | ⟨g1, cap1, cur, hv', hb, hh, hn, hm, hs, htk⟩
    · simp at h'
    simp only [Value.slice.injEq, Option.some.injEq, Addr.mk.injEq, and_true, true_and] at hv'
    obtain ⟨rfl, rfl⟩ := hv'
    have hr2 := run_append_room (P := Tryz.prog) (w.alloc (.cells #[v] 25)) 24 ty 25 i0 Tryz.underlying24 hi g vs.length cap cur hh ⟨w.heap.size, 0, none⟩ 1 1 [v] hl hnews h1 hroom (by rw [hz1] at *; simp; omega)
    rw [hr2] at hr
    simp only [Result.ok.injEq] at hr
    exact fin g cap hr.1.symm (.inl rfl)
  · have hr2 := run_append_grow (P := Tryz.prog) (w.alloc (.cells #[v] 25)) 24 ty 25 i0 (.slice none 0 0) Tryz.underlying24 hi hz0 ⟨g, 0, none⟩ vs.length cap vs (by simp [hz1]) (World.ownsRow.cells hown' rfl) ⟨w.heap.size, 0, none⟩ 1 1 _ hl hnews (by omega) (by omega) (growslice_fits (by omega) (by rw [hz2]; omega))
    rw [hr2] at hr
    simp only [Result.ok.injEq] at hr
    exact fin _ _ hr.1.symm (.inr (by simp))
theorem OwnRows.push {w w' : World} {B g cap g' cap' : Nat} {rs : List RowRef} {r : RowRef} (h : OwnRows w B g cap rs) (hr : Own w B r.1 r.2.1 r.2.2) (hne : ∀ s ∈ rs, s.1 ≠ r.1)
    (ho : OwnV w' B 25 g' cap' (rs.map rowVal ++ [rowVal r])) (hg : w.grownBy w' (some g)) : OwnRows w' B g' cap' (rs ++ [r]) := by
  refine ⟨by rw [List.map_append]; exact ho, ?_⟩
  have hg1 : ∀ s ∈ rs, some s.1 ≠ some g := fun s hs e => h.1.ne (h.2.1 s hs).toV (by decide) (Option.some.inj e).symm
  have hg2 : some r.1 ≠ some g := fun e => h.1.ne hr.toV (by decide) (Option.some.inj e).symm
  exact (Inner.append (w := w') (r := r) ⟨fun s hs => (h.2.1 s hs).grown hg (hg1 s hs), h.2.2⟩ (hr.grown hg hg2) hne)
/-- 'append(out, row)' -/
theorem wpList_append_row {w : World} {ops : Array Oper} {rest : List Oper} {o : Oper} {a : Act} {Q : Exit → Act → World → Prop} (hgd : o.guard = none) (s x : Operand)
    (ho : o.op = .call { callee := .builtin .append, args := #[s, x], argTypes := #[24, 24] })
    (B g cap n H : Nat) (rs : List RowRef) (r : RowRef) (W : World) (hn : rs.length = n) (hW : W = w.alloc (.cells #[rowVal r] 25)) (hH : w.heap.size = H) (hown : OwnRows w B g cap rs) (hr : Own w B r.1 r.2.1 r.2.2) (hne : ∀ s ∈ rs, s.1 ≠ r.1)
    (hs : a.eval s = (Value.slice (some ⟨g, 0, none⟩) n cap)) (hx : a.eval x = (Value.slice (some ⟨H, 0, none⟩) 1 1)) (hlen : n + 1 ≤ 1048576)
    (h : ∀ g' cap' w', OwnRows w' B g' cap' (rs ++ [r]) → w.grownBy w' (some g) → (g' = g ∨ w.heap.size < g') → wpList Tryz.prog ops Q rest (a.put o.dst (Value.slice (some ⟨g', 0, none⟩) (n + 1) cap')) w') :
    wpList Tryz.prog ops Q (o :: rest) a W := by
  subst hn; subst hW; subst hH
  have hl : (rs.map rowVal).length = rs.length := by simp
  obtain ⟨g', cap', w', hrun, h2, h3, h4⟩ := run_append_row hown.1 (rowVal r) rfl (by rw [hl]; exact hlen) o.type
  rw [hl] at hrun
  refine wpList_plain hgd fun K hK => ?_
  unfold Oper.wp execOp
  simp only [ho, resolve, invoke, builtin, Sem.run_bind, Sem.run_pure, Result.andThen_ok, List.map_toArray, List.map_cons, List.map_nil, hs, hx, hrun]
  exact hK _ _ (h g' cap' w' (hown.push hr hne h2 h3) h3 h4)
theorem OwnRows.empty {w : World} {B : Nat} (hB : B ≤ w.heap.size) : OwnRows (w.alloc (.cells #[] 25)) B w.heap.size 0 [] :=
  ⟨World.ownsRow_lit w #[] 0 hB (by decide) rfl, ⟨by simp, by simp⟩⟩
end Go.Proofs.YtdedkfbiookofaaGreatDoor
namespace Go.Proofs.YtdedkfbiookofaaGreatDoor
set_option maxRecDepth 100000
namespace Game
end Game
open Go.RowKit
/-- a new list of rows of the call's own from block B0 on; the list itself is new -/
def GotPut (w : World) (B0 : Nat) (rows : List (List Int)) (e : Ending) (w' : World) : Prop :=
  ∃ g cap rs, e = .returned (Value.slice (some ⟨g, 0, none⟩) rows.length cap) ∧ contents rs = rows ∧ OwnRows w' B0 g cap rs ∧ w.heap.size ≤ g ∧ Below w.heap.size w w'
theorem GotPut.mk' {w w' : World} {B0 : Nat} {rows : List (List Int)} {n : Nat} (g cap : Nat) (rs : List RowRef) (hl : rs.length = n) (hc : contents rs = rows) (ho : OwnRows w' B0 g cap rs) (hg : w.heap.size ≤ g) (hb : Below w.heap.size w w') :
    GotPut w B0 rows (.returned (Value.slice (some ⟨g, 0, none⟩) n cap)) w' := by
  subst hl; subst hc
  exact ⟨g, cap, rs, by rw [contents_length], rfl, ho, hg, hb⟩
section
variable {w a b : World} {B B' : Nat}
theorem below_still (h : Below B w a) (hs : ∃ n, b = a.drewN n) : Below B w b := by obtain ⟨n, rfl⟩ := hs; exact below_drewN h n
theorem OwnRows.still {g cap : Nat} {rs : List RowRef} (h : OwnRows a B g cap rs) (hs : ∃ n, b = a.drewN n) : OwnRows b B g cap rs := by obtain ⟨n, rfl⟩ := hs; exact h
theorem Own.still {g cap : Nat} {xs : List Int} (h : Own a B g cap xs) (hs : ∃ n, b = a.drewN n) : Own b B g cap xs := by obtain ⟨n, rfl⟩ := hs; exact h
theorem Cells.still {g o : Nat} {xs : List Int} (h : Cells a g o xs) (hs : ∃ n, b = a.drewN n) : Cells b g o xs := by obtain ⟨n, rfl⟩ := hs; exact h
theorem Rows2.still {g o : Nat} {xs : List (List Int)} (h : Rows2 a g o xs) (hs : ∃ n, b = a.drewN n) : Rows2 b g o xs := by obtain ⟨n, rfl⟩ := hs; exact h
theorem cell_still (hs : ∃ n, b = a.drewN n) (p : Addr) : b.cell? p = a.cell? p := by obtain ⟨n, rfl⟩ := hs; rfl
end
theorem still_trans {a b d : World} (h : ∃ n, b = a.drewN n) (k : ∃ n, d = b.drewN n) : ∃ n, d = a.drewN n := by
  obtain ⟨n, rfl⟩ := h
  obtain ⟨m, rfl⟩ := k
  exact ⟨n + m, by rw [World.drewN_drewN]⟩
/-- an insertion under way: H: the first new block; put: what an insertion gives -/
structure PutSt (put : List (List Int) → List (List Int)) (H : Nat) (rs : List RowRef) (i : Nat) (acc : List RowRef) (pl : Bool) : Prop where
  blocks : ∀ s ∈ acc, s ∈ rs.take i ∨ H ≤ s.1
  fin : contents acc ++ (if pl then contents (rs.drop i) else put (contents (rs.drop i))) = put (contents rs)
  len : acc.length ≤ i + 1
  lenF : pl = false → acc.length = i
section
variable {put : List (List Int) → List (List Int)} {H : Nat} {rs acc : List RowRef} {i : Nat} {pl : Bool}
theorem PutSt.start : PutSt put H rs 0 [] false := ⟨by simp, by simp [contents], by simp, by simp⟩
theorem contents_drop (rs : List RowRef) {i : Nat} (hi : i < rs.length) : contents (rs.drop i) = rs[i].2.2 :: contents (rs.drop (i + 1)) := by
  rw [List.drop_eq_getElem_cons hi]; rfl
theorem PutSt.step (h : PutSt put H rs i acc pl) (hi : i < rs.length) (new : List RowRef) (pl' : Bool) (hnew : ∀ s ∈ new, H ≤ s.1) (hl : acc.length + new.length ≤ i + 1) (hF : pl' = false → pl = false ∧ new = [])
    (hf : (if pl then contents (rs.drop i) else put (contents (rs.drop i))) = contents new ++ rs[i].2.2 :: (if pl' then contents (rs.drop (i + 1)) else put (contents (rs.drop (i + 1))))) :
    PutSt put H rs (i + 1) (acc ++ new ++ [rs[i]]) pl' := by
  refine ⟨?_, ?_, by simp; omega, ?_⟩
  · intro s hs
    rw [List.append_assoc, List.mem_append, List.mem_append, List.mem_singleton] at hs
    rcases hs with h1 | h1 | h1
    · rcases h.blocks s h1 with h2 | h2
      · left
        rw [List.take_succ_eq_append_getElem hi]
        exact List.mem_append_left _ h2
      · exact .inr h2
    · exact .inr (hnew s h1)
    · left
      rw [List.take_succ_eq_append_getElem hi, h1]
      exact List.mem_append_right _ (by simp)
  · rw [← h.fin, hf]
    simp [contents]
  · intro e
    have := hF e
    rw [this.2, List.append_nil, List.length_append, h.lenF this.1]; rfl
theorem PutSt.last (h : PutSt put H rs rs.length acc false) (r : RowRef) (hp : put [] = [r.2.2]) : contents (acc ++ [r]) = put (contents rs) := by
  have := h.fin
  simp [contents] at this ⊢
  rw [hp] at this
  exact this
theorem PutSt.done (h : PutSt put H rs rs.length acc true) : contents acc = put (contents rs) := by
  have := h.fin
  simpa [contents] using this
theorem PutSt.ne (h : PutSt put H rs i acc pl) (hnd : (rs.map (·.1)).Nodup) (hi : i < rs.length) (hH : rs[i].1 < H) : ∀ s ∈ acc, s.1 ≠ rs[i].1 := by
  intro s hs e
  rcases h.blocks s hs with h1 | h1
  · obtain ⟨t, ht, rfl⟩ := List.mem_iff_getElem.1 h1
    rw [List.length_take] at ht
    rw [List.getElem_take] at e
    have ht' : t < rs.length := by omega
    have h2 : (rs.map (·.1))[t]'(by simpa using ht') = (rs.map (·.1))[i]'(by simpa using hi) := by simpa using e
    have h3 := (List.getElem_inj hnd).1 h2
    omega
  · omega
end
end Go.Proofs.YtdedkfbiookofaaGreatDoor
namespace Go.Proofs.YtdedkfbiookofaaGreatDoor
set_option maxRecDepth 100000
open Go.RowKit
def bondP (p : Int) : Int := if p = 0 then 2 else if p = 1 then 3 else if p = 2 then 4 else if p = 3 then 6 else 0
end Go.Proofs.YtdedkfbiookofaaGreatDoor
namespace Go.Proofs.YtdedkfbiookofaaGreatDoor
set_option maxRecDepth 100000
open Go.RowKit
theorem zeros_own (w : World) (B cap : Nat) (Z : Array Value) (hB : B ≤ w.heap.size) (hZ : Z.size = cap) (hcap : cap ≤ maxLen) : Own (w.drew.alloc (.cells Z 3)) B w.heap.size cap [] :=
  ⟨rfl, .inr ⟨w.heap.size, cap, Z, rfl, hB, heap_alloc_new w.drew _, Nat.zero_le _, hcap, by rw [hZ, Nat.mul_one], by simp⟩⟩
theorem wpList_append_ints_n {w : World} {ops : Array Oper} {rest : List Oper} {o : Oper} {a : Act} {Q : Exit → Act → World → Prop} (hgd : o.guard = none) (s x : Operand)
    (ho : o.op = .call { callee := .builtin .append, args := #[s, x], argTypes := #[25, 25] })
    (B g cap n1 : Nat) (xs : List Int) (hn1 : xs.length = n1) (hown : Own w B g cap xs) (g2 o2 n2 c2 : Nat) (ys : List Int) (hn2 : ys.length = n2) (hc : Cells w g2 o2 ys)
    (hs : a.eval s = (Value.slice (some ⟨g, 0, none⟩) n1 cap)) (hx : a.eval x = (Value.slice (some ⟨g2, o2, none⟩) n2 c2)) (hlen : n1 + n2 ≤ 1099511627776)
    (h : ∀ g' cap' w', Own w' B g' cap' (xs ++ ys) → w.grownBy w' (some g) → (g' = g ∨ g' = w.heap.size) → wpList Tryz.prog ops Q rest (a.put o.dst (Value.slice (some ⟨g', 0, none⟩) (n1 + n2) cap')) w') :
    wpList Tryz.prog ops Q (o :: rest) a w := by
  subst hn1; subst hn2
  exact wpList_append_ints hgd s x ho B g cap xs hown g2 o2 c2 ys hc hs hx hlen h
set_option maxHeartbeats 1000000 in
theorem slices_Grow_nil (n : Nat) (w : World) (h1 : 1 ≤ n) (hn : n ≤ 1048576) :
    Calls Tryz.prog 168 #[.slice none 0 0, .int .i64 n] w (fun e w' => ∃ g cap, e = .returned (Value.slice (some ⟨g, 0, none⟩) 0 cap) ∧ Own w' w.heap.size g cap [] ∧ Below w.heap.size w w') := by
  obtain ⟨i0, hi, hz0, hz1, hz2⟩ := info_parts info3
  have happ := Lib.run_append_nil_zeros (P := Tryz.prog) w 25 3 25 3 i0 (.int .i64 0) .i64 .i64 Tryz.underlying25 Tryz.underlying3 hi hz0 n (by omega) (by omega) (by omega) (by rw [hz2]; omega)
  have hge : n ≤ grownCap w n 0 3 := grownCap_ge w _ 0 _
  have hle : grownCap w n 0 3 ≤ maxLen := grownCap_le_maxLen w _ 0 _ (by unfold maxLen; omega)
  generalize grownCap w n 0 3 = cap at *
  have hZs : (Builtin.zeroCells (Value.int .i64 0).cells n ++ Builtin.zeroCells (Value.int .i64 0).cells (cap - n)).size = cap := by simp [size_zeroCells, Value.cells]; omega
  generalize Builtin.zeroCells (Value.int .i64 0).cells n ++ Builtin.zeroCells (Value.int .i64 0).cells (cap - n) = Z at *
  have hown := zeros_own w w.heap.size cap Z (Nat.le_refl _) hZs hle
  have hb : Below w.heap.size w (w.drew.alloc (.cells Z 3)) := (Below.drew (Below.refl _ _)).alloc (Nat.le_refl _) _
  have Hown := Lib.hid hown; have Hb := Lib.hid hb
  clear hown hb hZs hi hz0 hz1 hz2
  go_enter Tryz.func168, Tryz.ntmps168
  go_wp2_with (at_builtin; refine Lib.wpList_append_run w rfl _ _ _ _ rfl _ _ rfl rfl _ _ happ ?_)
  go_wp2_with fail
  go_ret
  exact ⟨_, _, rfl, Hown.out, Hb.out⟩
def lensTo (rows : List (List Int)) : Nat → Nat
  | 0 => 0
  | k + 1 => lensTo rows k + (rows.getD k []).length
def catTo (rows : List (List Int)) : Nat → List Int
  | 0 => []
  | k + 1 => catTo rows k ++ rows.getD k []
theorem catTo_length (rows : List (List Int)) : ∀ k, (catTo rows k).length = lensTo rows k
  | 0 => rfl
  | k + 1 => by simp only [catTo, lensTo, List.length_append, catTo_length rows k]
theorem lensTo_mono (rows : List (List Int)) {k m : Nat} (h : k ≤ m) : lensTo rows k ≤ lensTo rows m := by
  induction m with
  | zero => obtain rfl : k = 0 := by omega
            exact Nat.le_refl _
  | succ m ih =>
    by_cases e : k = m + 1
    · subst e; exact Nat.le_refl _
    · have := ih (by omega)
      simp only [lensTo]; omega
set_option maxHeartbeats 2000000 in
theorem slices_Concat_any (g o n cp : Nat) (rows : List (List Int)) (w : World) (hn : rows.length = n) (hl : rows.length ≤ 1048576) (h1 : 1 ≤ lensTo rows rows.length) (hm : lensTo rows rows.length ≤ 1048576) (hg : g < w.heap.size) (hr : Rows2 w g o rows) :
    Calls Tryz.prog 142 #[(Value.slice (some ⟨g, o, none⟩) n cp)] w (GotInts w (catTo rows rows.length)) := by
  subst hn
  have Hr := Lib.hid hr; clear hr
  have Hm := Lib.hid (fun k (hk : k ≤ rows.length) => Nat.le_trans (lensTo_mono rows hk) hm)
  go_enter Tryz.func142, Tryz.ntmps142
  go_wp2
  go_loopw [3, 11] (fun sv kv wr => ∃ k q : Nat, k ≤ rows.length ∧ kv = .int .i64 k ∧ sv = .int .i64 (lensTo rows k) ∧ wr = w.drewN q) (fun _ kv _ => rows.length - (intOf kv).toNat)
  case atStart => exact ⟨0, 0, Nat.zero_le _, rfl, rfl, rfl⟩
  case round =>
    obtain ⟨k, q, hk, rfl, rfl, rfl⟩ := hrel
    by_cases hlt : k < rows.length
    · obtain ⟨gj, oj, cj, q1, q2, q3, q4⟩ := Hr.out k hlt
      have hs : lensTo rows (k + 1) = lensTo rows k + (rows.getD k []).length := rfl
      have hmk := Hm.out (k + 1) hlt
      rw [hs] at hmk
      have Hs := Lib.hid hs
      clear hs q4
      generalize (rows.getD k []).length = rl at *
      generalize lensTo rows k = a at *
      go_wp2_with fail
      go_roundw
      case rel => exact ⟨k + 1, q, by omega, by go_num, by rw [Hs.out]; go_num, rfl⟩
      case measure => simp [intOf]; omega
    · obtain rfl : k = rows.length := by omega
      have hcall := slices_Grow_nil (lensTo rows rows.length) (w.drewN q) h1 hm
      have Hcall := Lib.hid hcall
      clear hcall
      go_wp2_with fail
      refine Hcall.out.mono ?_
      rintro e w1 ⟨g1, c1, rfl, ho1, hb1⟩
      have hb0 : Below w.heap.size w w1 := (below_drewN' (B := w.heap.size) w q).trans hb1
      have ho0 : Own w1 w.heap.size g1 c1 [] := ho1
      clear h1 Hcall hb1 ho1
      go_wp2_with fail
      go_loopw [6, 27] (fun ov kv wi => ∃ k g' c' : Nat, k ≤ rows.length ∧ kv = .int .i64 k ∧ ov = (Value.slice (some ⟨g', 0, none⟩) (lensTo rows k) c') ∧ Own wi w.heap.size g' c' (catTo rows k) ∧ Below w.heap.size w wi) (fun _ kv _ => rows.length - (intOf kv).toNat)
      case atStart => exact ⟨0, g1, c1, Nat.zero_le _, rfl, rfl, ho0, hb0⟩
      case round =>
        clear ho0 hb0
        obtain ⟨k, g', c', hk, rfl, rfl, ho, hb⟩ := hrel
        by_cases hlt : k < rows.length
        · obtain ⟨gj, oj, cj, q1, q2, q3, q4⟩ := (Hr.out.below hb hg) k hlt
          have hmk := Hm.out (k + 1) hlt
          have hs : lensTo rows (k + 1) = lensTo rows k + (rows.getD k []).length := rfl
          have hcs : catTo rows (k + 1) = catTo rows k ++ rows.getD k [] := rfl
          have hcl := catTo_length rows k
          rw [hs] at hmk
          have Hs := Lib.hid hs; have Hcs := Lib.hid hcs; have Hcl := Lib.hid hcl
          clear hs hcs hcl
          generalize lensTo rows k = a at *
          generalize catTo rows k = A at *
          generalize hrw : rows.getD k [] = r at *
          generalize hrl : r.length = rl at *
          go_wp2_with (at_builtin; refine wpList_append_ints_n rfl _ _ rfl w.heap.size g' c' a A Hcl.out ho gj oj rl cj r hrl q4 rfl rfl (by omega) ?_)
          intro g3 c3 w3 ho3 hg3 hor3
          rw [← Hcs.out] at ho3
          have hb3 := hb.grown hg3 hb.size (by intro j hj; cases hj; exact ho.base)
          go_wp2_with fail
          go_roundw
          case rel => exact ⟨k + 1, g3, c3, by omega, by go_num, by rw [Hs.out], ho3, hb3⟩
          case measure => simp [intOf]; omega
        · obtain rfl : k = rows.length := by omega
          go_wp2
          go_ret
          exact GotInts.mk' g' c' (catTo_length _ _) ho hb
end Go.Proofs.YtdedkfbiookofaaGreatDoor
