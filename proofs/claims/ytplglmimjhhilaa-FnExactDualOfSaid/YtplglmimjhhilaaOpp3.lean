/- OppositeLetter of the reference, IsWeight: contracts. -/
import Derived.Test.YtplglmimjhhilaaOpp2
namespace Go.Proofs.Ytplglmimjhhilaa
open Go.RowKit

set_option maxHeartbeats 4000000 in
theorem spec_OppositeLetter_ok (gc oc n cc i : Nat) (c : List (List Int)) (long : List Int) (opp : Nat → Nat) (w : World) (hn : c.length = n) (hC : IsC c) (hfin : finB c = true) (hL : LongOf c long opp) (hi : i < c.length)
    (hgc : gc < w.heap.size) (hr : Rows2 w gc oc c) : Calls Try.prog 41 #[(Value.slice (some ⟨gc, oc, none⟩) n cc), .int .i64 i] w (Gives w (.int .i64 (opp i))) := by
  subst hn
  have hn4 := hC.2.1
  have hll := normG_len hL.norm
  have hlin := normG_in hL.norm
  rw [negL_length] at hlin
  have hoi := hL.opp_lt i hi
  have hwant := hL.opp_eq i hi
  have ew : IntKind.i64.wrap ((c.length : Int) - 1) = (c.length : Int) - 1 := IntWalk.i64_in _ (by omega)
  have ew2 : IntKind.i64.wrap ((long.length : Int) - 1) = (long.length : Int) - 1 := IntWalk.i64_in _ (by omega)
  have hin : (decide ((0 : Int) ≤ (i : Int)) && decide ((i : Int) ≤ (c.length : Int) - 1)) = true := by rw [Bool.and_eq_true, decide_eq_true_eq, decide_eq_true_eq]; omega
  have Hwant := Lib.hid hwant; have Hlin := Lib.hid hlin
  clear hwant hlin
  go_enter Try.func41, Try.ntmps41
  go_wp2_with fail
  refine (spec_LongestElement_ok gc oc _ cc c long w rfl hC hfin hL.norm hgc hr).mono ?_
  rintro e w1 ⟨g1, c1, rfl, ho1, hb1⟩
  go_wp2_with fail
  refine (spec_l1In i 0 ((c.length : Int) - 1) w1).mono ?_
  rintro e w2 ⟨rfl, m2, rfl⟩
  rw [hin]
  clear hin
  have hb2 : Below w.heap.size w (w1.drewN m2) := below_drewN hb1 m2
  go_wp2_with fail
  refine (spec_RhoOf_ok gc oc _ cc c (w1.drewN m2) rfl hC (Nat.lt_of_lt_of_le hgc hb2.size) (hr.below hb2 hgc)).mono ?_
  rintro e w3 ⟨g3, c3, rfl, ho3, hb3⟩
  rw [onesL_length]
  have hB3 := hb2.trans (hb3.mono hb2.size)
  have ho1' : Own w3 w.heap.size g1 c1 long := (ho1.drewN m2).below hb3 ho1.lt
  go_wp2_with fail
  refine (spec_l6Reflect_any gc oc _ cc g3 0 c.length c3 i c (onesL c.length) w3 rfl (onesL_length _) (by rw [onesL_length]; omega) hn4 hC.2.2.1 (by rw [onesL_length]; exact hi) (Nat.lt_of_lt_of_le hgc hB3.size) ho3.lt (hr.below hB3 hgc) ho3.cells).mono ?_
  rintro e w4 ⟨g4, c4, rfl, ho4, hb4⟩
  have hrl : ∀ j (v : List Int), v.length = c.length → (refl c j v).length = c.length := fun j v hv => by rw [refl_length]; exact hv
  rw [hrl i _ (onesL_length _)]
  have hB4 := hB3.trans (hb4.mono hB3.size)
  have ho1f : Own w4 w.heap.size g1 c1 long := ho1'.below hb4 ho1'.lt
  have ho4f := ho4.mono (Nat.le_trans (Nat.le_refl _) hB3.size)
  have Hrl := Lib.hid hrl
  have hul0 : (refl c i (onesL c.length)).length = c.length := hrl i _ (onesL_length _)
  have hel : long.drop long.length = [] := List.drop_length
  clear ho1 ho1' ho3 hb3 hb4 ho4 hrl
  go_wp2_with fail
  clear ew ew2
  go_loopw [7, 8] (fun v k wr => ∃ (t gu cu : Nat) (j : Int), t ≤ long.length ∧ k = .int .i64 j ∧ j = (t : Int) - 1 ∧ v = (Value.slice (some ⟨gu, 0, none⟩) c.length cu) ∧ Own wr w.heap.size gu cu (actW c (long.drop t) (refl c i (onesL c.length))) ∧ Own wr w.heap.size g1 c1 long ∧ Below w.heap.size w wr) (fun _ k _ => (intOf k + 1).toNat)
  case atStart => exact ⟨long.length, g4, c4, _, Nat.le_refl _, rfl, rfl, rfl, by rw [hel]; exact ho4f, ho1f, hB4⟩
  case round =>
    obtain ⟨t, gu, cu, j, ht, rfl, hj, rfl, hou, hol, hb⟩ := hrel
    by_cases hlt : 0 < t
    · obtain ⟨s, rfl⟩ : ∃ s, t = s + 1 := ⟨t - 1, by omega⟩
      obtain rfl : j = (s : Int) := by omega
      have hsl : s < long.length := by omega
      have q1 := hol.cell s hsl
      have his := Hlin.out s hsl
      have hd := actW_drop c long (refl c i (onesL c.length)) s hsl
      obtain ⟨iN, hiN⟩ : ∃ iN : Nat, long.getD s 0 = iN := ⟨(long.getD s 0).toNat, by omega⟩
      rw [hiN] at q1 his hd
      rw [Int.toNat_natCast] at hd
      have hic : iN < c.length := by omega
      have hal : (actW c (long.drop (s + 1)) (refl c i (onesL c.length))).length = c.length := by rw [actW_length]; exact hul0
      have hcall := spec_l6Reflect_any gc oc _ cc gu 0 c.length cu iN c (actW c (long.drop (s + 1)) (refl c i (onesL c.length))) wr rfl hal (by rw [hal]; omega) hn4 hC.2.2.1 (by rw [hal]; exact hic) (Nat.lt_of_lt_of_le hgc hb.size) hou.lt (hr.below hb hgc) hou.cells
      rw [← hd] at hcall
      have hal2 : (actW c (long.drop s) (refl c i (onesL c.length))).length = c.length := by rw [actW_length]; exact hul0
      have Hcall := Lib.hid hcall; have Hal2 := Lib.hid hal2
      clear hcall hd hiN hal his hj hal2
      go_wp2_with fail
      refine Hcall.out.mono ?_
      rintro e w5 ⟨g5, c5, rfl, ho5, hb5⟩
      rw [Hal2.out]
      go_wp2_with fail
      go_roundw
      case rel => exact ⟨s, g5, c5, (s : Int) - 1, by omega, by go_num, rfl, rfl, ho5.mono hb.size, hol.below hb5 hol.lt, hb.trans (hb5.mono hb.size)⟩
      case measure => simp [intOf]
    · obtain rfl : t = 0 := by omega
      obtain rfl : j = -1 := by omega
      clear hj
      have hact : actW c (long.drop 0) (refl c i (onesL c.length)) = refl c (opp i) (negL c.length) := Hwant.out
      rw [hact] at hou
      clear hact
      go_wp2
      go_loopw [9] (fun k wr => ∃ t : Nat, t ≤ opp i ∧ k = .int .i64 t ∧ Own wr w.heap.size gu cu (refl c (opp i) (negL c.length)) ∧ Below w.heap.size w wr) (fun k _ => c.length - (intOf k).toNat)
      case atStart => exact ⟨0, Nat.zero_le _, rfl, hou, hb⟩
      case round =>
        obtain ⟨t, ht, rfl, hou2, hb2⟩ := hrel
        have htn : t < c.length := by omega
        have htI : (t : Int) < (c.length : Int) := by omega
        have q1 := hou2.cell t (by rw [refl_length, negL_length]; exact htn)
        have hpos := refl_neg_pos hC htn hoi
        generalize (refl c (opp i) (negL c.length)).getD t 0 = x at *
        by_cases hto : t = opp i
        · have hx : 0 < x := hpos.2 hto
          subst hto
          clear hpos
          go_wp2
          go_ret
          exact ⟨rfl, hb2⟩
        · have hx : ¬ 0 < x := fun h => hto (hpos.1 h)
          clear hpos
          go_wp2
          go_roundw
          case rel => exact ⟨t + 1, by omega, by go_num, hou2, hb2⟩
          case measure => simp [intOf]; omega

def wtOk (c : List (List Int)) (v : List Int) : Prop := IsC c ∧ v.length = c.length ∧ ∀ j, j < v.length → -1000 ≤ v.getD j 0 ∧ v.getD j 0 ≤ 1000
instance (c : List (List Int)) (v : List Int) : Decidable (wtOk c v) := by unfold wtOk; infer_instance

set_option maxHeartbeats 2000000 in
theorem impl_IsWeight_any (gc oc n cc g o m cv : Nat) (c : List (List Int)) (v : List Int) (w : World) (hn : c.length = n) (hm : v.length = m) (hx : c.length ≤ 1048576) (hvx : v.length ≤ 1048576)
    (hrl : ∀ j, j < c.length → (c.getD j []).length ≤ 1048576) (hr : Rows2 w gc oc c) (hv : Cells w g o v) :
    Calls Try.prog 42 #[(Value.slice (some ⟨gc, oc, none⟩) n cc), (Value.slice (some ⟨g, o, none⟩) m cv)] w (Reads w (.bool (decide (wtOk c v)))) := by
  subst hn; subst hm
  go_enter Try.func42, Try.ntmps42
  go_wp2_with fail
  refine (impl_IsCartan gc oc _ cc c w rfl (by omega) (fun j hj => by have := hrl j hj; omega) hr).mono ?_
  rintro e w1 ⟨rfl, m1, rfl⟩
  by_cases hC : IsC c
  · have hC' : decide (IsC c) = true := decide_eq_true hC
    rw [hC']
    by_cases hlen : v.length = c.length
    · have hlen' : ((v.length : Int) != (c.length : Int)) = false := by rw [hlen]; simp
      have Hlen := Lib.hid hlen; clear hlen
      go_wp2_with fail
      go_loopw [19] (fun i wr => ∃ k : Nat, k ≤ v.length ∧ i = .int .i64 k ∧ Hid (∀ j, j < k → -1000 ≤ v.getD j 0 ∧ v.getD j 0 ≤ 1000) ∧ ∃ m, wr = w.drewN m) (fun i _ => v.length - (intOf i).toNat)
      case atStart => exact ⟨0, Nat.zero_le _, rfl, fun j hj => absurd hj (by omega), (by first | exact ⟨_, rfl⟩ | exact ⟨0, rfl⟩ | exact still2 _ _ _ | exact still3 _ _ _ _)⟩
      case round =>
        obtain ⟨k, hk, rfl, hall, m, rfl⟩ := hrel
        by_cases hlt : k < v.length
        · have q1 := hv k hlt
          have HX : Hid (¬ (-1000 ≤ v.getD k 0 ∧ v.getD k 0 ≤ 1000) → decide (wtOk c v) = false) := fun h => decide_eq_false (fun h2 => h (h2.2.2 k hlt))
          have HY : Hid (-1000 ≤ v.getD k 0 ∧ v.getD k 0 ≤ 1000 → ∀ j, j < k + 1 → -1000 ≤ v.getD j 0 ∧ v.getD j 0 ≤ 1000) := fun h j hj => by
            by_cases e : j = k
            · subst e; exact h
            · exact hall.out j (by omega)
          generalize v.getD k 0 = x at *
          by_cases h1 : x < -1000
          · have hf := HX.out (by omega)
            have Hf := Lib.hid hf; clear hf
            go_wp2
            go_ret
            exact ⟨ret_bool Hf.out.symm, (by first | exact ⟨_, rfl⟩ | exact ⟨0, rfl⟩ | exact still2 _ _ _ | exact still3 _ _ _ _)⟩
          · by_cases h2 : 1000 < x
            · have hf := HX.out (by omega)
              have Hf := Lib.hid hf; clear hf
              go_wp2
              go_ret
              exact ⟨ret_bool Hf.out.symm, (by first | exact ⟨_, rfl⟩ | exact ⟨0, rfl⟩ | exact still2 _ _ _ | exact still3 _ _ _ _)⟩
            · have hy := HY.out (by omega)
              have Hy := Lib.hid hy; clear hy
              go_wp2
              go_roundw
              case rel => exact ⟨k + 1, by omega, by go_num, Hy.out, (by first | exact ⟨_, rfl⟩ | exact ⟨0, rfl⟩ | exact still2 _ _ _ | exact still3 _ _ _ _)⟩
              case measure => simp [intOf]; omega
        · obtain rfl : k = v.length := by omega
          have hf : decide (wtOk c v) = true := decide_eq_true ⟨hC, Hlen.out, hall.out⟩
          have Hf := Lib.hid hf; clear hf
          go_wp2
          go_ret
          exact ⟨ret_bool Hf.out.symm, (by first | exact ⟨_, rfl⟩ | exact ⟨0, rfl⟩ | exact still2 _ _ _ | exact still3 _ _ _ _)⟩
    · have hlen' : ((v.length : Int) != (c.length : Int)) = true := by simp; omega
      have hf : decide (wtOk c v) = false := decide_eq_false (fun h => hlen h.2.1)
      have Hf := Lib.hid hf; clear hf hlen
      go_wp2_with fail
      go_ret
      exact ⟨ret_bool Hf.out.symm, (by first | exact ⟨_, rfl⟩ | exact ⟨0, rfl⟩ | exact still2 _ _ _ | exact still3 _ _ _ _)⟩
  · have hC' : decide (IsC c) = false := decide_eq_false hC
    have hf : decide (wtOk c v) = false := decide_eq_false (fun h => hC h.1)
    have Hf := Lib.hid hf; clear hf
    rw [hC']
    clear hC
    go_wp2_with fail
    go_ret
    exact ⟨ret_bool Hf.out.symm, (by first | exact ⟨_, rfl⟩ | exact ⟨0, rfl⟩ | exact still2 _ _ _ | exact still3 _ _ _ _)⟩

set_option maxHeartbeats 2000000 in
theorem spec_IsWeight_any (gc oc n cc g o m cv : Nat) (c : List (List Int)) (v : List Int) (w : World) (hn : c.length = n) (hm : v.length = m) (hx : c.length ≤ 1048576) (hvx : v.length ≤ 1048576)
    (hrl : ∀ j, j < c.length → (c.getD j []).length ≤ 1048576) (hr : Rows2 w gc oc c) (hv : Cells w g o v) :
    Calls Try.prog 38 #[(Value.slice (some ⟨gc, oc, none⟩) n cc), (Value.slice (some ⟨g, o, none⟩) m cv)] w (Reads w (.bool (decide (wtOk c v)))) := by
  subst hn; subst hm
  go_enter Try.func38, Try.ntmps38
  go_wp2_with fail
  go_loopw [5] (fun i wr => ∃ k : Nat, k ≤ v.length ∧ i = .int .i64 k ∧ Hid (∀ j, j < k → -1000 ≤ v.getD j 0 ∧ v.getD j 0 ≤ 1000) ∧ ∃ m, wr = w.drewN m) (fun i _ => v.length - (intOf i).toNat)
  case atStart => exact ⟨0, Nat.zero_le _, rfl, fun j hj => absurd hj (by omega), (by first | exact ⟨_, rfl⟩ | exact ⟨0, rfl⟩ | exact still2 _ _ _ | exact still3 _ _ _ _)⟩
  case round =>
    obtain ⟨k, hk, rfl, hall, m, rfl⟩ := hrel
    by_cases hlt : k < v.length
    · have q1 := hv k hlt
      have HX : Hid (¬ (-1000 ≤ v.getD k 0 ∧ v.getD k 0 ≤ 1000) → decide (wtOk c v) = false) := fun h => decide_eq_false (fun h2 => h (h2.2.2 k hlt))
      have HY : Hid (-1000 ≤ v.getD k 0 ∧ v.getD k 0 ≤ 1000 → ∀ j, j < k + 1 → -1000 ≤ v.getD j 0 ∧ v.getD j 0 ≤ 1000) := fun h j hj => by
        by_cases e : j = k
        · subst e; exact h
        · exact hall.out j (by omega)
      generalize v.getD k 0 = x at *
      go_wp2_with fail
      refine (spec_l1In x (-1000) 1000 (w.drewN m)).mono ?_
      rintro e w2 ⟨rfl, m2, rfl⟩
      by_cases hin : -1000 ≤ x ∧ x ≤ 1000
      · have hT : (decide (-1000 ≤ x) && decide (x ≤ 1000)) = true := by simp; exact hin
        have hy := HY.out hin
        have Hy := Lib.hid hy; clear hy hin
        rw [hT]
        go_wp2_with fail
        go_roundw
        case rel => exact ⟨k + 1, by omega, by go_num, Hy.out, (by first | exact ⟨_, rfl⟩ | exact ⟨0, rfl⟩ | exact still2 _ _ _ | exact still3 _ _ _ _)⟩
        case measure => simp [intOf]; omega
      · have hT : (decide (-1000 ≤ x) && decide (x ≤ 1000)) = false := by rw [Bool.and_eq_false_iff, decide_eq_false_iff_not, decide_eq_false_iff_not]; omega
        have hf := HX.out hin
        have Hf := Lib.hid hf; clear hf hin
        rw [hT]
        go_wp2_with fail
        go_ret
        exact ⟨ret_bool Hf.out.symm, (by first | exact ⟨_, rfl⟩ | exact ⟨0, rfl⟩ | exact still2 _ _ _ | exact still3 _ _ _ _)⟩
    · obtain rfl : k = v.length := by omega
      have hf : decide (wtOk c v) = (decide (IsC c) && decide (v.length = c.length)) := by
        rw [← Bool.decide_and]
        exact decide_eq_decide.2 ⟨fun h => ⟨h.1, h.2.1⟩, fun h => ⟨h.1, h.2, hall.out⟩⟩
      have Hf := Lib.hid hf; clear hf
      go_wp2_with fail
      refine (spec_IsCartan gc oc _ cc c (w.drewN m) rfl (by omega) (fun j hj => by have := hrl j hj; omega) hr).mono ?_
      rintro e w2 ⟨rfl, m2, rfl⟩
      by_cases hC : IsC c
      · have hC' : decide (IsC c) = true := decide_eq_true hC
        rw [hC'] at Hf ⊢
        by_cases hlen : v.length = c.length
        · have hT : ((v.length : Int) == (c.length : Int)) = true := by rw [hlen]; simp
          have hT2 : decide (v.length = c.length) = true := decide_eq_true hlen
          rw [hT2] at Hf
          clear hlen hT2
          go_wp2_with fail
          go_ret
          exact ⟨ret_bool (by rw [Hf.out]; rfl), (by first | exact ⟨_, rfl⟩ | exact ⟨0, rfl⟩ | exact still2 _ _ _ | exact still3 _ _ _ _)⟩
        · have hT : ((v.length : Int) == (c.length : Int)) = false := by simp; omega
          have hT2 : decide (v.length = c.length) = false := decide_eq_false hlen
          rw [hT2] at Hf
          clear hlen hT2
          go_wp2_with fail
          go_ret
          exact ⟨ret_bool (by rw [Hf.out]; rfl), (by first | exact ⟨_, rfl⟩ | exact ⟨0, rfl⟩ | exact still2 _ _ _ | exact still3 _ _ _ _)⟩
      · have hC' : decide (IsC c) = false := decide_eq_false hC
        rw [hC'] at Hf ⊢
        clear hC
        go_wp2_with fail
        go_ret
        exact ⟨ret_bool (by rw [Hf.out]; rfl), (by first | exact ⟨_, rfl⟩ | exact ⟨0, rfl⟩ | exact still2 _ _ _ | exact still3 _ _ _ _)⟩
end Go.Proofs.Ytplglmimjhhilaa
