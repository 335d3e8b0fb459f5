/- sets, sub-matrices, witnesses, IsFinite of the reference: contracts. SubCartan, WitnessOf, IsFinite of the reference: contracts. WitnessOf, IsFinite of the reference: contracts. Words acting on weights, normal forms: contracts. ones, image, normal forms: contracts. The reference's normal forms: contracts. Longest elements and opposite letters: contracts. OppositeLetter, IsWeight: contracts. OppositeLetter of the reference, IsWeight: contracts. Connected parts, by breadth: plain law, by enumeration of zero patterns. -/
import Derived.Test.YtdedkfbiookofaaGreatDoorK05
import Derived.Test.YtdedkfbiookofaaGreatDoorK01
import Derived.WalkSpells
import Derived.Test.YtdedkfbiookofaaGreatDoorK00
namespace Go.Proofs.YtdedkfbiookofaaGreatDoor
set_option maxRecDepth 100000
open Go.RowKit
def setsTo (n t : Nat) : List (List Int) := (List.range t).map fun k => setTo (k + 1) n
theorem setsTo_length (n t : Nat) : (setsTo n t).length = t := by simp [setsTo]
theorem setsTo_succ (n t : Nat) : setsTo n (t + 1) = setsTo n t ++ [setTo (t + 1) n] := by simp [setsTo, List.range_succ]
set_option maxHeartbeats 2000000 in
theorem spec_l4Sets_any (n : Nat) (w : World) (hn4 : n ≤ 4) : Calls Tryz.prog 158 #[.int .i64 n] w (GotRows w (setsTo n (2 ^ n - 1))) := by
  obtain ⟨Q, hQ, hQ2, hQ3⟩ : ∃ Q : Nat, Q = 2 ^ n ∧ Q ≤ 16 ∧ wrap64 ((2 : Int) ^ n) = (Q : Int) := ⟨2 ^ n, rfl, pow_le16 hn4, wrap_pow4 hn4⟩
  have hQ1 : 1 ≤ Q := by rw [hQ]; exact Nat.one_le_two_pow
  rw [← hQ]
  have HQ := Lib.hid hQ; clear hQ
  go_enter Tryz.func158, Tryz.ntmps158
  go_wp2
  go_loopw [3, 4, 5, 6] (fun x i _ _ wr => ∃ (t g' c' : Nat) (rs : List RowRef), t + 1 ≤ Q ∧ i = .int .i64 ((t : Int) + 1) ∧ x = (Value.slice (some ⟨g', 0, none⟩) t c') ∧ Hid (rs.length = t) ∧ Hid (contents rs = setsTo n t) ∧ OwnRows wr w.heap.size g' c' rs ∧ Below w.heap.size w wr) (fun _ i _ _ _ => 17 - (intOf i).toNat)
  case atStart => exact ⟨0, w.heap.size, 0, [], by omega, rfl, rfl, rfl, rfl, OwnRows.empty (Nat.le_refl _), (Below.refl _ _).alloc (Nat.le_refl _) _⟩
  case round =>
    obtain ⟨t, g', c', rs, ht, rfl, rfl, hrs, hcont, ho, hb⟩ := hrel
    by_cases hlt : t + 1 < Q
    · have hltI : (t : Int) + 1 < Q := by omega
      have hm15 : t + 1 ≤ 15 := by omega
      obtain ⟨wo, rfl⟩ : ∃ wo : World, wo = wr := ⟨_, rfl⟩
      go_wp2
      simp only [hQ3]
      clear hQ3
      go_loopw [5, 6] (fun x i wr => ∃ k gr cr n' : Nat, k ≤ n ∧ i = .int .i64 k ∧ x = (Value.slice (some ⟨gr, 0, none⟩) n' cr) ∧ Hid ((setTo (t + 1) k).length = n') ∧ Own wr wo.heap.size gr cr (setTo (t + 1) k) ∧ Below wo.heap.size wo wr) (fun _ i _ => n - (intOf i).toNat)
      case atStart => exact ⟨0, wo.heap.size, 0, 0, Nat.zero_le _, rfl, rfl, rfl, Own.empty (w := wo) (Nat.le_refl _), (Below.refl _ _).alloc (Nat.le_refl _) _⟩
      case round =>
        obtain ⟨k, gr, cr, n', hk, rfl, rfl, hn', hor, hb2⟩ := hrel
        have hbb : Below w.heap.size w wr := hb.trans (hb2.mono hb.size)
        have hle := setTo_len (t + 1) k
        rw [hn'.out] at hle
        by_cases hltk : k < n
        · have hltkI : (k : Int) < (n : Int) := by omega
          have hand : bits BinOp.and IntKind.i64 (((t : Int) + 1) / 2 ^ k) 1 = (((t + 1) / 2 ^ k % 2 : Nat) : Int) := by
            have h := and1_at (t + 1) k hm15
            have eM : ((t : Int) + 1) = ((t + 1 : Nat) : Int) := by omega
            rw [eM]; exact h
          by_cases hbit : (t + 1) / 2 ^ k % 2 = 1
          · rw [hbit] at hand
            have hS := setTo_one hbit
            have HS := Lib.hid hS
            clear hS hbit
            go_wp2_with (at_builtin; refine wpList_append_int_n rfl _ _ rfl wo.heap.size gr cr n' (setTo (t + 1) k) (k : Int) hn'.out hor rfl rfl (by omega) ?_)
            intro g3 c3 w3 ho3 hg3 _
            go_wp2
            go_roundw
            case rel =>
              rw [← HS.out] at ho3
              exact ⟨k + 1, g3, c3, n' + 1, by omega, by go_num, rfl, by show _ = _; rw [HS.out, List.length_append, hn'.out]; rfl, ho3, hb2.grown hg3 hb2.size (by intro j hj; cases hj; exact hor.base)⟩
            case measure => simp [intOf]; omega
          · have hb0 : (t + 1) / 2 ^ k % 2 = 0 := by omega
            rw [hb0] at hand
            have hS := setTo_zero hbit
            have HS := Lib.hid hS
            clear hS hbit hb0
            go_wp2
            go_roundw
            case rel => exact ⟨k + 1, gr, cr, n', by omega, by go_num, rfl, by show _ = _; rw [HS.out]; exact hn'.out, by rw [HS.out]; exact hor, hb2⟩
            case measure => simp [intOf]; omega
        · obtain rfl : n = k := by omega
          have ho2 := ho.below hb2
          have hne : ∀ r ∈ rs, r.1 ≠ gr := fun r hr => by have h1 := (ho.2.1 r hr).lt; have h2 := hor.base; omega
          have hor2 := hor.mono hb.size
          have hrow : rowVal (gr, cr, setTo (t + 1) n) = (Value.slice (some ⟨gr, 0, none⟩) n' cr) := by unfold rowVal; rw [hn'.out]
          go_wp2_with (at_builtin; refine wpList_append_row rfl _ _ rfl w.heap.size g' c' t wr.heap.size rs (gr, cr, setTo (t + 1) n) _ hrs.out (by rw [hrow]) rfl ho2 hor2 hne rfl rfl (by omega) ?_)
          intro g4 c4 w4 ho4 hg4 _
          go_wp2
          go_roundw
          case rel =>
            refine ⟨t + 1, g4, c4, rs ++ [(gr, cr, setTo (t + 1) n)], by omega, by go_num, rfl, by show _ = _; rw [List.length_append, hrs.out]; rfl, ?_, ho4, hbb.grown hg4 hbb.size (by intro j hj; cases hj; exact ho.base)⟩
            show _ = _
            rw [contents_push, hcont.out, setsTo_succ]
          case measure => simp [intOf]; omega
    · have hge : ¬ (t : Int) + 1 < Q := by omega
      obtain rfl : t = Q - 1 := by omega
      have hml := setsTo_length n (Q - 1)
      have Hml := Lib.hid hml
      clear hml
      go_wp2
      go_ret
      exact ⟨g', c', rs, by rw [Hml.out]; rfl, hcont.out, ho, hb⟩
set_option maxHeartbeats 2000000 in
theorem spec_l3Set_ok (gc oc n cc g o m cs : Nat) (c : List (List Int)) (s : List Int) (w : World) (hn : c.length = n) (hm : s.length = m) (hx : c.length ≤ 1048576) (hsl : s.length ≤ 1048576) (hrl : ∀ j, j < c.length → (c.getD j []).length ≤ 1048576)
    (hs : ∀ t, t < s.length → 0 ≤ s.getD t 0 ∧ s.getD t 0 < c.length) (hasc : ∀ t, t + 1 < s.length → s.getD t 0 < s.getD (t + 1) 0) (hr : Rows2 w gc oc c) (hc : Cells w g o s) :
    Calls Tryz.prog 161 #[(Value.slice (some ⟨gc, oc, none⟩) n cc), (Value.slice (some ⟨g, o, none⟩) m cs)] w (Reads w (.bool (decide (IsC c)))) := by
  subst hn; subst hm
  have ew : IntKind.i64.wrap ((c.length : Int) - 1) = (c.length : Int) - 1 := IntWalk.i64_in _ (by omega)
  have hcart : Hid (∀ m, Calls Tryz.prog 93 #[(Value.slice (some ⟨gc, oc, none⟩) c.length cc)] (w.drewN m) (Reads (w.drewN m) (.bool (decide (IsC c))))) := fun m =>
    spec_IsCartan gc oc _ cc c (w.drewN m) rfl (by omega) (fun j hj => by have := hrl j hj; omega) hr
  clear hrl hr
  go_enter Tryz.func161, Tryz.ntmps161
  go_wp2
  go_loopw [5] (fun i wr => ∃ k : Nat, k ≤ s.length ∧ i = .int .i64 k ∧ ∃ m, wr = w.drewN m) (fun i _ => s.length - (intOf i).toNat)
  case atStart => exact ⟨0, Nat.zero_le _, rfl, (by first | exact ⟨_, rfl⟩ | exact ⟨0, rfl⟩ | exact still2 _ _ _ | exact still3 _ _ _ _)⟩
  case round =>
    obtain ⟨k, hk, rfl, m, rfl⟩ := hrel
    by_cases hlt : k < s.length
    · have q1 := hc k hlt
      have hsk := hs k hlt
      by_cases h0 : k = 0
      · have hkI : decide ((0 : Int) < (k : Int)) = false := by simp only [decide_eq_false_iff_not]; omega
        have hkN : decide (0 < k) = false := by simp only [decide_eq_false_iff_not]; omega
        have hkM : (k : Int) ≤ 0 := by omega
        clear hasc hs h0
        generalize s.getD k 0 = z at *
        have hq1 := cart_l1In z 0 ((c.length : Int) - 1) true (by rw [Bool.and_eq_true, decide_eq_true_eq, decide_eq_true_eq]; omega) w m
        go_wp2
        go_quiet ((go_at_call 92; exact Reads.quiet4 (hq1.out _)))
        go_wp2
        go_roundw
        case rel => exact ⟨k + 1, by omega, by go_num, (by first | exact ⟨_, rfl⟩ | exact ⟨0, rfl⟩ | exact still2 _ _ _ | exact still3 _ _ _ _)⟩
        case measure => simp [intOf]; omega
      · obtain ⟨j, rfl⟩ : ∃ j, k = j + 1 := ⟨k - 1, by omega⟩
        have q0 := hc j (by omega)
        have hj := hasc j (by omega)
        have hd2 : (0 : Int) < (j : Int) + 1 := by omega
        have hd3 : decide (s.getD (j + 1) 0 ≤ s.getD j 0) = false := by simp only [decide_eq_false_iff_not]; omega
        have hd4 : IntKind.i64.wrap ((j : Int) + 1 - 1) = (j : Int) := by rw [show (j : Int) + 1 - 1 = j by omega]; exact IntWalk.i64_in _ (by omega)
        have hjl : j < s.length := by omega
        clear hasc hs
        generalize s.getD (j + 1) 0 = z at *
        generalize s.getD j 0 = y at *
        have hq1 := cart_l1In z 0 ((c.length : Int) - 1) true (by rw [Bool.and_eq_true, decide_eq_true_eq, decide_eq_true_eq]; omega) w m
        go_wp2
        go_quiet ((go_at_call 92; exact Reads.quiet4 (hq1.out _)))
        go_wp2
        go_roundw
        case rel => exact ⟨j + 1 + 1, by omega, by go_num, (by first | exact ⟨_, rfl⟩ | exact ⟨0, rfl⟩ | exact still2 _ _ _ | exact still3 _ _ _ _)⟩
        case measure => simp [intOf]; omega
    · obtain rfl : k = s.length := by omega
      go_wp2_with fail
      refine (hcart.out m).mono ?_
      rintro e w1 ⟨rfl, m1, rfl⟩
      go_wp2_with fail
      go_ret
      exact ⟨rfl, (by first | exact ⟨_, rfl⟩ | exact ⟨0, rfl⟩ | exact still2 _ _ _ | exact still3 _ _ _ _)⟩
end Go.Proofs.YtdedkfbiookofaaGreatDoor
namespace Go.Proofs.YtdedkfbiookofaaGreatDoor
set_option maxRecDepth 100000
open Go.RowKit
attribute [local go_sem ↓] Go.wp_at_zero Go.wp_at_succ
set_option maxHeartbeats 4000000 in
theorem spec_SubCartan_ok (gc oc n cc g o m cs : Nat) (c : List (List Int)) (s : List Int) (w : World) (hn : c.length = n) (hm : s.length = m) (hC : IsC c) (hs4 : s.length ≤ 4) (hs1 : 1 ≤ s.length)
    (hs : ∀ t, t < s.length → 0 ≤ s.getD t 0 ∧ s.getD t 0 < c.length) (hasc : ∀ t, t + 1 < s.length → s.getD t 0 < s.getD (t + 1) 0) (hgc : gc < w.heap.size) (hg : g < w.heap.size) (hr : Rows2 w gc oc c) (hc : Cells w g o s) :
    Calls Tryz.prog 137 #[(Value.slice (some ⟨gc, oc, none⟩) n cc), (Value.slice (some ⟨g, o, none⟩) m cs)] w (fun e w' => ∃ g' cap rs, e = .returned (.tuple #[(Value.slice (some ⟨g', 0, none⟩) s.length cap), .bool true]) ∧ contents rs = pickL c s ∧ OwnRows w' w.heap.size g' cap rs ∧ Below w.heap.size w w') := by
  subst hn; subst hm
  have hb0 : Below w.heap.size w (w.alloc (.cells #[] 25)) := (by repeat (first | with_reducible exact Below.refl _ _ | with_reducible assumption | with_reducible refine below_drewN ?_ _ | with_reducible refine Below.drew ?_ | (with_reducible refine Below.alloc ?_ ?_ _; rotate_left; · first | (simp; done) | (simp; omega) | exact Below.size (by assumption) | (have hsz := Below.size (by assumption : Below _ _ _); simp at hsz ⊢; omega)) | (with_reducible refine Below.setCell ?_ ?_ _; rotate_left; · first | (simp; done) | (simp; omega))))
  have hn4 := hC.2.1
  have hz : ((s.length : Int) == 0) = false := by simp; intro e; subst e; simp at hs1
  go_enter Tryz.func137, Tryz.ntmps137
  go_wp2_with fail
  refine (spec_l3Set_ok gc oc _ cc g o _ cs c s _ rfl rfl (by omega) (by omega) (fun j hj => by have := hC.2.2.1 j hj; omega) hs hasc (hr.below hb0 hgc) (hc.below hb0 hg)).mono ?_
  rintro e w1 ⟨rfl, m1, rfl⟩
  rw [decide_eq_true hC]
  go_wp2_with fail
  go_loopw [6, 7, 8, 9] (fun x i _ _ wr => ∃ (t g' c' : Nat) (rs : List RowRef), t ≤ s.length ∧ i = .int .i64 t ∧ x = (Value.slice (some ⟨g', 0, none⟩) t c') ∧ Hid (rs.length = t) ∧ Hid (contents rs = (s.take t).map fun i => pickRow c i s) ∧ OwnRows wr w.heap.size g' c' rs ∧ Below w.heap.size w wr) (fun _ i _ _ _ => s.length - (intOf i).toNat)
  case atStart => exact ⟨0, w.heap.size, 0, [], Nat.zero_le _, rfl, rfl, rfl, rfl, (OwnRows.empty (w := w) (Nat.le_refl _)).drewN m1, below_drewN hb0 m1⟩
  case round =>
    obtain ⟨t, g', c', rs, ht, rfl, rfl, hrs, hcont, ho, hb⟩ := hrel
    by_cases hlt : t < s.length
    · have hst := hs t hlt
      have htk := take_map_succ (fun i => pickRow c i s) s t hlt
      obtain ⟨iN, hiN⟩ : ∃ iN : Nat, s.getD t 0 = iN := ⟨(s.getD t 0).toNat, by omega⟩
      have p1 := hc t hlt
      rw [hiN] at p1 hst htk
      have hic : iN < c.length := by omega
      have hicI : (iN : Int) < (c.length : Int) := by omega
      obtain ⟨ga, oa, ca, q1, q2, q3, q4⟩ := hr iN hic
      have hri := hC.2.2.1 iN hic
      rw [hri] at q1
      have Htk := Lib.hid htk; clear htk hst hiN
      obtain ⟨wo, rfl⟩ : ∃ wo : World, wo = wr := ⟨_, rfl⟩
      go_wp2
      go_loopw [8, 9] (fun x i wr => ∃ k gr cr : Nat, k ≤ s.length ∧ i = .int .i64 k ∧ x = (Value.slice (some ⟨gr, 0, none⟩) k cr) ∧ Own wr wo.heap.size gr cr (pickRow c iN (s.take k)) ∧ Below wo.heap.size wo wr) (fun _ i _ => s.length - (intOf i).toNat)
      case atStart => exact ⟨0, wo.heap.size, 0, Nat.zero_le _, rfl, rfl, Own.empty (Nat.le_refl _), (Below.refl _ _).alloc (Nat.le_refl _) _⟩
      case round =>
        obtain ⟨k, gr, cr, hk, rfl, rfl, hor, hb2⟩ := hrel
        have hbb : Below w.heap.size w wr := hb.trans (hb2.mono hb.size)
        by_cases hltk : k < s.length
        · have hsk := hs k hltk
          have htk2 := take_map_succ (fun j => ent c iN j.toNat) s k hltk
          obtain ⟨jN, hjN⟩ : ∃ jN : Nat, s.getD k 0 = jN := ⟨(s.getD k 0).toNat, by omega⟩
          have p2 := hc k hltk
          rw [hjN] at p2 hsk htk2
          rw [Int.toNat_natCast] at htk2
          have hjc : jN < c.length := by omega
          have Htk2 := Lib.hid htk2; clear htk2 hsk hjN
          have e2 := q4 jN (by rw [hri]; exact hjc)
          have hee : (c.getD iN []).getD jN 0 = ent c iN jN := rfl
          rw [hee] at e2
          have hpl : (pickRow c iN (s.take k)).length = k := by simp [pickRow]; omega
          have Hpl := Lib.hid hpl; clear hpl hee
          generalize ent c iN jN = y at *
          have hB : Below w.heap.size w wr.drew := Below.drew hbb
          have u1 : wr.drew.cell? ⟨g, o + t, none⟩ = some (.int .i64 iN) := (hB.cell (p := ⟨g, o + t, none⟩) hg).trans p1
          have u2 : wr.drew.cell? ⟨g, o + k, none⟩ = some (.int .i64 jN) := (hB.cell (p := ⟨g, o + k, none⟩) hg).trans p2
          have u3 : wr.drew.cell? ⟨gc, oc + iN, none⟩ = some (Value.slice (some ⟨ga, oa, none⟩) c.length ca) := (hB.cell (p := ⟨gc, oc + iN, none⟩) hgc).trans q1
          have u4 : wr.drew.cell? ⟨ga, oa + jN, none⟩ = some (.int .i64 y) := (hB.cell (p := ⟨ga, oa + jN, none⟩) q3).trans e2
          have hBg := hor.base
          have hsz := hb.size
          have ne1 : some g ≠ some gr := by intro e; cases e; omega
          have ne2 : some gc ≠ some gr := by intro e; cases e; omega
          have ne3 : some ga ≠ some gr := by intro e; cases e; omega
          have i1 : (0 : Int) ≤ (iN : Int) := by omega
          have i2 : (0 : Int) ≤ (jN : Int) := by omega
          have i3 : (jN : Int) < (c.length : Int) := by omega
          have hor' : Own wr.drew wo.heap.size gr cr (pickRow c iN (s.take k)) := hor.drew
          have bA : Below wr.drew.heap.size wr.drew ((wr.alloc (.cells #[.int .i64 y] 3)).drew) := (Below.refl _ wr.drew).alloc (Nat.le_refl _) (.cells #[.int .i64 y] 3)
          go_wp2_with fail
          go_region_held3 (fun W => W.cell? ⟨g, o + t, none⟩ = some (.int .i64 iN) ∧ W.cell? ⟨g, o + k, none⟩ = some (.int .i64 jN) ∧ W.cell? ⟨gc, oc + iN, none⟩ = some (Value.slice (some ⟨ga, oa, none⟩) c.length ca) ∧ W.cell? ⟨ga, oa + jN, none⟩ = some (.int .i64 y))
            (first | exact ⟨u1, u2, u3, u4⟩ | exact ⟨keepCell bA u1, keepCell bA u2, keepCell bA u3, keepCell bA u4⟩ | exact ⟨hg3.cell (a := ⟨g, o + t, none⟩) u1 ne1, hg3.cell (a := ⟨g, o + k, none⟩) u2 ne1, hg3.cell (a := ⟨gc, oc + iN, none⟩) u3 ne2, hg3.cell (a := ⟨ga, oa + jN, none⟩) u4 ne3⟩)
            ((refine step_append_int (w := wr.drew) (by rfl) _ _ (by rfl) wo.heap.size gr cr k wr.heap.size (pickRow c iN (s.take k)) y _ Hpl.out (by rfl) (by rfl) (by exact hor') (by rfl) (by rfl) (by omega) ?_; intro g3 c3 w3 ho3 hg3 hor3))
          go_wp2
          go_roundw
          case rel =>
            refine ⟨k + 1, g3, c3, by omega, by go_num, rfl, ?_, (Below.drew hb2).grown hg3 hb2.size (by intro j hj; cases hj; exact hor.base)⟩
            have := Htk2.out
            have e : pickRow c iN (s.take (k + 1)) = pickRow c iN (s.take k) ++ [y] := this
            rw [e]; exact ho3
          case measure => simp [intOf]; omega
        · obtain rfl : k = s.length := by omega
          rw [List.take_of_length_le (Nat.le_refl _)] at hor
          have hpl : (pickRow c iN s).length = s.length := by simp [pickRow]
          have ho2 := ho.below hb2
          have hne : ∀ r ∈ rs, r.1 ≠ gr := fun r hr => by have h1 := (ho.2.1 r hr).lt; have h2 := hor.base; omega
          have hor2 := hor.mono hb.size
          have hrow : rowVal (gr, cr, pickRow c iN s) = (Value.slice (some ⟨gr, 0, none⟩) s.length cr) := by unfold rowVal; rw [hpl]
          clear p1 hpl q1 q4
          go_wp2_with (at_builtin; refine wpList_append_row rfl _ _ rfl w.heap.size g' c' t wr.heap.size rs (gr, cr, pickRow c iN s) _ hrs.out (by rw [hrow]) rfl ho2 hor2 hne rfl rfl (by omega) ?_)
          intro g4 c4 w4 ho4 hg4 _
          go_wp2
          go_roundw
          case rel =>
            refine ⟨t + 1, g4, c4, rs ++ [(gr, cr, pickRow c iN s)], by omega, by go_num, rfl, by show _ = _; rw [List.length_append, hrs.out]; rfl, ?_, ho4, hbb.grown hg4 hbb.size (by intro j hj; cases hj; exact ho.base)⟩
            show _ = _
            rw [contents_push, hcont.out, Htk.out]
          case measure => simp [intOf]; omega
    · obtain rfl : t = s.length := by omega
      have hc2 := hcont.out
      rw [List.take_of_length_le (Nat.le_refl _)] at hc2
      have Hc2 := Lib.hid hc2
      clear hc2
      go_wp2
      go_ret2
      exact ⟨g', c', rs, rfl, Hc2.out, ho, hb⟩
end Go.Proofs.YtdedkfbiookofaaGreatDoor
namespace Go.Proofs.YtdedkfbiookofaaGreatDoor
set_option maxRecDepth 100000
open Go.RowKit
theorem setTo_eq_setL {m n : Nat} (hn : n ≤ 4) (hm : m < 2 ^ n) : setTo m n = setL m := by
  have h := setTo_stop (m := m) (t := n) (Nat.div_eq_of_lt hm) (4 - n)
  have h4 : n + (4 - n) = 4 := by omega
  rw [h4] at h
  exact h.symm
theorem setL_ne (m : Nat) (h1 : 1 ≤ m) (h2 : m ≤ 15) : 1 ≤ (setL m).length := by
  have : ∀ m, m < 16 → 1 ≤ m → 1 ≤ (setL m).length := by decide
  exact this m (by omega) h1
theorem setL_asc (m : Nat) (t : Nat) (ht : t + 1 < (setL m).length) : (setL m).getD t 0 < (setL m).getD (t + 1) 0 := by
  have hp : (setNat m 4).Pairwise (· < ·) := List.Pairwise.filter _ List.pairwise_lt_range
  have hl : (setL m).length = (setNat m 4).length := by simp [setL, setTo]
  have h1 : t < (setNat m 4).length := by omega
  have h2 : t + 1 < (setNat m 4).length := by omega
  have := List.pairwise_iff_getElem.1 hp t (t + 1) h1 h2 (by omega)
  simp only [setL, setTo, List.getD, List.getElem?_map]
  rw [List.getElem?_eq_getElem h1, List.getElem?_eq_getElem h2]
  simpa using this
set_option maxHeartbeats 4000000 in
theorem spec_WitnessOf_any (g o n cp : Nat) (c : List (List Int)) (w : World) (hn : c.length = n) (hx : c.length ≤ 1048576) (hrl : ∀ j, j < c.length → (c.getD j []).length ≤ 1048576) (hg : g < w.heap.size) (hr : Rows2 w g o c) :
    Calls Tryz.prog 134 #[(Value.slice (some ⟨g, o, none⟩) n cp)] w (GotInts w (witness c)) := by
  subst hn
  go_enter Tryz.func134, Tryz.ntmps134
  go_wp2_with fail
  refine (spec_IsCartan g o _ cp c w rfl (by omega) (fun j hj => by have := hrl j hj; omega) hr).mono ?_
  rintro e w1 ⟨rfl, m1, rfl⟩
  by_cases hC : IsC c
  · have hC' : decide (IsC c) = true := decide_eq_true hC
    rw [hC']
    have hn4 := hC.2.1
    have hn1 := hC.1
    go_wp2_with fail
    refine (spec_l4Sets_any c.length (w.drewN m1) hn4).mono ?_
    rintro e w2 ⟨g2, c2, rs2, rfl, hc2, ho2, hb2⟩
    have hbb2 : Below w.heap.size w w2 := (below_drewN' w m1).trans hb2
    have hQ := pow_le16 hn4
    have hwit : witness c = witFrom c 1 (2 ^ c.length - 1) := by unfold witness; rw [if_pos hC]
    have hsz : (setsTo c.length (2 ^ c.length - 1)).length = 2 ^ c.length - 1 := setsTo_length _ _
    obtain ⟨Q, hQe⟩ : ∃ Q, 2 ^ c.length - 1 = Q := ⟨_, rfl⟩
    rw [hQe] at hsz hc2 hwit ⊢
    rw [hsz]
    have hQ15 : Q ≤ 15 := by omega
    have HQe := Lib.hid hQe; clear hQe hsz hQ
    have hrow : ∀ k, k < Q → (contents rs2).getD k [] = setL (k + 1) := by
      intro k hk
      rw [hc2]
      simp only [setsTo, List.getD, List.getElem?_map, List.getElem?_range hk]
      exact setTo_eq_setL hn4 (by have := HQe.out; omega)
    have hrl2 : rs2.length = Q := by have := congrArg List.length hc2; rw [setsTo_length] at this; simpa [contents] using this
    have Hrow := Lib.hid hrow; have Hrl2 := Lib.hid hrl2; have Hwit := Lib.hid hwit
    clear hrow hrl2 hc2 hwit
    go_wp2_with fail
    go_loopw [4, 5, 6] (fun i _ _ wr => ∃ k : Nat, k ≤ Q ∧ i = .int .i64 k ∧ Hid (witness c = witFrom c (k + 1) (Q - k)) ∧ Below w.heap.size w wr ∧ OwnRows wr w.heap.size g2 c2 rs2) (fun i _ _ _ => Q - (intOf i).toNat)
    case atStart => exact ⟨0, Nat.zero_le _, rfl, Hwit.out, hbb2, ho2.mono (Nat.le_refl _)⟩
    case round =>
      obtain ⟨k, hk, rfl, hw, hb, ho⟩ := hrel
      by_cases hlt : k < Q
      · have hkr : k < rs2.length := by rw [Hrl2.out]; exact hlt
        have hcell := ho.1.cell k (by simpa using hkr)
        have hmem : rs2[k] ∈ rs2 := List.getElem_mem hkr
        have howk := ho.2.1 _ hmem
        have hcont : rs2[k].2.2 = setL (k + 1) := by
          have := Hrow.out k hlt
          rw [← this]
          simp [contents, List.getD, hkr]
        obtain ⟨ga, ca, hra⟩ : ∃ ga ca, rs2[k] = (ga, ca, setL (k + 1)) := ⟨rs2[k].1, rs2[k].2.1, by rw [← hcont]⟩
        rw [hra] at howk
        have hcell' : wr.cell? ⟨g2, k, none⟩ = some (Value.slice (some ⟨ga, 0, none⟩) ((setL (k + 1)).length) ca) := by
          rw [hcell]
          simp only [List.getElem_map, hra]; rfl
        have howk' : Own wr w.heap.size ga ca (setL (k + 1)) := howk
        have hstep : witFrom c (k + 1) (Q - k) = if minorAt c (k + 1) ≤ 0 then setL (k + 1) else witFrom c (k + 1 + 1) (Q - (k + 1)) := by
          rw [show Q - k = (Q - (k + 1)) + 1 by omega]; rfl
        have hmd : minorAt c (k + 1) = det (setL (k + 1)).length (pickL c (setL (k + 1))) := rfl
        have hsl := setL_len (k + 1)
        have hs1 := setL_ne (k + 1) (by omega) (by omega)
        have hsin := fun t ht => setL_in (m := k + 1) (n := c.length) (by have := HQe.out; omega) t ht
        have hasc := setL_asc (k + 1)
        have hpsq := pick_sq hC (setL (k + 1))
        have hmb := minorAt_bound hC (k + 1)
        have hpl : (pickL c (setL (k + 1))).length = (setL (k + 1)).length := by simp [pickL]
        have Hstep := Lib.hid hstep
        clear hcell hmem howk hcont hra hstep
        generalize setL (k + 1) = s at *
        have Hsin := Lib.hid hsin; have Hasc := Lib.hid hasc; have Hpsq := Lib.hid hpsq; have Hpl := Lib.hid hpl
        clear hsin hasc hpsq hpl
        go_wp2_with fail
        refine (spec_SubCartan_ok g o _ cp ga 0 _ ca c s wr rfl rfl hC hsl hs1 Hsin.out Hasc.out (Nat.lt_of_lt_of_le hg hb.size) howk'.lt (hr.below hb hg) howk'.cells).mono ?_
        rintro e w3 ⟨g3, c3, rs3, rfl, hc3, ho3, hb3⟩
        have hB3 := hb.trans (hb3.mono hb.size)
        go_wp2_with fail
        refine (spec_l4Det_any s.length hsl g3 0 c3 (pickL c s) w3 Hpsq.out ho3.lt (by rw [← hc3]; exact ho3.rows2)).mono ?_
        rintro e w4 ⟨rfl, hb4⟩
        rw [← hmd]
        have hB4 := hB3.trans (hb4.mono hB3.size)
        have ho4 := (ho.below hb3).below hb4
        have how4 := (howk'.below hb3 howk'.lt).below hb4 (Nat.lt_of_lt_of_le howk'.lt hb3.size)
        have hcell4 := keepCell hb4 (keepCell hb3 hcell')
        generalize minorAt c (k + 1) = d at *
        clear hb3 hb4 ho3 hB3 hmd hcell' howk' ho hb
        by_cases hd : d ≤ 0
        · go_wp2_with fail
          go_ret
          rw [hw.out, Hstep.out, if_pos hd]
          exact GotInts.mk' ga ca rfl how4 hB4
        · go_wp2_with fail
          go_roundw
          case rel => exact ⟨k + 1, by omega, by go_num, by show _ = _; rw [hw.out, Hstep.out, if_neg (by omega)], hB4, ho4⟩
          case measure => simp [intOf]; omega
      · obtain rfl : Q = k := by omega
        go_wp2
        go_ret
        have hw2 := hw.out
        rw [Nat.sub_self] at hw2
        rw [hw2]
        exact GotInts.mk' wr.heap.size 0 rfl (Own.empty (w := wr) hb.size) (hb.alloc hb.size _)
  · have hC' : decide (IsC c) = false := decide_eq_false hC
    have hwit : witness c = [] := by unfold witness; rw [if_neg hC]
    rw [hC']
    clear hC
    go_wp2_with fail
    go_ret
    rw [hwit]
    exact GotInts.mk' w.heap.size 0 rfl (Own.empty (w := w.drewN m1) (Nat.le_refl _)) ((below_drewN' w m1).alloc (Nat.le_refl _) _)
set_option maxHeartbeats 1000000 in
theorem spec_IsFinite_any (g o n cp : Nat) (c : List (List Int)) (w : World) (hn : c.length = n) (hx : c.length ≤ 1048576) (hrl : ∀ j, j < c.length → (c.getD j []).length ≤ 1048576) (hg : g < w.heap.size) (hr : Rows2 w g o c) :
    Calls Tryz.prog 97 #[(Value.slice (some ⟨g, o, none⟩) n cp)] w (Gives w (.bool (finB c))) := by
  have hwl := witness_len c
  go_enter Tryz.func97, Tryz.ntmps97
  go_wp2_with fail
  refine (spec_IsCartan g o n cp c w hn (by omega) (fun j hj => by have := hrl j hj; omega) hr).mono ?_
  rintro e w1 ⟨rfl, m1, rfl⟩
  by_cases hC : IsC c
  · have hC' : decide (IsC c) = true := decide_eq_true hC
    have hf : finB c = ((witness c).length == 0) := by unfold finB; rw [hC']; simp
    rw [hC']
    go_wp2_with fail
    refine (spec_WitnessOf_any g o n cp c (w.drewN m1) hn hx hrl hg hr).mono ?_
    rintro e w2 ⟨g2, c2, rfl, ho2, hb2⟩
    generalize (witness c).length = L at *
    go_wp2_with fail
    go_ret
    refine ⟨?_, (below_drewN' w m1).trans hb2⟩
    rw [hf]
    refine ret_bool ?_
    by_cases h0 : L = 0
    · subst h0; rfl
    · have e1 : (L == 0) = false := by simpa using h0
      have e2 : ((L : Int) == 0) = false := by simp; omega
      rw [e1, e2]
  · have hC' : decide (IsC c) = false := decide_eq_false hC
    have hf : finB c = false := by unfold finB; rw [hC']; simp
    rw [hC']
    clear hC
    go_wp2_with fail
    go_ret
    exact ⟨by rw [hf]; rfl, below_drewN' w m1⟩
end Go.Proofs.YtdedkfbiookofaaGreatDoor
namespace Go.Proofs.YtdedkfbiookofaaGreatDoor
set_option maxRecDepth 100000
open Go.RowKit
/-- the first negative place -/
def firstNeg : List Int → Option Nat
  | [] => none
  | x :: l => if x < 0 then some 0 else (firstNeg l).map (· + 1)
def firstNegI (v : List Int) : Int := match firstNeg v with | none => -1 | some i => i
theorem firstNeg_lt {v : List Int} {i : Nat} (h : firstNeg v = some i) : i < v.length ∧ v.getD i 0 < 0 ∧ ∀ j, j < i → 0 ≤ v.getD j 0 := by
  induction v generalizing i with
  | nil => simp [firstNeg] at h
  | cons x l ih =>
    simp only [firstNeg] at h
    split at h
    · simp at h; subst h; refine ⟨by simp, by simpa [List.getD] using by assumption, by omega⟩
    · rename_i hx
      cases hl : firstNeg l with
      | none => rw [hl] at h; simp at h
      | some k =>
        rw [hl] at h; simp at h; subst h
        have := ih hl
        refine ⟨by simp; omega, by simpa [List.getD] using this.2.1, fun j hj => ?_⟩
        cases j with
        | zero => simp [List.getD]; omega
        | succ j => have := this.2.2 j (by omega); simpa [List.getD] using this
theorem firstNeg_none {v : List Int} (h : firstNeg v = none) : ∀ j, j < v.length → 0 ≤ v.getD j 0 := by
  induction v with
  | nil => intro j hj; simp at hj
  | cons x l ih =>
    simp only [firstNeg] at h
    split at h
    · simp at h
    · rename_i hx
      have hl : firstNeg l = none := by cases hl : firstNeg l with
        | none => rfl
        | some k => rw [hl] at h; simp at h
      intro j hj
      cases j with
      | zero => simp [List.getD]; omega
      | succ j => have := ih hl j (by simpa using hj); simpa [List.getD] using this
theorem firstNeg_of {v : List Int} {i : Nat} (hi : i < v.length) (h : v.getD i 0 < 0) (hb : ∀ j, j < i → 0 ≤ v.getD j 0) : firstNeg v = some i := by
  cases hf : firstNeg v with
  | none => have := firstNeg_none hf i hi; omega
  | some k =>
    have hk := firstNeg_lt hf
    rcases Nat.lt_trichotomy i k with h1 | h1 | h1
    · have := hk.2.2 i h1; omega
    · rw [h1]
    · have := hb k h1; omega
theorem firstNeg_nil {v : List Int} (hb : ∀ j, j < v.length → 0 ≤ v.getD j 0) : firstNeg v = none := by
  cases hf : firstNeg v with
  | none => rfl
  | some k => have hk := firstNeg_lt hf; have := hb k hk.1; omega
set_option maxHeartbeats 1000000 in
theorem impl_firstDescent_any (g o n cp : Nat) (v : List Int) (w : World) (hn : v.length = n) (hx : v.length ≤ 1048576) (hc : Cells w g o v) :
    Calls Tryz.prog 144 #[(Value.slice (some ⟨g, o, none⟩) n cp)] w (Reads w (.int .i64 (firstNegI v))) := by
  subst hn
  go_enter Tryz.func144, Tryz.ntmps144
  go_wp2
  go_loopw [7] (fun i wr => ∃ k : Nat, k ≤ v.length ∧ i = .int .i64 k ∧ Hid (∀ j, j < k → 0 ≤ v.getD j 0) ∧ ∃ m, wr = w.drewN m) (fun i _ => v.length - (intOf i).toNat)
  case atStart => exact ⟨0, Nat.zero_le _, rfl, fun j hj => absurd hj (by omega), (by first | exact ⟨_, rfl⟩ | exact ⟨0, rfl⟩ | exact still2 _ _ _ | exact still3 _ _ _ _)⟩
  case round =>
    obtain ⟨k, hk, rfl, hall, m, rfl⟩ := hrel
    by_cases hlt : k < v.length
    · have q1 := hc k hlt
      have HX : Hid (v.getD k 0 < 0 → firstNegI v = k) := fun h => by unfold firstNegI; rw [firstNeg_of hlt h hall.out]
      have HY : Hid (0 ≤ v.getD k 0 → ∀ j, j < k + 1 → 0 ≤ v.getD j 0) := fun h j hj => by
        by_cases e : j = k
        · subst e; exact h
        · exact hall.out j (by omega)
      generalize v.getD k 0 = x at *
      by_cases hneg : x < 0
      · have hf := HX.out hneg
        have Hf := Lib.hid hf; clear hf
        go_wp2
        go_ret
        exact ⟨ret_int Hf.out.symm, (by first | exact ⟨_, rfl⟩ | exact ⟨0, rfl⟩ | exact still2 _ _ _ | exact still3 _ _ _ _)⟩
      · go_wp2
        go_roundw
        case rel => exact ⟨k + 1, by omega, by go_num, HY.out (by omega), (by first | exact ⟨_, rfl⟩ | exact ⟨0, rfl⟩ | exact still2 _ _ _ | exact still3 _ _ _ _)⟩
        case measure => simp [intOf]; omega
    · obtain rfl : k = v.length := by omega
      have hf : firstNegI v = -1 := by unfold firstNegI; rw [firstNeg_nil hall.out]
      have Hf := Lib.hid hf; clear hf
      go_wp2
      go_ret
      exact ⟨ret_int Hf.out.symm, (by first | exact ⟨_, rfl⟩ | exact ⟨0, rfl⟩ | exact still2 _ _ _ | exact still3 _ _ _ _)⟩
/-- a word applied, the last letter first -/
def actW (c : List (List Int)) : List Int → List Int → List Int
  | [], v => v
  | i :: l, v => refl c i.toNat (actW c l v)
theorem actW_length (c : List (List Int)) (l v : List Int) : (actW c l v).length = v.length := by
  induction l with
  | nil => rfl
  | cons i l ih => simp [actW, refl_length, ih]
theorem actW_drop (c : List (List Int)) (l v : List Int) (k : Nat) (hk : k < l.length) : actW c (l.drop k) v = refl c (l.getD k 0).toNat (actW c (l.drop (k + 1)) v) := by
  have e : l.drop k = l[k] :: l.drop (k + 1) := List.drop_eq_getElem_cons hk
  rw [e]; simp [actW, List.getD, hk]
set_option maxHeartbeats 2000000 in
theorem impl_acted_any (gc oc n cc g1 o1 n1 c1 g2 o2 n2 c2 : Nat) (c : List (List Int)) (l v : List Int) (w : World) (hn : c.length = n) (hn1 : l.length = n1) (hn2 : v.length = n2) (hC : IsC c) (hv : v.length = c.length) (hl : l.length ≤ 1048576)
    (hin : ∀ k, k < l.length → 0 ≤ l.getD k 0 ∧ l.getD k 0 < c.length) (hgc : gc < w.heap.size) (hg1 : g1 < w.heap.size) (hg2 : g2 < w.heap.size) (hr : Rows2 w gc oc c) (hc1 : Cells w g1 o1 l) (hc2 : Cells w g2 o2 v) :
    Calls Tryz.prog 140 #[(Value.slice (some ⟨gc, oc, none⟩) n cc), (Value.slice (some ⟨g1, o1, none⟩) n1 c1), (Value.slice (some ⟨g2, o2, none⟩) n2 c2)] w (GotInts w (actW c l v)) := by
  subst hn; subst hn1; subst hn2
  have hn4 := hC.2.1
  have ew : IntKind.i64.wrap ((l.length : Int) - 1) = (l.length : Int) - 1 := IntWalk.i64_in _ (by omega)
  have hv4 : v.length ≤ 4 := by omega
  have Hv := Lib.hid hv; clear hv
  go_enter Tryz.func140, Tryz.ntmps140
  go_wp2_with (at_builtin; refine wpList_clone rfl _ _ rfl g2 o2 _ c2 v rfl hg2 hc2 rfl rfl (by omega) ?_)
  intro gv cv w1 ho1 hb1
  go_wp2
  clear ew
  go_loopw [8] (fun i wr => ∃ (k : Nat) (j : Int), k ≤ l.length ∧ i = .int .i64 j ∧ j = (k : Int) - 1 ∧ Own wr w.heap.size gv cv (actW c (l.drop k) v) ∧ Below w.heap.size w wr) (fun i _ => (intOf i + 1).toNat)
  case atStart => exact ⟨l.length, _, Nat.le_refl _, rfl, rfl, by rw [List.drop_length]; exact ho1, hb1⟩
  case round =>
    obtain ⟨k, j, hk, rfl, hj, ho, hb⟩ := hrel
    by_cases hlt : 0 < k
    · obtain ⟨t, rfl⟩ : ∃ t, k = t + 1 := ⟨k - 1, by omega⟩
      obtain rfl : j = (t : Int) := by omega
      have htl : t < l.length := by omega
      have q1 := hc1.below hb hg1 t htl
      have hit := hin t htl
      have hd := actW_drop c l v t htl
      obtain ⟨iN, hiN⟩ : ∃ iN : Nat, l.getD t 0 = iN := ⟨(l.getD t 0).toNat, by omega⟩
      rw [hiN] at q1 hit hd
      rw [Int.toNat_natCast] at hd
      have hic : iN < c.length := by omega
      have hal : (actW c (l.drop (t + 1)) v).length = v.length := actW_length _ _ _
      have hcall := impl_reflected_any w gc oc _ cc gv cv iN v.length c (actW c (l.drop (t + 1)) v) wr rfl hal (by rw [hal]; exact Hv.out) hn4 hC.2.2.1 hic hgc hr hb ho
      have Hcall := Lib.hid hcall; have Hd := Lib.hid hd
      clear hcall hd hiN hal hit
      clear hj
      go_wp2_with fail
      refine Hcall.out.mono ?_
      rintro e w2 ⟨rfl, ho2, hg2⟩
      go_wp2_with fail
      go_roundw
      case rel =>
        rw [← Hd.out] at ho2
        exact ⟨t, (t : Int) - 1, by omega, by go_num, rfl, ho2, hb.grown hg2 hb.size (by intro j hj; cases hj; exact ho.base)⟩
      case measure => simp [intOf]
    · obtain rfl : k = 0 := by omega
      obtain rfl : j = -1 := by omega
      clear hj
      go_wp2
      go_ret
      exact GotInts.mk' gv cv (actW_length _ _ _) ho hb
end Go.Proofs.YtdedkfbiookofaaGreatDoor
namespace Go.Proofs.YtdedkfbiookofaaGreatDoor
set_option maxRecDepth 100000
open Go.RowKit
def lenOfV : Value → Nat | .slice _ n _ => n | _ => 0
def nz (v : List Int) : Bool := v.all fun x => x != 0
/-- the normal form of what a vector tells, where it comes to an end within so many steps and meets no 0 -/
def normG (c : List (List Int)) : Nat → List Int → Option (List Int)
  | 0, v => if nz v && (firstNeg v).isNone then some [] else none
  | f + 1, v => if nz v then match firstNeg v with
      | none => some []
      | some i => (normG c f (refl c i v)).map fun l => (i : Int) :: l
    else none
theorem normG_none {c : List (List Int)} {f : Nat} {v rest : List Int} (h : normG c f v = some rest) (hf : firstNeg v = none) : rest = [] := by
  cases f with
  | zero => simp only [normG] at h; split at h <;> simp_all
  | succ f => simp only [normG, hf] at h; split at h <;> simp_all
theorem normG_some {c : List (List Int)} {f : Nat} {v rest : List Int} {i : Nat} (h : normG c f v = some rest) (hf : firstNeg v = some i) :
    ∃ f' rest', f = f' + 1 ∧ rest = (i : Int) :: rest' ∧ normG c f' (refl c i v) = some rest' := by
  cases f with
  | zero => simp only [normG, hf] at h; simp at h
  | succ f =>
    simp only [normG, hf] at h
    split at h
    · cases hr : normG c f (refl c i v) with
      | none => rw [hr] at h; simp at h
      | some l => rw [hr] at h; simp at h; exact ⟨f, l, rfl, h.symm, hr⟩
    · simp at h
theorem normG_nz {c : List (List Int)} {f : Nat} {v rest : List Int} (h : normG c f v = some rest) : ∀ j, j < v.length → v.getD j 0 ≠ 0 := by
  have hz : nz v = true := by
    cases f with
    | zero => simp only [normG] at h; split at h <;> simp_all
    | succ f => simp only [normG] at h; split at h <;> simp_all
  intro j hj
  have := List.all_eq_true.1 hz v[j] (List.getElem_mem hj)
  simpa [List.getD, hj] using this
theorem normG_len {c : List (List Int)} : ∀ {f : Nat} {v rest : List Int}, normG c f v = some rest → rest.length ≤ f := by
  intro f
  induction f with
  | zero => intro v rest h; simp only [normG] at h; split at h <;> simp_all
  | succ f ih =>
    intro v rest h
    cases hf : firstNeg v with
    | none => rw [normG_none h hf]; simp
    | some i =>
      obtain ⟨f', rest', e, rfl, h'⟩ := normG_some h hf
      have := ih (by rw [show f = f' by omega]; exact h')
      simp; omega
theorem normG_in {c : List (List Int)} : ∀ {f : Nat} {v rest : List Int}, normG c f v = some rest → ∀ k, k < rest.length → 0 ≤ rest.getD k 0 ∧ rest.getD k 0 < v.length := by
  intro f
  induction f with
  | zero => intro v rest h; simp only [normG] at h; split at h <;> simp_all
  | succ f ih =>
    intro v rest h
    cases hf : firstNeg v with
    | none => rw [normG_none h hf]; simp
    | some i =>
      obtain ⟨f', rest', e, rfl, h'⟩ := normG_some h hf
      intro k hk
      cases k with
      | zero => have := (firstNeg_lt hf).1; simp [List.getD]; omega
      | succ k =>
        have := ih (by rw [show f = f' by omega]; exact h') k (by simpa using hk)
        rw [refl_length] at this
        simpa [List.getD] using this
def onesL (n : Nat) : List Int := List.replicate n 1
set_option maxHeartbeats 1000000 in
theorem impl_ones_any (n : Nat) (w : World) (hn : n ≤ 1048576) : Calls Tryz.prog 141 #[.int .i64 n] w (GotInts w (onesL n)) := by
  go_enter Tryz.func141, Tryz.ntmps141
  go_wp2
  go_loopw [3, 6] (fun s i wr => ∃ t g' c' : Nat, t ≤ n ∧ i = .int .i64 t ∧ s = (Value.slice (some ⟨g', 0, none⟩) t c') ∧ Own wr w.heap.size g' c' (onesL t) ∧ Below w.heap.size w wr) (fun _ i _ => n - (intOf i).toNat)
  case atStart => exact ⟨0, w.heap.size, 0, Nat.zero_le _, rfl, rfl, Own.empty (w := w) (Nat.le_refl _), (Below.refl _ _).alloc (Nat.le_refl _) _⟩
  case round =>
    obtain ⟨t, g', c', ht, rfl, rfl, ho, hb⟩ := hrel
    by_cases hlt : t < n
    · have hI : (t : Int) < n := by omega
      go_wp2_with (at_builtin; refine wpList_append_int_n rfl _ _ rfl w.heap.size g' c' t (onesL t) 1 (by simp [onesL]) ho rfl rfl (by omega) ?_)
      intro g3 c3 w3 ho3 hg3 _
      go_wp2
      go_roundw
      case rel =>
        have e : onesL t ++ [1] = onesL (t + 1) := by unfold onesL; rw [List.replicate_succ']
        rw [e] at ho3
        exact ⟨t + 1, g3, c3, by omega, by go_num, rfl, ho3, hb.grown hg3 hb.size (by intro j hj; cases hj; exact ho.base)⟩
      case measure => simp [intOf]; omega
    · obtain rfl : n = t := by omega
      go_wp2
      go_ret
      exact GotInts.mk' g' c' (by simp [onesL]) ho hb
set_option maxHeartbeats 1000000 in
theorem impl_image_any (gc oc n cc g1 o1 n1 c1 : Nat) (c : List (List Int)) (l : List Int) (w : World) (hn : c.length = n) (hn1 : l.length = n1) (hC : IsC c) (hl : l.length ≤ 1048576)
    (hin : ∀ k, k < l.length → 0 ≤ l.getD k 0 ∧ l.getD k 0 < c.length) (hgc : gc < w.heap.size) (hg1 : g1 < w.heap.size) (hr : Rows2 w gc oc c) (hc1 : Cells w g1 o1 l) :
    Calls Tryz.prog 112 #[(Value.slice (some ⟨gc, oc, none⟩) n cc), (Value.slice (some ⟨g1, o1, none⟩) n1 c1)] w (GotInts w (actW c l (onesL c.length))) := by
  subst hn; subst hn1
  have hn4 := hC.2.1
  go_enter Tryz.func112, Tryz.ntmps112
  go_wp2_with fail
  refine (impl_ones_any c.length w (by omega)).mono ?_
  rintro e w1 ⟨g2, c2, rfl, ho2, hb2⟩
  have hol : (onesL c.length).length = c.length := by simp [onesL]
  rw [hol]
  go_wp2_with fail
  refine (impl_acted_any gc oc _ cc g1 o1 _ c1 g2 0 _ c2 c l (onesL c.length) w1 rfl rfl hol hC hol hl hin (Nat.lt_of_lt_of_le hgc hb2.size) (Nat.lt_of_lt_of_le hg1 hb2.size) ho2.lt (hr.below hb2 hgc) (hc1.below hb2 hg1) ho2.cells).mono ?_
  rintro e w3 ⟨g3, c3, rfl, ho3, hb3⟩
  go_wp2_with fail
  go_ret
  exact ⟨g3, c3, rfl, ho3.mono hb2.size, hb2.trans (hb3.mono hb2.size)⟩
set_option maxHeartbeats 2000000 in
theorem impl_normal_any (gc oc n cc g2 o2 n2 c2 f : Nat) (c : List (List Int)) (v word : List Int) (w : World) (hn : c.length = n) (hn2 : v.length = n2) (hC : IsC c) (hv : v.length = c.length) (hf : f ≤ 1000) (hword : normG c f v = some word)
    (hgc : gc < w.heap.size) (hg2 : g2 < w.heap.size) (hr : Rows2 w gc oc c) (hc2 : Cells w g2 o2 v) :
    Calls Tryz.prog 131 #[(Value.slice (some ⟨gc, oc, none⟩) n cc), (Value.slice (some ⟨g2, o2, none⟩) n2 c2)] w (GotInts w word) := by
  subst hn; subst hn2
  have hn4 := hC.2.1
  have hv4 : v.length ≤ 4 := by omega
  have Hv := Lib.hid hv; clear hv
  have hwl := normG_len hword
  go_enter Tryz.func131, Tryz.ntmps131
  go_wp2_with (at_builtin; refine wpList_clone rfl _ _ rfl g2 o2 _ c2 v rfl hg2 hc2 rfl rfl (by omega) ?_)
  intro gv cv w1 ho1 hb1
  go_wp2
  go_loopw [5, 6] (fun s _ wr => ∃ (p g' c' f' : Nat) (u pre rest : List Int), s = (Value.slice (some ⟨g', 0, none⟩) p c') ∧ Hid (pre.length = p) ∧ p + rest.length ≤ 1000 ∧ u.length = v.length ∧ Hid (normG c f' u = some rest) ∧ Hid (word = pre ++ rest) ∧ Own wr w.heap.size gv cv u ∧ Own wr w.heap.size g' c' pre ∧ gv ≠ g' ∧ Below w.heap.size w wr) (fun s _ _ => 1001 - lenOfV s)
  case atStart =>
    refine ⟨0, w1.heap.size, 0, f, v, [], word, rfl, rfl, by omega, rfl, hword, rfl, ho1.alloc _, Own.empty (w := w1) hb1.size, by have := ho1.lt; omega, hb1.alloc hb1.size _⟩
  case round =>
    obtain ⟨p, g', c', f', u, pre, rest, rfl, hp, hpl, hul, hnorm, hw, hou, hop, hne, hb⟩ := hrel
    have hfd := impl_firstDescent_any gv 0 v.length cv u wr hul (by omega) hou.cells
    have Hul := Lib.hid hul
    cases hfn : firstNeg u with
    | none =>
      have hI : firstNegI u = -1 := by unfold firstNegI; rw [hfn]
      rw [hI] at hfd
      have hrest := normG_none hnorm.out hfn
      have Hfd := Lib.hid hfd; have Hrest := Lib.hid hrest
      clear hfd hI hfn hul hrest
      go_wp2_with fail
      refine Hfd.out.mono ?_
      rintro e w2 ⟨rfl, m2, rfl⟩
      go_wp2_with fail
      go_ret
      rw [hw.out, Hrest.out, List.append_nil]
      exact GotInts.mk' g' c' hp.out (hop.drewN m2) (below_drewN hb m2)
    | some i =>
      have hI : firstNegI u = i := by unfold firstNegI; rw [hfn]
      rw [hI] at hfd
      obtain ⟨f2, rest2, -, hrest, hn2⟩ := normG_some hnorm.out hfn
      have hil := (firstNeg_lt hfn).1
      rw [hul] at hil
      have hic : i < c.length := by have := Hv.out; omega
      have hiI : ¬ ((i : Int) < 0) := by omega
      subst hrest
      have hpl2 : p + rest2.length + 1 ≤ 1000 := by simp at hpl; omega
      have Hfd := Lib.hid hfd; have Hn2 := Lib.hid hn2
      clear hfd hI hfn hul hn2 hnorm hpl
      go_wp2_with fail
      refine Hfd.out.mono ?_
      rintro e w2 ⟨rfl, m2, rfl⟩
      go_wp2_with (at_builtin; refine wpList_append_int_n (w := wr.drewN m2) rfl _ _ rfl w.heap.size g' c' p pre (i : Int) hp.out (hop.drewN m2) rfl rfl (by omega) ?_)
      intro g3 c3 w3 ho3 hg3 hor
      have hb3 : Below w.heap.size w w3 := (below_drewN hb m2).grown hg3 hb.size (by intro j hj; cases hj; exact hop.base)
      have hou3 : Own w3 w.heap.size gv cv u := (hou.drewN m2).grown hg3 (by intro e; cases e; exact hne rfl)
      have hne3 : gv ≠ g3 := by
        rcases hor with h | h
        · rw [h]; exact hne
        · have h1 := hou.lt
          have h2 : wr.heap.size < g3 := h
          omega
      have hcall := impl_reflected_any w gc oc _ cc gv cv i v.length c u w3 rfl Hul.out (by rw [Hul.out]; exact Hv.out) hn4 hC.2.2.1 hic hgc hr hb3 hou3
      have Hcall := Lib.hid hcall; clear hcall
      go_wp2_with fail
      refine Hcall.out.mono ?_
      rintro e w4 ⟨rfl, ho4, hg4⟩
      go_wp2_with fail
      go_roundw
      case rel =>
        refine ⟨p + 1, g3, c3, f2, refl c i u, pre ++ [(i : Int)], rest2, rfl, ?_, by omega, by rw [refl_length]; exact Hul.out, Hn2.out, ?_, ho4, ho3.grown hg4 (by intro e; cases e; exact hne3 rfl), hne3, hb3.grown hg4 hb3.size (by intro j hj; cases hj; exact hou.base)⟩
        · show _ = _; rw [List.length_append, hp.out]; rfl
        · show _ = _; rw [hw.out, List.append_assoc]; rfl
      case measure => simp [lenOfV]; omega
end Go.Proofs.YtdedkfbiookofaaGreatDoor
namespace Go.Proofs.YtdedkfbiookofaaGreatDoor
set_option maxRecDepth 100000
open Go.RowKit
set_option maxHeartbeats 4000000 in
theorem spec_l8Form_any (gc oc n cc g2 o2 n2 c2 f : Nat) (c : List (List Int)) (v word : List Int) (w : World) (hn : c.length = n) (hn2 : v.length = n2) (hC : IsC c) (hv : v.length = c.length) (hf : f ≤ 30) (hword : normG c f v = some word)
    (hgc : gc < w.heap.size) (hg2 : g2 < w.heap.size) (hr : Rows2 w gc oc c) (hc2 : Cells w g2 o2 v) :
    Calls Tryz.prog 94 #[(Value.slice (some ⟨gc, oc, none⟩) n cc), (Value.slice (some ⟨g2, o2, none⟩) n2 c2)] w (GotInts w word) := by
  subst hn; subst hn2
  have hn4 := hC.2.1
  have hv4 : v.length ≤ 4 := by omega
  have Hv := Lib.hid hv; clear hv
  have hwl := normG_len hword
  go_enter Tryz.func94, Tryz.ntmps94
  go_wp2
  go_loopw [1, 5, 6, 7] (fun vv s i _ wr => ∃ (p g' c' f' gu ou cu : Nat) (u pre rest : List Int), i = .int .i64 p ∧ s = (Value.slice (some ⟨g', 0, none⟩) p c') ∧ vv = (Value.slice (some ⟨gu, ou, none⟩) v.length cu) ∧ Hid (pre.length = p) ∧ p + f' ≤ 30 ∧ u.length = v.length ∧ Hid (normG c f' u = some rest) ∧ Hid (word = pre ++ rest) ∧ Cells wr gu ou u ∧ gu < wr.heap.size ∧ Own wr w.heap.size g' c' pre ∧ gu ≠ g' ∧ Below w.heap.size w wr) (fun _ _ i _ _ => 31 - (intOf i).toNat)
  case atStart =>
    exact ⟨0, w.heap.size, 0, f, g2, o2, c2, v, [], word, rfl, rfl, rfl, rfl, by omega, rfl, hword, rfl, hc2.below ((Below.refl _ _).alloc (Nat.le_refl _) _) hg2, by simp; omega, Own.empty (w := w) (Nat.le_refl _), by omega, (Below.refl _ _).alloc (Nat.le_refl _) _⟩
  case round =>
    obtain ⟨p, g', c', f', gu, ou, cu, u, pre, rest, rfl, rfl, rfl, hp, hpf, hul, hnorm, hw, hcu, hgu, hop, hne, hb⟩ := hrel
    have hp30 : (p : Int) ≤ 30 := by omega
    have hz := normG_nz hnorm.out
    have Hz := Lib.hid hz; have Hul := Lib.hid hul
    clear hz
    obtain ⟨wo, rfl⟩ : ∃ wo : World, wo = wr := ⟨_, rfl⟩
    have HCu := Lib.hid hcu
    clear hul
    go_wp2
    go_loopw [7] (fun i wr => ∃ k : Nat, k ≤ v.length ∧ i = .int .i64 k ∧ Hid (∀ j, j < k → 0 < u.getD j 0) ∧ wr = wo) (fun i _ => v.length - (intOf i).toNat)
    case atStart => exact ⟨0, Nat.zero_le _, rfl, fun j hj => absurd hj (by omega), rfl⟩
    case round =>
      obtain ⟨k, hk, rfl, hall, rfl⟩ := hrel
      by_cases hlt : k < v.length
      · have q1 := HCu.out k (by rw [Hul.out]; exact hlt)
        have hzk := Hz.out k (by rw [Hul.out]; exact hlt)
        by_cases hpos : 0 < u.getD k 0
        · have HY : Hid (∀ j, j < k + 1 → 0 < u.getD j 0) := fun j hj => by
            by_cases e : j = k
            · subst e; exact hpos
            · exact hall.out j (by omega)
          clear hzk
          generalize u.getD k 0 = x at *
          go_wp2
          go_roundw
          case rel => exact ⟨k + 1, by omega, by go_num, HY.out, trivial⟩
          case measure => simp [intOf]; omega
        · have hfn : firstNeg u = some k := firstNeg_of (by rw [Hul.out]; exact hlt) (by omega) (fun j hj => by have := hall.out j hj; omega)
          obtain ⟨f2, rest2, hf2, hrest, hn2⟩ := normG_some hnorm.out hfn
          have hic : k < c.length := by have := Hv.out; omega
          have hkne : ((k : Int) == (v.length : Int)) = false := by simp; omega
          subst hrest
          have Hn2 := Lib.hid hn2
          clear hzk hfn hn2 hnorm
          generalize u.getD k 0 = x at *
          go_wp2_with (at_builtin; refine wpList_append_int_n (w := wr) rfl _ _ rfl w.heap.size g' c' p pre (k : Int) hp.out hop rfl rfl (by omega) ?_)
          intro g3 c3 w3 ho3 hg3 hor
          have hcu3 : Cells w3 gu ou u := HCu.out.grown hg3 (by intro e; cases e; exact hne rfl)
          have hb3 : Below w.heap.size w w3 := hb.grown hg3 hb.size (by intro j hj; cases hj; exact hop.base)
          have hgu3 : gu < w3.heap.size := Nat.lt_of_lt_of_le hgu hg3.size
          have hcall3 := spec_l6Reflect_any gc oc _ cc gu ou v.length cu k c u w3 rfl Hul.out (by rw [Hul.out]; exact Nat.le_of_eq Hv.out) hn4 hC.2.2.1 (by rw [Hul.out]; exact hlt) (Nat.lt_of_lt_of_le hgc hb3.size) hgu3 (hr.below hb3 hgc) hcu3
          have Hcall3 := Lib.hid hcall3; clear hcall3
          go_wp2_with fail
          refine Hcall3.out.mono ?_
          rintro e w4 ⟨g5, c5, rfl, ho5, hb5⟩
          have hrl : (refl c k u).length = v.length := by rw [refl_length]; exact Hul.out
          rw [hrl]
          go_wp2_with fail
          go_roundw
          case rel =>
            refine ⟨p + 1, g3, c3, f2, g5, 0, c5, refl c k u, pre ++ [(k : Int)], rest2, by go_num, rfl, rfl, ?_, by omega, hrl, Hn2.out, ?_, ho5.cells, ho5.lt, ho3.below hb5 ho3.lt, by have h1 := ho3.lt; have h2 := ho5.base; omega, hb3.trans (hb5.mono hb3.size)⟩
            · show _ = _; rw [List.length_append, hp.out]; rfl
            · show _ = _; rw [hw.out, List.append_assoc]; rfl
          case measure => simp [intOf]; omega
      · obtain rfl : k = v.length := by omega
        have hfn : firstNeg u = none := firstNeg_nil (fun j hj => by have := hall.out j (by rw [← Hul.out]; exact hj); omega)
        have hrest := normG_none hnorm.out hfn
        have Hrest := Lib.hid hrest; clear hrest hfn
        go_wp2
        go_ret
        rw [hw.out, Hrest.out, List.append_nil]
        exact GotInts.mk' g' c' hp.out hop hb
end Go.Proofs.YtdedkfbiookofaaGreatDoor
namespace Go.Proofs.YtdedkfbiookofaaGreatDoor
set_option maxRecDepth 100000
open Go.RowKit
def negL (n : Nat) : List Int := List.replicate n (-1)
theorem onesL_length (n : Nat) : (onesL n).length = n := by simp [onesL]
theorem negL_length (n : Nat) : (negL n).length = n := by simp [negL]
/-- what a finite type's long word does -/
structure LongOf (c : List (List Int)) (long : List Int) (opp : Nat → Nat) : Prop where
  norm : normG c 30 (negL c.length) = some long
  act : actW c long (onesL c.length) = negL c.length
  opp_lt : ∀ i, i < c.length → opp i < c.length
  opp_eq : ∀ i, i < c.length → actW c long (refl c i (onesL c.length)) = refl c (opp i) (negL c.length)
set_option maxHeartbeats 2000000 in
theorem spec_RhoOf_ok (gc oc n cc : Nat) (c : List (List Int)) (w : World) (hn : c.length = n) (hC : IsC c) (hgc : gc < w.heap.size) (hr : Rows2 w gc oc c) :
    Calls Tryz.prog 133 #[(Value.slice (some ⟨gc, oc, none⟩) n cc)] w (GotInts w (onesL c.length)) := by
  subst hn
  have hn4 := hC.2.1
  have hcart : Hid (∀ W, Below w.heap.size w W → Calls Tryz.prog 93 #[(Value.slice (some ⟨gc, oc, none⟩) c.length cc)] W (Reads W (.bool true))) := fun W hW => by
    have := spec_IsCartan gc oc _ cc c W rfl (by omega) (fun j hj => by have := hC.2.2.1 j hj; omega) (hr.below hW hgc)
    rwa [decide_eq_true hC] at this
  go_enter Tryz.func133, Tryz.ntmps133
  go_wp2_with fail
  go_loopw [3, 4] (fun s i wr => ∃ t g' c' : Nat, t ≤ c.length ∧ i = .int .i64 t ∧ s = (Value.slice (some ⟨g', 0, none⟩) t c') ∧ Own wr w.heap.size g' c' (onesL t) ∧ Below w.heap.size w wr) (fun _ i _ => c.length - (intOf i).toNat)
  case atStart => exact ⟨0, w.heap.size, 0, Nat.zero_le _, rfl, rfl, Own.empty (w := w) (Nat.le_refl _), (Below.refl _ _).alloc (Nat.le_refl _) _⟩
  case round =>
    obtain ⟨t, g', c', ht, rfl, rfl, ho, hb⟩ := hrel
    by_cases hlt : t < c.length
    · go_wp2_with fail
      refine (hcart.out _ hb).mono ?_
      rintro e w2 ⟨rfl, m2, rfl⟩
      go_wp2_with (at_builtin; refine wpList_append_int_n (w := wr.drewN m2) rfl _ _ rfl w.heap.size g' c' t (onesL t) 1 (onesL_length _) (ho.drewN m2) rfl rfl (by omega) ?_)
      intro g3 c3 w3 ho3 hg3 _
      go_wp2
      go_roundw
      case rel =>
        have e : onesL t ++ [1] = onesL (t + 1) := by unfold onesL; rw [List.replicate_succ']
        rw [e] at ho3
        exact ⟨t + 1, g3, c3, by omega, by go_num, rfl, ho3, (below_drewN hb m2).grown hg3 hb.size (by intro j hj; cases hj; exact ho.base)⟩
      case measure => simp [intOf]; omega
    · obtain rfl : t = c.length := by omega
      go_wp2_with fail
      go_ret
      exact GotInts.mk' g' c' (onesL_length _) ho hb
end Go.Proofs.YtdedkfbiookofaaGreatDoor
namespace Go.Proofs.YtdedkfbiookofaaGreatDoor
set_option maxRecDepth 100000
open Go.RowKit
end Go.Proofs.YtdedkfbiookofaaGreatDoor
namespace Go.Proofs.YtdedkfbiookofaaGreatDoor
set_option maxRecDepth 100000
open Go.RowKit
end Go.Proofs.YtdedkfbiookofaaGreatDoor
namespace Go.Proofs.YtdedkfbiookofaaGreatDoor
set_option maxRecDepth 100000
def intsOf (l : List Nat) : List Int := l.map fun i : Nat => (i : Int)
theorem intsOf_length (l : List Nat) : (intsOf l).length = l.length := by simp [intsOf]
theorem intsOf_push (l : List Nat) (k : Nat) : intsOf (l ++ [k]) = intsOf l ++ [(k : Int)] := by simp [intsOf]
theorem intsOf_getD (l : List Nat) (k : Nat) (hk : k < l.length) : (intsOf l).getD k 0 = ((l.getD k 0 : Nat) : Int) := by simp [intsOf, List.getD, hk]
def nbL (c : List (List Int)) (i : Nat) : List Nat := (List.range c.length).filter fun j => j != i && (ent c i j != 0)
def nbTab (c : List (List Int)) : List (List Nat) := (List.range c.length).map (nbL c)
abbrev Bst := List Bool × List Nat
def visitOne (s : Bst) (j : Nat) : Bst := if s.1.getD j false then s else (s.1.set j true, s.2 ++ [j])
def visitAll (s : Bst) (l : List Nat) : Bst := l.foldl visitOne s
/-- the search, where it ends within so many rounds -/
def bfsG (tab : List (List Nat)) : Nat → Nat → Bst → Option Bst
  | 0, k, s => if k < s.2.length then none else some s
  | f + 1, k, s => if k < s.2.length then bfsG tab f (k + 1) (visitAll s (tab.getD (s.2.getD k 0) [])) else some s
def trueAt (seen : List Bool) : List Nat := (List.range seen.length).filter fun k => seen.getD k false
/-- the part of a point, with what is seen at the end -/
def partG (tab : List (List Nat)) (seen : List Bool) (i : Nat) : Option Bst := bfsG tab 5 0 (seen.set i true, [i])
/-- a list sorted by insertion -/
def insN (x : Nat) : List Nat → List Nat
  | [] => [x]
  | y :: l => if x < y then x :: y :: l else y :: insN x l
def sortN (l : List Nat) : List Nat := l.foldl (fun a x => insN x a) []
def partsIG (tab : List (List Nat)) : Nat → Option (List Bool × List (List Nat))
  | 0 => some (List.replicate tab.length false, [])
  | i + 1 => match partsIG tab i with
    | none => none
    | some (seen, out) => if seen.getD i false then some (seen, out) else match partG tab seen i with
      | none => none
      | some (seen', q) => some (seen', out ++ [sortN q])
def partS (tab : List (List Nat)) (i : Nat) : Option (List Nat) := (partG tab (List.replicate tab.length false) i).map fun s => trueAt s.1
def partsSG (tab : List (List Nat)) : Nat → Option (List (List Nat))
  | 0 => some []
  | i + 1 => match partsSG tab i, partS tab i with
    | some out, some p => some (if p.getD 0 0 == i then out ++ [p] else out)
    | _, _ => none
def ascB : List Nat → Bool
  | x :: y :: l => decide (x < y) && ascB (y :: l)
  | _ => true
def goodP (n : Nat) (p : List Nat) : Bool := ascB p && (decide (1 ≤ p.length) && (decide (p.length ≤ 4) && p.all fun x => decide (x < n)))
def chkP (c : List (List Int)) : Bool :=
  match partsIG (nbTab c) c.length, partsSG (nbTab c) c.length with
  | some (_, a), some b => ((a == b) && a.all (goodP c.length)) && (List.range c.length).all fun i => match partS (nbTab c) i with | some p => decide (1 ≤ p.length) && decide (p.length ≤ 4) | none => false
  | _, _ => false
def zo (c : List (List Int)) : List (List Int) := c.map fun r => r.map fun x => if x = 0 then 0 else 1
theorem zo_length (c : List (List Int)) : (zo c).length = c.length := by simp [zo]
theorem ent_zo (c : List (List Int)) (i j : Nat) : ent (zo c) i j = if ent c i j = 0 then 0 else 1 := by
  have key : ∀ o : Option (List Int), ((o.map fun r => r.map fun x : Int => if x = 0 then (0 : Int) else 1).getD [])[j]?.getD 0 = (fun x : Int => if x = 0 then (0 : Int) else 1) ((o.getD [])[j]?.getD 0) := by
    intro o
    cases o with
    | none => simp
    | some r =>
      simp only [Option.map_some, Option.getD_some, List.getElem?_map]
      have k2 : ∀ o : Option Int, (o.map fun x : Int => if x = 0 then (0 : Int) else 1).getD 0 = (fun x : Int => if x = 0 then (0 : Int) else 1) (o.getD 0) := by
        intro o
        cases o <;> simp
      exact k2 _
  unfold ent zo
  simp only [List.getD, List.getElem?_map]
  exact key _
theorem nbTab_zo (c : List (List Int)) : nbTab (zo c) = nbTab c := by
  unfold nbTab
  rw [zo_length]
  apply List.map_congr_left
  intro i _
  unfold nbL
  rw [zo_length]
  apply List.filter_congr
  intro j _
  rw [ent_zo]
  by_cases h : ent c i j = 0
  · simp [h]
  · simp [h]
def zm2 (a : Int) : List (List Int) := [[1, a], [a, 1]]
def zm3 (a b e : Int) : List (List Int) := [[1, a, b], [a, 1, e], [b, e, 1]]
def zm4 (a b d e f g : Int) : List (List Int) := [[1, a, b, d], [a, 1, e, f], [b, e, 1, g], [d, f, g, 1]]
def Z2 : List Int := [0, 1]
theorem chkP1 : chkP [[1]] = true := by kernel_rfl
theorem chkP2 : (Z2.all fun a => chkP (zm2 a)) = true := by kernel_rfl
theorem chkP3 : (Z2.all fun a => Z2.all fun b => Z2.all fun e => chkP (zm3 a b e)) = true := by kernel_rfl
theorem chkP4 : (Z2.all fun a => Z2.all fun b => Z2.all fun d => Z2.all fun e => Z2.all fun f => Z2.all fun g => chkP (zm4 a b d e f g)) = true := by kernel_rfl
theorem lst1 {α : Type} {l : List α} (h : l.length = 1) : ∃ a, l = [a] := by
  match l, h with
  | [a], _ => exact ⟨a, rfl⟩
theorem lst2 {α : Type} {l : List α} (h : l.length = 2) : ∃ a b, l = [a, b] := by
  match l, h with
  | [a, b], _ => exact ⟨a, b, rfl⟩
theorem lst3 {α : Type} {l : List α} (h : l.length = 3) : ∃ a b c, l = [a, b, c] := by
  match l, h with
  | [a, b, c], _ => exact ⟨a, b, c, rfl⟩
theorem lst4 {α : Type} {l : List α} (h : l.length = 4) : ∃ a b c d, l = [a, b, c, d] := by
  match l, h with
  | [a, b, c, d], _ => exact ⟨a, b, c, d, rfl⟩
theorem chkP_zo (c : List (List Int)) (h : chkP (zo c) = true) : chkP c = true := by
  unfold chkP at h ⊢
  rw [nbTab_zo, zo_length] at h
  exact h
theorem z_in (x : Int) : (if x = 0 then (0 : Int) else 1) ∈ Z2 := by split <;> simp [Z2]
theorem dg {c : List (List Int)} (hC : IsC c) {i : Nat} (hi : i < c.length) : ent c i i = 2 := by
  have := hC.2.2.2 i hi i hi
  unfold EntOk at this
  rwa [if_pos rfl] at this
theorem zsym {c : List (List Int)} (hC : IsC c) {i j : Nat} (hi : i < c.length) (hj : j < c.length) (hne : i ≠ j) : (if ent c i j = 0 then (0 : Int) else 1) = if ent c j i = 0 then 0 else 1 := by
  have := hC.2.2.2 i hi j hj
  unfold EntOk at this
  rw [if_neg hne] at this
  have h := this.2.2
  by_cases e : ent c i j = 0
  · have : ent c j i = 0 := by simpa [e] using h.symm
    simp [e, this]
  · have : ¬ ent c j i = 0 := by intro e2; apply e; simpa [e2] using h
    simp [e, this]
theorem chkP_all {c : List (List Int)} (hC : IsC c) : chkP c = true := by
  apply chkP_zo
  have : c.length = 1 ∨ c.length = 2 ∨ c.length = 3 ∨ c.length = 4 := by have := hC.1; have := hC.2.1; omega
  rcases this with hn | hn | hn | hn
  · obtain ⟨r0, rfl⟩ := lst1 hn
    obtain ⟨x00, rfl⟩ := lst1 (hC.2.2.1 0 (by simp))
    have d0 : x00 = 2 := dg hC (i := 0) (by simp)
    subst d0
    exact chkP1
  · obtain ⟨r0, r1, rfl⟩ := lst2 hn
    obtain ⟨x00, x01, rfl⟩ := lst2 (hC.2.2.1 0 (by simp))
    obtain ⟨x10, x11, rfl⟩ := lst2 (hC.2.2.1 1 (by simp))
    have d0 : x00 = 2 := dg hC (i := 0) (by simp)
    have d1 : x11 = 2 := dg hC (i := 1) (by simp)
    subst d0; subst d1
    have s10 : (if x10 = 0 then (0 : Int) else 1) = if x01 = 0 then 0 else 1 := zsym hC (i := 1) (j := 0) (by simp) (by simp) (by decide)
    have e : zo [[2, x01], [x10, 2]] = zm2 (if x01 = 0 then 0 else 1) := by simp [zo, zm2, s10]
    rw [e]
    exact List.all_eq_true.1 chkP2 _ (z_in x01)
  · obtain ⟨r0, r1, r2, rfl⟩ := lst3 hn
    obtain ⟨x00, x01, x02, rfl⟩ := lst3 (hC.2.2.1 0 (by simp))
    obtain ⟨x10, x11, x12, rfl⟩ := lst3 (hC.2.2.1 1 (by simp))
    obtain ⟨x20, x21, x22, rfl⟩ := lst3 (hC.2.2.1 2 (by simp))
    have d0 : x00 = 2 := dg hC (i := 0) (by simp)
    have d1 : x11 = 2 := dg hC (i := 1) (by simp)
    have d2 : x22 = 2 := dg hC (i := 2) (by simp)
    subst d0; subst d1; subst d2
    have s10 : (if x10 = 0 then (0 : Int) else 1) = if x01 = 0 then 0 else 1 := zsym hC (i := 1) (j := 0) (by simp) (by simp) (by decide)
    have s20 : (if x20 = 0 then (0 : Int) else 1) = if x02 = 0 then 0 else 1 := zsym hC (i := 2) (j := 0) (by simp) (by simp) (by decide)
    have s21 : (if x21 = 0 then (0 : Int) else 1) = if x12 = 0 then 0 else 1 := zsym hC (i := 2) (j := 1) (by simp) (by simp) (by decide)
    have e : zo [[2, x01, x02], [x10, 2, x12], [x20, x21, 2]] = zm3 (if x01 = 0 then 0 else 1) (if x02 = 0 then 0 else 1) (if x12 = 0 then 0 else 1) := by simp [zo, zm3, s10, s20, s21]
    rw [e]
    exact List.all_eq_true.1 (List.all_eq_true.1 (List.all_eq_true.1 chkP3 _ (z_in x01)) _ (z_in x02)) _ (z_in x12)
  · obtain ⟨r0, r1, r2, r3, rfl⟩ := lst4 hn
    obtain ⟨x00, x01, x02, x03, rfl⟩ := lst4 (hC.2.2.1 0 (by simp))
    obtain ⟨x10, x11, x12, x13, rfl⟩ := lst4 (hC.2.2.1 1 (by simp))
    obtain ⟨x20, x21, x22, x23, rfl⟩ := lst4 (hC.2.2.1 2 (by simp))
    obtain ⟨x30, x31, x32, x33, rfl⟩ := lst4 (hC.2.2.1 3 (by simp))
    have d0 : x00 = 2 := dg hC (i := 0) (by simp)
    have d1 : x11 = 2 := dg hC (i := 1) (by simp)
    have d2 : x22 = 2 := dg hC (i := 2) (by simp)
    have d3 : x33 = 2 := dg hC (i := 3) (by simp)
    subst d0; subst d1; subst d2; subst d3
    have s10 : (if x10 = 0 then (0 : Int) else 1) = if x01 = 0 then 0 else 1 := zsym hC (i := 1) (j := 0) (by simp) (by simp) (by decide)
    have s20 : (if x20 = 0 then (0 : Int) else 1) = if x02 = 0 then 0 else 1 := zsym hC (i := 2) (j := 0) (by simp) (by simp) (by decide)
    have s30 : (if x30 = 0 then (0 : Int) else 1) = if x03 = 0 then 0 else 1 := zsym hC (i := 3) (j := 0) (by simp) (by simp) (by decide)
    have s21 : (if x21 = 0 then (0 : Int) else 1) = if x12 = 0 then 0 else 1 := zsym hC (i := 2) (j := 1) (by simp) (by simp) (by decide)
    have s31 : (if x31 = 0 then (0 : Int) else 1) = if x13 = 0 then 0 else 1 := zsym hC (i := 3) (j := 1) (by simp) (by simp) (by decide)
    have s32 : (if x32 = 0 then (0 : Int) else 1) = if x23 = 0 then 0 else 1 := zsym hC (i := 3) (j := 2) (by simp) (by simp) (by decide)
    have e : zo [[2, x01, x02, x03], [x10, 2, x12, x13], [x20, x21, 2, x23], [x30, x31, x32, 2]] = zm4 (if x01 = 0 then 0 else 1) (if x02 = 0 then 0 else 1) (if x03 = 0 then 0 else 1) (if x12 = 0 then 0 else 1) (if x13 = 0 then 0 else 1) (if x23 = 0 then 0 else 1) := by simp [zo, zm4, s10, s20, s30, s21, s31, s32]
    rw [e]
    exact List.all_eq_true.1 (List.all_eq_true.1 (List.all_eq_true.1 (List.all_eq_true.1 (List.all_eq_true.1 (List.all_eq_true.1 chkP4 _ (z_in x01)) _ (z_in x02)) _ (z_in x03)) _ (z_in x12)) _ (z_in x13)) _ (z_in x23)
/-- the parts, of the program's search and of the reference's -/
theorem parts_of {c : List (List Int)} (hC : IsC c) : ∃ seen P, partsIG (nbTab c) c.length = some (seen, P) ∧ partsSG (nbTab c) c.length = some P ∧ (∀ p ∈ P, goodP c.length p = true) ∧ ∀ i, i < c.length → ∃ p, partS (nbTab c) i = some p ∧ 1 ≤ p.length ∧ p.length ≤ 4 := by
  have h := chkP_all hC
  unfold chkP at h
  split at h
  · rename_i seen a b h1 h2
    rw [Bool.and_eq_true, Bool.and_eq_true] at h
    have e : a = b := by simpa using h.1.1
    subst e
    refine ⟨seen, a, h1, h2, fun p hp => List.all_eq_true.1 h.1.2 p hp, fun i hi => ?_⟩
    have h3 := List.all_eq_true.1 h.2 i (List.mem_range.2 hi)
    split at h3
    · rename_i p hp
      rw [Bool.and_eq_true, decide_eq_true_eq, decide_eq_true_eq] at h3
      exact ⟨p, hp, h3⟩
    · simp at h3
  · simp at h
end Go.Proofs.YtdedkfbiookofaaGreatDoor
