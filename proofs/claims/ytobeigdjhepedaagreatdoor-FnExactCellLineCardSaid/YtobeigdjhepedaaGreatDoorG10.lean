/- sets, sub-matrices, witnesses, IsFinite of the reference: contracts. SubCartan, WitnessOf, IsFinite of the reference: contracts. The reference's RelabelCartan at orders: contract. EqualCartans (slices.EqualFunc): contracts. -/
import Derived.Test.YtobeigdjhepedaaGreatDoorG09
import Derived.Test.YtobeigdjhepedaaGreatDoorG08
import Derived.Test.YtobeigdjhepedaaGreatDoorG01
import Derived.Test.YtobeigdjhepedaaGreatDoorG02
namespace Go.Proofs.YtobeigdjhepedaaGreatDoor
set_option maxRecDepth 100000
open Go.RowKit

def setsTo (n t : Nat) : List (List Int) := (List.range t).map fun k => setTo (k + 1) n
theorem setsTo_length (n t : Nat) : (setsTo n t).length = t := by simp [setsTo]
theorem setsTo_succ (n t : Nat) : setsTo n (t + 1) = setsTo n t ++ [setTo (t + 1) n] := by simp [setsTo, List.range_succ]

set_option maxHeartbeats 2000000 in
theorem spec_l4Sets_any (n : Nat) (w : World) (hn4 : n ≤ 4) : Calls Tryz.prog 144 #[.int .i64 n] w (GotRows w (setsTo n (2 ^ n - 1))) := by
  obtain ⟨Q, hQ, hQ2, hQ3⟩ : ∃ Q : Nat, Q = 2 ^ n ∧ Q ≤ 16 ∧ wrap64 ((2 : Int) ^ n) = (Q : Int) := ⟨2 ^ n, rfl, pow_le16 hn4, wrap_pow4 hn4⟩
  have hQ1 : 1 ≤ Q := by rw [hQ]; exact Nat.one_le_two_pow
  rw [← hQ]
  have HQ := Lib.hid hQ; clear hQ
  go_enter Tryz.func144, Tryz.ntmps144
  go_wp2
  go_loopw [3, 4, 5, 6] (fun x i _ _ wr => ∃ (t g' c' : Nat) (rs : List RowRef), t + 1 ≤ Q ∧ i = .int .i64 ((t : Int) + 1) ∧ x = (Value.slice (some ⟨g', 0, none⟩) t c') ∧ Hid (rs.length = t) ∧ Hid (contents rs = setsTo n t) ∧ OwnRows wr w.heap.size g' c' rs ∧ Below w.heap.size w wr) (fun _ i _ _ _ => 17 - (intOf i).toNat)
  case atStart => exact ⟨0, w.heap.size, 0, [], by omega, rfl, rfl, rfl, rfl, OwnRows.empty (Nat.le_refl _), (Below.refl _ _).alloc (Nat.le_refl _) _⟩
  case round =>
    obtain ⟨t, g', c', rs, ht, rfl, rfl, hrs, hcont, ho, hb⟩ := hrel
    by_cases hlt : t + 1 < Q
    · have hltI : (t : Int) + 1 < Q := by omega
      have hm15 : t + 1 ≤ 15 := by omega
      obtain ⟨wo, rfl⟩ : ∃ wo : World, wo = wr := ⟨_, rfl⟩
      go_wp2
      simp only [hQ3]
      clear hQ3
      go_loopw [5, 6] (fun x i wr => ∃ k gr cr n' : Nat, k ≤ n ∧ i = .int .i64 k ∧ x = (Value.slice (some ⟨gr, 0, none⟩) n' cr) ∧ Hid ((setTo (t + 1) k).length = n') ∧ Own wr wo.heap.size gr cr (setTo (t + 1) k) ∧ Below wo.heap.size wo wr) (fun _ i _ => n - (intOf i).toNat)
      case atStart => exact ⟨0, wo.heap.size, 0, 0, Nat.zero_le _, rfl, rfl, rfl, Own.empty (w := wo) (Nat.le_refl _), (Below.refl _ _).alloc (Nat.le_refl _) _⟩
      case round =>
        obtain ⟨k, gr, cr, n', hk, rfl, rfl, hn', hor, hb2⟩ := hrel
        have hbb : Below w.heap.size w wr := hb.trans (hb2.mono hb.size)
        have hle := setTo_len (t + 1) k
        rw [hn'.out] at hle
        by_cases hltk : k < n
        · have hltkI : (k : Int) < (n : Int) := by omega
          have hand : bits BinOp.and IntKind.i64 (((t : Int) + 1) / 2 ^ k) 1 = (((t + 1) / 2 ^ k % 2 : Nat) : Int) := by
            have h := and1_at (t + 1) k hm15
            have eM : ((t : Int) + 1) = ((t + 1 : Nat) : Int) := by omega
            rw [eM]; exact h
          by_cases hbit : (t + 1) / 2 ^ k % 2 = 1
          · rw [hbit] at hand
            have hS := setTo_one hbit
            have HS := Lib.hid hS
            clear hS hbit
            go_wp2_with (at_builtin; refine wpList_append_int_n rfl _ _ rfl wo.heap.size gr cr n' (setTo (t + 1) k) (k : Int) hn'.out hor rfl rfl (by omega) ?_)
            intro g3 c3 w3 ho3 hg3 _
            go_wp2
            go_roundw
            case rel =>
              rw [← HS.out] at ho3
              exact ⟨k + 1, g3, c3, n' + 1, by omega, by go_num, rfl, by show _ = _; rw [HS.out, List.length_append, hn'.out]; rfl, ho3, hb2.grown hg3 hb2.size (by intro j hj; cases hj; exact hor.base)⟩
            case measure => simp [intOf]; omega
          · have hb0 : (t + 1) / 2 ^ k % 2 = 0 := by omega
            rw [hb0] at hand
            have hS := setTo_zero hbit
            have HS := Lib.hid hS
            clear hS hbit hb0
            go_wp2
            go_roundw
            case rel => exact ⟨k + 1, gr, cr, n', by omega, by go_num, rfl, by show _ = _; rw [HS.out]; exact hn'.out, by rw [HS.out]; exact hor, hb2⟩
            case measure => simp [intOf]; omega
        · obtain rfl : n = k := by omega
          have ho2 := ho.below hb2
          have hne : ∀ r ∈ rs, r.1 ≠ gr := fun r hr => by have h1 := (ho.2.1 r hr).lt; have h2 := hor.base; omega
          have hor2 := hor.mono hb.size
          have hrow : rowVal (gr, cr, setTo (t + 1) n) = (Value.slice (some ⟨gr, 0, none⟩) n' cr) := by unfold rowVal; rw [hn'.out]
          go_wp2_with (at_builtin; refine wpList_append_row rfl _ _ rfl w.heap.size g' c' t wr.heap.size rs (gr, cr, setTo (t + 1) n) _ hrs.out (by rw [hrow]) rfl ho2 hor2 hne rfl rfl (by omega) ?_)
          intro g4 c4 w4 ho4 hg4 _
          go_wp2
          go_roundw
          case rel =>
            refine ⟨t + 1, g4, c4, rs ++ [(gr, cr, setTo (t + 1) n)], by omega, by go_num, rfl, by show _ = _; rw [List.length_append, hrs.out]; rfl, ?_, ho4, hbb.grown hg4 hbb.size (by intro j hj; cases hj; exact ho.base)⟩
            show _ = _
            rw [contents_push, hcont.out, setsTo_succ]
          case measure => simp [intOf]; omega
    · have hge : ¬ (t : Int) + 1 < Q := by omega
      obtain rfl : t = Q - 1 := by omega
      have hml := setsTo_length n (Q - 1)
      have Hml := Lib.hid hml
      clear hml
      go_wp2
      go_ret
      exact ⟨g', c', rs, by rw [Hml.out]; rfl, hcont.out, ho, hb⟩

set_option maxHeartbeats 2000000 in
theorem spec_l3Set_ok (gc oc n cc g o m cs : Nat) (c : List (List Int)) (s : List Int) (w : World) (hn : c.length = n) (hm : s.length = m) (hx : c.length ≤ 1048576) (hsl : s.length ≤ 1048576) (hrl : ∀ j, j < c.length → (c.getD j []).length ≤ 1048576)
    (hs : ∀ t, t < s.length → 0 ≤ s.getD t 0 ∧ s.getD t 0 < c.length) (hasc : ∀ t, t + 1 < s.length → s.getD t 0 < s.getD (t + 1) 0) (hr : Rows2 w gc oc c) (hc : Cells w g o s) :
    Calls Tryz.prog 147 #[(Value.slice (some ⟨gc, oc, none⟩) n cc), (Value.slice (some ⟨g, o, none⟩) m cs)] w (Reads w (.bool (decide (IsC c)))) := by
  subst hn; subst hm
  have ew : IntKind.i64.wrap ((c.length : Int) - 1) = (c.length : Int) - 1 := IntWalk.i64_in _ (by omega)
  have hcart : Hid (∀ m, Calls Tryz.prog 52 #[(Value.slice (some ⟨gc, oc, none⟩) c.length cc)] (w.drewN m) (Reads (w.drewN m) (.bool (decide (IsC c))))) := fun m =>
    spec_IsCartan gc oc _ cc c (w.drewN m) rfl (by omega) (fun j hj => by have := hrl j hj; omega) hr
  clear hrl hr
  go_enter Tryz.func147, Tryz.ntmps147
  go_wp2
  go_loopw [5] (fun i wr => ∃ k : Nat, k ≤ s.length ∧ i = .int .i64 k ∧ ∃ m, wr = w.drewN m) (fun i _ => s.length - (intOf i).toNat)
  case atStart => exact ⟨0, Nat.zero_le _, rfl, (by first | exact ⟨_, rfl⟩ | exact ⟨0, rfl⟩ | exact still2 _ _ _ | exact still3 _ _ _ _)⟩
  case round =>
    obtain ⟨k, hk, rfl, m, rfl⟩ := hrel
    by_cases hlt : k < s.length
    · have q1 := hc k hlt
      have hsk := hs k hlt
      by_cases h0 : k = 0
      · have hkI : decide ((0 : Int) < (k : Int)) = false := by simp only [decide_eq_false_iff_not]; omega
        have hkN : decide (0 < k) = false := by simp only [decide_eq_false_iff_not]; omega
        have hkM : (k : Int) ≤ 0 := by omega
        clear hasc hs h0
        generalize s.getD k 0 = z at *
        have hq1 := cart_l1In z 0 ((c.length : Int) - 1) true (by rw [Bool.and_eq_true, decide_eq_true_eq, decide_eq_true_eq]; omega) w m
        go_wp2
        go_quiet ((go_at_call 51; exact Reads.quiet4 (hq1.out _)))
        go_wp2
        go_roundw
        case rel => exact ⟨k + 1, by omega, by go_num, (by first | exact ⟨_, rfl⟩ | exact ⟨0, rfl⟩ | exact still2 _ _ _ | exact still3 _ _ _ _)⟩
        case measure => simp [intOf]; omega
      · obtain ⟨j, rfl⟩ : ∃ j, k = j + 1 := ⟨k - 1, by omega⟩
        have q0 := hc j (by omega)
        have hj := hasc j (by omega)
        have hd2 : (0 : Int) < (j : Int) + 1 := by omega
        have hd3 : decide (s.getD (j + 1) 0 ≤ s.getD j 0) = false := by simp only [decide_eq_false_iff_not]; omega
        have hd4 : IntKind.i64.wrap ((j : Int) + 1 - 1) = (j : Int) := by rw [show (j : Int) + 1 - 1 = j by omega]; exact IntWalk.i64_in _ (by omega)
        have hjl : j < s.length := by omega
        clear hasc hs
        generalize s.getD (j + 1) 0 = z at *
        generalize s.getD j 0 = y at *
        have hq1 := cart_l1In z 0 ((c.length : Int) - 1) true (by rw [Bool.and_eq_true, decide_eq_true_eq, decide_eq_true_eq]; omega) w m
        go_wp2
        go_quiet ((go_at_call 51; exact Reads.quiet4 (hq1.out _)))
        go_wp2
        go_roundw
        case rel => exact ⟨j + 1 + 1, by omega, by go_num, (by first | exact ⟨_, rfl⟩ | exact ⟨0, rfl⟩ | exact still2 _ _ _ | exact still3 _ _ _ _)⟩
        case measure => simp [intOf]; omega
    · obtain rfl : k = s.length := by omega
      go_wp2_with fail
      refine (hcart.out m).mono ?_
      rintro e w1 ⟨rfl, m1, rfl⟩
      go_wp2_with fail
      go_ret
      exact ⟨rfl, (by first | exact ⟨_, rfl⟩ | exact ⟨0, rfl⟩ | exact still2 _ _ _ | exact still3 _ _ _ _)⟩
end Go.Proofs.YtobeigdjhepedaaGreatDoor
namespace Go.Proofs.YtobeigdjhepedaaGreatDoor
set_option maxRecDepth 100000
open Go.RowKit

attribute [local go_sem ↓] Go.wp_at_zero Go.wp_at_succ
set_option maxHeartbeats 4000000 in
theorem spec_SubCartan_ok (gc oc n cc g o m cs : Nat) (c : List (List Int)) (s : List Int) (w : World) (hn : c.length = n) (hm : s.length = m) (hC : IsC c) (hs4 : s.length ≤ 4) (hs1 : 1 ≤ s.length)
    (hs : ∀ t, t < s.length → 0 ≤ s.getD t 0 ∧ s.getD t 0 < c.length) (hasc : ∀ t, t + 1 < s.length → s.getD t 0 < s.getD (t + 1) 0) (hgc : gc < w.heap.size) (hg : g < w.heap.size) (hr : Rows2 w gc oc c) (hc : Cells w g o s) :
    Calls Tryz.prog 124 #[(Value.slice (some ⟨gc, oc, none⟩) n cc), (Value.slice (some ⟨g, o, none⟩) m cs)] w (fun e w' => ∃ g' cap rs, e = .returned (.tuple #[(Value.slice (some ⟨g', 0, none⟩) s.length cap), .bool true]) ∧ contents rs = pickL c s ∧ OwnRows w' w.heap.size g' cap rs ∧ Below w.heap.size w w') := by
  subst hn; subst hm
  have hb0 : Below w.heap.size w (w.alloc (.cells #[] 28)) := (by repeat (first | with_reducible exact Below.refl _ _ | with_reducible assumption | with_reducible refine below_drewN ?_ _ | with_reducible refine Below.drew ?_ | (with_reducible refine Below.alloc ?_ ?_ _; rotate_left; · first | (simp; done) | (simp; omega) | exact Below.size (by assumption) | (have hsz := Below.size (by assumption : Below _ _ _); simp at hsz ⊢; omega)) | (with_reducible refine Below.setCell ?_ ?_ _; rotate_left; · first | (simp; done) | (simp; omega))))
  have hn4 := hC.2.1
  have hz : ((s.length : Int) == 0) = false := by simp; intro e; subst e; simp at hs1
  go_enter Tryz.func124, Tryz.ntmps124
  go_wp2_with fail
  refine (spec_l3Set_ok gc oc _ cc g o _ cs c s _ rfl rfl (by omega) (by omega) (fun j hj => by have := hC.2.2.1 j hj; omega) hs hasc (hr.below hb0 hgc) (hc.below hb0 hg)).mono ?_
  rintro e w1 ⟨rfl, m1, rfl⟩
  rw [decide_eq_true hC]
  go_wp2_with fail
  go_loopw [6, 7, 8, 9] (fun x i _ _ wr => ∃ (t g' c' : Nat) (rs : List RowRef), t ≤ s.length ∧ i = .int .i64 t ∧ x = (Value.slice (some ⟨g', 0, none⟩) t c') ∧ Hid (rs.length = t) ∧ Hid (contents rs = (s.take t).map fun i => pickRow c i s) ∧ OwnRows wr w.heap.size g' c' rs ∧ Below w.heap.size w wr) (fun _ i _ _ _ => s.length - (intOf i).toNat)
  case atStart => exact ⟨0, w.heap.size, 0, [], Nat.zero_le _, rfl, rfl, rfl, rfl, (OwnRows.empty (w := w) (Nat.le_refl _)).drewN m1, below_drewN hb0 m1⟩
  case round =>
    obtain ⟨t, g', c', rs, ht, rfl, rfl, hrs, hcont, ho, hb⟩ := hrel
    by_cases hlt : t < s.length
    · have hst := hs t hlt
      have htk := take_map_succ (fun i => pickRow c i s) s t hlt
      obtain ⟨iN, hiN⟩ : ∃ iN : Nat, s.getD t 0 = iN := ⟨(s.getD t 0).toNat, by omega⟩
      have p1 := hc t hlt
      rw [hiN] at p1 hst htk
      have hic : iN < c.length := by omega
      have hicI : (iN : Int) < (c.length : Int) := by omega
      obtain ⟨ga, oa, ca, q1, q2, q3, q4⟩ := hr iN hic
      have hri := hC.2.2.1 iN hic
      rw [hri] at q1
      have Htk := Lib.hid htk; clear htk hst hiN
      obtain ⟨wo, rfl⟩ : ∃ wo : World, wo = wr := ⟨_, rfl⟩
      go_wp2
      go_loopw [8, 9] (fun x i wr => ∃ k gr cr : Nat, k ≤ s.length ∧ i = .int .i64 k ∧ x = (Value.slice (some ⟨gr, 0, none⟩) k cr) ∧ Own wr wo.heap.size gr cr (pickRow c iN (s.take k)) ∧ Below wo.heap.size wo wr) (fun _ i _ => s.length - (intOf i).toNat)
      case atStart => exact ⟨0, wo.heap.size, 0, Nat.zero_le _, rfl, rfl, Own.empty (Nat.le_refl _), (Below.refl _ _).alloc (Nat.le_refl _) _⟩
      case round =>
        obtain ⟨k, gr, cr, hk, rfl, rfl, hor, hb2⟩ := hrel
        have hbb : Below w.heap.size w wr := hb.trans (hb2.mono hb.size)
        by_cases hltk : k < s.length
        · have hsk := hs k hltk
          have htk2 := take_map_succ (fun j => ent c iN j.toNat) s k hltk
          obtain ⟨jN, hjN⟩ : ∃ jN : Nat, s.getD k 0 = jN := ⟨(s.getD k 0).toNat, by omega⟩
          have p2 := hc k hltk
          rw [hjN] at p2 hsk htk2
          rw [Int.toNat_natCast] at htk2
          have hjc : jN < c.length := by omega
          have Htk2 := Lib.hid htk2; clear htk2 hsk hjN
          have e2 := q4 jN (by rw [hri]; exact hjc)
          have hee : (c.getD iN []).getD jN 0 = ent c iN jN := rfl
          rw [hee] at e2
          have hpl : (pickRow c iN (s.take k)).length = k := by simp [pickRow]; omega
          have Hpl := Lib.hid hpl; clear hpl hee
          generalize ent c iN jN = y at *
          have hB : Below w.heap.size w wr.drew := Below.drew hbb
          have u1 : wr.drew.cell? ⟨g, o + t, none⟩ = some (.int .i64 iN) := (hB.cell (p := ⟨g, o + t, none⟩) hg).trans p1
          have u2 : wr.drew.cell? ⟨g, o + k, none⟩ = some (.int .i64 jN) := (hB.cell (p := ⟨g, o + k, none⟩) hg).trans p2
          have u3 : wr.drew.cell? ⟨gc, oc + iN, none⟩ = some (Value.slice (some ⟨ga, oa, none⟩) c.length ca) := (hB.cell (p := ⟨gc, oc + iN, none⟩) hgc).trans q1
          have u4 : wr.drew.cell? ⟨ga, oa + jN, none⟩ = some (.int .i64 y) := (hB.cell (p := ⟨ga, oa + jN, none⟩) q3).trans e2
          have hBg := hor.base
          have hsz := hb.size
          have ne1 : some g ≠ some gr := by intro e; cases e; omega
          have ne2 : some gc ≠ some gr := by intro e; cases e; omega
          have ne3 : some ga ≠ some gr := by intro e; cases e; omega
          have i1 : (0 : Int) ≤ (iN : Int) := by omega
          have i2 : (0 : Int) ≤ (jN : Int) := by omega
          have i3 : (jN : Int) < (c.length : Int) := by omega
          have hor' : Own wr.drew wo.heap.size gr cr (pickRow c iN (s.take k)) := hor.drew
          have bA : Below wr.drew.heap.size wr.drew ((wr.alloc (.cells #[.int .i64 y] 3)).drew) := (Below.refl _ wr.drew).alloc (Nat.le_refl _) (.cells #[.int .i64 y] 3)
          go_wp2_with fail
          go_region_held3 (fun W => W.cell? ⟨g, o + t, none⟩ = some (.int .i64 iN) ∧ W.cell? ⟨g, o + k, none⟩ = some (.int .i64 jN) ∧ W.cell? ⟨gc, oc + iN, none⟩ = some (Value.slice (some ⟨ga, oa, none⟩) c.length ca) ∧ W.cell? ⟨ga, oa + jN, none⟩ = some (.int .i64 y))
            (first | exact ⟨u1, u2, u3, u4⟩ | exact ⟨keepCell bA u1, keepCell bA u2, keepCell bA u3, keepCell bA u4⟩ | exact ⟨hg3.cell (a := ⟨g, o + t, none⟩) u1 ne1, hg3.cell (a := ⟨g, o + k, none⟩) u2 ne1, hg3.cell (a := ⟨gc, oc + iN, none⟩) u3 ne2, hg3.cell (a := ⟨ga, oa + jN, none⟩) u4 ne3⟩)
            ((refine step_append_int (w := wr.drew) (by rfl) _ _ (by rfl) wo.heap.size gr cr k wr.heap.size (pickRow c iN (s.take k)) y _ Hpl.out (by rfl) (by rfl) (by exact hor') (by rfl) (by rfl) (by omega) ?_; intro g3 c3 w3 ho3 hg3 hor3))
          go_wp2
          go_roundw
          case rel =>
            refine ⟨k + 1, g3, c3, by omega, by go_num, rfl, ?_, (Below.drew hb2).grown hg3 hb2.size (by intro j hj; cases hj; exact hor.base)⟩
            have := Htk2.out
            have e : pickRow c iN (s.take (k + 1)) = pickRow c iN (s.take k) ++ [y] := this
            rw [e]; exact ho3
          case measure => simp [intOf]; omega
        · obtain rfl : k = s.length := by omega
          rw [List.take_of_length_le (Nat.le_refl _)] at hor
          have hpl : (pickRow c iN s).length = s.length := by simp [pickRow]
          have ho2 := ho.below hb2
          have hne : ∀ r ∈ rs, r.1 ≠ gr := fun r hr => by have h1 := (ho.2.1 r hr).lt; have h2 := hor.base; omega
          have hor2 := hor.mono hb.size
          have hrow : rowVal (gr, cr, pickRow c iN s) = (Value.slice (some ⟨gr, 0, none⟩) s.length cr) := by unfold rowVal; rw [hpl]
          clear p1 hpl q1 q4
          go_wp2_with (at_builtin; refine wpList_append_row rfl _ _ rfl w.heap.size g' c' t wr.heap.size rs (gr, cr, pickRow c iN s) _ hrs.out (by rw [hrow]) rfl ho2 hor2 hne rfl rfl (by omega) ?_)
          intro g4 c4 w4 ho4 hg4 _
          go_wp2
          go_roundw
          case rel =>
            refine ⟨t + 1, g4, c4, rs ++ [(gr, cr, pickRow c iN s)], by omega, by go_num, rfl, by show _ = _; rw [List.length_append, hrs.out]; rfl, ?_, ho4, hbb.grown hg4 hbb.size (by intro j hj; cases hj; exact ho.base)⟩
            show _ = _
            rw [contents_push, hcont.out, Htk.out]
          case measure => simp [intOf]; omega
    · obtain rfl : t = s.length := by omega
      have hc2 := hcont.out
      rw [List.take_of_length_le (Nat.le_refl _)] at hc2
      have Hc2 := Lib.hid hc2
      clear hc2
      go_wp2
      go_ret2
      exact ⟨g', c', rs, rfl, Hc2.out, ho, hb⟩
end Go.Proofs.YtobeigdjhepedaaGreatDoor
namespace Go.Proofs.YtobeigdjhepedaaGreatDoor
set_option maxRecDepth 100000
open Go.RowKit

attribute [local go_sem ↓] Go.wp_at_zero Go.wp_at_succ
set_option maxHeartbeats 4000000 in
theorem spec_Relabel_ok (gc oc n cc g o m cs : Nat) (c : List (List Int)) (od : List Nat) (w : World) (hn : c.length = n) (hod : od.length = n) (hm : n = m) (hC : IsC c) (hnd : od.Nodup) (hlt : ∀ x ∈ od, x < n) (hcap : n ≤ cs) (hgc : gc < w.heap.size) (hg : g < w.heap.size) (hr : Rows2 w gc oc c) (hc : Cells w g o (intsOf od)) :
    Calls Tryz.prog 175 #[(Value.slice (some ⟨gc, oc, none⟩) n cc), (Value.slice (some ⟨g, o, none⟩) m cs)] w (fun e w' => ∃ g' cap rs, e = .returned (.tuple #[(Value.slice (some ⟨g', 0, none⟩) n cap), .bool true]) ∧ contents rs = pickL c (intsOf od) ∧ OwnRows w' w.heap.size g' cap rs ∧ Below w.heap.size w w') := by
  subst hm
  have hn4 := hC.2.1
  have hcart := spec_IsCartan gc oc n cc c w hn (by omega) (fun j hj => by have := hC.2.2.1 j hj; omega) hr
  rw [decide_eq_true hC] at hcart
  have Hcart := Lib.hid hcart
  clear hcart
  obtain ⟨s, hs⟩ : ∃ s, intsOf od = s := ⟨_, rfl⟩
  rw [hs] at hc ⊢
  have hsl : s.length = n := by rw [← hs, intsOf_length]; exact hod
  have hg2 : ∀ t, t < s.length → s.getD t 0 = ((od.getD t 0 : Nat) : Int) := fun t ht => by rw [← hs]; exact intsOf_getD od t (by omega)
  have hin : ∀ t, t < s.length → 0 ≤ s.getD t 0 ∧ s.getD t 0 < c.length := fun t ht => by
    rw [hg2 t ht]
    have := hlt (od.getD t 0) (by simp [List.getD, show t < od.length by omega])
    omega
  have Hnot := Lib.hid (fun t (ht : t < s.length) => show decide (s.getD t 0 ∈ s.take t) = false from decide_eq_false (fun hmem => by
    rw [hg2 t ht, ← hs] at hmem
    unfold intsOf at hmem
    rw [← List.map_take] at hmem
    obtain ⟨y, hy, e⟩ := List.mem_map.1 hmem
    have e2 : y = od.getD t 0 := by omega
    obtain ⟨u, hu, rfl⟩ := List.mem_iff_getElem.1 hy
    rw [List.length_take] at hu
    rw [List.getElem_take] at e2
    have ht2 : t < od.length := by omega
    have e3 : od.getD t 0 = od[t] := by simp [List.getD, ht2]
    rw [e3] at e2
    have := (List.getElem_inj hnd).1 e2
    omega))
  have HH := Lib.hid (fun W (hW : ∃ q, W = w.drewN q) t (ht : t < s.length) => spec_l3Has_ok g o t cs (s.getD t 0) (s.take t) W (by rw [List.length_take]; omega) (by omega) ((hc.take t).still hW))
  have H1 := Lib.hid (fun W t (ht : t < s.length) => show Calls Tryz.prog 51 #[.int .i64 (s.getD t 0), .int .i64 0, .int .i64 ((n : Int) - 1)] W (Reads W (.bool true)) from by
    have := spec_l1In (s.getD t 0) 0 ((n : Int) - 1) W
    have h2 := hin t ht
    rwa [decide_eq_true h2.1, decide_eq_true (show s.getD t 0 ≤ (n : Int) - 1 by omega)] at this)
  clear hg2 hs hnd hlt hod
  have hn4' : n ≤ 4 := by omega
  have Hcl := Lib.hid hn
  have Hsl := Lib.hid hsl
  go_enter Tryz.func175, Tryz.ntmps175
  go_wp2_with fail
  refine Hcart.out.mono ?_
  rintro e w1 ⟨rfl, m1, rfl⟩
  clear Hcart
  have Hin : Hid (∀ t, t < n → 0 ≤ s.getD t 0 ∧ s.getD t 0 < (n : Int)) := Lib.hid (fun t ht => by have := hin t (by omega); rw [Hcl.out] at this; exact this)
  clear hin hsl hn hn4
  go_wp2_with fail
  go_loopw [6] (fun iv wr => ∃ t q : Nat, t ≤ n ∧ iv = .int .i64 t ∧ wr = w.drewN q) (fun iv _ => n - (intOf iv).toNat)
  case atStart => exact ⟨0, m1, Nat.zero_le _, rfl, rfl⟩
  case round =>
    obtain ⟨t, q, ht, rfl, rfl⟩ := hrel
    by_cases hlt : t < n
    · have hts : t < s.length := by rw [Hsl.out]; exact hlt
      have p1 := hc t hts
      have k1 := Lib.hid (fun W => H1.out W t hts)
      have k2 := Lib.hid (fun W hW => HH.out W hW t hts)
      rw [Hnot.out t hts] at k2
      have b1 : (t : Int) ≤ (cs : Int) := by omega
      generalize s.getD t 0 = y at *
      clear hts
      go_wp2_with fail
      go_quiet ((first | (go_at_call 51; first | with_reducible exact Calls.quiet_of (k1.out _) | with_reducible exact Reads.quiet4 (k1.out _)) | (go_at_call 120; first | with_reducible exact Calls.quiet_of (k2.out _ ⟨_, rfl⟩) | with_reducible exact Reads.quiet4 (k2.out _ ⟨_, rfl⟩))))
      go_wp2_with fail
      go_roundw
      case rel => exact ⟨t + 1, _, by omega, by go_num, by first | rfl | exact World.drewN_drewN _ _ _⟩
      case measure => simp [intOf]; omega
    · obtain rfl : n = t := by omega
      have HE0 := Lib.hid (show OwnRows ((w.drewN q).alloc (.cells #[] 28)) w.heap.size w.heap.size 0 [] from OwnRows.empty (w := w.drewN q) (Nat.le_refl _))
      have HB0 := Lib.hid (show Below w.heap.size w ((w.drewN q).alloc (.cells #[] 28)) from (below_drewN (Below.refl _ w) q).alloc (Nat.le_refl _) _)
      clear H1 HH Hnot
      have hs := Hin.out
      go_wp2_with fail
      go_loopw [7, 8, 9, 10] (fun x i _ _ wr => ∃ (t g' c' : Nat) (rs : List RowRef), t ≤ n ∧ i = .int .i64 t ∧ x = (Value.slice (some ⟨g', 0, none⟩) t c') ∧ Hid (rs.length = t) ∧ Hid (contents rs = (s.take t).map fun i => pickRow c i s) ∧ OwnRows wr w.heap.size g' c' rs ∧ Below w.heap.size w wr) (fun _ i _ _ _ => n - (intOf i).toNat)
      case atStart => exact ⟨0, w.heap.size, 0, [], Nat.zero_le _, rfl, rfl, rfl, rfl, HE0.out, HB0.out⟩
      case round =>
        obtain ⟨t, g', c', rs, ht, rfl, rfl, hrs, hcont, ho, hb⟩ := hrel
        by_cases hlt : t < n
        · have hst := hs t hlt
          have htk := take_map_succ (fun i => pickRow c i s) s t (by rw [Hsl.out]; exact hlt)
          obtain ⟨iN, hiN⟩ : ∃ iN : Nat, s.getD t 0 = iN := ⟨(s.getD t 0).toNat, by omega⟩
          have p1 := hc t (by rw [Hsl.out]; exact hlt)
          rw [hiN] at p1 hst htk
          have hic : iN < n := by omega
          have hicI : (iN : Int) < (n : Int) := by omega
          obtain ⟨ga, oa, ca, q1, q2, q3, q4⟩ := hr iN (by rw [Hcl.out]; exact hic)
          have hri : (c.getD iN []).length = n := (hC.2.2.1 iN (by rw [Hcl.out]; exact hic)).trans Hcl.out
          rw [hri] at q1
          have Htk := Lib.hid htk; clear htk hst hiN
          obtain ⟨wo, rfl⟩ : ∃ wo : World, wo = wr := ⟨_, rfl⟩
          go_wp2
          go_loopw [9, 10] (fun x i wr => ∃ k gr cr : Nat, k ≤ n ∧ i = .int .i64 k ∧ x = (Value.slice (some ⟨gr, 0, none⟩) k cr) ∧ Own wr wo.heap.size gr cr (pickRow c iN (s.take k)) ∧ Below wo.heap.size wo wr) (fun _ i _ => n - (intOf i).toNat)
          case atStart => exact ⟨0, wo.heap.size, 0, Nat.zero_le _, rfl, rfl, Own.empty (Nat.le_refl _), (Below.refl _ _).alloc (Nat.le_refl _) _⟩
          case round =>
            obtain ⟨k, gr, cr, hk, rfl, rfl, hor, hb2⟩ := hrel
            have hbb : Below w.heap.size w wr := hb.trans (hb2.mono hb.size)
            by_cases hltk : k < n
            · have hsk := hs k hltk
              have htk2 := take_map_succ (fun j => ent c iN j.toNat) s k (by rw [Hsl.out]; exact hltk)
              obtain ⟨jN, hjN⟩ : ∃ jN : Nat, s.getD k 0 = jN := ⟨(s.getD k 0).toNat, by omega⟩
              have p2 := hc k (by rw [Hsl.out]; exact hltk)
              rw [hjN] at p2 hsk htk2
              rw [Int.toNat_natCast] at htk2
              have hjc : jN < n := by omega
              have Htk2 := Lib.hid htk2; clear htk2 hsk hjN
              have e2 := q4 jN (by rw [hri]; exact hjc)
              have hee : (c.getD iN []).getD jN 0 = ent c iN jN := rfl
              rw [hee] at e2
              have hpl : (pickRow c iN (s.take k)).length = k := by simp [pickRow]; have := Hsl.out; omega
              have Hpl := Lib.hid hpl; clear hpl hee
              generalize ent c iN jN = y at *
              have hB : Below w.heap.size w wr.drew := Below.drew hbb
              have u1 : wr.drew.cell? ⟨g, o + t, none⟩ = some (.int .i64 iN) := (hB.cell (p := ⟨g, o + t, none⟩) hg).trans p1
              have u2 : wr.drew.cell? ⟨g, o + k, none⟩ = some (.int .i64 jN) := (hB.cell (p := ⟨g, o + k, none⟩) hg).trans p2
              have u3 : wr.drew.cell? ⟨gc, oc + iN, none⟩ = some (Value.slice (some ⟨ga, oa, none⟩) n ca) := (hB.cell (p := ⟨gc, oc + iN, none⟩) hgc).trans q1
              have u4 : wr.drew.cell? ⟨ga, oa + jN, none⟩ = some (.int .i64 y) := (hB.cell (p := ⟨ga, oa + jN, none⟩) q3).trans e2
              have hBg := hor.base
              have hsz := hb.size
              have ne1 : some g ≠ some gr := by intro e; cases e; omega
              have ne2 : some gc ≠ some gr := by intro e; cases e; omega
              have ne3 : some ga ≠ some gr := by intro e; cases e; omega
              have i1 : (0 : Int) ≤ (iN : Int) := by omega
              have i2 : (0 : Int) ≤ (jN : Int) := by omega
              have i3 : (jN : Int) < (n : Int) := by omega
              have hor' : Own wr.drew wo.heap.size gr cr (pickRow c iN (s.take k)) := hor.drew
              have bA : Below wr.drew.heap.size wr.drew ((wr.alloc (.cells #[.int .i64 y] 3)).drew) := (Below.refl _ wr.drew).alloc (Nat.le_refl _) (.cells #[.int .i64 y] 3)
              go_wp2_with fail
              go_region_held3 (fun W => W.cell? ⟨g, o + t, none⟩ = some (.int .i64 iN) ∧ W.cell? ⟨g, o + k, none⟩ = some (.int .i64 jN) ∧ W.cell? ⟨gc, oc + iN, none⟩ = some (Value.slice (some ⟨ga, oa, none⟩) n ca) ∧ W.cell? ⟨ga, oa + jN, none⟩ = some (.int .i64 y))
                (first | exact ⟨u1, u2, u3, u4⟩ | exact ⟨keepCell bA u1, keepCell bA u2, keepCell bA u3, keepCell bA u4⟩ | exact ⟨hg3.cell (a := ⟨g, o + t, none⟩) u1 ne1, hg3.cell (a := ⟨g, o + k, none⟩) u2 ne1, hg3.cell (a := ⟨gc, oc + iN, none⟩) u3 ne2, hg3.cell (a := ⟨ga, oa + jN, none⟩) u4 ne3⟩)
                ((refine step_append_int (w := wr.drew) (by rfl) _ _ (by rfl) wo.heap.size gr cr k wr.heap.size (pickRow c iN (s.take k)) y _ Hpl.out (by rfl) (by rfl) (by exact hor') (by rfl) (by rfl) (by omega) ?_; intro g3 c3 w3 ho3 hg3 hor3))
              go_wp2
              go_roundw
              case rel =>
                refine ⟨k + 1, g3, c3, by omega, by go_num, rfl, ?_, (Below.drew hb2).grown hg3 hb2.size (by intro j hj; cases hj; exact hor.base)⟩
                have := Htk2.out
                have e : pickRow c iN (s.take (k + 1)) = pickRow c iN (s.take k) ++ [y] := this
                rw [e]; exact ho3
              case measure => simp [intOf]; omega
            · obtain rfl : n = k := by omega
              rw [List.take_of_length_le (Nat.le_of_eq Hsl.out)] at hor
              have hpl : (pickRow c iN s).length = n := by simp [pickRow]; exact Hsl.out
              have ho2 := ho.below hb2
              have hne : ∀ r ∈ rs, r.1 ≠ gr := fun r hr => by have h1 := (ho.2.1 r hr).lt; have h2 := hor.base; omega
              have hor2 := hor.mono hb.size
              have hrow : rowVal (gr, cr, pickRow c iN s) = (Value.slice (some ⟨gr, 0, none⟩) n cr) := by unfold rowVal; rw [hpl]
              clear p1 hpl q1 q4
              go_wp2_with (at_builtin; refine wpList_append_row rfl _ _ rfl w.heap.size g' c' t wr.heap.size rs (gr, cr, pickRow c iN s) _ hrs.out (by rw [hrow]) rfl ho2 hor2 hne rfl rfl (by omega) ?_)
              intro g4 c4 w4 ho4 hg4 _
              go_wp2
              go_roundw
              case rel =>
                refine ⟨t + 1, g4, c4, rs ++ [(gr, cr, pickRow c iN s)], by omega, by go_num, rfl, by show _ = _; rw [List.length_append, hrs.out]; rfl, ?_, ho4, hbb.grown hg4 hbb.size (by intro j hj; cases hj; exact ho.base)⟩
                show _ = _
                rw [contents_push, hcont.out, Htk.out]
              case measure => simp [intOf]; omega
        · obtain rfl : n = t := by omega
          have hc2 := hcont.out
          rw [List.take_of_length_le (Nat.le_of_eq Hsl.out)] at hc2
          have Hc2 := Lib.hid hc2
          clear hc2
          go_wp2
          go_ret2
          exact ⟨g', c', rs, rfl, Hc2.out, ho, hb⟩
end Go.Proofs.YtobeigdjhepedaaGreatDoor
namespace Go.Proofs.YtobeigdjhepedaaGreatDoor
set_option maxRecDepth 100000
open Go.RowKit

theorem rows_take_succ {a b : List (List Int)} {k : Nat} (hl : b.length = a.length) (hk : k < a.length) (h : a.take k = b.take k) (he : a.getD k [] = b.getD k []) : a.take (k + 1) = b.take (k + 1) := by
  have hk2 : k < b.length := by omega
  rw [List.take_succ_eq_append_getElem hk, List.take_succ_eq_append_getElem hk2, h]
  simp [List.getD, hk, hk2] at he
  rw [he]

set_option maxHeartbeats 1000000 in
theorem spec_EqualCartans_any (g1 o1 n1 c1 g2 o2 n2 c2 : Nat) (a b : List (List Int)) (w : World) (hn1 : a.length = n1) (hn2 : b.length = n2) (hx : a.length ≤ 1099511627776)
    (hra : ∀ j, j < a.length → (a.getD j []).length ≤ 1099511627776) (hrb : ∀ j, j < b.length → (b.getD j []).length ≤ 1099511627776) (hca : Rows2 w g1 o1 a) (hcb : Rows2 w g2 o2 b) :
    Calls Tryz.prog 176 #[(Value.slice (some ⟨g1, o1, none⟩) n1 c1), (Value.slice (some ⟨g2, o2, none⟩) n2 c2)] w (Reads w (.bool (decide (a = b)))) := by
  subst hn1; subst hn2
  by_cases hl : b.length = a.length
  · have hl' : b.length = a.length := hl
    have Hl := Lib.hid hl'; clear hl'
    have hb : ((a.length : Int) != (b.length : Int)) = false := by rw [hl]; simp
    clear hl
    go_enter Tryz.func176, Tryz.ntmps176
    go_wp2
    go_loopw [5, 6] (fun i _ wr => ∃ k : Nat, k ≤ a.length ∧ i = .int .i64 k ∧ Hid (a.take k = b.take k) ∧ ∃ n, wr = w.drewN n) (fun i _ _ => a.length - (intOf i).toNat)
    case atStart => exact ⟨0, Nat.zero_le _, rfl, rfl, 0, rfl⟩
    case round =>
      obtain ⟨k, hk, rfl, he, n, rfl⟩ := hrel
      by_cases hlt : k < a.length
      · have hl2 : k < b.length := by rw [Hl.out]; exact hlt
        obtain ⟨ga, oa, ca, q1, q2, q3, q4⟩ := hca k hlt
        obtain ⟨gb, ob, cb, p1, p2, p3, p4⟩ := hcb k hl2
        have hrk := hra k hlt
        have hrk2 := hrb k hl2
        obtain ⟨R, hR⟩ : ∃ R, a.getD k [] = R := ⟨_, rfl⟩
        obtain ⟨S, hS⟩ : ∃ S, b.getD k [] = S := ⟨_, rfl⟩
        rw [hR] at q1 q2 q4 hrk
        rw [hS] at p1 p2 p4 hrk2
        have HR := Lib.hid hR; have HS := Lib.hid hS
        clear hR hS
        by_cases hRS : S.length = R.length
        · have hRb : ((R.length : Int) != (S.length : Int)) = false := by rw [hRS]; simp
          have HRS := Lib.hid hRS; clear hRS
          go_wp2
          go_quiet (fail)
          go_wp2
          obtain ⟨wo, hwo⟩ : ∃ wo : World, wo = w.drewN n := ⟨_, rfl⟩
          clear hwo
          go_loopw [6] (fun j wr => ∃ t : Nat, t ≤ R.length ∧ j = .int .i64 t ∧ Hid (R.take t = S.take t) ∧ ∃ n, wr = w.drewN n) (fun j _ => R.length - (intOf j).toNat)
          case atStart => exact ⟨0, Nat.zero_le _, rfl, rfl, (by first | exact ⟨_, rfl⟩ | exact ⟨0, rfl⟩ | exact still2 _ _ _ | exact still3 _ _ _ _)⟩
          case round =>
            obtain ⟨t, ht, rfl, het, n2, rfl⟩ := hrel
            by_cases htl : t < R.length
            · have htl2 : t < S.length := by rw [HRS.out]; exact htl
              have r1 := q4 t htl
              have r2 := p4 t htl2
              go_wp2
              go_quiet (fail)
              go_wp2
              · have hne : (R[t] != S[t]) = true := by assumption
                go_ret
                have hab : a ≠ b := fun e => by
                  have : R = S := by rw [← HR.out, ← HS.out, e]
                  subst this; simp at hne
                exact ⟨ret_bool (by simp [hab]), (by first | exact ⟨_, rfl⟩ | exact ⟨0, rfl⟩ | exact still2 _ _ _ | exact still3 _ _ _ _)⟩
              · have heq : (R[t] != S[t]) = false := by assumption
                go_roundw
                case rel => exact ⟨t + 1, by omega, by go_num, take_succ_eq HRS.out.symm htl het.out (by simpa [List.getD, htl, htl2] using heq), (by first | exact ⟨_, rfl⟩ | exact ⟨0, rfl⟩ | exact still2 _ _ _ | exact still3 _ _ _ _)⟩
                case measure => simp [intOf]; omega
            · obtain rfl : t = R.length := by omega
              go_wp2
              go_roundw
              case rel =>
                have hRS : R = S := by
                  have h3 := het.out
                  rwa [List.take_of_length_le (by omega), List.take_of_length_le (by have := HRS.out; omega)] at h3
                exact ⟨k + 1, by omega, by go_num, rows_take_succ Hl.out hlt he.out (by rw [HR.out, HS.out]; exact hRS), (by first | exact ⟨_, rfl⟩ | exact ⟨0, rfl⟩ | exact still2 _ _ _ | exact still3 _ _ _ _)⟩
              case measure => simp [intOf]; omega
        · have hRb : ((R.length : Int) != (S.length : Int)) = true := by rw [bne_iff_ne]; omega
          go_wp2
          go_quiet (fail)
          go_wp2
          go_ret
          have hne : a ≠ b := fun e => hRS (by rw [← HR.out, ← HS.out, e])
          exact ⟨ret_bool (by simp [hne]), (by first | exact ⟨_, rfl⟩ | exact ⟨0, rfl⟩ | exact still2 _ _ _ | exact still3 _ _ _ _)⟩
      · obtain rfl : k = a.length := by omega
        go_wp2
        go_ret
        refine ⟨ret_bool ?_, n, rfl⟩
        have h3 := he.out
        rw [List.take_of_length_le (by omega), List.take_of_length_le (by have := Hl.out; omega)] at h3
        simp [h3]
  · have hb : ((a.length : Int) != (b.length : Int)) = true := by rw [bne_iff_ne]; omega
    go_enter Tryz.func176, Tryz.ntmps176
    go_wp2
    go_ret
    exact ⟨ret_bool (by simp; intro e; exact hl (by rw [e])), 0, rfl⟩
end Go.Proofs.YtobeigdjhepedaaGreatDoor
