/- WitS Sub -/
import Derived.Test.YtkjglfafphffiaaGreatDoorC11
namespace Go.Proofs.YtkjglfafphffiaaGreatDoor
set_option maxRecDepth 100000
open Go.RowKit
def setsTo (n t : Nat) : List (List Int) := (List.range t).map fun k => setTo (k + 1) n
theorem setsTo_length (n t : Nat) : (setsTo n t).length = t := by simp [setsTo]
theorem setsTo_succ (n t : Nat) : setsTo n (t + 1) = setsTo n t ++ [setTo (t + 1) n] := by simp [setsTo, List.range_succ]
set_option maxHeartbeats 2000000 in
theorem spec_l4Sets_any (n : Nat) (w : World) (hn4 : n ≤ 4) : Calls Tryz.prog 121 #[.int .i64 n] w (GotRows w (setsTo n (2 ^ n - 1))) := by
  obtain ⟨Q, hQ, hQ2, hQ3⟩ : ∃ Q : Nat, Q = 2 ^ n ∧ Q ≤ 16 ∧ wrap64 ((2 : Int) ^ n) = (Q : Int) := ⟨2 ^ n, rfl, pow_le16 hn4, wrap_pow4 hn4⟩
  have hQ1 : 1 ≤ Q := by rw [hQ]; exact Nat.one_le_two_pow
  rw [← hQ]
  have HQ := Lib.hid hQ; clear hQ
  go_enter Tryz.func121, Tryz.ntmps121
  go_wp2
  go_loopw [3, 4, 5, 6] (fun x i _ _ wr => ∃ (t g' c' : Nat) (rs : List RowRef), t + 1 ≤ Q ∧ i = .int .i64 ((t : Int) + 1) ∧ x = (Value.slice (some ⟨g', 0, none⟩) t c') ∧ Hid (rs.length = t) ∧ Hid (contents rs = setsTo n t) ∧ OwnRows wr w.heap.size g' c' rs ∧ Below w.heap.size w wr) (fun _ i _ _ _ => 17 - (intOf i).toNat)
  case atStart => exact ⟨0, w.heap.size, 0, [], by omega, rfl, rfl, rfl, rfl, OwnRows.empty (Nat.le_refl _), (Below.refl _ _).alloc (Nat.le_refl _) _⟩
  case round =>
    obtain ⟨t, g', c', rs, ht, rfl, rfl, hrs, hcont, ho, hb⟩ := hrel
    by_cases hlt : t + 1 < Q
    · have hltI : (t : Int) + 1 < Q := by omega
      have hm15 : t + 1 ≤ 15 := by omega
      obtain ⟨wo, rfl⟩ : ∃ wo : World, wo = wr := ⟨_, rfl⟩
      go_wp2
      simp only [hQ3]
      clear hQ3
      go_loopw [5, 6] (fun x i wr => ∃ k gr cr n' : Nat, k ≤ n ∧ i = .int .i64 k ∧ x = (Value.slice (some ⟨gr, 0, none⟩) n' cr) ∧ Hid ((setTo (t + 1) k).length = n') ∧ Own wr wo.heap.size gr cr (setTo (t + 1) k) ∧ Below wo.heap.size wo wr) (fun _ i _ => n - (intOf i).toNat)
      case atStart => exact ⟨0, wo.heap.size, 0, 0, Nat.zero_le _, rfl, rfl, rfl, Own.empty (w := wo) (Nat.le_refl _), (Below.refl _ _).alloc (Nat.le_refl _) _⟩
      case round =>
        obtain ⟨k, gr, cr, n', hk, rfl, rfl, hn', hor, hb2⟩ := hrel
        have hbb : Below w.heap.size w wr := hb.trans (hb2.mono hb.size)
        have hle := setTo_len (t + 1) k
        rw [hn'.out] at hle
        by_cases hltk : k < n
        · have hltkI : (k : Int) < (n : Int) := by omega
          have hand : bits BinOp.and IntKind.i64 (((t : Int) + 1) / 2 ^ k) 1 = (((t + 1) / 2 ^ k % 2 : Nat) : Int) := by
            have h := and1_at (t + 1) k hm15
            have eM : ((t : Int) + 1) = ((t + 1 : Nat) : Int) := by omega
            rw [eM]; exact h
          by_cases hbit : (t + 1) / 2 ^ k % 2 = 1
          · rw [hbit] at hand
            have hS := setTo_one hbit
            have HS := Lib.hid hS
            clear hS hbit
            go_wp2_with (at_builtin; refine wpList_append_int_n rfl _ _ rfl wo.heap.size gr cr n' (setTo (t + 1) k) (k : Int) hn'.out hor rfl rfl (by omega) ?_)
            intro g3 c3 w3 ho3 hg3 _
            go_wp2
            go_roundw
            case rel =>
              rw [← HS.out] at ho3
              exact ⟨k + 1, g3, c3, n' + 1, by omega, by go_num, rfl, by show _ = _; rw [HS.out, List.length_append, hn'.out]; rfl, ho3, hb2.grown hg3 hb2.size (by intro j hj; cases hj; exact hor.base)⟩
            case measure => simp [intOf]; omega
          · have hb0 : (t + 1) / 2 ^ k % 2 = 0 := by omega
            rw [hb0] at hand
            have hS := setTo_zero hbit
            have HS := Lib.hid hS
            clear hS hbit hb0
            go_wp2
            go_roundw
            case rel => exact ⟨k + 1, gr, cr, n', by omega, by go_num, rfl, by show _ = _; rw [HS.out]; exact hn'.out, by rw [HS.out]; exact hor, hb2⟩
            case measure => simp [intOf]; omega
        · obtain rfl : n = k := by omega
          have ho2 := ho.below hb2
          have hne : ∀ r ∈ rs, r.1 ≠ gr := fun r hr => by have h1 := (ho.2.1 r hr).lt; have h2 := hor.base; omega
          have hor2 := hor.mono hb.size
          have hrow : rowVal (gr, cr, setTo (t + 1) n) = (Value.slice (some ⟨gr, 0, none⟩) n' cr) := by unfold rowVal; rw [hn'.out]
          go_wp2_with (at_builtin; refine wpList_append_row rfl _ _ rfl w.heap.size g' c' t wr.heap.size rs (gr, cr, setTo (t + 1) n) _ hrs.out (by rw [hrow]) rfl ho2 hor2 hne rfl rfl (by omega) ?_)
          intro g4 c4 w4 ho4 hg4 _
          go_wp2
          go_roundw
          case rel =>
            refine ⟨t + 1, g4, c4, rs ++ [(gr, cr, setTo (t + 1) n)], by omega, by go_num, rfl, by show _ = _; rw [List.length_append, hrs.out]; rfl, ?_, ho4, hbb.grown hg4 hbb.size (by intro j hj; cases hj; exact ho.base)⟩
            show _ = _
            rw [contents_push, hcont.out, setsTo_succ]
          case measure => simp [intOf]; omega
    · have hge : ¬ (t : Int) + 1 < Q := by omega
      obtain rfl : t = Q - 1 := by omega
      have hml := setsTo_length n (Q - 1)
      have Hml := Lib.hid hml
      clear hml
      go_wp2
      go_ret
      exact ⟨g', c', rs, by rw [Hml.out]; rfl, hcont.out, ho, hb⟩
set_option maxHeartbeats 2000000 in
theorem spec_l3Set_ok (gc oc n cc g o m cs : Nat) (c : List (List Int)) (s : List Int) (w : World) (hn : c.length = n) (hm : s.length = m) (hx : c.length ≤ 1048576) (hsl : s.length ≤ 1048576) (hrl : ∀ j, j < c.length → (c.getD j []).length ≤ 1048576)
    (hs : ∀ t, t < s.length → 0 ≤ s.getD t 0 ∧ s.getD t 0 < c.length) (hasc : ∀ t, t + 1 < s.length → s.getD t 0 < s.getD (t + 1) 0) (hr : Rows2 w gc oc c) (hc : Cells w g o s) :
    Calls Tryz.prog 117 #[(Value.slice (some ⟨gc, oc, none⟩) n cc), (Value.slice (some ⟨g, o, none⟩) m cs)] w (Reads w (.bool (decide (IsC c)))) := by
  subst hn; subst hm
  have ew : IntKind.i64.wrap ((c.length : Int) - 1) = (c.length : Int) - 1 := IntWalk.i64_in _ (by omega)
  have hcart : Hid (∀ m, Calls Tryz.prog 60 #[(Value.slice (some ⟨gc, oc, none⟩) c.length cc)] (w.drewN m) (Reads (w.drewN m) (.bool (decide (IsC c))))) := fun m =>
    spec_IsCartan gc oc _ cc c (w.drewN m) rfl (by omega) (fun j hj => by have := hrl j hj; omega) hr
  clear hrl hr
  go_enter Tryz.func117, Tryz.ntmps117
  go_wp2
  go_loopw [5] (fun i wr => ∃ k : Nat, k ≤ s.length ∧ i = .int .i64 k ∧ ∃ m, wr = w.drewN m) (fun i _ => s.length - (intOf i).toNat)
  case atStart => exact ⟨0, Nat.zero_le _, rfl, (by first | exact ⟨_, rfl⟩ | exact ⟨0, rfl⟩ | exact still2 _ _ _ | exact still3 _ _ _ _)⟩
  case round =>
    obtain ⟨k, hk, rfl, m, rfl⟩ := hrel
    by_cases hlt : k < s.length
    · have q1 := hc k hlt
      have hsk := hs k hlt
      by_cases h0 : k = 0
      · have hkI : decide ((0 : Int) < (k : Int)) = false := by simp only [decide_eq_false_iff_not]; omega
        have hkN : decide (0 < k) = false := by simp only [decide_eq_false_iff_not]; omega
        have hkM : (k : Int) ≤ 0 := by omega
        clear hasc hs h0
        generalize s.getD k 0 = z at *
        have hq1 := cart_l1In z 0 ((c.length : Int) - 1) true (by rw [Bool.and_eq_true, decide_eq_true_eq, decide_eq_true_eq]; omega) w m
        go_wp2
        go_quiet ((go_at_call 78; exact Reads.quiet4 (hq1.out _)))
        go_wp2
        go_roundw
        case rel => exact ⟨k + 1, by omega, by go_num, (by first | exact ⟨_, rfl⟩ | exact ⟨0, rfl⟩ | exact still2 _ _ _ | exact still3 _ _ _ _)⟩
        case measure => simp [intOf]; omega
      · obtain ⟨j, rfl⟩ : ∃ j, k = j + 1 := ⟨k - 1, by omega⟩
        have q0 := hc j (by omega)
        have hj := hasc j (by omega)
        have hd2 : (0 : Int) < (j : Int) + 1 := by omega
        have hd3 : decide (s.getD (j + 1) 0 ≤ s.getD j 0) = false := by simp only [decide_eq_false_iff_not]; omega
        have hd4 : IntKind.i64.wrap ((j : Int) + 1 - 1) = (j : Int) := by rw [show (j : Int) + 1 - 1 = j by omega]; exact IntWalk.i64_in _ (by omega)
        have hjl : j < s.length := by omega
        clear hasc hs
        generalize s.getD (j + 1) 0 = z at *
        generalize s.getD j 0 = y at *
        have hq1 := cart_l1In z 0 ((c.length : Int) - 1) true (by rw [Bool.and_eq_true, decide_eq_true_eq, decide_eq_true_eq]; omega) w m
        go_wp2
        go_quiet ((go_at_call 78; exact Reads.quiet4 (hq1.out _)))
        go_wp2
        go_roundw
        case rel => exact ⟨j + 1 + 1, by omega, by go_num, (by first | exact ⟨_, rfl⟩ | exact ⟨0, rfl⟩ | exact still2 _ _ _ | exact still3 _ _ _ _)⟩
        case measure => simp [intOf]; omega
    · obtain rfl : k = s.length := by omega
      go_wp2_with fail
      refine (hcart.out m).mono ?_
      rintro e w1 ⟨rfl, m1, rfl⟩
      go_wp2_with fail
      go_ret
      exact ⟨rfl, (by first | exact ⟨_, rfl⟩ | exact ⟨0, rfl⟩ | exact still2 _ _ _ | exact still3 _ _ _ _)⟩
end Go.Proofs.YtkjglfafphffiaaGreatDoor
namespace Go.Proofs.YtkjglfafphffiaaGreatDoor
set_option maxRecDepth 100000
open Go.RowKit
attribute [local go_sem ↓] Go.wp_at_zero Go.wp_at_succ
set_option maxHeartbeats 4000000 in
theorem spec_SubCartan_ok (gc oc n cc g o m cs : Nat) (c : List (List Int)) (s : List Int) (w : World) (hn : c.length = n) (hm : s.length = m) (hC : IsC c) (hs4 : s.length ≤ 4) (hs1 : 1 ≤ s.length)
    (hs : ∀ t, t < s.length → 0 ≤ s.getD t 0 ∧ s.getD t 0 < c.length) (hasc : ∀ t, t + 1 < s.length → s.getD t 0 < s.getD (t + 1) 0) (hgc : gc < w.heap.size) (hg : g < w.heap.size) (hr : Rows2 w gc oc c) (hc : Cells w g o s) :
    Calls Tryz.prog 55 #[(Value.slice (some ⟨gc, oc, none⟩) n cc), (Value.slice (some ⟨g, o, none⟩) m cs)] w (fun e w' => ∃ g' cap rs, e = .returned (.tuple #[(Value.slice (some ⟨g', 0, none⟩) s.length cap), .bool true]) ∧ contents rs = pickL c s ∧ OwnRows w' w.heap.size g' cap rs ∧ Below w.heap.size w w') := by
  subst hn; subst hm
  have hb0 : Below w.heap.size w (w.alloc (.cells #[] 25)) := blwx
  have hn4 := hC.2.1
  have hz : ((s.length : Int) == 0) = false := by simp; intro e; subst e; simp at hs1
  go_enter Tryz.func55, Tryz.ntmps55
  go_wp2_with fail
  refine (spec_l3Set_ok gc oc _ cc g o _ cs c s _ rfl rfl (by omega) (by omega) (fun j hj => by have := hC.2.2.1 j hj; omega) hs hasc (hr.below hb0 hgc) (hc.below hb0 hg)).mono ?_
  rintro e w1 ⟨rfl, m1, rfl⟩
  rw [decide_eq_true hC]
  go_wp2_with fail
  go_loopw [6, 7, 8, 9] (fun x i _ _ wr => ∃ (t g' c' : Nat) (rs : List RowRef), t ≤ s.length ∧ i = .int .i64 t ∧ x = (Value.slice (some ⟨g', 0, none⟩) t c') ∧ Hid (rs.length = t) ∧ Hid (contents rs = (s.take t).map fun i => pickRow c i s) ∧ OwnRows wr w.heap.size g' c' rs ∧ Below w.heap.size w wr) (fun _ i _ _ _ => s.length - (intOf i).toNat)
  case atStart => exact ⟨0, w.heap.size, 0, [], Nat.zero_le _, rfl, rfl, rfl, rfl, (OwnRows.empty (w := w) (Nat.le_refl _)).drewN m1, below_drewN hb0 m1⟩
  case round =>
    obtain ⟨t, g', c', rs, ht, rfl, rfl, hrs, hcont, ho, hb⟩ := hrel
    by_cases hlt : t < s.length
    · have hst := hs t hlt
      have htk := take_map_succ (fun i => pickRow c i s) s t hlt
      obtain ⟨iN, hiN⟩ : ∃ iN : Nat, s.getD t 0 = iN := ⟨(s.getD t 0).toNat, by omega⟩
      have p1 := hc t hlt
      rw [hiN] at p1 hst htk
      have hic : iN < c.length := by omega
      have hicI : (iN : Int) < (c.length : Int) := by omega
      obtain ⟨ga, oa, ca, q1, q2, q3, q4⟩ := hr iN hic
      have hri := hC.2.2.1 iN hic
      rw [hri] at q1
      have Htk := Lib.hid htk; clear htk hst hiN
      obtain ⟨wo, rfl⟩ : ∃ wo : World, wo = wr := ⟨_, rfl⟩
      go_wp2
      go_loopw [8, 9] (fun x i wr => ∃ k gr cr : Nat, k ≤ s.length ∧ i = .int .i64 k ∧ x = (Value.slice (some ⟨gr, 0, none⟩) k cr) ∧ Own wr wo.heap.size gr cr (pickRow c iN (s.take k)) ∧ Below wo.heap.size wo wr) (fun _ i _ => s.length - (intOf i).toNat)
      case atStart => exact ⟨0, wo.heap.size, 0, Nat.zero_le _, rfl, rfl, Own.empty (Nat.le_refl _), (Below.refl _ _).alloc (Nat.le_refl _) _⟩
      case round =>
        obtain ⟨k, gr, cr, hk, rfl, rfl, hor, hb2⟩ := hrel
        have hbb : Below w.heap.size w wr := hb.trans (hb2.mono hb.size)
        by_cases hltk : k < s.length
        · have hsk := hs k hltk
          have htk2 := take_map_succ (fun j => ent c iN j.toNat) s k hltk
          obtain ⟨jN, hjN⟩ : ∃ jN : Nat, s.getD k 0 = jN := ⟨(s.getD k 0).toNat, by omega⟩
          have p2 := hc k hltk
          rw [hjN] at p2 hsk htk2
          rw [Int.toNat_natCast] at htk2
          have hjc : jN < c.length := by omega
          have Htk2 := Lib.hid htk2; clear htk2 hsk hjN
          have e2 := q4 jN (by rw [hri]; exact hjc)
          have hee : (c.getD iN []).getD jN 0 = ent c iN jN := rfl
          rw [hee] at e2
          have hpl : (pickRow c iN (s.take k)).length = k := by simp [pickRow]; omega
          have Hpl := Lib.hid hpl; clear hpl hee
          generalize ent c iN jN = y at *
          have hB : Below w.heap.size w wr.drew := Below.drew hbb
          have u1 : wr.drew.cell? ⟨g, o + t, none⟩ = some (.int .i64 iN) := (hB.cell (p := ⟨g, o + t, none⟩) hg).trans p1
          have u2 : wr.drew.cell? ⟨g, o + k, none⟩ = some (.int .i64 jN) := (hB.cell (p := ⟨g, o + k, none⟩) hg).trans p2
          have u3 : wr.drew.cell? ⟨gc, oc + iN, none⟩ = some (Value.slice (some ⟨ga, oa, none⟩) c.length ca) := (hB.cell (p := ⟨gc, oc + iN, none⟩) hgc).trans q1
          have u4 : wr.drew.cell? ⟨ga, oa + jN, none⟩ = some (.int .i64 y) := (hB.cell (p := ⟨ga, oa + jN, none⟩) q3).trans e2
          have hBg := hor.base
          have hsz := hb.size
          have ne1 : some g ≠ some gr := by intro e; cases e; omega
          have ne2 : some gc ≠ some gr := by intro e; cases e; omega
          have ne3 : some ga ≠ some gr := by intro e; cases e; omega
          have i1 : (0 : Int) ≤ (iN : Int) := by omega
          have i2 : (0 : Int) ≤ (jN : Int) := by omega
          have i3 : (jN : Int) < (c.length : Int) := by omega
          have hor' : Own wr.drew wo.heap.size gr cr (pickRow c iN (s.take k)) := hor.drew
          have bA : Below wr.drew.heap.size wr.drew ((wr.alloc (.cells #[.int .i64 y] 3)).drew) := (Below.refl _ wr.drew).alloc (Nat.le_refl _) (.cells #[.int .i64 y] 3)
          go_wp2_with fail
          go_region_held3 (fun W => W.cell? ⟨g, o + t, none⟩ = some (.int .i64 iN) ∧ W.cell? ⟨g, o + k, none⟩ = some (.int .i64 jN) ∧ W.cell? ⟨gc, oc + iN, none⟩ = some (Value.slice (some ⟨ga, oa, none⟩) c.length ca) ∧ W.cell? ⟨ga, oa + jN, none⟩ = some (.int .i64 y))
            (first | exact ⟨u1, u2, u3, u4⟩ | exact ⟨keepCell bA u1, keepCell bA u2, keepCell bA u3, keepCell bA u4⟩ | exact ⟨hg3.cell (a := ⟨g, o + t, none⟩) u1 ne1, hg3.cell (a := ⟨g, o + k, none⟩) u2 ne1, hg3.cell (a := ⟨gc, oc + iN, none⟩) u3 ne2, hg3.cell (a := ⟨ga, oa + jN, none⟩) u4 ne3⟩)
            ((refine step_append_int (w := wr.drew) (by rfl) _ _ (by rfl) wo.heap.size gr cr k wr.heap.size (pickRow c iN (s.take k)) y _ Hpl.out (by rfl) (by rfl) (by exact hor') (by rfl) (by rfl) (by omega) ?_; intro g3 c3 w3 ho3 hg3 hor3))
          go_wp2
          go_roundw
          case rel =>
            refine ⟨k + 1, g3, c3, by omega, by go_num, rfl, ?_, (Below.drew hb2).grown hg3 hb2.size (by intro j hj; cases hj; exact hor.base)⟩
            have := Htk2.out
            have e : pickRow c iN (s.take (k + 1)) = pickRow c iN (s.take k) ++ [y] := this
            rw [e]; exact ho3
          case measure => simp [intOf]; omega
        · obtain rfl : k = s.length := by omega
          rw [List.take_of_length_le (Nat.le_refl _)] at hor
          have hpl : (pickRow c iN s).length = s.length := by simp [pickRow]
          have ho2 := ho.below hb2
          have hne : ∀ r ∈ rs, r.1 ≠ gr := fun r hr => by have h1 := (ho.2.1 r hr).lt; have h2 := hor.base; omega
          have hor2 := hor.mono hb.size
          have hrow : rowVal (gr, cr, pickRow c iN s) = (Value.slice (some ⟨gr, 0, none⟩) s.length cr) := by unfold rowVal; rw [hpl]
          clear p1 hpl q1 q4
          go_wp2_with (at_builtin; refine wpList_append_row rfl _ _ rfl w.heap.size g' c' t wr.heap.size rs (gr, cr, pickRow c iN s) _ hrs.out (by rw [hrow]) rfl ho2 hor2 hne rfl rfl (by omega) ?_)
          intro g4 c4 w4 ho4 hg4 _
          go_wp2
          go_roundw
          case rel =>
            refine ⟨t + 1, g4, c4, rs ++ [(gr, cr, pickRow c iN s)], by omega, by go_num, rfl, by show _ = _; rw [List.length_append, hrs.out]; rfl, ?_, ho4, hbb.grown hg4 hbb.size (by intro j hj; cases hj; exact ho.base)⟩
            show _ = _
            rw [contents_push, hcont.out, Htk.out]
          case measure => simp [intOf]; omega
    · obtain rfl : t = s.length := by omega
      have hc2 := hcont.out
      rw [List.take_of_length_le (Nat.le_refl _)] at hc2
      have Hc2 := Lib.hid hc2
      clear hc2
      go_wp2
      go_ret2
      exact ⟨g', c', rs, rfl, Hc2.out, ho, hb⟩
end Go.Proofs.YtkjglfafphffiaaGreatDoor
