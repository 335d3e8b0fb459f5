/- determinants, the reference's: contracts. -/
import Derived.Test.YtnpechcnmchneaaGreatDoorG06
namespace Go.Proofs.YtnpechcnmchneaaGreatDoor
set_option maxRecDepth 100000
open Go.RowKit

def cutTo (row : List Int) (j k : Nat) : List Int := ((List.range k).filter (· ≠ j)).map (fun t => row.getD t 0)
theorem cutTo_ne {row : List Int} {j k : Nat} (h : k ≠ j) : cutTo row j (k + 1) = cutTo row j k ++ [row.getD k 0] := by
  have := cutAt_range row j k
  rw [if_pos h] at this
  exact this.symm
theorem cutTo_eq {row : List Int} {j k : Nat} (h : k = j) : cutTo row j (k + 1) = cutTo row j k := by
  have := cutAt_range row j k
  rw [if_neg (by simpa using h)] at this
  exact this.symm
theorem cutTo_le (row : List Int) (j k : Nat) : (cutTo row j k).length ≤ k := by
  unfold cutTo
  rw [List.length_map]
  exact Nat.le_trans (List.length_filter_le _ _) (by simp)

set_option maxHeartbeats 2000000 in
theorem spec_l4Without_any (n g o cap j : Nat) (m : List (List Int)) (w : World) (hn4 : n + 1 ≤ 4) (hsq : Sq (n + 1) m) (hj : j ≤ n) (hg : g < w.heap.size) (hr : Rows2 w g o m) :
    Calls Tryz.prog 117 #[(Value.slice (some ⟨g, o, none⟩) (n + 1) cap), .int .i64 j] w (GotRows w (minorOf m j)) := by
  go_enter Tryz.func117, Tryz.ntmps117
  go_wp2
  go_loopw [5, 6, 7, 8] (fun x i _ _ wr => ∃ (t g' c' : Nat) (rs : List RowRef), t ≤ n ∧ i = .int .i64 ((t : Int) + 1) ∧ x = (Value.slice (some ⟨g', 0, none⟩) t c') ∧ Hid (rs.length = t) ∧ Hid (contents rs = (minorOf m j).take t) ∧ OwnRows wr w.heap.size g' c' rs ∧ Below w.heap.size w wr) (fun _ i _ _ _ => n + 1 - (intOf i).toNat)
  case atStart => exact ⟨0, w.heap.size, 0, [], Nat.zero_le _, rfl, rfl, rfl, rfl, OwnRows.empty (Nat.le_refl _), (Below.refl _ _).alloc (Nat.le_refl _) _⟩
  case round =>
    obtain ⟨t, g', c', rs, ht, rfl, rfl, hrs, hcont, ho, hb⟩ := hrel
    by_cases hlt : t < n
    · have hltI : (t : Int) + 1 < (n : Int) + 1 := by omega
      obtain ⟨ga, oa, ca, q1, q2, q3, q4⟩ := hr (t + 1) (by rw [hsq.1]; omega)
      have hrk := hsq.2.1 (t + 1) (by omega)
      rw [hrk] at q1 q2
      generalize hR : m.getD (t + 1) [] = R at *
      have HR := Lib.hid hR; clear hR
      obtain ⟨wo, rfl⟩ : ∃ wo : World, wo = wr := ⟨_, rfl⟩
      go_wp2
      go_loopw [7, 8] (fun x i wr => ∃ k gr cr n' : Nat, k ≤ n + 1 ∧ i = .int .i64 k ∧ x = (Value.slice (some ⟨gr, 0, none⟩) n' cr) ∧ Hid ((cutTo R j k).length = n') ∧ Own wr wo.heap.size gr cr (cutTo R j k) ∧ Below wo.heap.size wo wr) (fun _ i _ => n + 1 - (intOf i).toNat)
      case atStart => exact ⟨0, wo.heap.size, 0, 0, Nat.zero_le _, rfl, rfl, rfl, Own.empty (w := wo) (Nat.le_refl _), (Below.refl _ _).alloc (Nat.le_refl _) _⟩
      case round =>
        obtain ⟨k, gr, cr, n', hk, rfl, rfl, hn', hor, hb2⟩ := hrel
        have hbb : Below w.heap.size w wr := hb.trans (hb2.mono hb.size)
        have hle := cutTo_le R j k
        rw [hn'.out] at hle
        by_cases hltk : k < n + 1
        · have hltkI : (k : Int) < (n : Int) + 1 := by omega
          by_cases hkj : k = j
          · subst hkj
            have hc := cutTo_eq (row := R) (j := k) (k := k) rfl
            have Hc := Lib.hid hc; clear hc
            go_wp2
            go_roundw
            case rel => exact ⟨k + 1, gr, cr, n', by omega, by go_num, rfl, by show _ = _; rw [Hc.out]; exact hn'.out, by rw [Hc.out]; exact hor, hb2⟩
            case measure => simp [intOf]; omega
          · have hne : ((k : Int) != (j : Int)) = true := by simp; omega
            have hc := cutTo_ne (row := R) hkj
            have e1 := (hbb.cell (p := ⟨g, o + (t + 1), none⟩) hg).trans q1
            have e2 := q4.below hbb q3 k (by rw [hrk]; exact hltk)
            have Hc := Lib.hid hc; clear hc
            generalize hz : R.getD k 0 = z at *
            have Hz := Lib.hid hz; clear hz
            go_wp2_with (at_builtin; refine wpList_append_int_n rfl _ _ rfl wo.heap.size gr cr n' (cutTo R j k) z hn'.out hor rfl rfl (by omega) ?_)
            intro g3 c3 w3 ho3 hg3 _
            go_wp2
            go_roundw
            case rel =>
              refine ⟨k + 1, g3, c3, n' + 1, by omega, by go_num, rfl, ?_, ?_, hb2.grown hg3 hb2.size (by intro j hj; cases hj; exact hor.base)⟩
              · show _ = _
                rw [Hc.out, List.length_append, hn'.out]; rfl
              · rw [Hc.out]; exact ho3
            case measure => simp [intOf]; omega
        · obtain rfl : k = n + 1 := by omega
          have hcut : cutTo R j (n + 1) = cutAt R j := cutAt_all hrk hj
          rw [hcut] at hn' hor
          have ho2 := ho.below hb2
          have hne : ∀ r ∈ rs, r.1 ≠ gr := fun r hr => by have h1 := (ho.2.1 r hr).lt; have h2 := hor.base; omega
          have hor2 := hor.mono hb.size
          have hrow : rowVal (gr, cr, cutAt R j) = (Value.slice (some ⟨gr, 0, none⟩) n' cr) := by unfold rowVal; rw [hn'.out]
          go_wp2_with (at_builtin; refine wpList_append_row rfl _ _ rfl w.heap.size g' c' t wr.heap.size rs (gr, cr, cutAt R j) _ hrs.out (by rw [hrow]) rfl ho2 hor2 hne rfl rfl (by omega) ?_)
          intro g4 c4 w4 ho4 hg4 _
          go_wp2
          go_roundw
          case rel =>
            refine ⟨t + 1, g4, c4, rs ++ [(gr, cr, cutAt R j)], by omega, by go_num, rfl, by show _ = _; rw [List.length_append, hrs.out]; rfl, ?_, ho4, hbb.grown hg4 hbb.size (by intro j hj; cases hj; exact ho.base)⟩
            show _ = _
            rw [contents_push, hcont.out, minor_take (by rw [hsq.1]; omega), HR.out]
          case measure => simp [intOf]; omega
    · obtain rfl : n = t := by omega
      have hcc := hcont.out
      rw [List.take_of_length_le (by rw [minorOf_length, hsq.1]; omega)] at hcc
      have hml : (minorOf m j).length = n := by rw [minorOf_length, hsq.1]; rfl
      have Hcc := Lib.hid hcc; have Hml := Lib.hid hml
      clear hcc hml
      go_wp2
      go_ret
      exact ⟨g', c', rs, by rw [Hml.out]; rfl, Hcc.out, ho, hb⟩

attribute [local go_sem ↓] Go.wp_at_zero Go.wp_at_succ
set_option maxHeartbeats 4000000 in
theorem spec_l4Det_step (n : Nat) (hn4 : n + 1 ≤ 4) (ih : ∀ (g o cap : Nat) (m : List (List Int)) (w : World), Sq n m → g < w.heap.size → Rows2 w g o m → Calls Tryz.prog 68 #[(Value.slice (some ⟨g, o, none⟩) n cap)] w (Gives w (.int .i64 (det n m))))
    (g o cap : Nat) (m : List (List Int)) (w : World) (hsq : Sq (n + 1) m) (hg : g < w.heap.size) (hr : Rows2 w g o m) :
    Calls Tryz.prog 68 #[(Value.slice (some ⟨g, o, none⟩) (n + 1) cap)] w (Gives w (.int .i64 (det (n + 1) m))) := by
  have IH := Lib.hid ih; clear ih
  obtain ⟨g0, o0, c0, p1, p2, p3, p4⟩ := hr 0 (by rw [hsq.1]; omega)
  have hr0 := hsq.2.1 0 (by omega)
  rw [hr0] at p1 p2
  have Hr0 := Lib.hid hr0; clear hr0
  rw [Nat.add_zero] at p1
  have hD : ((n : Int) + 1 == 0) = false := by simp; omega
  go_enter Tryz.func68, Tryz.ntmps68
  go_wp2
  go_loopw [3, 4, 5] (fun s i _ wr => ∃ t : Nat, t ≤ n + 1 ∧ i = .int .i64 t ∧ s = .int .i64 (sumTo t fun j => sgn j * ent m 0 j * det n (minorOf m j)) ∧ Below w.heap.size w wr) (fun _ i _ _ => n + 1 - (intOf i).toNat)
  case atStart => exact ⟨0, Nat.zero_le _, rfl, rfl, Below.refl _ _⟩
  case round =>
    obtain ⟨t, ht, rfl, rfl, hb⟩ := hrel
    by_cases hlt : t < n + 1
    · have hltI : (t : Int) < (n : Int) + 1 := by omega
      have e0 := p4.below hb p3 t (by rw [Hr0.out]; exact hlt)
      have f1 := (hb.cell (p := ⟨g, o, none⟩) hg).trans p1
      have hee : (m.getD 0 []).getD t 0 = ent m 0 t := rfl
      rw [hee] at e0
      have hbx := hsq.2.2 0 t
      have hterm : (sumTo (t + 1) fun j => sgn j * ent m 0 j * det n (minorOf m j)) = (sumTo t fun j => sgn j * ent m 0 j * det n (minorOf m j)) + sgn t * ent m 0 t * det n (minorOf m t) := by
        simp only [sumTo]
      have hS := det_sum_bound hsq (by omega) (t := t) (by omega)
      have hdb := det_bound n _ (minorOf_sq hsq hlt)
      have hDB := detB_le (n := n) (by omega)
      have htb := term_bound (sgn_cases t) hbx (d := det n (minorOf m t)) ⟨by omega, by omega⟩
      have htb1 := term_bound (G := 1) (.inl rfl) hbx (d := det n (minorOf m t)) ⟨by omega, by omega⟩
      have kW : Hid (∀ W, Below w.heap.size w W → Calls Tryz.prog 117 #[(Value.slice (some ⟨g, o, none⟩) (n + 1) cap), .int .i64 t] W (GotRows W (minorOf m t))) := fun W hW => spec_l4Without_any n g o cap t m W hn4 hsq (by omega) (Nat.lt_of_lt_of_le hg hW.size) (hr.below hW hg)
      have hml : (minorOf m t).length = n := by rw [minorOf_length, hsq.1]; rfl
      have kD : Hid (∀ W g1 c1 B rs, contents rs = minorOf m t → OwnRows W B g1 c1 rs → Calls Tryz.prog 68 #[(Value.slice (some ⟨g1, 0, none⟩) n c1)] W (Gives W (.int .i64 (det n (minorOf m t))))) := fun W g1 c1 B rs hc hO => IH.out g1 0 c1 _ W (minorOf_sq hsq hlt) hO.lt (by rw [← hc]; exact hO.rows2)
      have Hml := Lib.hid hml; clear hml hee
      have hGc : sgn t = if t % 2 = 0 then 1 else -1 := rfl
      have Hterm := Lib.hid hterm; clear hterm
      generalize (sumTo t fun j => sgn j * ent m 0 j * det n (minorOf m j)) = S at *
      generalize hdd : det n (minorOf m t) = d at *
      have Hdd := Lib.hid hdd; clear hdd
      generalize ent m 0 t = x at *
      generalize sgn t = G at *
      have hB : Below w.heap.size w wr.drew := Below.drew hb
      have u1 : wr.drew.cell? ⟨g, o, none⟩ = some (Value.slice (some ⟨g0, o0, none⟩) (n + 1) c0) := f1
      have u2 : wr.drew.cell? ⟨g0, o0 + t, none⟩ = some (.int .i64 x) := e0
      have e1 : IntKind.i64.wrap (x * d) = x * d := IntWalk.i64_in _ (by simp at htb1; omega)
      clear hdb hDB
      have htI : (0 : Int) ≤ (t : Int) := by omega
      go_wp2_with fail
      go_region_held3 (fun W => Below w.heap.size w W ∧ W.cell? ⟨g, o, none⟩ = some (Value.slice (some ⟨g0, o0, none⟩) (n + 1) c0) ∧ W.cell? ⟨g0, o0 + t, none⟩ = some (.int .i64 x))
        (first | exact ⟨hB, u1, u2⟩ | exact ⟨hB.trans (hbA.mono hB.size), keepCell hbA u1, keepCell hbA u2⟩ | (have v0 := hB.trans (hbA.mono hB.size); exact ⟨v0.trans (hbD.mono v0.size), keepCell hbD (keepCell hbA u1), keepCell hbD (keepCell hbA u2)⟩))
        (first
          | (go_at_call 117; refine (kW.out _ hB).mono ?_; rintro e wA ⟨gA, cA, rsA, rfl, hcA, hoA, hbA⟩; rw [Hml.out])
          | (go_at_call 68; refine (kD.out _ gA cA _ rsA hcA hoA).mono ?_; rintro e wD ⟨rfl, hbD⟩))
      have hBD : Below w.heap.size w wD := (hB.trans (hbA.mono hB.size)).trans (hbD.mono (hB.trans (hbA.mono hB.size)).size)
      clear hbA hbD hoA hB u1 u2 kW kD f1 e0
      have er : Int.tmod (t : Int) 2 = ((t % 2 : Nat) : Int) := by rw [Int.tmod_eq_emod_of_nonneg (by omega)]; simp
      have er2 : (t : Int) % 2 = ((t % 2 : Nat) : Int) := by omega
      generalize hp : x * d = p at *
      have Hp := Lib.hid hp; clear hp
      have hpb : -486 ≤ p ∧ p ≤ 486 := by have := Hp.out; simp at htb1; omega
      by_cases hpar : t % 2 = 0
      · rw [if_pos hpar] at hGc
        subst hGc
        have hrem2 : ((t : Int) % 2 == 1) = false := by rw [er2, hpar]; rfl
        have hrem : (Int.tmod (t : Int) 2 == 1) = false := by rw [er, hpar]; rfl
        have e2 : IntKind.i64.wrap (S + p) = S + p := IntWalk.i64_in _ (by omega)
        clear hpar htb htb1 er er2
        go_wp2_with fail
        go_roundw
        case rel => exact ⟨t + 1, by omega, by go_num, by rw [Hterm.out, ← Hp.out]; simp, hBD⟩
        case measure => simp [intOf]; omega
      · rw [if_neg hpar] at hGc
        subst hGc
        have hrem : (Int.tmod (t : Int) 2 == 1) = true := by rw [er, show t % 2 = 1 by omega]; rfl
        have e3 : IntKind.i64.wrap (-p) = -p := IntWalk.i64_in _ (by omega)
        have e2 : IntKind.i64.wrap (S + -p) = S + -p := IntWalk.i64_in _ (by omega)
        have hrem2 : ((t : Int) % 2 == 1) = true := by rw [er2, show t % 2 = 1 by omega]; rfl
        clear hpar htb htb1 er er2
        go_wp2_with fail
        go_roundw
        case rel => exact ⟨t + 1, by omega, by go_num, by rw [Hterm.out, ← Hp.out, Int.neg_mul, Int.neg_mul, Int.one_mul], hBD⟩
        case measure => simp [intOf]; omega
    · obtain rfl : t = n + 1 := by omega
      go_wp2
      go_ret
      exact ⟨rfl, hb⟩

theorem spec_l4Det_any : ∀ (n : Nat), n ≤ 4 → ∀ (g o cap : Nat) (m : List (List Int)) (w : World), Sq n m → g < w.heap.size → Rows2 w g o m → Calls Tryz.prog 68 #[(Value.slice (some ⟨g, o, none⟩) n cap)] w (Gives w (.int .i64 (det n m))) := by
  intro n
  induction n with
  | zero =>
    intro _ g o cap m w _ _ _
    go_enter Tryz.func68, Tryz.ntmps68
    go_wp2
    go_ret
    exact ⟨rfl, Below.refl _ _⟩
  | succ n ih =>
    intro hn g o cap m w hsq hg hr
    exact spec_l4Det_step n hn (ih (by omega)) g o cap m w hsq hg hr
end Go.Proofs.YtnpechcnmchneaaGreatDoor
