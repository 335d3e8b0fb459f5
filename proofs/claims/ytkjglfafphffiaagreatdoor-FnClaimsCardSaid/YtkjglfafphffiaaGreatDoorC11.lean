/- DetS Wit -/
import Derived.Test.YtkjglfafphffiaaGreatDoorC10
namespace Go.Proofs.YtkjglfafphffiaaGreatDoor
set_option maxRecDepth 100000
open Go.RowKit
def cutTo (row : List Int) (j k : Nat) : List Int := ((List.range k).filter (· ≠ j)).map (fun t => row.getD t 0)
theorem cutTo_ne {row : List Int} {j k : Nat} (h : k ≠ j) : cutTo row j (k + 1) = cutTo row j k ++ [row.getD k 0] := by
  have := cutAt_range row j k
  rw [if_pos h] at this
  exact this.symm
theorem cutTo_eq {row : List Int} {j k : Nat} (h : k = j) : cutTo row j (k + 1) = cutTo row j k := by
  have := cutAt_range row j k
  rw [if_neg (by simpa using h)] at this
  exact this.symm
theorem cutTo_le (row : List Int) (j k : Nat) : (cutTo row j k).length ≤ k := by
  unfold cutTo
  rw [List.length_map]
  exact Nat.le_trans (List.length_filter_le _ _) (by simp)
set_option maxHeartbeats 2000000 in
theorem spec_l4Without_any (n g o cap j : Nat) (m : List (List Int)) (w : World) (hn4 : n + 1 ≤ 4) (hsq : Sq (n + 1) m) (hj : j ≤ n) (hg : g < w.heap.size) (hr : Rows2 w g o m) :
    Calls Tryz.prog 118 #[(Value.slice (some ⟨g, o, none⟩) (n + 1) cap), .int .i64 j] w (GotRows w (minorOf m j)) := by
  go_enter Tryz.func118, Tryz.ntmps118
  go_wp2
  go_loopw [5, 6, 7, 8] (fun x i _ _ wr => ∃ (t g' c' : Nat) (rs : List RowRef), t ≤ n ∧ i = .int .i64 ((t : Int) + 1) ∧ x = (Value.slice (some ⟨g', 0, none⟩) t c') ∧ Hid (rs.length = t) ∧ Hid (contents rs = (minorOf m j).take t) ∧ OwnRows wr w.heap.size g' c' rs ∧ Below w.heap.size w wr) (fun _ i _ _ _ => n + 1 - (intOf i).toNat)
  case atStart => exact ⟨0, w.heap.size, 0, [], Nat.zero_le _, rfl, rfl, rfl, rfl, OwnRows.empty (Nat.le_refl _), (Below.refl _ _).alloc (Nat.le_refl _) _⟩
  case round =>
    obtain ⟨t, g', c', rs, ht, rfl, rfl, hrs, hcont, ho, hb⟩ := hrel
    by_cases hlt : t < n
    · have hltI : (t : Int) + 1 < (n : Int) + 1 := by omega
      obtain ⟨ga, oa, ca, q1, q2, q3, q4⟩ := hr (t + 1) (by rw [hsq.1]; omega)
      have hrk := hsq.2.1 (t + 1) (by omega)
      rw [hrk] at q1 q2
      generalize hR : m.getD (t + 1) [] = R at *
      have HR := Lib.hid hR; clear hR
      obtain ⟨wo, rfl⟩ : ∃ wo : World, wo = wr := ⟨_, rfl⟩
      go_wp2
      go_loopw [7, 8] (fun x i wr => ∃ k gr cr n' : Nat, k ≤ n + 1 ∧ i = .int .i64 k ∧ x = (Value.slice (some ⟨gr, 0, none⟩) n' cr) ∧ Hid ((cutTo R j k).length = n') ∧ Own wr wo.heap.size gr cr (cutTo R j k) ∧ Below wo.heap.size wo wr) (fun _ i _ => n + 1 - (intOf i).toNat)
      case atStart => exact ⟨0, wo.heap.size, 0, 0, Nat.zero_le _, rfl, rfl, rfl, Own.empty (w := wo) (Nat.le_refl _), (Below.refl _ _).alloc (Nat.le_refl _) _⟩
      case round =>
        obtain ⟨k, gr, cr, n', hk, rfl, rfl, hn', hor, hb2⟩ := hrel
        have hbb : Below w.heap.size w wr := hb.trans (hb2.mono hb.size)
        have hle := cutTo_le R j k
        rw [hn'.out] at hle
        by_cases hltk : k < n + 1
        · have hltkI : (k : Int) < (n : Int) + 1 := by omega
          by_cases hkj : k = j
          · subst hkj
            have hc := cutTo_eq (row := R) (j := k) (k := k) rfl
            have Hc := Lib.hid hc; clear hc
            go_wp2
            go_roundw
            case rel => exact ⟨k + 1, gr, cr, n', by omega, by go_num, rfl, by show _ = _; rw [Hc.out]; exact hn'.out, by rw [Hc.out]; exact hor, hb2⟩
            case measure => simp [intOf]; omega
          · have hne : ((k : Int) != (j : Int)) = true := by simp; omega
            have hc := cutTo_ne (row := R) hkj
            have e1 := (hbb.cell (p := ⟨g, o + (t + 1), none⟩) hg).trans q1
            have e2 := q4.below hbb q3 k (by rw [hrk]; exact hltk)
            have Hc := Lib.hid hc; clear hc
            generalize hz : R.getD k 0 = z at *
            have Hz := Lib.hid hz; clear hz
            go_wp2_with (at_builtin; refine wpList_append_int_n rfl _ _ rfl wo.heap.size gr cr n' (cutTo R j k) z hn'.out hor rfl rfl (by omega) ?_)
            intro g3 c3 w3 ho3 hg3 _
            go_wp2
            go_roundw
            case rel =>
              refine ⟨k + 1, g3, c3, n' + 1, by omega, by go_num, rfl, ?_, ?_, hb2.grown hg3 hb2.size (by intro j hj; cases hj; exact hor.base)⟩
              · show _ = _
                rw [Hc.out, List.length_append, hn'.out]; rfl
              · rw [Hc.out]; exact ho3
            case measure => simp [intOf]; omega
        · obtain rfl : k = n + 1 := by omega
          have hcut : cutTo R j (n + 1) = cutAt R j := cutAt_all hrk hj
          rw [hcut] at hn' hor
          have ho2 := ho.below hb2
          have hne : ∀ r ∈ rs, r.1 ≠ gr := fun r hr => by have h1 := (ho.2.1 r hr).lt; have h2 := hor.base; omega
          have hor2 := hor.mono hb.size
          have hrow : rowVal (gr, cr, cutAt R j) = (Value.slice (some ⟨gr, 0, none⟩) n' cr) := by unfold rowVal; rw [hn'.out]
          go_wp2_with (at_builtin; refine wpList_append_row rfl _ _ rfl w.heap.size g' c' t wr.heap.size rs (gr, cr, cutAt R j) _ hrs.out (by rw [hrow]) rfl ho2 hor2 hne rfl rfl (by omega) ?_)
          intro g4 c4 w4 ho4 hg4 _
          go_wp2
          go_roundw
          case rel =>
            refine ⟨t + 1, g4, c4, rs ++ [(gr, cr, cutAt R j)], by omega, by go_num, rfl, by show _ = _; rw [List.length_append, hrs.out]; rfl, ?_, ho4, hbb.grown hg4 hbb.size (by intro j hj; cases hj; exact ho.base)⟩
            show _ = _
            rw [contents_push, hcont.out, minor_take (by rw [hsq.1]; omega), HR.out]
          case measure => simp [intOf]; omega
    · obtain rfl : n = t := by omega
      have hcc := hcont.out
      rw [List.take_of_length_le (by rw [minorOf_length, hsq.1]; omega)] at hcc
      have hml : (minorOf m j).length = n := by rw [minorOf_length, hsq.1]; rfl
      have Hcc := Lib.hid hcc; have Hml := Lib.hid hml
      clear hcc hml
      go_wp2
      go_ret
      exact ⟨g', c', rs, by rw [Hml.out]; rfl, Hcc.out, ho, hb⟩
attribute [local go_sem ↓] Go.wp_at_zero Go.wp_at_succ
set_option maxHeartbeats 4000000 in
theorem spec_l4Det_step (n : Nat) (hn4 : n + 1 ≤ 4) (ih : ∀ (g o cap : Nat) (m : List (List Int)) (w : World), Sq n m → g < w.heap.size → Rows2 w g o m → Calls Tryz.prog 56 #[(Value.slice (some ⟨g, o, none⟩) n cap)] w (Gives w (.int .i64 (det n m))))
    (g o cap : Nat) (m : List (List Int)) (w : World) (hsq : Sq (n + 1) m) (hg : g < w.heap.size) (hr : Rows2 w g o m) :
    Calls Tryz.prog 56 #[(Value.slice (some ⟨g, o, none⟩) (n + 1) cap)] w (Gives w (.int .i64 (det (n + 1) m))) := by
  have IH := Lib.hid ih; clear ih
  obtain ⟨g0, o0, c0, p1, p2, p3, p4⟩ := hr 0 (by rw [hsq.1]; omega)
  have hr0 := hsq.2.1 0 (by omega)
  rw [hr0] at p1 p2
  have Hr0 := Lib.hid hr0; clear hr0
  rw [Nat.add_zero] at p1
  have hD : ((n : Int) + 1 == 0) = false := by simp; omega
  go_enter Tryz.func56, Tryz.ntmps56
  go_wp2
  go_loopw [3, 4, 5] (fun s i _ wr => ∃ t : Nat, t ≤ n + 1 ∧ i = .int .i64 t ∧ s = .int .i64 (sumTo t fun j => sgn j * ent m 0 j * det n (minorOf m j)) ∧ Below w.heap.size w wr) (fun _ i _ _ => n + 1 - (intOf i).toNat)
  case atStart => exact ⟨0, Nat.zero_le _, rfl, rfl, Below.refl _ _⟩
  case round =>
    obtain ⟨t, ht, rfl, rfl, hb⟩ := hrel
    by_cases hlt : t < n + 1
    · have hltI : (t : Int) < (n : Int) + 1 := by omega
      have e0 := p4.below hb p3 t (by rw [Hr0.out]; exact hlt)
      have f1 := (hb.cell (p := ⟨g, o, none⟩) hg).trans p1
      have hee : (m.getD 0 []).getD t 0 = ent m 0 t := rfl
      rw [hee] at e0
      have hbx := hsq.2.2 0 t
      have hterm : (sumTo (t + 1) fun j => sgn j * ent m 0 j * det n (minorOf m j)) = (sumTo t fun j => sgn j * ent m 0 j * det n (minorOf m j)) + sgn t * ent m 0 t * det n (minorOf m t) := by
        simp only [sumTo]
      have hS := det_sum_bound hsq (by omega) (t := t) (by omega)
      have hdb := det_bound n _ (minorOf_sq hsq hlt)
      have hDB := detB_le (n := n) (by omega)
      have htb := term_bound (sgn_cases t) hbx (d := det n (minorOf m t)) ⟨by omega, by omega⟩
      have htb1 := term_bound (G := 1) (.inl rfl) hbx (d := det n (minorOf m t)) ⟨by omega, by omega⟩
      have kW : Hid (∀ W, Below w.heap.size w W → Calls Tryz.prog 118 #[(Value.slice (some ⟨g, o, none⟩) (n + 1) cap), .int .i64 t] W (GotRows W (minorOf m t))) := fun W hW => spec_l4Without_any n g o cap t m W hn4 hsq (by omega) (Nat.lt_of_lt_of_le hg hW.size) (hr.below hW hg)
      have hml : (minorOf m t).length = n := by rw [minorOf_length, hsq.1]; rfl
      have kD : Hid (∀ W g1 c1 B rs, contents rs = minorOf m t → OwnRows W B g1 c1 rs → Calls Tryz.prog 56 #[(Value.slice (some ⟨g1, 0, none⟩) n c1)] W (Gives W (.int .i64 (det n (minorOf m t))))) := fun W g1 c1 B rs hc hO => IH.out g1 0 c1 _ W (minorOf_sq hsq hlt) hO.lt (by rw [← hc]; exact hO.rows2)
      have Hml := Lib.hid hml; clear hml hee
      have hGc : sgn t = if t % 2 = 0 then 1 else -1 := rfl
      have Hterm := Lib.hid hterm; clear hterm
      generalize (sumTo t fun j => sgn j * ent m 0 j * det n (minorOf m j)) = S at *
      generalize hdd : det n (minorOf m t) = d at *
      have Hdd := Lib.hid hdd; clear hdd
      generalize ent m 0 t = x at *
      generalize sgn t = G at *
      have hB : Below w.heap.size w wr.drew := Below.drew hb
      have u1 : wr.drew.cell? ⟨g, o, none⟩ = some (Value.slice (some ⟨g0, o0, none⟩) (n + 1) c0) := f1
      have u2 : wr.drew.cell? ⟨g0, o0 + t, none⟩ = some (.int .i64 x) := e0
      have e1 : IntKind.i64.wrap (x * d) = x * d := IntWalk.i64_in _ (by simp at htb1; omega)
      clear hdb hDB
      have htI : (0 : Int) ≤ (t : Int) := by omega
      go_wp2_with fail
      go_region_held3 (fun W => Below w.heap.size w W ∧ W.cell? ⟨g, o, none⟩ = some (Value.slice (some ⟨g0, o0, none⟩) (n + 1) c0) ∧ W.cell? ⟨g0, o0 + t, none⟩ = some (.int .i64 x))
        (first | exact ⟨hB, u1, u2⟩ | exact ⟨hB.trans (hbA.mono hB.size), keepCell hbA u1, keepCell hbA u2⟩ | (have v0 := hB.trans (hbA.mono hB.size); exact ⟨v0.trans (hbD.mono v0.size), keepCell hbD (keepCell hbA u1), keepCell hbD (keepCell hbA u2)⟩))
        (first
          | (go_at_call 118; refine (kW.out _ hB).mono ?_; rintro e wA ⟨gA, cA, rsA, rfl, hcA, hoA, hbA⟩; rw [Hml.out])
          | (go_at_call 56; refine (kD.out _ gA cA _ rsA hcA hoA).mono ?_; rintro e wD ⟨rfl, hbD⟩))
      have hBD : Below w.heap.size w wD := (hB.trans (hbA.mono hB.size)).trans (hbD.mono (hB.trans (hbA.mono hB.size)).size)
      clear hbA hbD hoA hB u1 u2 kW kD f1 e0
      have er : Int.tmod (t : Int) 2 = ((t % 2 : Nat) : Int) := by rw [Int.tmod_eq_emod_of_nonneg (by omega)]; simp
      have er2 : (t : Int) % 2 = ((t % 2 : Nat) : Int) := by omega
      generalize hp : x * d = p at *
      have Hp := Lib.hid hp; clear hp
      have hpb : -486 ≤ p ∧ p ≤ 486 := by have := Hp.out; simp at htb1; omega
      by_cases hpar : t % 2 = 0
      · rw [if_pos hpar] at hGc
        subst hGc
        have hrem2 : ((t : Int) % 2 == 1) = false := by rw [er2, hpar]; rfl
        have hrem : (Int.tmod (t : Int) 2 == 1) = false := by rw [er, hpar]; rfl
        have e2 : IntKind.i64.wrap (S + p) = S + p := IntWalk.i64_in _ (by omega)
        clear hpar htb htb1 er er2
        go_wp2_with fail
        go_roundw
        case rel => exact ⟨t + 1, by omega, by go_num, by rw [Hterm.out, ← Hp.out]; simp, hBD⟩
        case measure => simp [intOf]; omega
      · rw [if_neg hpar] at hGc
        subst hGc
        have hrem : (Int.tmod (t : Int) 2 == 1) = true := by rw [er, show t % 2 = 1 by omega]; rfl
        have e3 : IntKind.i64.wrap (-p) = -p := IntWalk.i64_in _ (by omega)
        have e2 : IntKind.i64.wrap (S + -p) = S + -p := IntWalk.i64_in _ (by omega)
        have hrem2 : ((t : Int) % 2 == 1) = true := by rw [er2, show t % 2 = 1 by omega]; rfl
        clear hpar htb htb1 er er2
        go_wp2_with fail
        go_roundw
        case rel => exact ⟨t + 1, by omega, by go_num, by rw [Hterm.out, ← Hp.out, Int.neg_mul, Int.neg_mul, Int.one_mul], hBD⟩
        case measure => simp [intOf]; omega
    · obtain rfl : t = n + 1 := by omega
      go_wp2
      go_ret
      exact ⟨rfl, hb⟩
theorem spec_l4Det_any : ∀ (n : Nat), n ≤ 4 → ∀ (g o cap : Nat) (m : List (List Int)) (w : World), Sq n m → g < w.heap.size → Rows2 w g o m → Calls Tryz.prog 56 #[(Value.slice (some ⟨g, o, none⟩) n cap)] w (Gives w (.int .i64 (det n m))) := by
  intro n
  induction n with
  | zero =>
    intro _ g o cap m w _ _ _
    go_enter Tryz.func56, Tryz.ntmps56
    go_wp2
    go_ret
    exact ⟨rfl, Below.refl _ _⟩
  | succ n ih =>
    intro hn g o cap m w hsq hg hr
    exact spec_l4Det_step n hn (ih (by omega)) g o cap m w hsq hg hr
end Go.Proofs.YtkjglfafphffiaaGreatDoor
namespace Go.Proofs.YtkjglfafphffiaaGreatDoor
set_option maxRecDepth 100000
open Go.RowKit
theorem pow_le16 {M : Nat} (h : M ≤ 4) : 2 ^ M ≤ 16 := Nat.le_trans (Nat.pow_le_pow_right (by decide) h) (by decide)
theorem wrap_pow4 {M : Nat} (h : M ≤ 4) : wrap64 ((2 : Int) ^ M) = ((2 ^ M : Nat) : Int) := by
  have h1 := pow_le16 h
  have h2 : ((2 ^ M : Nat) : Int) = (2 : Int) ^ M := by simp
  have h3 : wrap64 ((2 ^ M : Nat) : Int) = ((2 ^ M : Nat) : Int) := by
    generalize 2 ^ M = q at h1
    exact IntWalk.wrap64_in _ ⟨by omega, by omega⟩
  rw [← h2]
  exact h3
def minorAt (c : List (List Int)) (m : Nat) : Int := det (setL m).length (pickL c (setL m))
theorem setNat_mem {m t i : Nat} (h : i ∈ setNat m t) : m / 2 ^ i % 2 = 1 ∧ i < t := by
  unfold setNat at h
  have := List.mem_filter.1 h
  exact ⟨by simpa using this.2, by simpa using this.1⟩
theorem setL_in {m n : Nat} (hm : m < 2 ^ n) (t : Nat) (ht : t < (setL m).length) : 0 ≤ (setL m).getD t 0 ∧ (setL m).getD t 0 < n := by
  have hmem : (setL m).getD t 0 ∈ setL m := by simp [List.getD, ht]
  obtain ⟨i, hi, he⟩ := List.mem_map.1 hmem
  rw [← he]
  have h1 := setNat_mem hi
  refine ⟨by omega, ?_⟩
  rcases Nat.lt_or_ge i n with h | h
  · omega
  · have : m / 2 ^ i = 0 := Nat.div_eq_of_lt (Nat.lt_of_lt_of_le hm (Nat.pow_le_pow_right (by decide) h))
    omega
theorem ent_bound {c : List (List Int)} (hC : IsC c) (i j : Nat) : -3 ≤ ent c i j ∧ ent c i j ≤ 3 := by
  by_cases hi : i < c.length
  · by_cases hj : j < c.length
    · have h := hC.2.2.2 i hi j hj
      unfold EntOk at h
      split at h <;> omega
    · have : ent c i j = 0 := by
        unfold ent
        have := hC.2.2.1 i hi
        simp only [List.getD] at *
        rw [List.getElem?_eq_none (by omega)]; rfl
      omega
  · have : ent c i j = 0 := by
      unfold ent
      simp only [List.getD]
      have hno : c[i]? = none := List.getElem?_eq_none (by omega)
      rw [hno]; rfl
    omega
theorem pick_sq {c : List (List Int)} (hC : IsC c) (s : List Int) : Sq s.length (pickL c s) := by
  refine ⟨by simp [pickL], fun i hi => ?_, fun i j => ?_⟩
  · simp [pickL, List.getD, hi, pickRow]
  · have h0 : ∀ i j, ent (pickL c s) i j = if i < s.length ∧ j < s.length then ent c (s.getD i 0).toNat (s.getD j 0).toNat else 0 := by
      intro i j
      unfold pickL
      by_cases hi : i < s.length
      · by_cases hj : j < s.length
        · rw [if_pos ⟨hi, hj⟩]
          conv => lhs; unfold ent
          simp [List.getD, hi, hj, pickRow]
        · rw [if_neg (by omega)]
          conv => lhs; unfold ent
          simp only [List.getD, List.getElem?_map]
          rw [List.getElem?_eq_getElem hi]
          simp [pickRow]
          rw [List.getElem?_eq_none (by omega)]; rfl
      · rw [if_neg (by omega)]
        conv => lhs; unfold ent
        simp only [List.getD, List.getElem?_map]
        have hno : s[i]? = none := List.getElem?_eq_none (by omega)
        rw [hno]; rfl
    rw [h0]
    split
    · exact ent_bound hC _ _
    · omega
theorem setL_len (m : Nat) : (setL m).length ≤ 4 := setTo_len m 4
theorem minorAt_bound {c : List (List Int)} (hC : IsC c) (m : Nat) : -1944 ≤ minorAt c m ∧ minorAt c m ≤ 1944 := by
  have h := det_bound _ _ (pick_sq hC (setL m))
  have hl := setL_len m
  have : (setL m).length = 4 ∨ (setL m).length ≤ 3 := by omega
  unfold minorAt
  rcases this with h4 | h3
  · rw [h4] at h ⊢; simp [detB] at h; omega
  · have := detB_le h3; omega
def minorsTo (c : List (List Int)) (t : Nat) : List Int := (List.range t).map fun k => minorAt c (k + 1)
def minorsL (c : List (List Int)) : List Int := if IsC c then minorsTo c (2 ^ c.length - 1) else []
theorem minorsTo_length (c : List (List Int)) (t : Nat) : (minorsTo c t).length = t := by simp [minorsTo]
theorem minorsTo_succ (c : List (List Int)) (t : Nat) : minorsTo c (t + 1) = minorsTo c t ++ [minorAt c (t + 1)] := by simp [minorsTo, List.range_succ]
set_option maxHeartbeats 2000000 in
theorem impl_PrincipalMinors_any (g o n cp : Nat) (c : List (List Int)) (w : World) (hn : c.length = n) (hx : c.length ≤ 1048576) (hrl : ∀ j, j < c.length → (c.getD j []).length ≤ 1048576) (hg : g < w.heap.size) (hr : Rows2 w g o c) :
    Calls Tryz.prog 95 #[(Value.slice (some ⟨g, o, none⟩) n cp)] w (GotInts w (minorsL c)) := by
  subst hn
  go_enter Tryz.func95, Tryz.ntmps95
  go_wp2_with fail
  have hb0 : Below w.heap.size w (w.alloc (.cells #[] 3)) := blwx
  refine (impl_IsCartan g o _ cp c _ rfl (by omega) (fun j hj => by have := hrl j hj; omega) (hr.below hb0 hg)).mono ?_
  rintro e w1 ⟨rfl, m1, rfl⟩
  by_cases hC : IsC c
  · have hC' : decide (IsC c) = true := decide_eq_true hC
    rw [hC']
    have hn4 := hC.2.1
    have hn1 := hC.1
    obtain ⟨Q, hQ, hQ2, hQ3⟩ : ∃ Q : Nat, Q = 2 ^ c.length ∧ Q ≤ 16 ∧ wrap64 ((2 : Int) ^ c.length) = (Q : Int) := ⟨2 ^ c.length, rfl, pow_le16 hn4, wrap_pow4 hn4⟩
    have hQ1 : 1 ≤ Q := by rw [hQ]; exact Nat.one_le_two_pow
    have hM : minorsL c = minorsTo c (Q - 1) := by unfold minorsL; rw [if_pos hC, hQ]
    have HQ := Lib.hid hQ; have HM := Lib.hid hM; clear hQ hM
    go_wp2_with fail
    go_loopw [3, 4] (fun s i wr => ∃ t g' c' : Nat, t + 1 ≤ Q ∧ i = .int .i64 ((t : Int) + 1) ∧ s = (Value.slice (some ⟨g', 0, none⟩) t c') ∧ Own wr w.heap.size g' c' (minorsTo c t) ∧ Below w.heap.size w wr) (fun _ i _ => 17 - (intOf i).toNat)
    case atStart => exact ⟨0, w.heap.size, 0, by omega, rfl, rfl, (Own.empty (w := w) (Nat.le_refl _)).drewN m1, below_drewN hb0 m1⟩
    case round =>
      obtain ⟨t, g', c', ht, rfl, rfl, ho, hb⟩ := hrel
      by_cases hlt : t + 1 < Q
      · have hltI : (t : Int) + 1 < Q := by omega
        have hm15 : t + 1 ≤ 15 := by omega
        have hset := impl_setOf_any (t + 1) wr hm15
        have e1 : (((t + 1 : Nat)) : Int) = (t : Int) + 1 := by omega
        rw [e1] at hset
        have Hset := Lib.hid hset; clear hset e1
        have hsl := setL_len (t + 1)
        have hsin := fun k hk => setL_in (m := t + 1) (n := c.length) (by rw [← HQ.out]; omega) k hk
        have hpsq := pick_sq hC (setL (t + 1))
        have hpl : (pickL c (setL (t + 1))).length = (setL (t + 1)).length := by simp [pickL]
        have hmb := minorAt_bound hC (t + 1)
        have hmd : minorAt c (t + 1) = det (setL (t + 1)).length (pickL c (setL (t + 1))) := rfl
        generalize hs : setL (t + 1) = s at *
        have Hsin := Lib.hid hsin; have Hpsq := Lib.hid hpsq; have Hpl := Lib.hid hpl; have Hs := Lib.hid hs
        clear hsin hpsq hpl hs
        go_wp2_with fail
        refine Hset.out.mono ?_
        rintro e w2 ⟨g2, c2, rfl, ho2, hb2⟩
        have hB2 := hb.trans (hb2.mono hb.size)
        go_wp2_with fail
        refine (impl_picked_any g o _ cp g2 0 _ c2 c s w2 rfl rfl hsl hC.2.2.1 Hsin.out (Nat.lt_of_lt_of_le hg hB2.size) ho2.lt (hr.below hB2 hg) ho2.cells).mono ?_
        rintro e w3 ⟨g3, c3, rs3, rfl, hc3, ho3, hb3⟩
        rw [Hpl.out]
        have hB3 := hB2.trans (hb3.mono hB2.size)
        go_wp2_with fail
        refine (impl_determinant_any s.length hsl g3 0 c3 (pickL c s) w3 Hpsq.out ho3.lt (by have := ho3.capLe; rw [← Hpl.out, ← hc3]; simpa [contents] using this) (by rw [← hc3]; exact ho3.rows2)).mono ?_
        rintro e w4 ⟨rfl, hb4⟩
        rw [← hmd]
        have hB4 := hB3.trans (hb4.mono hB3.size)
        have hM1 := minorsTo_succ c t
        have HM1 := Lib.hid hM1
        generalize minorAt c (t + 1) = d at *
        have ho4 := ((ho.below hb2 ho.lt).below hb3 (Nat.lt_of_lt_of_le ho.lt hb2.size)).below hb4 (Nat.lt_of_lt_of_le ho.lt (Nat.le_trans hb2.size hb3.size))
        clear hM1 hb2 hb3 hb4 ho2 ho3 hB2 hB3 hmd
        go_wp2_with (at_builtin; refine wpList_append_int_n rfl _ _ rfl w.heap.size g' c' t (minorsTo c t) d (minorsTo_length _ _) ho4 rfl rfl (by omega) ?_)
        intro g5 c5 w5 ho5 hg5 _
        go_wp2
        go_roundw
        case rel =>
          rw [← HM1.out] at ho5
          exact ⟨t + 1, g5, c5, by omega, by go_num, rfl, ho5, hB4.grown hg5 hB4.size (by intro j hj; cases hj; exact ho4.base)⟩
        case measure => simp [intOf]; omega
      · have hge : ¬ (t : Int) + 1 < Q := by omega
        obtain rfl : t = Q - 1 := by omega
        go_wp2
        go_ret
        rw [HM.out]
        exact GotInts.mk' g' c' (minorsTo_length _ _) ho hb
  · have hC' : decide (IsC c) = false := decide_eq_false hC
    have hM : minorsL c = [] := by unfold minorsL; rw [if_neg hC]
    rw [hC']
    clear hC
    go_wp2_with fail
    go_ret
    rw [hM]
    exact GotInts.mk' w.heap.size 0 rfl ((Own.empty (w := w) (Nat.le_refl _)).drewN m1) (below_drewN hb0 m1)
def witFrom (c : List (List Int)) : Nat → Nat → List Int
  | _, 0 => []
  | m, f + 1 => if minorAt c m ≤ 0 then setL m else witFrom c (m + 1) f
def witness (c : List (List Int)) : List Int := if IsC c then witFrom c 1 (2 ^ c.length - 1) else []
def finB (c : List (List Int)) : Bool := decide (IsC c) && ((witness c).length == 0)
theorem witFrom_len (c : List (List Int)) : ∀ (f m : Nat), (witFrom c m f).length ≤ 4 := by
  intro f
  induction f with
  | zero => intro m; simp [witFrom]
  | succ f ih =>
    intro m
    unfold witFrom
    split
    · exact setL_len m
    · exact ih _
theorem witness_len (c : List (List Int)) : (witness c).length ≤ 4 := by
  unfold witness
  split
  · exact witFrom_len _ _ _
  · simp
set_option maxHeartbeats 2000000 in
theorem impl_WitnessOf_any (g o n cp : Nat) (c : List (List Int)) (w : World) (hn : c.length = n) (hx : c.length ≤ 1048576) (hrl : ∀ j, j < c.length → (c.getD j []).length ≤ 1048576) (hg : g < w.heap.size) (hr : Rows2 w g o c) :
    Calls Tryz.prog 34 #[(Value.slice (some ⟨g, o, none⟩) n cp)] w (GotInts w (witness c)) := by
  go_enter Tryz.func34, Tryz.ntmps34
  go_wp2_with fail
  refine (impl_PrincipalMinors_any g o n cp c w hn hx hrl hg hr).mono ?_
  rintro e w1 ⟨g1, c1, rfl, ho1, hb1⟩
  have hml : (minorsL c).length ≤ 15 := by
    unfold minorsL
    split
    · rename_i hC
      have := pow_le16 hC.2.1
      rw [minorsTo_length]; omega
    · simp
  have hat : ∀ k, k < (minorsL c).length → (minorsL c).getD k 0 = minorAt c (k + 1) := by
    intro k hk
    unfold minorsL at hk ⊢
    split
    · rename_i hC
      rw [if_pos hC, minorsTo_length] at hk
      simp [minorsTo, List.getD, hk]
    · rename_i hC
      rw [if_neg hC] at hk
      simp at hk
  have hwit : witness c = witFrom c 1 (minorsL c).length := by
    unfold witness minorsL
    split
    · rw [minorsTo_length]
    · rfl
  have Hwit := Lib.hid hwit; have Hat := Lib.hid hat
  clear hwit hat
  generalize minorsL c = M at *
  go_wp2_with fail
  go_loopw [8] (fun i wr => ∃ k : Nat, k ≤ M.length ∧ i = .int .i64 k ∧ Hid (witness c = witFrom c (k + 1) (M.length - k)) ∧ Below w.heap.size w wr ∧ Own wr w.heap.size g1 c1 M) (fun i _ => M.length - (intOf i).toNat)
  case atStart => exact ⟨0, Nat.zero_le _, rfl, Hwit.out, hb1, ho1⟩
  case round =>
    obtain ⟨k, hk, rfl, hw, hb, ho⟩ := hrel
    by_cases hlt : k < M.length
    · have q1 := ho.cell k hlt
      have hm := Hat.out k hlt
      have hstep : witFrom c (k + 1) (M.length - k) = if minorAt c (k + 1) ≤ 0 then setL (k + 1) else witFrom c (k + 1 + 1) (M.length - (k + 1)) := by
        rw [show M.length - k = (M.length - (k + 1)) + 1 by omega]; rfl
      rw [hm] at q1
      have hset := impl_setOf_any (k + 1) wr (by omega)
      have e1 : (((k + 1 : Nat)) : Int) = (k : Int) + 1 := by omega
      rw [e1] at hset
      have Hset := Lib.hid hset; have Hstep := Lib.hid hstep
      clear hset hstep e1 hm
      generalize minorAt c (k + 1) = d at *
      by_cases hd : d ≤ 0
      · go_wp2_with fail
        refine Hset.out.mono ?_
        rintro e w2 ⟨g2, c2, rfl, ho2, hb2⟩
        go_wp2_with fail
        go_ret
        rw [hw.out, Hstep.out, if_pos hd]
        exact GotInts.mk' g2 c2 rfl (ho2.mono hb.size) (hb.trans (hb2.mono hb.size))
      · go_wp2_with fail
        go_roundw
        case rel => exact ⟨k + 1, by omega, by go_num, by show _ = _; rw [hw.out, Hstep.out, if_neg hd], hb, ho⟩
        case measure => simp [intOf]; omega
    · obtain rfl : k = M.length := by omega
      go_wp2
      go_ret
      have hw2 := hw.out
      rw [Nat.sub_self] at hw2
      rw [hw2]
      exact GotInts.mk' wr.heap.size 0 rfl (Own.empty (w := wr) hb.size) (hb.alloc hb.size _)
set_option maxHeartbeats 1000000 in
theorem impl_IsFinite_any (g o n cp : Nat) (c : List (List Int)) (w : World) (hn : c.length = n) (hx : c.length ≤ 1048576) (hrl : ∀ j, j < c.length → (c.getD j []).length ≤ 1048576) (hg : g < w.heap.size) (hr : Rows2 w g o c) :
    Calls Tryz.prog 33 #[(Value.slice (some ⟨g, o, none⟩) n cp)] w (Gives w (.bool (finB c))) := by
  have hwl := witness_len c
  go_enter Tryz.func33, Tryz.ntmps33
  go_wp2_with fail
  refine (impl_IsCartan g o n cp c w hn (by omega) (fun j hj => by have := hrl j hj; omega) hr).mono ?_
  rintro e w1 ⟨rfl, m1, rfl⟩
  by_cases hC : IsC c
  · have hC' : decide (IsC c) = true := decide_eq_true hC
    have hf : finB c = ((witness c).length == 0) := by unfold finB; rw [hC']; simp
    rw [hC']
    go_wp2_with fail
    refine (impl_WitnessOf_any g o n cp c (w.drewN m1) hn hx hrl hg hr).mono ?_
    rintro e w2 ⟨g2, c2, rfl, ho2, hb2⟩
    generalize (witness c).length = L at *
    go_wp2_with fail
    go_ret
    refine ⟨?_, (below_drewN' w m1).trans hb2⟩
    rw [hf]
    refine ret_bool ?_
    by_cases h0 : L = 0
    · subst h0; rfl
    · have e1 : (L == 0) = false := by simpa using h0
      have e2 : ((L : Int) == 0) = false := by simp; omega
      rw [e1, e2]
  · have hC' : decide (IsC c) = false := decide_eq_false hC
    have hf : finB c = false := by unfold finB; rw [hC']; simp
    rw [hC']
    clear hC
    go_wp2_with fail
    go_ret
    exact ⟨by rw [hf]; rfl, below_drewN' w m1⟩
end Go.Proofs.YtkjglfafphffiaaGreatDoor
