/- EqC ChkI ChkN ChkR -/
import Derived.Test.YtkjglfafphffiaaGreatDoorC00
import Derived.Test.YtkjglfafphffiaaGreatDoorC02
import Derived.Test.YtkjglfafphffiaaGreatDoorC37
import Derived.Test.YtkjglfafphffiaaGreatDoorC25
import Derived.Test.YtkjglfafphffiaaGreatDoorC24
import Derived.Test.YtkjglfafphffiaaGreatDoorC32
import Derived.OneCell
namespace Go.Proofs.YtkjglfafphffiaaGreatDoor
set_option maxRecDepth 100000
open Go.RowKit
theorem rows_take_succ {a b : List (List Int)} {k : Nat} (hl : b.length = a.length) (hk : k < a.length) (h : a.take k = b.take k) (he : a.getD k [] = b.getD k []) : a.take (k + 1) = b.take (k + 1) := by
  have hk2 : k < b.length := by omega
  rw [List.take_succ_eq_append_getElem hk, List.take_succ_eq_append_getElem hk2, h]
  simp [List.getD, hk, hk2] at he
  rw [he]
set_option maxHeartbeats 1000000 in
theorem slices_EqualFunc_any (g1 o1 n1 c1 g2 o2 n2 c2 : Nat) (a b : List (List Int)) (w : World) (hn1 : a.length = n1) (hn2 : b.length = n2) (hx : a.length ≤ 1099511627776)
    (hra : ∀ j, j < a.length → (a.getD j []).length ≤ 1099511627776) (hrb : ∀ j, j < b.length → (b.getD j []).length ≤ 1099511627776) (hca : Rows2 w g1 o1 a) (hcb : Rows2 w g2 o2 b) :
    Calls Tryz.prog 130 #[(Value.slice (some ⟨g1, o1, none⟩) n1 c1), (Value.slice (some ⟨g2, o2, none⟩) n2 c2), .func (.func 77) #[] #[]] w (Reads w (.bool (decide (a = b)))) := by
  subst hn1; subst hn2
  by_cases hl : b.length = a.length
  · go_enter Tryz.func130, Tryz.ntmps130
    go_wp2
    go_loopw [17] (fun i wr => ∃ k : Nat, k ≤ a.length ∧ i = .int .i64 k ∧ Hid (a.take k = b.take k) ∧ ∃ n, wr = w.drewN n) (fun i _ => a.length - (intOf i).toNat)
    case atStart => exact ⟨0, Nat.zero_le _, rfl, rfl, 0, rfl⟩
    case round =>
      obtain ⟨k, hk, rfl, he, n, rfl⟩ := hrel
      have Hl := Lib.hid hl; clear hl
      by_cases hlt : k < a.length
      · have hl2 : k < b.length := by rw [Hl.out]; exact hlt
        obtain ⟨ga, oa, ca, q1, q2, q3, q4⟩ := hca k hlt
        obtain ⟨gb, ob, cb, p1, p2, p3, p4⟩ := hcb k hl2
        have hrk := hra k hlt
        have hrk2 := hrb k hl2
        obtain ⟨R, hR⟩ : ∃ R, a.getD k [] = R := ⟨_, rfl⟩
        obtain ⟨S, hS⟩ : ∃ S, b.getD k [] = S := ⟨_, rfl⟩
        rw [hR] at q1 q2 q4 hrk
        rw [hS] at p1 p2 p4 hrk2
        have HR := Lib.hid hR; have HS := Lib.hid hS
        clear hR hS hca hcb hra hrb
        have hcall := slices_Equal_any ga oa R.length ca gb ob S.length cb R S (w.drewN n) rfl rfl hrk hrk2 q4 p4
        by_cases hRS : R = S
        · rw [decide_eq_true hRS] at hcall
          have Hcall := Lib.hid hcall; have HRS := Lib.hid hRS; clear hcall hRS
          go_wp2_with fail
          refine Hcall.out.mono ?_
          rintro e w' ⟨rfl, m', rfl⟩
          go_wp2
          go_roundw
          case rel => exact ⟨k + 1, by omega, by go_num, rows_take_succ Hl.out hlt he.out (by rw [HR.out, HS.out]; exact HRS.out), (by first | exact ⟨_, rfl⟩ | exact ⟨0, rfl⟩ | exact still2 _ _ _ | exact still3 _ _ _ _)⟩
          case measure => simp [intOf]; omega
        · rw [decide_eq_false hRS] at hcall
          have Hcall := Lib.hid hcall; have HRS := Lib.hid hRS; clear hcall hRS
          go_wp2_with fail
          refine Hcall.out.mono ?_
          rintro e w' ⟨rfl, m', rfl⟩
          go_wp2
          go_ret
          have hne : a ≠ b := fun e => HRS.out (by rw [← HR.out, ← HS.out, e])
          exact ⟨ret_bool (by simp [hne]), (by first | exact ⟨_, rfl⟩ | exact ⟨0, rfl⟩ | exact still2 _ _ _ | exact still3 _ _ _ _)⟩
      · obtain rfl : k = a.length := by omega
        go_wp2
        go_ret
        refine ⟨ret_bool ?_, n, rfl⟩
        have h3 := he.out
        rw [List.take_of_length_le (by omega), List.take_of_length_le (by have := Hl.out; omega)] at h3
        simp [h3]
  · have hb : ((a.length : Int) != (b.length : Int)) = true := by rw [bne_iff_ne]; omega
    go_enter Tryz.func130, Tryz.ntmps130
    go_wp2
    go_ret
    exact ⟨ret_bool (by simp; intro e; exact hl (by rw [e])), 0, rfl⟩
set_option maxHeartbeats 400000 in
theorem impl_EqualCartans_any (g1 o1 n1 c1 g2 o2 n2 c2 : Nat) (a b : List (List Int)) (w : World) (hn1 : a.length = n1) (hn2 : b.length = n2) (hx : a.length ≤ 1099511627776)
    (hra : ∀ j, j < a.length → (a.getD j []).length ≤ 1099511627776) (hrb : ∀ j, j < b.length → (b.getD j []).length ≤ 1099511627776) (hca : Rows2 w g1 o1 a) (hcb : Rows2 w g2 o2 b) :
    Calls Tryz.prog 76 #[(Value.slice (some ⟨g1, o1, none⟩) n1 c1), (Value.slice (some ⟨g2, o2, none⟩) n2 c2)] w (Reads w (.bool (decide (a = b)))) := by
  go_enter Tryz.func76, Tryz.ntmps76
  go_wp2_with fail
  refine (slices_EqualFunc_any g1 o1 n1 c1 g2 o2 n2 c2 a b _ hn1 hn2 hx hra hrb hca hcb).mono ?_
  rintro e w1 ⟨rfl, m, rfl⟩
  go_wp2_with fail
  go_ret
  exact ⟨rfl, m, rfl⟩
set_option maxHeartbeats 1000000 in
theorem spec_EqualCartans_any (g1 o1 n1 c1 g2 o2 n2 c2 : Nat) (a b : List (List Int)) (w : World) (hn1 : a.length = n1) (hn2 : b.length = n2) (hx : a.length ≤ 1099511627776)
    (hra : ∀ j, j < a.length → (a.getD j []).length ≤ 1099511627776) (hrb : ∀ j, j < b.length → (b.getD j []).length ≤ 1099511627776) (hca : Rows2 w g1 o1 a) (hcb : Rows2 w g2 o2 b) :
    Calls Tryz.prog 37 #[(Value.slice (some ⟨g1, o1, none⟩) n1 c1), (Value.slice (some ⟨g2, o2, none⟩) n2 c2)] w (Reads w (.bool (decide (a = b)))) := by
  subst hn1; subst hn2
  by_cases hl : b.length = a.length
  · have hl' : b.length = a.length := hl
    have Hl := Lib.hid hl'; clear hl'
    have hb : ((a.length : Int) != (b.length : Int)) = false := by rw [hl]; simp
    clear hl
    go_enter Tryz.func37, Tryz.ntmps37
    go_wp2
    go_loopw [5, 6] (fun i _ wr => ∃ k : Nat, k ≤ a.length ∧ i = .int .i64 k ∧ Hid (a.take k = b.take k) ∧ ∃ n, wr = w.drewN n) (fun i _ _ => a.length - (intOf i).toNat)
    case atStart => exact ⟨0, Nat.zero_le _, rfl, rfl, 0, rfl⟩
    case round =>
      obtain ⟨k, hk, rfl, he, n, rfl⟩ := hrel
      by_cases hlt : k < a.length
      · have hl2 : k < b.length := by rw [Hl.out]; exact hlt
        obtain ⟨ga, oa, ca, q1, q2, q3, q4⟩ := hca k hlt
        obtain ⟨gb, ob, cb, p1, p2, p3, p4⟩ := hcb k hl2
        have hrk := hra k hlt
        have hrk2 := hrb k hl2
        obtain ⟨R, hR⟩ : ∃ R, a.getD k [] = R := ⟨_, rfl⟩
        obtain ⟨S, hS⟩ : ∃ S, b.getD k [] = S := ⟨_, rfl⟩
        rw [hR] at q1 q2 q4 hrk
        rw [hS] at p1 p2 p4 hrk2
        have HR := Lib.hid hR; have HS := Lib.hid hS
        clear hR hS
        by_cases hRS : S.length = R.length
        · have hRb : ((R.length : Int) != (S.length : Int)) = false := by rw [hRS]; simp
          have HRS := Lib.hid hRS; clear hRS
          go_wp2
          go_quiet (fail)
          go_wp2
          obtain ⟨wo, hwo⟩ : ∃ wo : World, wo = w.drewN n := ⟨_, rfl⟩
          clear hwo
          go_loopw [6] (fun j wr => ∃ t : Nat, t ≤ R.length ∧ j = .int .i64 t ∧ Hid (R.take t = S.take t) ∧ ∃ n, wr = w.drewN n) (fun j _ => R.length - (intOf j).toNat)
          case atStart => exact ⟨0, Nat.zero_le _, rfl, rfl, (by first | exact ⟨_, rfl⟩ | exact ⟨0, rfl⟩ | exact still2 _ _ _ | exact still3 _ _ _ _)⟩
          case round =>
            obtain ⟨t, ht, rfl, het, n2, rfl⟩ := hrel
            by_cases htl : t < R.length
            · have htl2 : t < S.length := by rw [HRS.out]; exact htl
              have r1 := q4 t htl
              have r2 := p4 t htl2
              go_wp2
              go_quiet (fail)
              go_wp2
              · have hne : (R[t] != S[t]) = true := by assumption
                go_ret
                have hab : a ≠ b := fun e => by
                  have : R = S := by rw [← HR.out, ← HS.out, e]
                  subst this; simp at hne
                exact ⟨ret_bool (by simp [hab]), (by first | exact ⟨_, rfl⟩ | exact ⟨0, rfl⟩ | exact still2 _ _ _ | exact still3 _ _ _ _)⟩
              · have heq : (R[t] != S[t]) = false := by assumption
                go_roundw
                case rel => exact ⟨t + 1, by omega, by go_num, take_succ_eq HRS.out.symm htl het.out (by simpa [List.getD, htl, htl2] using heq), (by first | exact ⟨_, rfl⟩ | exact ⟨0, rfl⟩ | exact still2 _ _ _ | exact still3 _ _ _ _)⟩
                case measure => simp [intOf]; omega
            · obtain rfl : t = R.length := by omega
              go_wp2
              go_roundw
              case rel =>
                have hRS : R = S := by
                  have h3 := het.out
                  rwa [List.take_of_length_le (by omega), List.take_of_length_le (by have := HRS.out; omega)] at h3
                exact ⟨k + 1, by omega, by go_num, rows_take_succ Hl.out hlt he.out (by rw [HR.out, HS.out]; exact hRS), (by first | exact ⟨_, rfl⟩ | exact ⟨0, rfl⟩ | exact still2 _ _ _ | exact still3 _ _ _ _)⟩
              case measure => simp [intOf]; omega
        · have hRb : ((R.length : Int) != (S.length : Int)) = true := by rw [bne_iff_ne]; omega
          go_wp2
          go_quiet (fail)
          go_wp2
          go_ret
          have hne : a ≠ b := fun e => hRS (by rw [← HR.out, ← HS.out, e])
          exact ⟨ret_bool (by simp [hne]), (by first | exact ⟨_, rfl⟩ | exact ⟨0, rfl⟩ | exact still2 _ _ _ | exact still3 _ _ _ _)⟩
      · obtain rfl : k = a.length := by omega
        go_wp2
        go_ret
        refine ⟨ret_bool ?_, n, rfl⟩
        have h3 := he.out
        rw [List.take_of_length_le (by omega), List.take_of_length_le (by have := Hl.out; omega)] at h3
        simp [h3]
  · have hb : ((a.length : Int) != (b.length : Int)) = true := by rw [bne_iff_ne]; omega
    go_enter Tryz.func37, Tryz.ntmps37
    go_wp2
    go_ret
    exact ⟨ret_bool (by simp; intro e; exact hl (by rw [e])), 0, rfl⟩
end Go.Proofs.YtkjglfafphffiaaGreatDoor
namespace Go.Proofs.YtkjglfafphffiaaGreatDoor
set_option maxRecDepth 100000
open Go.RowKit Game
theorem sixA {W : World} {b : Nat} {v0 v1 v2 v3 v4 v5 : Value} {t : TypeId} (h : W.heap[b]? = some (.cells #[v0, v1, v2, v3, v4, v5] t (0, 0))) :
    W.cell? ⟨b, 0, none⟩ = some v0 ∧ W.cell? ⟨b, 1, none⟩ = some v1 ∧ W.cell? ⟨b, 2, none⟩ = some v2 ∧ W.cell? ⟨b, 3, none⟩ = some v3 ∧ W.cell? ⟨b, 4, none⟩ = some v4 ∧ W.cell? ⟨b, 5, none⟩ = some v5 := by
  refine ⟨?_, ?_, ?_, ?_, ?_, ?_⟩ <;> (rw [cell_of_cells h]; rfl)
def belowB (c : List (List Int)) (a b ps : List Int) : Bool := takeB (nfI c b).length ps && decide (imI c (takeL (nfI c b) ps) = imI c a)
set_option maxRecDepth 100000 in
set_option maxHeartbeats 2000000 in
theorem impl_checkBelow_ok (v : Value) (x : ClaimD) (w : World) (h : ClaimP w v x) (hA : WordOk x.cartan x.a) (hB : WordOk x.cartan x.b) (hl : x.proof.length ≤ 1048576) :
    Calls Tryz.prog 42 #[v] w (Gives w (.bool (belowB x.cartan x.a x.b x.proof))) := by
  obtain ⟨p1, p2, p3, p4, q5, n5, c5, rfl, a1, a2, a3, a4⟩ := h
  obtain ⟨g1, o1, n1, c1, rfl, l1, m1, t1, r1⟩ := a1
  obtain ⟨g2, o2, n2, c2, rfl, l2, m2, t2, r2⟩ := a2
  obtain ⟨g3, o3, n3, c3, rfl, l3, m3, t3, r3⟩ := a3
  obtain ⟨g4, o4, n4, c4, rfl, l4, m4, t4, r4⟩ := a4
  generalize x.cartan = c at *
  generalize x.a = a at *
  generalize x.b = b at *
  generalize x.proof = ps at *
  generalize x.kind = kd at *
  subst l1 l2 l3 l4
  have hLB := hB.lets.mono (show 15 ≤ 30 by omega)
  have hnf := nfI_ok hLB
  have hnl := hnf.len
  have hb15 := hB.few
  have kR := Lib.hid (fun (W : World) (hb : Below w.heap.size w W) => impl_reduced_any g1 o1 _ c1 g3 o3 _ c3 c b W rfl rfl hLB (Nat.lt_of_lt_of_le t1 hb.size) (Nat.lt_of_lt_of_le t3 hb.size) (r1.below hb t1) (r3.below hb t3))
  have hlets := Lib.hid (fun (hok : takeB (nfI c b).length ps = true) => (takeL_lets (hnf.lets.mono (show b.length ≤ 15 by omega)) hok).mono (show 15 ≤ 30 by omega))
  have kS := Lib.hid (fun (hok : takeB (nfI c b).length ps = true) (W : World) (B g6 c6 : Nat) (hb : Below w.heap.size w W) (ho : Own W B g6 c6 (takeL (nfI c b) ps)) => impl_same_any g1 o1 _ c1 g6 0 ps.length c6 g2 o2 _ c2 c (takeL (nfI c b) ps) a W rfl (by simp [takeL]) rfl (hlets.out hok) (hA.lets.mono (by omega)) (Nat.lt_of_lt_of_le t1 hb.size) ho.lt (Nat.lt_of_lt_of_le t2 hb.size) (r1.below hb t1) ho.cells (r2.below hb t2))
  have hres : belowB c a b ps = (takeB (nfI c b).length ps && decide (imI c (takeL (nfI c b) ps) = imI c a)) := rfl
  have Hres := Lib.hid hres
  have C0 := Lib.hid (heap_alloc_new w (.cells #[.int .i64 kd, (Value.slice (some ⟨g1, o1, none⟩) c.length c1), (Value.slice (some ⟨g2, o2, none⟩) a.length c2), (Value.slice (some ⟨g3, o3, none⟩) b.length c3), (Value.slice (some ⟨g4, o4, none⟩) ps.length c4), .slice q5 n5 c5] 29 (0, 0)))
  have hB0 : Below w.heap.size w (w.alloc (.cells #[.int .i64 kd, (Value.slice (some ⟨g1, o1, none⟩) c.length c1), (Value.slice (some ⟨g2, o2, none⟩) a.length c2), (Value.slice (some ⟨g3, o3, none⟩) b.length c3), (Value.slice (some ⟨g4, o4, none⟩) ps.length c4), .slice q5 n5 c5] 29)) := (Below.refl _ _).alloc (Nat.le_refl _) _
  clear hLB hnf hA hB r1 r2 r3 hres hlets
  generalize nfI c b = y at *
  have hy15 : y.length ≤ 15 := by omega
  clear hnl hb15
  obtain ⟨c00, c01, c02, c03, c04, c05⟩ := sixA C0.out
  go_enter Tryz.func42, Tryz.ntmps42
  go_wp2_with fail
  refine (kR.out _ hB0).mono ?_
  rintro e w1 ⟨gy, cy, rfl, hoy, hb1⟩
  have hB1 := hB0.trans (hb1.mono hB0.size)
  have C1 := Lib.hid ((hb1.block _ (lt_of_block C0.out)).trans C0.out)
  have hoy1 := hoy.mono hB0.size
  clear hB0 hb1 C0 hoy c00 c01 c02 c03 c04 c05
  obtain ⟨c00, c01, c02, c03, c04, c05⟩ := sixA C1.out
  have hAl := (Below.refl w1.heap.size w1).alloc (Nat.le_refl _) (.cells #[] 3)
  have hB2 := hB1.trans (hAl.mono hB1.size)
  have C2 := Lib.hid ((hAl.block _ (lt_of_block C1.out)).trans C1.out)
  have hoy2 := hoy1.below hAl hoy1.lt
  have d4 := keepCell hAl c04
  have hE : Own (w1.alloc (.cells #[] 3)) w.heap.size w1.heap.size 0 [] := Own.empty hB1.size
  have hney : gy ≠ w1.heap.size := by have := hoy1.lt; omega
  have hbx : w.heap.size < w1.heap.size := lt_of_block C1.out
  go_wp2
  clear c00 c01 c02 c03 c04 c05 hoy1 hB1 hAl C1
  obtain ⟨bX, hbX⟩ : ∃ bX, bX = w.heap.size := ⟨_, rfl⟩
  go_loopw [4, 5, 17] (fun xv lv kv wr => ∃ (k g6 c6 : Nat), k ≤ ps.length ∧ kv = .int .i64 k ∧ xv = (Value.slice (some ⟨g6, 0, none⟩) k c6) ∧ lv = .int .i64 (prevAt ps k) ∧ Hid (∀ j, j < k → takeAt y.length ps j) ∧ Hid (wr.heap[w.heap.size]? = some (.cells #[.int .i64 kd, (Value.slice (some ⟨g1, o1, none⟩) c.length c1), (Value.slice (some ⟨g2, o2, none⟩) a.length c2), (Value.slice (some ⟨g3, o3, none⟩) b.length c3), (Value.slice (some ⟨g4, o4, none⟩) ps.length c4), .slice q5 n5 c5] 29 (0, 0))) ∧ Own wr w.heap.size gy cy y ∧ Own wr w.heap.size g6 c6 (takeTo y ps k) ∧ gy ≠ g6 ∧ w.heap.size < g6 ∧ Below w.heap.size w wr) (fun _ _ kv _ => ps.length - (intOf kv).toNat)
  case atStart => exact ⟨0, _, 0, Nat.zero_le _, rfl, rfl, rfl, fun j h => absurd h (by omega), C2.out, hoy2, hE, hney, hbx, hB2⟩
  case round =>
    clear C2 hoy2 hE hney hbx hB2 d4
    obtain ⟨k, g6, c6, hk, rfl, rfl, rfl, hp, hC, hoy, ho, hne, hlt6, hb⟩ := hrel
    by_cases hlt : k < ps.length
    · have q1 := (r4.below hb t4) k hlt
      have hiff := takeAt_iff hp.out
      have hno : ¬ takeAt y.length ps k → belowB c a b ps = false := fun h => by rw [Hres.out, takeB_no hlt h]; rfl
      have hyes : takeAt y.length ps k → ∀ j, j < k + 1 → takeAt y.length ps j := fun h j hj => by
        by_cases e : j = k
        · subst e; exact h
        · exact hp.out j (by omega)
      have hps := Lib.hid (prevAt_succ ps k)
      have hp0 := fun h : takeAt y.length ps k => h.1
      have hsucc := takeTo_succ (v := y) hlt
      have hlen := Lib.hid (takeTo_length (v := y) (Nat.le_of_lt hlt))
      generalize prevAt ps k = z at *
      generalize ps.getD k 0 = p at *
      by_cases h1 : p ≤ z
      · have Hno := Lib.hid (hno (fun h => by have := (hiff.1 h).1; omega))
        clear hno hyes hiff hp hp0 hsucc
        go_wp2_with fail
        go_ret
        exact ⟨ret_bool Hno.out.symm, hb⟩
      · by_cases h2 : (y.length : Int) ≤ p
        · have Hno := Lib.hid (hno (fun h => by have := (hiff.1 h).2; omega))
          clear hno hyes hiff hp hp0 hsucc
          go_wp2_with fail
          go_ret
          exact ⟨ret_bool Hno.out.symm, hb⟩
        · have htk := hiff.2 ⟨by omega, by omega⟩
          have hpn := hp0 htk
          have Hyes := Lib.hid (hyes htk)
          obtain ⟨pn, rfl⟩ : ∃ t : Nat, p = t := ⟨p.toNat, by omega⟩
          rw [Int.toNat_natCast] at hsucc
          have hpy : pn < y.length := by omega
          have v1 := hoy.cell pn hpy
          have Hsucc := Lib.hid hsucc
          generalize y.getD pn 0 = q at *
          clear hno hyes hiff hp hp0 htk hpn hsucc
          go_wp2_with (at_builtin; refine wpList_append_int_n rfl _ _ rfl w.heap.size g6 c6 k (takeTo y ps k) q hlen.out ho rfl rfl (by omega) ?_)
          intro g7 c7 w7 ho7 hg7 hor7
          rw [← Hsucc.out] at ho7
          have hb7 := hb.grown hg7 hb.size (by intro j hj; cases hj; exact ho.base)
          have hoy7 := hoy.grown hg7 (by intro e; cases e; exact hne rfl)
          have hC7 := Lib.hid ((hg7.block _ (lt_of_block hC.out) (by intro e; cases e; omega)).trans hC.out)
          have hne7 : gy ≠ g7 := by
            rcases hor7 with h | h
            · rw [h]; exact hne
            · have := hoy.lt; omega
          have hlt7 : w.heap.size < g7 := by
            rcases hor7 with h | h
            · rw [h]; exact hlt6
            · have := hb.size; omega
          clear hg7 hor7 ho hoy hb hC hne hlt6
          go_wp2_with fail
          go_roundw
          case rel => exact ⟨k + 1, g7, c7, by omega, by go_num, rfl, by rw [hps.out], Hyes.out, hC7.out, hoy7, ho7, hne7, hlt7, hb7⟩
          case measure => simp [intOf]; omega
    · obtain rfl : k = ps.length := by omega
      have hT := takeB_yes hp.out
      rw [takeTo_all] at ho
      have hS := Lib.hid (kS.out hT wr _ g6 c6 hb ho)
      have Hr := Lib.hid (show belowB c a b ps = decide (imI c (takeL y ps) = imI c a) by rw [Hres.out, hT, Bool.true_and])
      obtain ⟨c00, c01, c02, c03, c04, c05⟩ := sixA hC.out
      clear hT hp
      generalize decide (imI c (takeL y ps) = imI c a) = rr at *
      go_wp2_with fail
      refine hS.out.mono ?_
      rintro e w8 ⟨rfl, hb8⟩
      go_wp2_with fail
      go_ret
      exact ⟨ret_bool Hr.out.symm, hb.trans (hb8.mono hb.size)⟩
end Go.Proofs.YtkjglfafphffiaaGreatDoor
namespace Go.Proofs.YtkjglfafphffiaaGreatDoor
set_option maxRecDepth 100000
open Go.RowKit Game
set_option maxRecDepth 100000 in
set_option maxHeartbeats 4000000 in
theorem impl_checkNotBelow_ok (v : Value) (x : ClaimD) (w : World) (h : ClaimP w v x) (hA : WordOk x.cartan x.a) (hB : WordOk x.cartan x.b) (hl : x.proof.length ≤ 1048576) :
    Calls Tryz.prog 43 #[v] w (Gives w (.bool (notB x.cartan x.a x.b x.proof))) := by
  obtain ⟨p1, p2, p3, p4, q5, n5, c5, rfl, a1, a2, a3, a4⟩ := h
  obtain ⟨g1, o1, n1, c1, rfl, l1, m1, t1, r1⟩ := a1
  obtain ⟨g2, o2, n2, c2, rfl, l2, m2, t2, r2⟩ := a2
  obtain ⟨g3, o3, n3, c3, rfl, l3, m3, t3, r3⟩ := a3
  obtain ⟨g4, o4, n4, c4, rfl, l4, m4, t4, r4⟩ := a4
  generalize x.cartan = c at *
  generalize x.a = a at *
  generalize x.b = b at *
  generalize x.proof = ps at *
  generalize x.kind = kd at *
  subst l1 l2 l3 l4
  have hC := hA.isC
  have hn4 := hC.2.1
  have hcl := hC.2.2.1
  have ha15 := hA.few
  have hb15 := hB.few
  have hU := nw_nf hA
  have hV := nw_nf hB
  have hiU := (nfI_ok (hA.lets.mono (show 15 ≤ 30 by omega))).img
  have hiV := (nfI_ok (hB.lets.mono (show 15 ≤ 30 by omega))).img
  have k2 := Lib.hid (fun (W : World) (hb : Below w.heap.size w W) => by
    have := impl_image_any g1 o1 _ c1 g2 o2 _ c2 c a W rfl rfl hC (by omega) hA.inr (Nat.lt_of_lt_of_le t1 hb.size) (Nat.lt_of_lt_of_le t2 hb.size) (r1.below hb t1) (r2.below hb t2)
    rw [show actW c a (onesL c.length) = imI c (nfI c a) from hiU.symm] at this
    exact this)
  have k3 := Lib.hid (fun (W : World) (hb : Below w.heap.size w W) => by
    have := impl_image_any g1 o1 _ c1 g3 o3 _ c3 c b W rfl rfl hC (by omega) hB.inr (Nat.lt_of_lt_of_le t1 hb.size) (Nat.lt_of_lt_of_le t3 hb.size) (r1.below hb t1) (r3.below hb t3)
    rw [show actW c b (onesL c.length) = imI c (nfI c b) from hiV.symm] at this
    exact this)
  have kN := Lib.hid (fun (X : List Int) (hX : Nw c X) (W : World) (g6 c6 : Nat) (hb : Below w.heap.size w W) (ho : Own W w.heap.size g6 c6 (imI c X)) => impl_normal_any g1 o1 _ c1 g6 0 c.length c6 30 c (imI c X) X W rfl (imI_length c X) hC (imI_length c X) (by omega) (by have := (nfI_ok (hX.lets.mono (show 15 ≤ 30 by omega))).norm; rw [hX.self] at this; exact this) (Nat.lt_of_lt_of_le t1 hb.size) ho.lt (r1.below hb t1) ho.cells)
  have kF := Lib.hid (fun (X : List Int) (i : Nat) (hi : i < c.length) (W : World) (g6 c6 : Nat) (hb : Below w.heap.size w W) (ho : Own W w.heap.size g6 c6 (imI c X)) => impl_reflected_any w g1 o1 _ c1 g6 c6 i c.length c (imI c X) W rfl (imI_length c X) (imI_length c X) hn4 hcl hi t1 r1 hb ho)
  have hR : nbGo c (ps.drop 0) (nfI c a) (nfI c b) = nbGo c ps (nfI c a) (nfI c b) := rfl
  have hres : notB c a b ps = nbR (nbGo c ps (nfI c a) (nfI c b)) := rfl
  have Hla := Lib.hid (imI_length c (nfI c a)); have Hlb := Lib.hid (imI_length c (nfI c b))
  rw [hres]
  generalize nbGo c ps (nfI c a) (nfI c b) = R at *
  generalize nfI c a = U0 at *
  generalize nfI c b = V0 at *
  have HR := Lib.hid hR; have HU := Lib.hid hU; have HV := Lib.hid hV
  have C0 := Lib.hid (heap_alloc_new w (.cells #[.int .i64 kd, (Value.slice (some ⟨g1, o1, none⟩) c.length c1), (Value.slice (some ⟨g2, o2, none⟩) a.length c2), (Value.slice (some ⟨g3, o3, none⟩) b.length c3), (Value.slice (some ⟨g4, o4, none⟩) ps.length c4), .slice q5 n5 c5] 29 (0, 0)))
  have hB0 : Below w.heap.size w (w.alloc (.cells #[.int .i64 kd, (Value.slice (some ⟨g1, o1, none⟩) c.length c1), (Value.slice (some ⟨g2, o2, none⟩) a.length c2), (Value.slice (some ⟨g3, o3, none⟩) b.length c3), (Value.slice (some ⟨g4, o4, none⟩) ps.length c4), .slice q5 n5 c5] 29)) := (Below.refl _ _).alloc (Nat.le_refl _) _
  clear hA hB r1 r2 r3 hres hR hU hV hiU hiV hC hcl
  obtain ⟨c00, c01, c02, c03, c04, c05⟩ := sixA C0.out
  have hB0d := Lib.hid (Below.drew hB0)
  have x1 : (w.alloc (.cells #[.int .i64 kd, (Value.slice (some ⟨g1, o1, none⟩) c.length c1), (Value.slice (some ⟨g2, o2, none⟩) a.length c2), (Value.slice (some ⟨g3, o3, none⟩) b.length c3), (Value.slice (some ⟨g4, o4, none⟩) ps.length c4), .slice q5 n5 c5] 29)).drew.cell? ⟨w.heap.size, 2, none⟩ = some (Value.slice (some ⟨g2, o2, none⟩) a.length c2) := c02
  have x2 : (w.alloc (.cells #[.int .i64 kd, (Value.slice (some ⟨g1, o1, none⟩) c.length c1), (Value.slice (some ⟨g2, o2, none⟩) a.length c2), (Value.slice (some ⟨g3, o3, none⟩) b.length c3), (Value.slice (some ⟨g4, o4, none⟩) ps.length c4), .slice q5 n5 c5] 29)).drew.cell? ⟨w.heap.size, 3, none⟩ = some (Value.slice (some ⟨g3, o3, none⟩) b.length c3) := c03
  have x3 : (w.alloc (.cells #[.int .i64 kd, (Value.slice (some ⟨g1, o1, none⟩) c.length c1), (Value.slice (some ⟨g2, o2, none⟩) a.length c2), (Value.slice (some ⟨g3, o3, none⟩) b.length c3), (Value.slice (some ⟨g4, o4, none⟩) ps.length c4), .slice q5 n5 c5] 29)).drew.cell? ⟨w.heap.size, 4, none⟩ = some (Value.slice (some ⟨g4, o4, none⟩) ps.length c4) := c04
  go_enter Tryz.func43, Tryz.ntmps43
  go_wp2_with fail
  go_region_held3 (fun W => W.cell? ⟨w.heap.size, 2, none⟩ = some (Value.slice (some ⟨g2, o2, none⟩) a.length c2) ∧ W.cell? ⟨w.heap.size, 3, none⟩ = some (Value.slice (some ⟨g3, o3, none⟩) b.length c3))
    (first | exact ⟨x1, x2⟩ | exact ⟨keepCell hbA x1, keepCell hbA x2⟩ | exact ⟨keepCell hbD (keepCell hbA x1), keepCell hbD (keepCell hbA x2)⟩)
    (first
      | (go_at_call_of 90 (Value.slice (some ⟨g2, o2, none⟩) a.length c2); refine (k2.out _ hB0d.out).mono ?_; rintro e wA ⟨gU, cU, rfl, hoA, hbA⟩; rw [Hla.out])
      | (go_at_call_of 90 (Value.slice (some ⟨g3, o3, none⟩) b.length c3); refine (k3.out _ (hB0d.out.trans (hbA.mono hB0d.out.size))).mono ?_; rintro e wD ⟨gV, cV, rfl, hoD, hbD⟩; rw [Hlb.out]))
  have hbA2 := hB0d.out.trans (hbA.mono hB0d.out.size)
  have hbE := hbA2.trans (hbD.mono hbA2.size)
  have y4 := keepCell hbD (keepCell hbA x3)
  have hoU := (hoA.below hbD hoA.lt).mono hB0d.out.size
  have hoV := hoD.mono hbA2.size
  have hne : gU ≠ gV := by have h1 := hoA.lt; have h2 := hoD.base; omega
  clear x1 x2 x3 hbA hbD hoA hoD hbA2 hB0 hB0d c00 c01 c02 c03 c04 c05 C0 k2 k3
  go_wp2_with fail
  clear y4
  go_loopw [21] (fun kv wr => ∃ (k : Nat) (U V : List Int), k ≤ ps.length ∧ kv = .int .i64 k ∧ Hid (Nw c U) ∧ Hid (Nw c V) ∧ Hid (nbGo c (ps.drop k) U V = R) ∧ Own wr w.heap.size gU cU (imI c U) ∧ Own wr w.heap.size gV cV (imI c V) ∧ Below w.heap.size w wr) (fun kv _ => ps.length - (intOf kv).toNat)
  case atStart => exact ⟨0, U0, V0, Nat.zero_le _, rfl, HU.out, HV.out, HR.out, hoU, hoV, hbE⟩
  case round =>
    clear hoU hoV hbE HU HV HR Hla Hlb
    obtain ⟨k, U, V, hk, rfl, hU, hV, hgo, hoU, hoV, hb⟩ := hrel
    by_cases hlt : k < ps.length
    · have q1 := (r4.below hb t4) k hlt
      have hP0 := fun W => impl_isPoint_any g1 o1 c.length c1 (ps.getD k 0) W
      have hgd := hgo.out
      rw [nbGo_drop hlt] at hgd
      generalize ps.getD k 0 = p at *
      by_cases hin : 0 ≤ p ∧ p < (c.length : Int)
      case neg =>
        rw [show (decide ((0 : Int) ≤ p) && decide (p < (c.length : Int))) = false by rw [← Bool.not_eq_true, Bool.and_eq_true, decide_eq_true_eq, decide_eq_true_eq]; exact hin] at hP0
        have hP := Lib.hid hP0
        rw [if_neg (fun h => hin ⟨h.1, h.2.1⟩)] at hgd
        have Hgd := Lib.hid hgd
        clear hP0 hin hgd
        go_wp2_with fail
        refine (hP.out _).mono ?_
        rintro e w5 ⟨rfl, hs5⟩
        go_wp2_with fail
        go_ret
        exact ⟨ret_bool (by rw [← Hgd.out]; rfl), below_still hb hs5⟩
      rw [show (decide ((0 : Int) ≤ p) && decide (p < (c.length : Int))) = true by rw [Bool.and_eq_true, decide_eq_true_eq, decide_eq_true_eq]; exact hin] at hP0
      have hP := Lib.hid hP0
      obtain ⟨sn, rfl⟩ : ∃ t : Nat, p = t := ⟨p.toNat, by omega⟩
      rw [Int.toNat_natCast] at hgd
      have hsn : sn < c.length := by omega
      have hneV := hV.out.ne hsn
      have hneU := hU.out.ne hsn
      have hVd := hV.out.down hsn
      have hUd := hU.out.down hsn
      have hVi := hV.out.img hsn
      have hUi := hU.out.img hsn
      have v1 := hoV.cell sn (by rw [imI_length]; exact hsn)
      have kV := Lib.hid (fun (W : World) (hb2 : Below w.heap.size w W) (ho : Own W w.heap.size gV cV (imI c V)) => kF.out V sn hsn W gV cV hb2 ho)
      have kU := Lib.hid (fun (W : World) (hb2 : Below w.heap.size w W) (ho : Own W w.heap.size gU cU (imI c U)) => kF.out U sn hsn W gU cU hb2 ho)
      have vU := Lib.hid (fun (W : World) (ho : Own W w.heap.size gU cU (imI c U)) => ho.cell sn (by rw [imI_length]; exact hsn))
      rw [← hVi] at kV
      rw [← hUi] at kU
      generalize (imI c V).getD sn 0 = y at *
      generalize (imI c U).getD sn 0 = z at *
      clear hP0 hin hVi hUi
      by_cases hy : (0 : Int) ≤ y
      · rw [if_neg (fun h => by have := h.2.2; omega)] at hgd
        have Hgd := Lib.hid hgd
        clear hgd hVd hUd hneV hneU kV kU vU
        go_wp2_with fail
        refine (hP.out _).mono ?_
        rintro e w5 ⟨rfl, hs5⟩
        have v15 := (cell_still hs5 _).trans v1
        go_wp2_with fail
        go_ret
        exact ⟨ret_bool (by rw [← Hgd.out]; rfl), below_still hb hs5⟩
      · have hyn : y < 0 := by omega
        rw [if_pos ⟨by omega, by omega, hyn⟩] at hgd
        have HVd := Lib.hid (hVd hyn)
        clear hVd hyn hneV
        by_cases hz : z < 0
        · rw [if_pos hz] at hgd
          have Hgd := Lib.hid hgd
          have HUd := Lib.hid (hUd hz)
          clear hgd hUd hneU
          go_wp2_with fail
          refine (hP.out _).mono ?_
          rintro e w5 ⟨rfl, hs5⟩
          have v15 := (cell_still hs5 _).trans v1
          have hb5 := below_still hb hs5
          have hoU5 := hoU.still hs5
          have hoV5 := hoV.still hs5
          clear v1 hoU hoV hb hs5
          go_wp2_with fail
          refine (kV.out _ hb5 hoV5).mono ?_
          rintro e w6 ⟨rfl, hoV6, hg6⟩
          have hb6 := hb5.grown hg6 hb5.size (by intro j hj; cases hj; exact hoV5.base)
          have hoU6 := hoU5.grown hg6 (by intro e; cases e; exact hne rfl)
          have v6 := vU.out _ hoU6
          clear v15 hb5 hoU5 hoV5 hg6
          go_wp2_with fail
          refine (kU.out _ hb6 hoU6).mono ?_
          rintro e w7 ⟨rfl, hoU7, hg7⟩
          have hb7 := hb6.grown hg7 hb6.size (by intro j hj; cases hj; exact hoU6.base)
          have hoV7 := hoV6.grown hg7 (by intro e; cases e; exact hne rfl)
          clear v6 hb6 hoU6 hoV6 hg7
          go_wp2_with fail
          go_roundw
          case rel => exact ⟨k + 1, _, _, by omega, by go_num, HUd.out, HVd.out, Hgd.out, hoU7, hoV7, hb7⟩
          case measure => simp [intOf]; omega
        · rw [if_neg hz] at hgd
          have Hgd := Lib.hid hgd
          clear hgd hUd hneU
          go_wp2_with fail
          refine (hP.out _).mono ?_
          rintro e w5 ⟨rfl, hs5⟩
          have v15 := (cell_still hs5 _).trans v1
          have hb5 := below_still hb hs5
          have hoU5 := hoU.still hs5
          have hoV5 := hoV.still hs5
          clear v1 hoU hoV hb hs5
          go_wp2_with fail
          refine (kV.out _ hb5 hoV5).mono ?_
          rintro e w6 ⟨rfl, hoV6, hg6⟩
          have hb6 := hb5.grown hg6 hb5.size (by intro j hj; cases hj; exact hoV5.base)
          have hoU6 := hoU5.grown hg6 (by intro e; cases e; exact hne rfl)
          have v6 := vU.out _ hoU6
          clear v15 hb5 hoU5 hoV5 hg6
          go_wp2_with fail
          go_roundw
          case rel => exact ⟨k + 1, U, _, by omega, by go_num, hU.out, HVd.out, Hgd.out, hoU6, hoV6, hb6⟩
          case measure => simp [intOf]; omega
    · obtain rfl : k = ps.length := by omega
      have he := hgo.out
      rw [nbGo_end] at he
      have He := Lib.hid he
      have hnU := Lib.hid (kN.out U hU.out wr gU cU hb hoU)
      clear he
      go_wp2_with fail
      refine hnU.out.mono ?_
      rintro e w5 ⟨g5', c5', rfl, ho5, hb5⟩
      have hB5 := hb.trans (hb5.mono hb.size)
      have hnV := Lib.hid (kN.out V hV.out w5 gV cV hB5 (hoV.below hb5 hoV.lt))
      go_wp2_with fail
      refine hnV.out.mono ?_
      rintro e w6 ⟨g6', c6', rfl, ho6, hb6⟩
      go_wp2_with fail
      go_ret
      exact ⟨ret_bool (by rw [← He.out]; rfl), hB5.trans (hb6.mono hB5.size)⟩
end Go.Proofs.YtkjglfafphffiaaGreatDoor
namespace Go.Proofs.YtkjglfafphffiaaGreatDoor
set_option maxRecDepth 100000
open Go.RowKit Game
def redB (c : List (List Int)) (a : List Int) (R : List (List Int)) : Bool := decide (seqL c a = R) && diffB R
theorem seqL_few {c : List (List Int)} {a : List Int} (h : WordOk c a) : (seqL c a).length ≤ 15 ∧ ∀ j, j < (seqL c a).length → ((seqL c a).getD j []).length ≤ 4 := by
  have hl : (seqL c a).length = a.length := by simp [seqL]
  refine ⟨by rw [hl]; exact h.few, fun j hj => ?_⟩
  have hj' : j < a.length := by rw [← hl]; exact hj
  have e : (seqL c a).getD j [] = actR c (a.take j) (simpL c.length (a.getD j 0).toNat) := by simp [seqL, List.getD, hj']
  rw [e, actR_length, simpL_length]
  exact h.isC.2.1
set_option maxRecDepth 100000 in
set_option maxHeartbeats 4000000 in
theorem impl_checkReduced_ok (v : Value) (x : ClaimD) (w : World) (h : ClaimR w v x) (hA : WordOk x.cartan x.a) (hR : rowsFewC x.roots) :
    Calls Tryz.prog 39 #[v] w (Gives w (.bool (redB x.cartan x.a x.roots))) := by
  obtain ⟨p1, p2, p3, q4, n4, c4, p5, rfl, a1, a2, a3, a5⟩ := h
  obtain ⟨g1, o1, n1, c1, rfl, l1, m1, t1, r1⟩ := a1
  obtain ⟨g2, o2, n2, c2, rfl, l2, m2, t2, r2⟩ := a2
  obtain ⟨g3, o3, n3, c3, rfl, -⟩ := a3
  obtain ⟨g5, o5, n5, c5, rfl, l5, m5, t5, r5⟩ := a5
  generalize x.cartan = c at *
  generalize x.a = a at *
  generalize x.roots = R at *
  generalize x.kind = kd at *
  subst l1 l2 l5
  have hn4 := hA.isC.2.1
  have hcl := hA.isC.2.2.1
  have ha15 := hA.few
  have hsf := seqL_few hA
  have hsa : seqA c a = seqL c a := if_pos hA.isWord
  have kR := fun (W : World) (hb : Below w.heap.size w W) => impl_RootSequence_any g1 o1 _ c1 g2 o2 _ c2 c a W rfl rfl (by omega) (fun j hj => by have := hcl j hj; omega) (by omega) m2 (Nat.lt_of_lt_of_le t1 hb.size) (Nat.lt_of_lt_of_le t2 hb.size) (r1.below hb t1) (r2.below hb t2)
  rw [hsa] at kR
  have KR := Lib.hid kR
  have kE := Lib.hid (fun (W : World) (g6 c6 n6 : Nat) (hn6 : (seqL c a).length = n6) (hb : Below w.heap.size w W) (hr6 : Rows2 W g6 0 (seqL c a)) => impl_EqualCartans_any g6 0 n6 c6 g5 o5 _ c5 (seqL c a) R W hn6 rfl (by have := hsf.1; omega) (fun j hj => by have := hsf.2 j hj; omega) (fun j hj => by have := hR.2 j hj; omega) hr6 (r5.below hb t5))
  have hres : redB c a R = (decide (seqL c a = R) && diffB R) := rfl
  have Hres := Lib.hid hres; have HR := Lib.hid hR; have Hsl := Lib.hid (show (seqL c a).length = a.length by simp [seqL])
  have C0 := Lib.hid (heap_alloc_new w (.cells #[.int .i64 kd, (Value.slice (some ⟨g1, o1, none⟩) c.length c1), (Value.slice (some ⟨g2, o2, none⟩) a.length c2), (Value.slice (some ⟨g3, o3, none⟩) n3 c3), .slice q4 n4 c4, (Value.slice (some ⟨g5, o5, none⟩) R.length c5)] 29 (0, 0)))
  have hB0 : Below w.heap.size w (w.alloc (.cells #[.int .i64 kd, (Value.slice (some ⟨g1, o1, none⟩) c.length c1), (Value.slice (some ⟨g2, o2, none⟩) a.length c2), (Value.slice (some ⟨g3, o3, none⟩) n3 c3), .slice q4 n4 c4, (Value.slice (some ⟨g5, o5, none⟩) R.length c5)] 29)) := (Below.refl _ _).alloc (Nat.le_refl _) _
  clear hA r1 r2 hres hsa kR hcl hsf hR
  generalize seqL c a = Q at *
  obtain ⟨c00, c01, c02, c03, c04, c05⟩ := sixA C0.out
  have hB0d := Lib.hid (Below.drew hB0)
  have x1 : (w.alloc (.cells #[.int .i64 kd, (Value.slice (some ⟨g1, o1, none⟩) c.length c1), (Value.slice (some ⟨g2, o2, none⟩) a.length c2), (Value.slice (some ⟨g3, o3, none⟩) n3 c3), .slice q4 n4 c4, (Value.slice (some ⟨g5, o5, none⟩) R.length c5)] 29)).drew.cell? ⟨w.heap.size, 1, none⟩ = some (Value.slice (some ⟨g1, o1, none⟩) c.length c1) := c01
  have x2 : (w.alloc (.cells #[.int .i64 kd, (Value.slice (some ⟨g1, o1, none⟩) c.length c1), (Value.slice (some ⟨g2, o2, none⟩) a.length c2), (Value.slice (some ⟨g3, o3, none⟩) n3 c3), .slice q4 n4 c4, (Value.slice (some ⟨g5, o5, none⟩) R.length c5)] 29)).drew.cell? ⟨w.heap.size, 2, none⟩ = some (Value.slice (some ⟨g2, o2, none⟩) a.length c2) := c02
  have x5 : (w.alloc (.cells #[.int .i64 kd, (Value.slice (some ⟨g1, o1, none⟩) c.length c1), (Value.slice (some ⟨g2, o2, none⟩) a.length c2), (Value.slice (some ⟨g3, o3, none⟩) n3 c3), .slice q4 n4 c4, (Value.slice (some ⟨g5, o5, none⟩) R.length c5)] 29)).drew.cell? ⟨w.heap.size, 5, none⟩ = some (Value.slice (some ⟨g5, o5, none⟩) R.length c5) := c05
  by_cases hQ : Q = R
  case neg =>
    rw [decide_eq_false hQ] at kE
    have Hno := Lib.hid (show redB c a R = false by rw [Hres.out, decide_eq_false hQ]; rfl)
    clear hQ c00 c01 c02 c03 c04 c05 hB0 r5
    go_enter Tryz.func39, Tryz.ntmps39
    go_wp2_with fail
    go_region_held3 (fun W => W.cell? ⟨w.heap.size, 1, none⟩ = some (Value.slice (some ⟨g1, o1, none⟩) c.length c1) ∧ W.cell? ⟨w.heap.size, 2, none⟩ = some (Value.slice (some ⟨g2, o2, none⟩) a.length c2) ∧ W.cell? ⟨w.heap.size, 5, none⟩ = some (Value.slice (some ⟨g5, o5, none⟩) R.length c5))
      (first | exact ⟨x1, x2, x5⟩ | exact ⟨keepCell hbA x1, keepCell hbA x2, keepCell hbA x5⟩ | exact ⟨(cell_still hsD _).trans (keepCell hbA x1), (cell_still hsD _).trans (keepCell hbA x2), (cell_still hsD _).trans (keepCell hbA x5)⟩)
      (first
        | (go_at_call 28; refine (KR.out _ hB0d.out).mono ?_; rintro e wA ⟨gA, cA, rs, rfl, hcon, hoA, hbA⟩; rw [Hsl.out])
        | (go_at_call 76; refine (kE.out _ gA cA a.length Hsl.out (hB0d.out.trans (hbA.mono hB0d.out.size)) (by have := hoA.rows2; rw [hcon] at this; exact this)).mono ?_; rintro e wD ⟨rfl, hsD⟩))
    have hbA2 := hB0d.out.trans (hbA.mono hB0d.out.size)
    have hbE := below_still hbA2 hsD
    clear x1 x2 x5 hbA hsD hoA hbA2
    go_wp2_with fail
    go_ret
    exact ⟨ret_bool Hno.out.symm, hbE⟩
  rw [decide_eq_true hQ] at kE
  have Hyes := Lib.hid (show redB c a R = diffB R by rw [Hres.out, decide_eq_true hQ, Bool.true_and])
  clear hQ c00 c01 c02 c03 c04 c05 hB0
  go_enter Tryz.func39, Tryz.ntmps39
  go_wp2_with fail
  go_region_held3 (fun W => W.cell? ⟨w.heap.size, 1, none⟩ = some (Value.slice (some ⟨g1, o1, none⟩) c.length c1) ∧ W.cell? ⟨w.heap.size, 2, none⟩ = some (Value.slice (some ⟨g2, o2, none⟩) a.length c2) ∧ W.cell? ⟨w.heap.size, 5, none⟩ = some (Value.slice (some ⟨g5, o5, none⟩) R.length c5))
    (first | exact ⟨x1, x2, x5⟩ | exact ⟨keepCell hbA x1, keepCell hbA x2, keepCell hbA x5⟩ | exact ⟨(cell_still hsD _).trans (keepCell hbA x1), (cell_still hsD _).trans (keepCell hbA x2), (cell_still hsD _).trans (keepCell hbA x5)⟩)
    (first
      | (go_at_call 28; refine (KR.out _ hB0d.out).mono ?_; rintro e wA ⟨gA, cA, rs, rfl, hcon, hoA, hbA⟩; rw [Hsl.out])
      | (go_at_call 76; refine (kE.out _ gA cA a.length Hsl.out (hB0d.out.trans (hbA.mono hB0d.out.size)) (by have := hoA.rows2; rw [hcon] at this; exact this)).mono ?_; rintro e wD ⟨rfl, hsD⟩))
  have hbA2 := hB0d.out.trans (hbA.mono hB0d.out.size)
  have hbE := below_still hbA2 hsD
  have y5 := (cell_still hsD ⟨w.heap.size, 5, none⟩).trans (keepCell hbA x5)
  clear x1 x2 x5 hbA hsD hoA hbA2 KR kE hB0d hcon C0
  go_wp2_with fail
  go_loopw [17] (fun iv wr => ∃ k : Nat, k ≤ R.length ∧ iv = .int .i64 k ∧ Hid (∀ j, j < k → diffAt R j) ∧ Hid (wr.cell? ⟨w.heap.size, 5, none⟩ = some (Value.slice (some ⟨g5, o5, none⟩) R.length c5)) ∧ Below w.heap.size w wr) (fun iv _ => R.length - (intOf iv).toNat)
  case atStart => exact ⟨0, Nat.zero_le _, rfl, fun j h => absurd h (by omega), y5, hbE⟩
  case round =>
    clear y5 hbE
    obtain ⟨k, hk, rfl, hp, hy5, hb⟩ := hrel
    by_cases hlt : k < R.length
    · obtain ⟨gj, oj, cj, q1, q2, q3, q4⟩ := (r5.below hb t5) k hlt
      have hlk := HR.out.2 k hlt
      have hR1 := HR.out.1
      have hcS := impl_RootSign_any gj oj (R.getD k []).length cj (R.getD k []) wr rfl hlk q4
      have hcI := fun W (hs : ∃ q, W = wr.drewN q) => impl_hasRoot_any g5 o5 k c5 gj oj (R.getD k []).length cj (R.take k) (R.getD k []) W (by rw [List.length_take]; omega) rfl hlk (by rw [List.length_take]; omega) (fun j hj => by
        have hj' : j < R.length := by rw [List.length_take] at hj; omega
        have hjk : j < k := by rw [List.length_take] at hj; omega
        have := HR.out.2 j hj'
        simpa [List.getD, hj', hjk] using this) (Nat.lt_of_lt_of_le t5 (below_still hb hs).size) (by rw [size_still hs]; exact q3) (fun j hj => by
        have hj' : j < R.length := by rw [List.length_take] at hj; omega
        have hjk : j < k := by rw [List.length_take] at hj; omega
        have e : (R.take k).getD j [] = R.getD j [] := by simp [List.getD, hj', hjk]
        have := ((r5.below hb t5).still hs) j hj'
        rw [e]; exact this) (q4.still hs)
      have hdA : diffAt R k ↔ signL (R.getD k []) = 1 ∧ R.getD k [] ∉ R.take k := Iff.rfl
      have hno : ¬ diffAt R k → redB c a R = false := fun h => by rw [Hyes.out]; exact diffB_no hlt h
      have hyes : diffAt R k → ∀ j, j < k + 1 → diffAt R j := fun h j hj => by
        by_cases e : j = k
        · subst e; exact h
        · exact hp.out j (by omega)
      have y5 := hy5.out
      generalize signL (R.getD k []) = z at *
      generalize R.getD k [] = r at *
      have HcS := Lib.hid hcS
      have b1 : (0 : Int) ≤ (k : Int) := by omega
      have b3 : (k : Int) ≤ (c5 : Int) := by omega
      by_cases hz : z = 1
      · subst hz
        have y5s := Lib.hid (fun W (hs : ∃ q, W = wr.drewN q) => (cell_still hs ⟨w.heap.size, 5, none⟩).trans y5)
        have hbD := Lib.hid hb
        by_cases hm : r ∈ R.take k
        · have Hno := Lib.hid (hno (fun h => (hdA.1 h).2 hm))
          rw [decide_eq_true hm] at hcI
          have HcI := Lib.hid hcI
          clear hcS hcI hno hyes hdA hp hm q4
          go_wp2_with fail
          refine HcS.out.mono ?_
          rintro e w2 ⟨rfl, hs2⟩
          have y52 := y5s.out w2 hs2
          have hb2 := below_still hb hs2
          go_wp2_with fail
          refine (HcI.out w2 hs2).mono ?_
          rintro e w3 ⟨rfl, hb3⟩
          go_wp2_with fail
          go_ret
          exact ⟨ret_bool Hno.out.symm, hb2.trans (hb3.mono hb2.size)⟩
        · have Hy := Lib.hid (hyes (hdA.2 ⟨rfl, hm⟩))
          rw [decide_eq_false hm] at hcI
          have HcI := Lib.hid hcI
          clear hcS hcI hno hyes hdA hp hm q4
          go_wp2_with fail
          refine HcS.out.mono ?_
          rintro e w2 ⟨rfl, hs2⟩
          have y52 := y5s.out w2 hs2
          have hb2 := below_still hb hs2
          go_wp2_with fail
          refine (HcI.out w2 hs2).mono ?_
          rintro e w3 ⟨rfl, hb3⟩
          have y53 := Lib.hid (keepCell hb3 y52)
          have hb4 := hb2.trans (hb3.mono hb2.size)
          clear y52 hb2 hb3
          go_wp2_with fail
          go_roundw
          case rel => exact ⟨k + 1, by omega, by go_num, Hy.out, y53.out, hb4⟩
          case measure => simp [intOf]; omega
      · have hzI : (z != 1) = true := by simpa using hz
        have Hno := Lib.hid (hno (fun h => hz (hdA.1 h).1))
        clear hcS hcI hno hyes hdA hp q4 hz
        go_wp2_with fail
        refine HcS.out.mono ?_
        rintro e w2 ⟨rfl, hs2⟩
        go_wp2_with fail
        go_ret
        exact ⟨ret_bool Hno.out.symm, below_still hb hs2⟩
    · obtain rfl : k = R.length := by omega
      have Hf := Lib.hid (show redB c a R = true by rw [Hyes.out]; exact diffB_yes hp.out)
      clear hp
      go_wp2
      go_ret
      exact ⟨ret_bool Hf.out.symm, hb⟩
end Go.Proofs.YtkjglfafphffiaaGreatDoor
