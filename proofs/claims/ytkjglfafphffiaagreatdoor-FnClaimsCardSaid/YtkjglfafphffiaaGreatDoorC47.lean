/- ClM -/
import Derived.Test.YtkjglfafphffiaaGreatDoorC43
namespace Go.Proofs.YtkjglfafphffiaaGreatDoor
set_option maxRecDepth 100000
open Go.RowKit
theorem IntsM.shape' {w : World} {v : Value} {xs : List Int} (h : IntsM w v xs) : ∃ a n c, v = .slice a n c := by
  obtain ⟨a, c, e⟩ := h.shape
  exact ⟨a, _, c, e⟩
theorem RowsM.shape' {w : World} {v : Value} {xs : List (List Int)} (h : RowsM w v xs) : ∃ a n c, v = .slice a n c := by
  obtain ⟨a, c, e⟩ := h.shape
  exact ⟨a, _, c, e⟩
set_option maxHeartbeats 2000000 in
theorem impl_EqualClaims_m (v1 v2 : Value) (x y : ClaimD) (w : World) (h1 : ClaimM w v1 x) (h2 : ClaimM w v2 y) (fx : claimFew x) (fy : claimFew y) :
    Calls Tryz.prog 21 #[v1, v2] w (fun e w' => e = .returned (.bool (sameClaim x y)) ∧ Below w.heap.size w w') := by
  obtain ⟨p1, p2, p3, p4, p5, rfl, a1, a2, a3, a4, a5⟩ := h1
  obtain ⟨q1, q2, q3, q4, q5, rfl, b1, b2, b3, b4, b5⟩ := h2
  have k1 : ∀ W, Below w.heap.size w W → Calls Tryz.prog 76 #[p1, q1] W (Reads W (.bool (decide (x.cartan = y.cartan)))) := fun W hW => impl_EqualCartansM (a1.below hW) (b1.below hW) fx.1 fy.1
  have k2 : ∀ W, Below w.heap.size w W → Calls Tryz.prog 77 #[p2, q2] W (Reads W (.bool (decide (x.a = y.a)))) := fun W hW => impl_EqualIntsM (a2.below hW) (b2.below hW) fx.2.1 fy.2.1
  have k3 : ∀ W, Below w.heap.size w W → Calls Tryz.prog 77 #[p3, q3] W (Reads W (.bool (decide (x.b = y.b)))) := fun W hW => impl_EqualIntsM (a3.below hW) (b3.below hW) fx.2.2.1 fy.2.2.1
  have k4 : ∀ W, Below w.heap.size w W → Calls Tryz.prog 77 #[p4, q4] W (Reads W (.bool (decide (x.proof = y.proof)))) := fun W hW => impl_EqualIntsM (a4.below hW) (b4.below hW) fx.2.2.2.1 fy.2.2.2.1
  have k5 : ∀ W, Below w.heap.size w W → Calls Tryz.prog 76 #[p5, q5] W (Reads W (.bool (decide (x.roots = y.roots)))) := fun W hW => impl_EqualCartansM (a5.below hW) (b5.below hW) fx.2.2.2.2 fy.2.2.2.2
  obtain ⟨p1a, p1n, p1c, rfl⟩ := a1.shape'
  obtain ⟨p2a, p2n, p2c, rfl⟩ := a2.shape'
  obtain ⟨p3a, p3n, p3c, rfl⟩ := a3.shape'
  obtain ⟨p4a, p4n, p4c, rfl⟩ := a4.shape'
  obtain ⟨p5a, p5n, p5c, rfl⟩ := a5.shape'
  obtain ⟨q1a, q1n, q1c, rfl⟩ := b1.shape'
  obtain ⟨q2a, q2n, q2c, rfl⟩ := b2.shape'
  obtain ⟨q3a, q3n, q3c, rfl⟩ := b3.shape'
  obtain ⟨q4a, q4n, q4c, rfl⟩ := b4.shape'
  obtain ⟨q5a, q5n, q5c, rfl⟩ := b5.shape'
  by_cases e0 : x.kind = y.kind
  · have d0 : (x.kind == y.kind) = true := by simpa using e0
    by_cases e1 : x.cartan = y.cartan
    · rw [decide_eq_true e1] at k1
      by_cases e2 : x.a = y.a
      · rw [decide_eq_true e2] at k2
        by_cases e3 : x.b = y.b
        · rw [decide_eq_true e3] at k3
          by_cases e4 : x.proof = y.proof
          · rw [decide_eq_true e4] at k4
            by_cases e5 : x.roots = y.roots
            · rw [decide_eq_true e5] at k5
              have fin : sameClaim x y = true := by simp [sameClaim, e0, e1, e2, e3, e4, e5]
              rw [fin]
              clear fin e0 e1 e2 e3 e4 e5
              have K1 := Lib.hid k1; clear k1
              have K2 := Lib.hid k2; clear k2
              have K3 := Lib.hid k3; clear k3
              have K4 := Lib.hid k4; clear k4
              have K5 := Lib.hid k5; clear k5
              go_enter Tryz.func21, Tryz.ntmps21
              go_wp2_with fail
              refine (K1.out _ blwx).mono ?_
              rintro e w1 ⟨rfl, m1, rfl⟩
              go_wp2_with fail
              refine (K2.out _ blwx).mono ?_
              rintro e w2 ⟨rfl, m2, rfl⟩
              go_wp2_with fail
              refine (K3.out _ blwx).mono ?_
              rintro e w3 ⟨rfl, m3, rfl⟩
              go_wp2_with fail
              refine (K4.out _ blwx).mono ?_
              rintro e w4 ⟨rfl, m4, rfl⟩
              go_wp2_with fail
              refine (K5.out _ blwx).mono ?_
              rintro e w5 ⟨rfl, m5, rfl⟩
              go_wp2_with fail
              go_ret
              exact ⟨rfl, blwx⟩
            · rw [decide_eq_false e5] at k5
              have fin : sameClaim x y = false := by simp [sameClaim, e5]
              rw [fin]
              clear fin e0 e1 e2 e3 e4 e5
              have K1 := Lib.hid k1; clear k1
              have K2 := Lib.hid k2; clear k2
              have K3 := Lib.hid k3; clear k3
              have K4 := Lib.hid k4; clear k4
              have K5 := Lib.hid k5; clear k5
              go_enter Tryz.func21, Tryz.ntmps21
              go_wp2_with fail
              refine (K1.out _ blwx).mono ?_
              rintro e w1 ⟨rfl, m1, rfl⟩
              go_wp2_with fail
              refine (K2.out _ blwx).mono ?_
              rintro e w2 ⟨rfl, m2, rfl⟩
              go_wp2_with fail
              refine (K3.out _ blwx).mono ?_
              rintro e w3 ⟨rfl, m3, rfl⟩
              go_wp2_with fail
              refine (K4.out _ blwx).mono ?_
              rintro e w4 ⟨rfl, m4, rfl⟩
              go_wp2_with fail
              refine (K5.out _ blwx).mono ?_
              rintro e w5 ⟨rfl, m5, rfl⟩
              go_wp2_with fail
              go_ret
              exact ⟨rfl, blwx⟩
          · rw [decide_eq_false e4] at k4
            have fin : sameClaim x y = false := by simp [sameClaim, e4]
            rw [fin]
            clear fin e0 e1 e2 e3 e4
            have K1 := Lib.hid k1; clear k1
            have K2 := Lib.hid k2; clear k2
            have K3 := Lib.hid k3; clear k3
            have K4 := Lib.hid k4; clear k4
            clear k5
            go_enter Tryz.func21, Tryz.ntmps21
            go_wp2_with fail
            refine (K1.out _ blwx).mono ?_
            rintro e w1 ⟨rfl, m1, rfl⟩
            go_wp2_with fail
            refine (K2.out _ blwx).mono ?_
            rintro e w2 ⟨rfl, m2, rfl⟩
            go_wp2_with fail
            refine (K3.out _ blwx).mono ?_
            rintro e w3 ⟨rfl, m3, rfl⟩
            go_wp2_with fail
            refine (K4.out _ blwx).mono ?_
            rintro e w4 ⟨rfl, m4, rfl⟩
            go_wp2_with fail
            go_ret
            exact ⟨rfl, blwx⟩
        · rw [decide_eq_false e3] at k3
          have fin : sameClaim x y = false := by simp [sameClaim, e3]
          rw [fin]
          clear fin e0 e1 e2 e3
          have K1 := Lib.hid k1; clear k1
          have K2 := Lib.hid k2; clear k2
          have K3 := Lib.hid k3; clear k3
          clear k4
          clear k5
          go_enter Tryz.func21, Tryz.ntmps21
          go_wp2_with fail
          refine (K1.out _ blwx).mono ?_
          rintro e w1 ⟨rfl, m1, rfl⟩
          go_wp2_with fail
          refine (K2.out _ blwx).mono ?_
          rintro e w2 ⟨rfl, m2, rfl⟩
          go_wp2_with fail
          refine (K3.out _ blwx).mono ?_
          rintro e w3 ⟨rfl, m3, rfl⟩
          go_wp2_with fail
          go_ret
          exact ⟨rfl, blwx⟩
      · rw [decide_eq_false e2] at k2
        have fin : sameClaim x y = false := by simp [sameClaim, e2]
        rw [fin]
        clear fin e0 e1 e2
        have K1 := Lib.hid k1; clear k1
        have K2 := Lib.hid k2; clear k2
        clear k3
        clear k4
        clear k5
        go_enter Tryz.func21, Tryz.ntmps21
        go_wp2_with fail
        refine (K1.out _ blwx).mono ?_
        rintro e w1 ⟨rfl, m1, rfl⟩
        go_wp2_with fail
        refine (K2.out _ blwx).mono ?_
        rintro e w2 ⟨rfl, m2, rfl⟩
        go_wp2_with fail
        go_ret
        exact ⟨rfl, blwx⟩
    · rw [decide_eq_false e1] at k1
      have fin : sameClaim x y = false := by simp [sameClaim, e1]
      rw [fin]
      clear fin e0 e1
      have K1 := Lib.hid k1; clear k1
      clear k2
      clear k3
      clear k4
      clear k5
      go_enter Tryz.func21, Tryz.ntmps21
      go_wp2_with fail
      refine (K1.out _ blwx).mono ?_
      rintro e w1 ⟨rfl, m1, rfl⟩
      go_wp2_with fail
      go_ret
      exact ⟨rfl, blwx⟩
  · have d0 : (x.kind == y.kind) = false := by simpa using e0
    have fin : sameClaim x y = false := by simp [sameClaim, e0]
    rw [fin]
    clear fin e0 k1 k2 k3 k4 k5
    go_enter Tryz.func21, Tryz.ntmps21
    go_wp2_with fail
    go_ret
    exact ⟨rfl, blwx⟩
set_option maxHeartbeats 2000000 in
theorem spec_EqualClaims_m (v1 v2 : Value) (x y : ClaimD) (w : World) (h1 : ClaimM w v1 x) (h2 : ClaimM w v2 y) (fx : claimFew x) (fy : claimFew y) :
    Calls Tryz.prog 8 #[v1, v2] w (fun e w' => e = .returned (.bool (sameClaim x y)) ∧ Below w.heap.size w w') := by
  obtain ⟨p1, p2, p3, p4, p5, rfl, a1, a2, a3, a4, a5⟩ := h1
  obtain ⟨q1, q2, q3, q4, q5, rfl, b1, b2, b3, b4, b5⟩ := h2
  have k1 : ∀ W, Below w.heap.size w W → Calls Tryz.prog 37 #[p1, q1] W (Reads W (.bool (decide (x.cartan = y.cartan)))) := fun W hW => spec_EqualCartansM (a1.below hW) (b1.below hW) fx.1 fy.1
  have k2 : ∀ W, Below w.heap.size w W → Calls Tryz.prog 38 #[p2, q2] W (Reads W (.bool (decide (x.a = y.a)))) := fun W hW => spec_EqualIntsM (a2.below hW) (b2.below hW) fx.2.1 fy.2.1
  have k3 : ∀ W, Below w.heap.size w W → Calls Tryz.prog 38 #[p3, q3] W (Reads W (.bool (decide (x.b = y.b)))) := fun W hW => spec_EqualIntsM (a3.below hW) (b3.below hW) fx.2.2.1 fy.2.2.1
  have k4 : ∀ W, Below w.heap.size w W → Calls Tryz.prog 38 #[p4, q4] W (Reads W (.bool (decide (x.proof = y.proof)))) := fun W hW => spec_EqualIntsM (a4.below hW) (b4.below hW) fx.2.2.2.1 fy.2.2.2.1
  have k5 : ∀ W, Below w.heap.size w W → Calls Tryz.prog 37 #[p5, q5] W (Reads W (.bool (decide (x.roots = y.roots)))) := fun W hW => spec_EqualCartansM (a5.below hW) (b5.below hW) fx.2.2.2.2 fy.2.2.2.2
  obtain ⟨p1a, p1n, p1c, rfl⟩ := a1.shape'
  obtain ⟨p2a, p2n, p2c, rfl⟩ := a2.shape'
  obtain ⟨p3a, p3n, p3c, rfl⟩ := a3.shape'
  obtain ⟨p4a, p4n, p4c, rfl⟩ := a4.shape'
  obtain ⟨p5a, p5n, p5c, rfl⟩ := a5.shape'
  obtain ⟨q1a, q1n, q1c, rfl⟩ := b1.shape'
  obtain ⟨q2a, q2n, q2c, rfl⟩ := b2.shape'
  obtain ⟨q3a, q3n, q3c, rfl⟩ := b3.shape'
  obtain ⟨q4a, q4n, q4c, rfl⟩ := b4.shape'
  obtain ⟨q5a, q5n, q5c, rfl⟩ := b5.shape'
  by_cases e0 : x.kind = y.kind
  · have d0 : (x.kind == y.kind) = true := by simpa using e0
    by_cases e1 : x.cartan = y.cartan
    · rw [decide_eq_true e1] at k1
      by_cases e2 : x.a = y.a
      · rw [decide_eq_true e2] at k2
        by_cases e3 : x.b = y.b
        · rw [decide_eq_true e3] at k3
          by_cases e4 : x.proof = y.proof
          · rw [decide_eq_true e4] at k4
            by_cases e5 : x.roots = y.roots
            · rw [decide_eq_true e5] at k5
              have fin : sameClaim x y = true := by simp [sameClaim, e0, e1, e2, e3, e4, e5]
              rw [fin]
              clear fin e0 e1 e2 e3 e4 e5
              have K1 := Lib.hid k1; clear k1
              have K2 := Lib.hid k2; clear k2
              have K3 := Lib.hid k3; clear k3
              have K4 := Lib.hid k4; clear k4
              have K5 := Lib.hid k5; clear k5
              go_enter Tryz.func8, Tryz.ntmps8
              go_wp2_with fail
              refine (K1.out _ blwx).mono ?_
              rintro e w1 ⟨rfl, m1, rfl⟩
              go_wp2_with fail
              refine (K2.out _ blwx).mono ?_
              rintro e w2 ⟨rfl, m2, rfl⟩
              go_wp2_with fail
              refine (K3.out _ blwx).mono ?_
              rintro e w3 ⟨rfl, m3, rfl⟩
              go_wp2_with fail
              refine (K4.out _ blwx).mono ?_
              rintro e w4 ⟨rfl, m4, rfl⟩
              go_wp2_with fail
              refine (K5.out _ blwx).mono ?_
              rintro e w5 ⟨rfl, m5, rfl⟩
              go_wp2_with fail
              go_ret
              exact ⟨rfl, blwx⟩
            · rw [decide_eq_false e5] at k5
              have fin : sameClaim x y = false := by simp [sameClaim, e5]
              rw [fin]
              clear fin e0 e1 e2 e3 e4 e5
              have K1 := Lib.hid k1; clear k1
              have K2 := Lib.hid k2; clear k2
              have K3 := Lib.hid k3; clear k3
              have K4 := Lib.hid k4; clear k4
              have K5 := Lib.hid k5; clear k5
              go_enter Tryz.func8, Tryz.ntmps8
              go_wp2_with fail
              refine (K1.out _ blwx).mono ?_
              rintro e w1 ⟨rfl, m1, rfl⟩
              go_wp2_with fail
              refine (K2.out _ blwx).mono ?_
              rintro e w2 ⟨rfl, m2, rfl⟩
              go_wp2_with fail
              refine (K3.out _ blwx).mono ?_
              rintro e w3 ⟨rfl, m3, rfl⟩
              go_wp2_with fail
              refine (K4.out _ blwx).mono ?_
              rintro e w4 ⟨rfl, m4, rfl⟩
              go_wp2_with fail
              refine (K5.out _ blwx).mono ?_
              rintro e w5 ⟨rfl, m5, rfl⟩
              go_wp2_with fail
              go_ret
              exact ⟨rfl, blwx⟩
          · rw [decide_eq_false e4] at k4
            have fin : sameClaim x y = false := by simp [sameClaim, e4]
            rw [fin]
            clear fin e0 e1 e2 e3 e4
            have K1 := Lib.hid k1; clear k1
            have K2 := Lib.hid k2; clear k2
            have K3 := Lib.hid k3; clear k3
            have K4 := Lib.hid k4; clear k4
            clear k5
            go_enter Tryz.func8, Tryz.ntmps8
            go_wp2_with fail
            refine (K1.out _ blwx).mono ?_
            rintro e w1 ⟨rfl, m1, rfl⟩
            go_wp2_with fail
            refine (K2.out _ blwx).mono ?_
            rintro e w2 ⟨rfl, m2, rfl⟩
            go_wp2_with fail
            refine (K3.out _ blwx).mono ?_
            rintro e w3 ⟨rfl, m3, rfl⟩
            go_wp2_with fail
            refine (K4.out _ blwx).mono ?_
            rintro e w4 ⟨rfl, m4, rfl⟩
            go_wp2_with fail
            go_ret
            exact ⟨rfl, blwx⟩
        · rw [decide_eq_false e3] at k3
          have fin : sameClaim x y = false := by simp [sameClaim, e3]
          rw [fin]
          clear fin e0 e1 e2 e3
          have K1 := Lib.hid k1; clear k1
          have K2 := Lib.hid k2; clear k2
          have K3 := Lib.hid k3; clear k3
          clear k4
          clear k5
          go_enter Tryz.func8, Tryz.ntmps8
          go_wp2_with fail
          refine (K1.out _ blwx).mono ?_
          rintro e w1 ⟨rfl, m1, rfl⟩
          go_wp2_with fail
          refine (K2.out _ blwx).mono ?_
          rintro e w2 ⟨rfl, m2, rfl⟩
          go_wp2_with fail
          refine (K3.out _ blwx).mono ?_
          rintro e w3 ⟨rfl, m3, rfl⟩
          go_wp2_with fail
          go_ret
          exact ⟨rfl, blwx⟩
      · rw [decide_eq_false e2] at k2
        have fin : sameClaim x y = false := by simp [sameClaim, e2]
        rw [fin]
        clear fin e0 e1 e2
        have K1 := Lib.hid k1; clear k1
        have K2 := Lib.hid k2; clear k2
        clear k3
        clear k4
        clear k5
        go_enter Tryz.func8, Tryz.ntmps8
        go_wp2_with fail
        refine (K1.out _ blwx).mono ?_
        rintro e w1 ⟨rfl, m1, rfl⟩
        go_wp2_with fail
        refine (K2.out _ blwx).mono ?_
        rintro e w2 ⟨rfl, m2, rfl⟩
        go_wp2_with fail
        go_ret
        exact ⟨rfl, blwx⟩
    · rw [decide_eq_false e1] at k1
      have fin : sameClaim x y = false := by simp [sameClaim, e1]
      rw [fin]
      clear fin e0 e1
      have K1 := Lib.hid k1; clear k1
      clear k2
      clear k3
      clear k4
      clear k5
      go_enter Tryz.func8, Tryz.ntmps8
      go_wp2_with fail
      refine (K1.out _ blwx).mono ?_
      rintro e w1 ⟨rfl, m1, rfl⟩
      go_wp2_with fail
      go_ret
      exact ⟨rfl, blwx⟩
  · have d0 : (x.kind == y.kind) = false := by simpa using e0
    have fin : sameClaim x y = false := by simp [sameClaim, e0]
    rw [fin]
    clear fin e0 k1 k2 k3 k4 k5
    go_enter Tryz.func8, Tryz.ntmps8
    go_wp2_with fail
    go_ret
    exact ⟨rfl, blwx⟩
end Go.Proofs.YtkjglfafphffiaaGreatDoor
