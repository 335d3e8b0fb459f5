/- Claims: what a claim's value reads as; EqualClaims, the program's and the reference's: contracts. Parts of this text were printed by a program of mine. -/
import Derived.Test.YtgdgmldmcommbaaEq
namespace Go.Proofs.Ytgdgmldmcommbaa
open Go.RowKit

/-- a value that reads as a list of integers -/
def IntsV (w : World) (v : Value) (xs : List Int) : Prop := ∃ g o n c, v = (Value.slice (some ⟨g, o, none⟩) n c) ∧ xs.length = n ∧ n ≤ c ∧ g < w.heap.size ∧ Cells w g o xs
/-- a value that reads as a list of lists of integers -/
def RowsV (w : World) (v : Value) (rows : List (List Int)) : Prop := ∃ g o n c, v = (Value.slice (some ⟨g, o, none⟩) n c) ∧ rows.length = n ∧ n ≤ c ∧ g < w.heap.size ∧ Rows2 w g o rows
theorem IntsV.below {w w' : World} {v : Value} {xs : List Int} (h : IntsV w v xs) (hb : Below w.heap.size w w') : IntsV w' v xs := by
  obtain ⟨g, o, n, c, h1, h2, h3, h4, h5⟩ := h
  exact ⟨g, o, n, c, h1, h2, h3, Nat.lt_of_lt_of_le h4 hb.size, h5.below hb h4⟩
theorem RowsV.below {w w' : World} {v : Value} {rows : List (List Int)} (h : RowsV w v rows) (hb : Below w.heap.size w w') : RowsV w' v rows := by
  obtain ⟨g, o, n, c, h1, h2, h3, h4, h5⟩ := h
  exact ⟨g, o, n, c, h1, h2, h3, Nat.lt_of_lt_of_le h4 hb.size, h5.below hb h4⟩
theorem Own.intsV {w : World} {B g cap n : Nat} {xs : List Int} (h : Own w B g cap xs) (hn : xs.length = n) : IntsV w (Value.slice (some ⟨g, 0, none⟩) n cap) xs :=
  ⟨g, 0, n, cap, rfl, hn, by have := h.capLe; omega, h.lt, h.cells⟩
theorem OwnRows.rowsV {w : World} {B g cap n : Nat} {rs : List RowRef} (h : OwnRows w B g cap rs) (hn : rs.length = n) : RowsV w (Value.slice (some ⟨g, 0, none⟩) n cap) (contents rs) :=
  ⟨g, 0, n, cap, rfl, by rw [contents_length]; exact hn, by have := h.capLe; omega, h.lt, h.rows2⟩

structure ClaimD where
  kind : Int
  cartan : List (List Int)
  a : List Int
  b : List Int
  proof : List Int
  roots : List (List Int)
def ClaimV (w : World) (v : Value) (x : ClaimD) : Prop := ∃ v1 v2 v3 v4 v5, v = .agg #[.int .i64 x.kind, v1, v2, v3, v4, v5] ∧ RowsV w v1 x.cartan ∧ IntsV w v2 x.a ∧ IntsV w v3 x.b ∧ IntsV w v4 x.proof ∧ RowsV w v5 x.roots
theorem ClaimV.below {w w' : World} {v : Value} {x : ClaimD} (h : ClaimV w v x) (hb : Below w.heap.size w w') : ClaimV w' v x := by
  obtain ⟨v1, v2, v3, v4, v5, e, h1, h2, h3, h4, h5⟩ := h
  exact ⟨v1, v2, v3, v4, v5, e, h1.below hb, h2.below hb, h3.below hb, h4.below hb, h5.below hb⟩
def rowsFew (rows : List (List Int)) : Prop := rows.length ≤ 1048576 ∧ ∀ j, j < rows.length → (rows.getD j []).length ≤ 1048576
/-- few enough -/
def claimFew (x : ClaimD) : Prop := rowsFew x.cartan ∧ x.a.length ≤ 1048576 ∧ x.b.length ≤ 1048576 ∧ x.proof.length ≤ 1048576 ∧ rowsFew x.roots
def sameClaim (x y : ClaimD) : Bool := decide (x.kind = y.kind) && decide (x.cartan = y.cartan) && decide (x.a = y.a) && decide (x.b = y.b) && decide (x.proof = y.proof) && decide (x.roots = y.roots)

theorem impl_EqualCartansV {v1 v2 : Value} {a b : List (List Int)} {w : World} (h1 : RowsV w v1 a) (h2 : RowsV w v2 b) (ha : rowsFew a) (hb : rowsFew b) : Calls Try.prog 64 #[v1, v2] w (Reads w (.bool (decide (a = b)))) := by
  obtain ⟨g1, o1, n1, c1, rfl, l1, _, _, r1⟩ := h1
  obtain ⟨g2, o2, n2, c2, rfl, l2, _, _, r2⟩ := h2
  exact impl_EqualCartans_any g1 o1 n1 c1 g2 o2 n2 c2 a b w l1 l2 (by have := ha.1; omega) (fun j hj => by have := ha.2 j hj; omega) (fun j hj => by have := hb.2 j hj; omega) r1 r2
theorem impl_EqualIntsV {v1 v2 : Value} {xs ys : List Int} {w : World} (h1 : IntsV w v1 xs) (h2 : IntsV w v2 ys) (hx : xs.length ≤ 1048576) (hy : ys.length ≤ 1048576) : Calls Try.prog 47 #[v1, v2] w (Reads w (.bool (decide (xs = ys)))) := by
  obtain ⟨g1, o1, n1, c1, rfl, l1, _, _, r1⟩ := h1
  obtain ⟨g2, o2, n2, c2, rfl, l2, _, _, r2⟩ := h2
  exact slices_Equal_any g1 o1 n1 c1 g2 o2 n2 c2 xs ys w l1 l2 (by omega) (by omega) r1 r2

set_option maxHeartbeats 2000000 in
theorem impl_EqualClaims_any (v1 v2 : Value) (x y : ClaimD) (w : World) (h1 : ClaimV w v1 x) (h2 : ClaimV w v2 y) (fx : claimFew x) (fy : claimFew y) :
    Calls Try.prog 44 #[v1, v2] w (fun e w' => e = .returned (.bool (sameClaim x y)) ∧ Below w.heap.size w w') := by
  obtain ⟨p1, p2, p3, p4, p5, rfl, a1, a2, a3, a4, a5⟩ := h1
  obtain ⟨q1, q2, q3, q4, q5, rfl, b1, b2, b3, b4, b5⟩ := h2
  have k1 : ∀ W, Below w.heap.size w W → Calls Try.prog 64 #[p1, q1] W (Reads W (.bool (decide (x.cartan = y.cartan)))) := fun W hW => impl_EqualCartansV (a1.below hW) (b1.below hW) fx.1 fy.1
  have k2 : ∀ W, Below w.heap.size w W → Calls Try.prog 47 #[p2, q2] W (Reads W (.bool (decide (x.a = y.a)))) := fun W hW => impl_EqualIntsV (a2.below hW) (b2.below hW) fx.2.1 fy.2.1
  have k3 : ∀ W, Below w.heap.size w W → Calls Try.prog 47 #[p3, q3] W (Reads W (.bool (decide (x.b = y.b)))) := fun W hW => impl_EqualIntsV (a3.below hW) (b3.below hW) fx.2.2.1 fy.2.2.1
  have k4 : ∀ W, Below w.heap.size w W → Calls Try.prog 47 #[p4, q4] W (Reads W (.bool (decide (x.proof = y.proof)))) := fun W hW => impl_EqualIntsV (a4.below hW) (b4.below hW) fx.2.2.2.1 fy.2.2.2.1
  have k5 : ∀ W, Below w.heap.size w W → Calls Try.prog 64 #[p5, q5] W (Reads W (.bool (decide (x.roots = y.roots)))) := fun W hW => impl_EqualCartansV (a5.below hW) (b5.below hW) fx.2.2.2.2 fy.2.2.2.2
  obtain ⟨p1g, p1o, p1n, p1c, rfl, _⟩ := a1
  obtain ⟨p2g, p2o, p2n, p2c, rfl, _⟩ := a2
  obtain ⟨p3g, p3o, p3n, p3c, rfl, _⟩ := a3
  obtain ⟨p4g, p4o, p4n, p4c, rfl, _⟩ := a4
  obtain ⟨p5g, p5o, p5n, p5c, rfl, _⟩ := a5
  obtain ⟨q1g, q1o, q1n, q1c, rfl, _⟩ := b1
  obtain ⟨q2g, q2o, q2n, q2c, rfl, _⟩ := b2
  obtain ⟨q3g, q3o, q3n, q3c, rfl, _⟩ := b3
  obtain ⟨q4g, q4o, q4n, q4c, rfl, _⟩ := b4
  obtain ⟨q5g, q5o, q5n, q5c, rfl, _⟩ := b5
  by_cases e0 : x.kind = y.kind
  · have d0 : (x.kind == y.kind) = true := by simpa using e0
    by_cases e1 : x.cartan = y.cartan
    · rw [decide_eq_true e1] at k1
      by_cases e2 : x.a = y.a
      · rw [decide_eq_true e2] at k2
        by_cases e3 : x.b = y.b
        · rw [decide_eq_true e3] at k3
          by_cases e4 : x.proof = y.proof
          · rw [decide_eq_true e4] at k4
            by_cases e5 : x.roots = y.roots
            · rw [decide_eq_true e5] at k5
              have fin : sameClaim x y = true := by simp [sameClaim, e0, e1, e2, e3, e4, e5]
              rw [fin]
              clear fin e0 e1 e2 e3 e4 e5
              have K1 := Lib.hid k1; clear k1
              have K2 := Lib.hid k2; clear k2
              have K3 := Lib.hid k3; clear k3
              have K4 := Lib.hid k4; clear k4
              have K5 := Lib.hid k5; clear k5
              go_enter Try.func44, Try.ntmps44
              go_wp2_with fail
              refine (K1.out _ (by repeat (first | with_reducible exact Below.refl _ _ | with_reducible refine below_drewN ?_ _ | with_reducible refine Below.drew ?_ | (with_reducible refine Below.alloc ?_ ?_ _; rotate_left; · first | (simp; done) | (simp; omega)) | (with_reducible refine Below.setCell ?_ ?_ _; rotate_left; · first | (simp; done) | (simp; omega))))).mono ?_
              rintro e w1 ⟨rfl, m1, rfl⟩
              go_wp2_with fail
              refine (K2.out _ (by repeat (first | with_reducible exact Below.refl _ _ | with_reducible refine below_drewN ?_ _ | with_reducible refine Below.drew ?_ | (with_reducible refine Below.alloc ?_ ?_ _; rotate_left; · first | (simp; done) | (simp; omega)) | (with_reducible refine Below.setCell ?_ ?_ _; rotate_left; · first | (simp; done) | (simp; omega))))).mono ?_
              rintro e w2 ⟨rfl, m2, rfl⟩
              go_wp2_with fail
              refine (K3.out _ (by repeat (first | with_reducible exact Below.refl _ _ | with_reducible refine below_drewN ?_ _ | with_reducible refine Below.drew ?_ | (with_reducible refine Below.alloc ?_ ?_ _; rotate_left; · first | (simp; done) | (simp; omega)) | (with_reducible refine Below.setCell ?_ ?_ _; rotate_left; · first | (simp; done) | (simp; omega))))).mono ?_
              rintro e w3 ⟨rfl, m3, rfl⟩
              go_wp2_with fail
              refine (K4.out _ (by repeat (first | with_reducible exact Below.refl _ _ | with_reducible refine below_drewN ?_ _ | with_reducible refine Below.drew ?_ | (with_reducible refine Below.alloc ?_ ?_ _; rotate_left; · first | (simp; done) | (simp; omega)) | (with_reducible refine Below.setCell ?_ ?_ _; rotate_left; · first | (simp; done) | (simp; omega))))).mono ?_
              rintro e w4 ⟨rfl, m4, rfl⟩
              go_wp2_with fail
              refine (K5.out _ (by repeat (first | with_reducible exact Below.refl _ _ | with_reducible refine below_drewN ?_ _ | with_reducible refine Below.drew ?_ | (with_reducible refine Below.alloc ?_ ?_ _; rotate_left; · first | (simp; done) | (simp; omega)) | (with_reducible refine Below.setCell ?_ ?_ _; rotate_left; · first | (simp; done) | (simp; omega))))).mono ?_
              rintro e w5 ⟨rfl, m5, rfl⟩
              go_wp2_with fail
              go_ret
              exact ⟨rfl, (by repeat (first | with_reducible exact Below.refl _ _ | with_reducible refine below_drewN ?_ _ | with_reducible refine Below.drew ?_ | (with_reducible refine Below.alloc ?_ ?_ _; rotate_left; · first | (simp; done) | (simp; omega)) | (with_reducible refine Below.setCell ?_ ?_ _; rotate_left; · first | (simp; done) | (simp; omega))))⟩
            · rw [decide_eq_false e5] at k5
              have fin : sameClaim x y = false := by simp [sameClaim, e5]
              rw [fin]
              clear fin e0 e1 e2 e3 e4 e5
              have K1 := Lib.hid k1; clear k1
              have K2 := Lib.hid k2; clear k2
              have K3 := Lib.hid k3; clear k3
              have K4 := Lib.hid k4; clear k4
              have K5 := Lib.hid k5; clear k5
              go_enter Try.func44, Try.ntmps44
              go_wp2_with fail
              refine (K1.out _ (by repeat (first | with_reducible exact Below.refl _ _ | with_reducible refine below_drewN ?_ _ | with_reducible refine Below.drew ?_ | (with_reducible refine Below.alloc ?_ ?_ _; rotate_left; · first | (simp; done) | (simp; omega)) | (with_reducible refine Below.setCell ?_ ?_ _; rotate_left; · first | (simp; done) | (simp; omega))))).mono ?_
              rintro e w1 ⟨rfl, m1, rfl⟩
              go_wp2_with fail
              refine (K2.out _ (by repeat (first | with_reducible exact Below.refl _ _ | with_reducible refine below_drewN ?_ _ | with_reducible refine Below.drew ?_ | (with_reducible refine Below.alloc ?_ ?_ _; rotate_left; · first | (simp; done) | (simp; omega)) | (with_reducible refine Below.setCell ?_ ?_ _; rotate_left; · first | (simp; done) | (simp; omega))))).mono ?_
              rintro e w2 ⟨rfl, m2, rfl⟩
              go_wp2_with fail
              refine (K3.out _ (by repeat (first | with_reducible exact Below.refl _ _ | with_reducible refine below_drewN ?_ _ | with_reducible refine Below.drew ?_ | (with_reducible refine Below.alloc ?_ ?_ _; rotate_left; · first | (simp; done) | (simp; omega)) | (with_reducible refine Below.setCell ?_ ?_ _; rotate_left; · first | (simp; done) | (simp; omega))))).mono ?_
              rintro e w3 ⟨rfl, m3, rfl⟩
              go_wp2_with fail
              refine (K4.out _ (by repeat (first | with_reducible exact Below.refl _ _ | with_reducible refine below_drewN ?_ _ | with_reducible refine Below.drew ?_ | (with_reducible refine Below.alloc ?_ ?_ _; rotate_left; · first | (simp; done) | (simp; omega)) | (with_reducible refine Below.setCell ?_ ?_ _; rotate_left; · first | (simp; done) | (simp; omega))))).mono ?_
              rintro e w4 ⟨rfl, m4, rfl⟩
              go_wp2_with fail
              refine (K5.out _ (by repeat (first | with_reducible exact Below.refl _ _ | with_reducible refine below_drewN ?_ _ | with_reducible refine Below.drew ?_ | (with_reducible refine Below.alloc ?_ ?_ _; rotate_left; · first | (simp; done) | (simp; omega)) | (with_reducible refine Below.setCell ?_ ?_ _; rotate_left; · first | (simp; done) | (simp; omega))))).mono ?_
              rintro e w5 ⟨rfl, m5, rfl⟩
              go_wp2_with fail
              go_ret
              exact ⟨rfl, (by repeat (first | with_reducible exact Below.refl _ _ | with_reducible refine below_drewN ?_ _ | with_reducible refine Below.drew ?_ | (with_reducible refine Below.alloc ?_ ?_ _; rotate_left; · first | (simp; done) | (simp; omega)) | (with_reducible refine Below.setCell ?_ ?_ _; rotate_left; · first | (simp; done) | (simp; omega))))⟩
          · rw [decide_eq_false e4] at k4
            have fin : sameClaim x y = false := by simp [sameClaim, e4]
            rw [fin]
            clear fin e0 e1 e2 e3 e4
            have K1 := Lib.hid k1; clear k1
            have K2 := Lib.hid k2; clear k2
            have K3 := Lib.hid k3; clear k3
            have K4 := Lib.hid k4; clear k4
            clear k5
            go_enter Try.func44, Try.ntmps44
            go_wp2_with fail
            refine (K1.out _ (by repeat (first | with_reducible exact Below.refl _ _ | with_reducible refine below_drewN ?_ _ | with_reducible refine Below.drew ?_ | (with_reducible refine Below.alloc ?_ ?_ _; rotate_left; · first | (simp; done) | (simp; omega)) | (with_reducible refine Below.setCell ?_ ?_ _; rotate_left; · first | (simp; done) | (simp; omega))))).mono ?_
            rintro e w1 ⟨rfl, m1, rfl⟩
            go_wp2_with fail
            refine (K2.out _ (by repeat (first | with_reducible exact Below.refl _ _ | with_reducible refine below_drewN ?_ _ | with_reducible refine Below.drew ?_ | (with_reducible refine Below.alloc ?_ ?_ _; rotate_left; · first | (simp; done) | (simp; omega)) | (with_reducible refine Below.setCell ?_ ?_ _; rotate_left; · first | (simp; done) | (simp; omega))))).mono ?_
            rintro e w2 ⟨rfl, m2, rfl⟩
            go_wp2_with fail
            refine (K3.out _ (by repeat (first | with_reducible exact Below.refl _ _ | with_reducible refine below_drewN ?_ _ | with_reducible refine Below.drew ?_ | (with_reducible refine Below.alloc ?_ ?_ _; rotate_left; · first | (simp; done) | (simp; omega)) | (with_reducible refine Below.setCell ?_ ?_ _; rotate_left; · first | (simp; done) | (simp; omega))))).mono ?_
            rintro e w3 ⟨rfl, m3, rfl⟩
            go_wp2_with fail
            refine (K4.out _ (by repeat (first | with_reducible exact Below.refl _ _ | with_reducible refine below_drewN ?_ _ | with_reducible refine Below.drew ?_ | (with_reducible refine Below.alloc ?_ ?_ _; rotate_left; · first | (simp; done) | (simp; omega)) | (with_reducible refine Below.setCell ?_ ?_ _; rotate_left; · first | (simp; done) | (simp; omega))))).mono ?_
            rintro e w4 ⟨rfl, m4, rfl⟩
            go_wp2_with fail
            go_ret
            exact ⟨rfl, (by repeat (first | with_reducible exact Below.refl _ _ | with_reducible refine below_drewN ?_ _ | with_reducible refine Below.drew ?_ | (with_reducible refine Below.alloc ?_ ?_ _; rotate_left; · first | (simp; done) | (simp; omega)) | (with_reducible refine Below.setCell ?_ ?_ _; rotate_left; · first | (simp; done) | (simp; omega))))⟩
        · rw [decide_eq_false e3] at k3
          have fin : sameClaim x y = false := by simp [sameClaim, e3]
          rw [fin]
          clear fin e0 e1 e2 e3
          have K1 := Lib.hid k1; clear k1
          have K2 := Lib.hid k2; clear k2
          have K3 := Lib.hid k3; clear k3
          clear k4
          clear k5
          go_enter Try.func44, Try.ntmps44
          go_wp2_with fail
          refine (K1.out _ (by repeat (first | with_reducible exact Below.refl _ _ | with_reducible refine below_drewN ?_ _ | with_reducible refine Below.drew ?_ | (with_reducible refine Below.alloc ?_ ?_ _; rotate_left; · first | (simp; done) | (simp; omega)) | (with_reducible refine Below.setCell ?_ ?_ _; rotate_left; · first | (simp; done) | (simp; omega))))).mono ?_
          rintro e w1 ⟨rfl, m1, rfl⟩
          go_wp2_with fail
          refine (K2.out _ (by repeat (first | with_reducible exact Below.refl _ _ | with_reducible refine below_drewN ?_ _ | with_reducible refine Below.drew ?_ | (with_reducible refine Below.alloc ?_ ?_ _; rotate_left; · first | (simp; done) | (simp; omega)) | (with_reducible refine Below.setCell ?_ ?_ _; rotate_left; · first | (simp; done) | (simp; omega))))).mono ?_
          rintro e w2 ⟨rfl, m2, rfl⟩
          go_wp2_with fail
          refine (K3.out _ (by repeat (first | with_reducible exact Below.refl _ _ | with_reducible refine below_drewN ?_ _ | with_reducible refine Below.drew ?_ | (with_reducible refine Below.alloc ?_ ?_ _; rotate_left; · first | (simp; done) | (simp; omega)) | (with_reducible refine Below.setCell ?_ ?_ _; rotate_left; · first | (simp; done) | (simp; omega))))).mono ?_
          rintro e w3 ⟨rfl, m3, rfl⟩
          go_wp2_with fail
          go_ret
          exact ⟨rfl, (by repeat (first | with_reducible exact Below.refl _ _ | with_reducible refine below_drewN ?_ _ | with_reducible refine Below.drew ?_ | (with_reducible refine Below.alloc ?_ ?_ _; rotate_left; · first | (simp; done) | (simp; omega)) | (with_reducible refine Below.setCell ?_ ?_ _; rotate_left; · first | (simp; done) | (simp; omega))))⟩
      · rw [decide_eq_false e2] at k2
        have fin : sameClaim x y = false := by simp [sameClaim, e2]
        rw [fin]
        clear fin e0 e1 e2
        have K1 := Lib.hid k1; clear k1
        have K2 := Lib.hid k2; clear k2
        clear k3
        clear k4
        clear k5
        go_enter Try.func44, Try.ntmps44
        go_wp2_with fail
        refine (K1.out _ (by repeat (first | with_reducible exact Below.refl _ _ | with_reducible refine below_drewN ?_ _ | with_reducible refine Below.drew ?_ | (with_reducible refine Below.alloc ?_ ?_ _; rotate_left; · first | (simp; done) | (simp; omega)) | (with_reducible refine Below.setCell ?_ ?_ _; rotate_left; · first | (simp; done) | (simp; omega))))).mono ?_
        rintro e w1 ⟨rfl, m1, rfl⟩
        go_wp2_with fail
        refine (K2.out _ (by repeat (first | with_reducible exact Below.refl _ _ | with_reducible refine below_drewN ?_ _ | with_reducible refine Below.drew ?_ | (with_reducible refine Below.alloc ?_ ?_ _; rotate_left; · first | (simp; done) | (simp; omega)) | (with_reducible refine Below.setCell ?_ ?_ _; rotate_left; · first | (simp; done) | (simp; omega))))).mono ?_
        rintro e w2 ⟨rfl, m2, rfl⟩
        go_wp2_with fail
        go_ret
        exact ⟨rfl, (by repeat (first | with_reducible exact Below.refl _ _ | with_reducible refine below_drewN ?_ _ | with_reducible refine Below.drew ?_ | (with_reducible refine Below.alloc ?_ ?_ _; rotate_left; · first | (simp; done) | (simp; omega)) | (with_reducible refine Below.setCell ?_ ?_ _; rotate_left; · first | (simp; done) | (simp; omega))))⟩
    · rw [decide_eq_false e1] at k1
      have fin : sameClaim x y = false := by simp [sameClaim, e1]
      rw [fin]
      clear fin e0 e1
      have K1 := Lib.hid k1; clear k1
      clear k2
      clear k3
      clear k4
      clear k5
      go_enter Try.func44, Try.ntmps44
      go_wp2_with fail
      refine (K1.out _ (by repeat (first | with_reducible exact Below.refl _ _ | with_reducible refine below_drewN ?_ _ | with_reducible refine Below.drew ?_ | (with_reducible refine Below.alloc ?_ ?_ _; rotate_left; · first | (simp; done) | (simp; omega)) | (with_reducible refine Below.setCell ?_ ?_ _; rotate_left; · first | (simp; done) | (simp; omega))))).mono ?_
      rintro e w1 ⟨rfl, m1, rfl⟩
      go_wp2_with fail
      go_ret
      exact ⟨rfl, (by repeat (first | with_reducible exact Below.refl _ _ | with_reducible refine below_drewN ?_ _ | with_reducible refine Below.drew ?_ | (with_reducible refine Below.alloc ?_ ?_ _; rotate_left; · first | (simp; done) | (simp; omega)) | (with_reducible refine Below.setCell ?_ ?_ _; rotate_left; · first | (simp; done) | (simp; omega))))⟩
  · have d0 : (x.kind == y.kind) = false := by simpa using e0
    have fin : sameClaim x y = false := by simp [sameClaim, e0]
    rw [fin]
    clear fin e0 k1 k2 k3 k4 k5
    go_enter Try.func44, Try.ntmps44
    go_wp2_with fail
    go_ret
    exact ⟨rfl, (by repeat (first | with_reducible exact Below.refl _ _ | with_reducible refine below_drewN ?_ _ | with_reducible refine Below.drew ?_ | (with_reducible refine Below.alloc ?_ ?_ _; rotate_left; · first | (simp; done) | (simp; omega)) | (with_reducible refine Below.setCell ?_ ?_ _; rotate_left; · first | (simp; done) | (simp; omega))))⟩

theorem spec_EqualCartansV {v1 v2 : Value} {a b : List (List Int)} {w : World} (h1 : RowsV w v1 a) (h2 : RowsV w v2 b) (ha : rowsFew a) (hb : rowsFew b) : Calls Try.prog 61 #[v1, v2] w (Reads w (.bool (decide (a = b)))) := by
  obtain ⟨g1, o1, n1, c1, rfl, l1, _, _, r1⟩ := h1
  obtain ⟨g2, o2, n2, c2, rfl, l2, _, _, r2⟩ := h2
  exact spec_EqualCartans_any g1 o1 n1 c1 g2 o2 n2 c2 a b w l1 l2 (by have := ha.1; omega) (fun j hj => by have := ha.2 j hj; omega) (fun j hj => by have := hb.2 j hj; omega) r1 r2
theorem spec_EqualIntsV {v1 v2 : Value} {xs ys : List Int} {w : World} (h1 : IntsV w v1 xs) (h2 : IntsV w v2 ys) (hx : xs.length ≤ 1048576) (_hy : ys.length ≤ 1048576) : Calls Try.prog 62 #[v1, v2] w (Reads w (.bool (decide (xs = ys)))) := by
  obtain ⟨g1, o1, n1, c1, rfl, l1, _, _, r1⟩ := h1
  obtain ⟨g2, o2, n2, c2, rfl, l2, _, _, r2⟩ := h2
  exact spec_EqualWords_any g1 o1 n1 c1 g2 o2 n2 c2 xs ys w l1 l2 (by omega) r1 r2

set_option maxHeartbeats 2000000 in
theorem spec_EqualClaims_any (v1 v2 : Value) (x y : ClaimD) (w : World) (h1 : ClaimV w v1 x) (h2 : ClaimV w v2 y) (fx : claimFew x) (fy : claimFew y) :
    Calls Try.prog 42 #[v1, v2] w (fun e w' => e = .returned (.bool (sameClaim x y)) ∧ Below w.heap.size w w') := by
  obtain ⟨p1, p2, p3, p4, p5, rfl, a1, a2, a3, a4, a5⟩ := h1
  obtain ⟨q1, q2, q3, q4, q5, rfl, b1, b2, b3, b4, b5⟩ := h2
  have k1 : ∀ W, Below w.heap.size w W → Calls Try.prog 61 #[p1, q1] W (Reads W (.bool (decide (x.cartan = y.cartan)))) := fun W hW => spec_EqualCartansV (a1.below hW) (b1.below hW) fx.1 fy.1
  have k2 : ∀ W, Below w.heap.size w W → Calls Try.prog 62 #[p2, q2] W (Reads W (.bool (decide (x.a = y.a)))) := fun W hW => spec_EqualIntsV (a2.below hW) (b2.below hW) fx.2.1 fy.2.1
  have k3 : ∀ W, Below w.heap.size w W → Calls Try.prog 62 #[p3, q3] W (Reads W (.bool (decide (x.b = y.b)))) := fun W hW => spec_EqualIntsV (a3.below hW) (b3.below hW) fx.2.2.1 fy.2.2.1
  have k4 : ∀ W, Below w.heap.size w W → Calls Try.prog 62 #[p4, q4] W (Reads W (.bool (decide (x.proof = y.proof)))) := fun W hW => spec_EqualIntsV (a4.below hW) (b4.below hW) fx.2.2.2.1 fy.2.2.2.1
  have k5 : ∀ W, Below w.heap.size w W → Calls Try.prog 61 #[p5, q5] W (Reads W (.bool (decide (x.roots = y.roots)))) := fun W hW => spec_EqualCartansV (a5.below hW) (b5.below hW) fx.2.2.2.2 fy.2.2.2.2
  obtain ⟨p1g, p1o, p1n, p1c, rfl, _⟩ := a1
  obtain ⟨p2g, p2o, p2n, p2c, rfl, _⟩ := a2
  obtain ⟨p3g, p3o, p3n, p3c, rfl, _⟩ := a3
  obtain ⟨p4g, p4o, p4n, p4c, rfl, _⟩ := a4
  obtain ⟨p5g, p5o, p5n, p5c, rfl, _⟩ := a5
  obtain ⟨q1g, q1o, q1n, q1c, rfl, _⟩ := b1
  obtain ⟨q2g, q2o, q2n, q2c, rfl, _⟩ := b2
  obtain ⟨q3g, q3o, q3n, q3c, rfl, _⟩ := b3
  obtain ⟨q4g, q4o, q4n, q4c, rfl, _⟩ := b4
  obtain ⟨q5g, q5o, q5n, q5c, rfl, _⟩ := b5
  by_cases e0 : x.kind = y.kind
  · have d0 : (x.kind == y.kind) = true := by simpa using e0
    by_cases e1 : x.cartan = y.cartan
    · rw [decide_eq_true e1] at k1
      by_cases e2 : x.a = y.a
      · rw [decide_eq_true e2] at k2
        by_cases e3 : x.b = y.b
        · rw [decide_eq_true e3] at k3
          by_cases e4 : x.proof = y.proof
          · rw [decide_eq_true e4] at k4
            by_cases e5 : x.roots = y.roots
            · rw [decide_eq_true e5] at k5
              have fin : sameClaim x y = true := by simp [sameClaim, e0, e1, e2, e3, e4, e5]
              rw [fin]
              clear fin e0 e1 e2 e3 e4 e5
              have K1 := Lib.hid k1; clear k1
              have K2 := Lib.hid k2; clear k2
              have K3 := Lib.hid k3; clear k3
              have K4 := Lib.hid k4; clear k4
              have K5 := Lib.hid k5; clear k5
              go_enter Try.func42, Try.ntmps42
              go_wp2_with fail
              refine (K1.out _ (by repeat (first | with_reducible exact Below.refl _ _ | with_reducible refine below_drewN ?_ _ | with_reducible refine Below.drew ?_ | (with_reducible refine Below.alloc ?_ ?_ _; rotate_left; · first | (simp; done) | (simp; omega)) | (with_reducible refine Below.setCell ?_ ?_ _; rotate_left; · first | (simp; done) | (simp; omega))))).mono ?_
              rintro e w1 ⟨rfl, m1, rfl⟩
              go_wp2_with fail
              refine (K2.out _ (by repeat (first | with_reducible exact Below.refl _ _ | with_reducible refine below_drewN ?_ _ | with_reducible refine Below.drew ?_ | (with_reducible refine Below.alloc ?_ ?_ _; rotate_left; · first | (simp; done) | (simp; omega)) | (with_reducible refine Below.setCell ?_ ?_ _; rotate_left; · first | (simp; done) | (simp; omega))))).mono ?_
              rintro e w2 ⟨rfl, m2, rfl⟩
              go_wp2_with fail
              refine (K3.out _ (by repeat (first | with_reducible exact Below.refl _ _ | with_reducible refine below_drewN ?_ _ | with_reducible refine Below.drew ?_ | (with_reducible refine Below.alloc ?_ ?_ _; rotate_left; · first | (simp; done) | (simp; omega)) | (with_reducible refine Below.setCell ?_ ?_ _; rotate_left; · first | (simp; done) | (simp; omega))))).mono ?_
              rintro e w3 ⟨rfl, m3, rfl⟩
              go_wp2_with fail
              refine (K4.out _ (by repeat (first | with_reducible exact Below.refl _ _ | with_reducible refine below_drewN ?_ _ | with_reducible refine Below.drew ?_ | (with_reducible refine Below.alloc ?_ ?_ _; rotate_left; · first | (simp; done) | (simp; omega)) | (with_reducible refine Below.setCell ?_ ?_ _; rotate_left; · first | (simp; done) | (simp; omega))))).mono ?_
              rintro e w4 ⟨rfl, m4, rfl⟩
              go_wp2_with fail
              refine (K5.out _ (by repeat (first | with_reducible exact Below.refl _ _ | with_reducible refine below_drewN ?_ _ | with_reducible refine Below.drew ?_ | (with_reducible refine Below.alloc ?_ ?_ _; rotate_left; · first | (simp; done) | (simp; omega)) | (with_reducible refine Below.setCell ?_ ?_ _; rotate_left; · first | (simp; done) | (simp; omega))))).mono ?_
              rintro e w5 ⟨rfl, m5, rfl⟩
              go_wp2_with fail
              go_ret
              exact ⟨rfl, (by repeat (first | with_reducible exact Below.refl _ _ | with_reducible refine below_drewN ?_ _ | with_reducible refine Below.drew ?_ | (with_reducible refine Below.alloc ?_ ?_ _; rotate_left; · first | (simp; done) | (simp; omega)) | (with_reducible refine Below.setCell ?_ ?_ _; rotate_left; · first | (simp; done) | (simp; omega))))⟩
            · rw [decide_eq_false e5] at k5
              have fin : sameClaim x y = false := by simp [sameClaim, e5]
              rw [fin]
              clear fin e0 e1 e2 e3 e4 e5
              have K1 := Lib.hid k1; clear k1
              have K2 := Lib.hid k2; clear k2
              have K3 := Lib.hid k3; clear k3
              have K4 := Lib.hid k4; clear k4
              have K5 := Lib.hid k5; clear k5
              go_enter Try.func42, Try.ntmps42
              go_wp2_with fail
              refine (K1.out _ (by repeat (first | with_reducible exact Below.refl _ _ | with_reducible refine below_drewN ?_ _ | with_reducible refine Below.drew ?_ | (with_reducible refine Below.alloc ?_ ?_ _; rotate_left; · first | (simp; done) | (simp; omega)) | (with_reducible refine Below.setCell ?_ ?_ _; rotate_left; · first | (simp; done) | (simp; omega))))).mono ?_
              rintro e w1 ⟨rfl, m1, rfl⟩
              go_wp2_with fail
              refine (K2.out _ (by repeat (first | with_reducible exact Below.refl _ _ | with_reducible refine below_drewN ?_ _ | with_reducible refine Below.drew ?_ | (with_reducible refine Below.alloc ?_ ?_ _; rotate_left; · first | (simp; done) | (simp; omega)) | (with_reducible refine Below.setCell ?_ ?_ _; rotate_left; · first | (simp; done) | (simp; omega))))).mono ?_
              rintro e w2 ⟨rfl, m2, rfl⟩
              go_wp2_with fail
              refine (K3.out _ (by repeat (first | with_reducible exact Below.refl _ _ | with_reducible refine below_drewN ?_ _ | with_reducible refine Below.drew ?_ | (with_reducible refine Below.alloc ?_ ?_ _; rotate_left; · first | (simp; done) | (simp; omega)) | (with_reducible refine Below.setCell ?_ ?_ _; rotate_left; · first | (simp; done) | (simp; omega))))).mono ?_
              rintro e w3 ⟨rfl, m3, rfl⟩
              go_wp2_with fail
              refine (K4.out _ (by repeat (first | with_reducible exact Below.refl _ _ | with_reducible refine below_drewN ?_ _ | with_reducible refine Below.drew ?_ | (with_reducible refine Below.alloc ?_ ?_ _; rotate_left; · first | (simp; done) | (simp; omega)) | (with_reducible refine Below.setCell ?_ ?_ _; rotate_left; · first | (simp; done) | (simp; omega))))).mono ?_
              rintro e w4 ⟨rfl, m4, rfl⟩
              go_wp2_with fail
              refine (K5.out _ (by repeat (first | with_reducible exact Below.refl _ _ | with_reducible refine below_drewN ?_ _ | with_reducible refine Below.drew ?_ | (with_reducible refine Below.alloc ?_ ?_ _; rotate_left; · first | (simp; done) | (simp; omega)) | (with_reducible refine Below.setCell ?_ ?_ _; rotate_left; · first | (simp; done) | (simp; omega))))).mono ?_
              rintro e w5 ⟨rfl, m5, rfl⟩
              go_wp2_with fail
              go_ret
              exact ⟨rfl, (by repeat (first | with_reducible exact Below.refl _ _ | with_reducible refine below_drewN ?_ _ | with_reducible refine Below.drew ?_ | (with_reducible refine Below.alloc ?_ ?_ _; rotate_left; · first | (simp; done) | (simp; omega)) | (with_reducible refine Below.setCell ?_ ?_ _; rotate_left; · first | (simp; done) | (simp; omega))))⟩
          · rw [decide_eq_false e4] at k4
            have fin : sameClaim x y = false := by simp [sameClaim, e4]
            rw [fin]
            clear fin e0 e1 e2 e3 e4
            have K1 := Lib.hid k1; clear k1
            have K2 := Lib.hid k2; clear k2
            have K3 := Lib.hid k3; clear k3
            have K4 := Lib.hid k4; clear k4
            clear k5
            go_enter Try.func42, Try.ntmps42
            go_wp2_with fail
            refine (K1.out _ (by repeat (first | with_reducible exact Below.refl _ _ | with_reducible refine below_drewN ?_ _ | with_reducible refine Below.drew ?_ | (with_reducible refine Below.alloc ?_ ?_ _; rotate_left; · first | (simp; done) | (simp; omega)) | (with_reducible refine Below.setCell ?_ ?_ _; rotate_left; · first | (simp; done) | (simp; omega))))).mono ?_
            rintro e w1 ⟨rfl, m1, rfl⟩
            go_wp2_with fail
            refine (K2.out _ (by repeat (first | with_reducible exact Below.refl _ _ | with_reducible refine below_drewN ?_ _ | with_reducible refine Below.drew ?_ | (with_reducible refine Below.alloc ?_ ?_ _; rotate_left; · first | (simp; done) | (simp; omega)) | (with_reducible refine Below.setCell ?_ ?_ _; rotate_left; · first | (simp; done) | (simp; omega))))).mono ?_
            rintro e w2 ⟨rfl, m2, rfl⟩
            go_wp2_with fail
            refine (K3.out _ (by repeat (first | with_reducible exact Below.refl _ _ | with_reducible refine below_drewN ?_ _ | with_reducible refine Below.drew ?_ | (with_reducible refine Below.alloc ?_ ?_ _; rotate_left; · first | (simp; done) | (simp; omega)) | (with_reducible refine Below.setCell ?_ ?_ _; rotate_left; · first | (simp; done) | (simp; omega))))).mono ?_
            rintro e w3 ⟨rfl, m3, rfl⟩
            go_wp2_with fail
            refine (K4.out _ (by repeat (first | with_reducible exact Below.refl _ _ | with_reducible refine below_drewN ?_ _ | with_reducible refine Below.drew ?_ | (with_reducible refine Below.alloc ?_ ?_ _; rotate_left; · first | (simp; done) | (simp; omega)) | (with_reducible refine Below.setCell ?_ ?_ _; rotate_left; · first | (simp; done) | (simp; omega))))).mono ?_
            rintro e w4 ⟨rfl, m4, rfl⟩
            go_wp2_with fail
            go_ret
            exact ⟨rfl, (by repeat (first | with_reducible exact Below.refl _ _ | with_reducible refine below_drewN ?_ _ | with_reducible refine Below.drew ?_ | (with_reducible refine Below.alloc ?_ ?_ _; rotate_left; · first | (simp; done) | (simp; omega)) | (with_reducible refine Below.setCell ?_ ?_ _; rotate_left; · first | (simp; done) | (simp; omega))))⟩
        · rw [decide_eq_false e3] at k3
          have fin : sameClaim x y = false := by simp [sameClaim, e3]
          rw [fin]
          clear fin e0 e1 e2 e3
          have K1 := Lib.hid k1; clear k1
          have K2 := Lib.hid k2; clear k2
          have K3 := Lib.hid k3; clear k3
          clear k4
          clear k5
          go_enter Try.func42, Try.ntmps42
          go_wp2_with fail
          refine (K1.out _ (by repeat (first | with_reducible exact Below.refl _ _ | with_reducible refine below_drewN ?_ _ | with_reducible refine Below.drew ?_ | (with_reducible refine Below.alloc ?_ ?_ _; rotate_left; · first | (simp; done) | (simp; omega)) | (with_reducible refine Below.setCell ?_ ?_ _; rotate_left; · first | (simp; done) | (simp; omega))))).mono ?_
          rintro e w1 ⟨rfl, m1, rfl⟩
          go_wp2_with fail
          refine (K2.out _ (by repeat (first | with_reducible exact Below.refl _ _ | with_reducible refine below_drewN ?_ _ | with_reducible refine Below.drew ?_ | (with_reducible refine Below.alloc ?_ ?_ _; rotate_left; · first | (simp; done) | (simp; omega)) | (with_reducible refine Below.setCell ?_ ?_ _; rotate_left; · first | (simp; done) | (simp; omega))))).mono ?_
          rintro e w2 ⟨rfl, m2, rfl⟩
          go_wp2_with fail
          refine (K3.out _ (by repeat (first | with_reducible exact Below.refl _ _ | with_reducible refine below_drewN ?_ _ | with_reducible refine Below.drew ?_ | (with_reducible refine Below.alloc ?_ ?_ _; rotate_left; · first | (simp; done) | (simp; omega)) | (with_reducible refine Below.setCell ?_ ?_ _; rotate_left; · first | (simp; done) | (simp; omega))))).mono ?_
          rintro e w3 ⟨rfl, m3, rfl⟩
          go_wp2_with fail
          go_ret
          exact ⟨rfl, (by repeat (first | with_reducible exact Below.refl _ _ | with_reducible refine below_drewN ?_ _ | with_reducible refine Below.drew ?_ | (with_reducible refine Below.alloc ?_ ?_ _; rotate_left; · first | (simp; done) | (simp; omega)) | (with_reducible refine Below.setCell ?_ ?_ _; rotate_left; · first | (simp; done) | (simp; omega))))⟩
      · rw [decide_eq_false e2] at k2
        have fin : sameClaim x y = false := by simp [sameClaim, e2]
        rw [fin]
        clear fin e0 e1 e2
        have K1 := Lib.hid k1; clear k1
        have K2 := Lib.hid k2; clear k2
        clear k3
        clear k4
        clear k5
        go_enter Try.func42, Try.ntmps42
        go_wp2_with fail
        refine (K1.out _ (by repeat (first | with_reducible exact Below.refl _ _ | with_reducible refine below_drewN ?_ _ | with_reducible refine Below.drew ?_ | (with_reducible refine Below.alloc ?_ ?_ _; rotate_left; · first | (simp; done) | (simp; omega)) | (with_reducible refine Below.setCell ?_ ?_ _; rotate_left; · first | (simp; done) | (simp; omega))))).mono ?_
        rintro e w1 ⟨rfl, m1, rfl⟩
        go_wp2_with fail
        refine (K2.out _ (by repeat (first | with_reducible exact Below.refl _ _ | with_reducible refine below_drewN ?_ _ | with_reducible refine Below.drew ?_ | (with_reducible refine Below.alloc ?_ ?_ _; rotate_left; · first | (simp; done) | (simp; omega)) | (with_reducible refine Below.setCell ?_ ?_ _; rotate_left; · first | (simp; done) | (simp; omega))))).mono ?_
        rintro e w2 ⟨rfl, m2, rfl⟩
        go_wp2_with fail
        go_ret
        exact ⟨rfl, (by repeat (first | with_reducible exact Below.refl _ _ | with_reducible refine below_drewN ?_ _ | with_reducible refine Below.drew ?_ | (with_reducible refine Below.alloc ?_ ?_ _; rotate_left; · first | (simp; done) | (simp; omega)) | (with_reducible refine Below.setCell ?_ ?_ _; rotate_left; · first | (simp; done) | (simp; omega))))⟩
    · rw [decide_eq_false e1] at k1
      have fin : sameClaim x y = false := by simp [sameClaim, e1]
      rw [fin]
      clear fin e0 e1
      have K1 := Lib.hid k1; clear k1
      clear k2
      clear k3
      clear k4
      clear k5
      go_enter Try.func42, Try.ntmps42
      go_wp2_with fail
      refine (K1.out _ (by repeat (first | with_reducible exact Below.refl _ _ | with_reducible refine below_drewN ?_ _ | with_reducible refine Below.drew ?_ | (with_reducible refine Below.alloc ?_ ?_ _; rotate_left; · first | (simp; done) | (simp; omega)) | (with_reducible refine Below.setCell ?_ ?_ _; rotate_left; · first | (simp; done) | (simp; omega))))).mono ?_
      rintro e w1 ⟨rfl, m1, rfl⟩
      go_wp2_with fail
      go_ret
      exact ⟨rfl, (by repeat (first | with_reducible exact Below.refl _ _ | with_reducible refine below_drewN ?_ _ | with_reducible refine Below.drew ?_ | (with_reducible refine Below.alloc ?_ ?_ _; rotate_left; · first | (simp; done) | (simp; omega)) | (with_reducible refine Below.setCell ?_ ?_ _; rotate_left; · first | (simp; done) | (simp; omega))))⟩
  · have d0 : (x.kind == y.kind) = false := by simpa using e0
    have fin : sameClaim x y = false := by simp [sameClaim, e0]
    rw [fin]
    clear fin e0 k1 k2 k3 k4 k5
    go_enter Try.func42, Try.ntmps42
    go_wp2_with fail
    go_ret
    exact ⟨rfl, (by repeat (first | with_reducible exact Below.refl _ _ | with_reducible refine below_drewN ?_ _ | with_reducible refine Below.drew ?_ | (with_reducible refine Below.alloc ?_ ?_ _; rotate_left; · first | (simp; done) | (simp; omega)) | (with_reducible refine Below.setCell ?_ ?_ _; rotate_left; · first | (simp; done) | (simp; omega))))⟩
end Go.Proofs.Ytgdgmldmcommbaa
