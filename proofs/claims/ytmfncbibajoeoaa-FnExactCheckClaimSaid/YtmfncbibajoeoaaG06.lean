/- Claims: eqClaim. -/
import Derived.Test.YtmfncbibajoeoaaG04
namespace Go.Proofs.Ytmfncbibajoeoaa
set_option maxRecDepth 100000
open Go.RowKit

theorem eqIntSS_V {v1 v2 : Value} {rows : List (List Int)} {w : World} (h1 : RowsV w v1 rows) (h2 : RowsV w v2 rows) (hf : rowsFewC rows) : Calls Try.prog 81 #[v1, v2] w (Reads w (.bool true)) := by
  obtain ⟨g1, o1, n1, c1, rfl, l1, _, _, r1⟩ := h1
  obtain ⟨g2, o2, n2, c2, rfl, l2, _, _, r2⟩ := h2
  exact eqIntSS_same g1 o1 n1 c1 g2 o2 n2 c2 rows w l1 l2 hf.1 (fun j hj => by have := hf.2 j hj; omega) r1 r2
theorem eqIntS_V {v1 v2 : Value} {xs : List Int} {w : World} (h1 : IntsV w v1 xs) (h2 : IntsV w v2 xs) (hf : xs.length ≤ 1048576) : Calls Try.prog 82 #[v1, v2] w (Reads w (.bool true)) := by
  obtain ⟨g1, o1, n1, c1, rfl, l1, _, _, r1⟩ := h1
  obtain ⟨g2, o2, n2, c2, rfl, l2, _, _, r2⟩ := h2
  exact eqIntS_same g1 o1 n1 c1 g2 o2 n2 c2 xs w l1 l2 (by omega) r1 r2

set_option maxHeartbeats 2000000 in
theorem eqClaim_same (v1 v2 : Value) (x : ClaimD) (w : World) (h1 : ClaimV w v1 x) (h2 : ClaimV w v2 x) (hf : claimFew x) :
    Calls Try.prog 35 #[v1, v2] w (fun e w' => e = .returned (.bool true) ∧ Below w.heap.size w w') := by
  obtain ⟨p1, p2, p3, p4, p5, rfl, a1, a2, a3, a4, a5⟩ := h1
  obtain ⟨q1, q2, q3, q4, q5, rfl, b1, b2, b3, b4, b5⟩ := h2
  have d0 : (x.kind != x.kind) = false := by simp
  have k1 : Hid (∀ W, Below w.heap.size w W → Calls Try.prog 81 #[p1, q1] W (Reads W (.bool true))) := fun W hW => eqIntSS_V (a1.below hW) (b1.below hW) hf.1
  have k2 : Hid (∀ W, Below w.heap.size w W → Calls Try.prog 82 #[p2, q2] W (Reads W (.bool true))) := fun W hW => eqIntS_V (a2.below hW) (b2.below hW) hf.2.1
  have k3 : Hid (∀ W, Below w.heap.size w W → Calls Try.prog 82 #[p3, q3] W (Reads W (.bool true))) := fun W hW => eqIntS_V (a3.below hW) (b3.below hW) hf.2.2.1
  have k4 : Hid (∀ W, Below w.heap.size w W → Calls Try.prog 82 #[p4, q4] W (Reads W (.bool true))) := fun W hW => eqIntS_V (a4.below hW) (b4.below hW) hf.2.2.2.1
  have k5 : Hid (∀ W, Below w.heap.size w W → Calls Try.prog 81 #[p5, q5] W (Reads W (.bool true))) := fun W hW => eqIntSS_V (a5.below hW) (b5.below hW) hf.2.2.2.2
  obtain ⟨p1g, p1o, p1n, p1c, rfl, -⟩ := a1
  obtain ⟨q1g, q1o, q1n, q1c, rfl, -⟩ := b1
  obtain ⟨p2g, p2o, p2n, p2c, rfl, -⟩ := a2
  obtain ⟨q2g, q2o, q2n, q2c, rfl, -⟩ := b2
  obtain ⟨p3g, p3o, p3n, p3c, rfl, -⟩ := a3
  obtain ⟨q3g, q3o, q3n, q3c, rfl, -⟩ := b3
  obtain ⟨p4g, p4o, p4n, p4c, rfl, -⟩ := a4
  obtain ⟨q4g, q4o, q4n, q4c, rfl, -⟩ := b4
  obtain ⟨p5g, p5o, p5n, p5c, rfl, -⟩ := a5
  obtain ⟨q5g, q5o, q5n, q5c, rfl, -⟩ := b5
  go_enter Try.func35, Try.ntmps35
  go_wp2_with fail
  refine (k1.out _ (by repeat (first | with_reducible exact Below.refl _ _ | with_reducible assumption | with_reducible refine below_drewN ?_ _ | with_reducible refine Below.drew ?_ | (with_reducible refine Below.alloc ?_ ?_ _; rotate_left; · first | (simp; done) | (simp; omega) | exact Below.size (by assumption) | (have hsz := Below.size (by assumption : Below _ _ _); simp at hsz ⊢; omega)) | (with_reducible refine Below.setCell ?_ ?_ _; rotate_left; · first | (simp; done) | (simp; omega))))).mono ?_
  rintro e w1 ⟨rfl, m1, rfl⟩
  go_wp2_with fail
  refine (k2.out _ (by repeat (first | with_reducible exact Below.refl _ _ | with_reducible assumption | with_reducible refine below_drewN ?_ _ | with_reducible refine Below.drew ?_ | (with_reducible refine Below.alloc ?_ ?_ _; rotate_left; · first | (simp; done) | (simp; omega) | exact Below.size (by assumption) | (have hsz := Below.size (by assumption : Below _ _ _); simp at hsz ⊢; omega)) | (with_reducible refine Below.setCell ?_ ?_ _; rotate_left; · first | (simp; done) | (simp; omega))))).mono ?_
  rintro e w2 ⟨rfl, m2, rfl⟩
  go_wp2_with fail
  refine (k3.out _ (by repeat (first | with_reducible exact Below.refl _ _ | with_reducible assumption | with_reducible refine below_drewN ?_ _ | with_reducible refine Below.drew ?_ | (with_reducible refine Below.alloc ?_ ?_ _; rotate_left; · first | (simp; done) | (simp; omega) | exact Below.size (by assumption) | (have hsz := Below.size (by assumption : Below _ _ _); simp at hsz ⊢; omega)) | (with_reducible refine Below.setCell ?_ ?_ _; rotate_left; · first | (simp; done) | (simp; omega))))).mono ?_
  rintro e w3 ⟨rfl, m3, rfl⟩
  go_wp2_with fail
  refine (k4.out _ (by repeat (first | with_reducible exact Below.refl _ _ | with_reducible assumption | with_reducible refine below_drewN ?_ _ | with_reducible refine Below.drew ?_ | (with_reducible refine Below.alloc ?_ ?_ _; rotate_left; · first | (simp; done) | (simp; omega) | exact Below.size (by assumption) | (have hsz := Below.size (by assumption : Below _ _ _); simp at hsz ⊢; omega)) | (with_reducible refine Below.setCell ?_ ?_ _; rotate_left; · first | (simp; done) | (simp; omega))))).mono ?_
  rintro e w4 ⟨rfl, m4, rfl⟩
  go_wp2_with fail
  refine (k5.out _ (by repeat (first | with_reducible exact Below.refl _ _ | with_reducible assumption | with_reducible refine below_drewN ?_ _ | with_reducible refine Below.drew ?_ | (with_reducible refine Below.alloc ?_ ?_ _; rotate_left; · first | (simp; done) | (simp; omega) | exact Below.size (by assumption) | (have hsz := Below.size (by assumption : Below _ _ _); simp at hsz ⊢; omega)) | (with_reducible refine Below.setCell ?_ ?_ _; rotate_left; · first | (simp; done) | (simp; omega))))).mono ?_
  rintro e w5 ⟨rfl, m5, rfl⟩
  go_wp2_with fail
  go_ret
  exact ⟨rfl, (by repeat (first | with_reducible exact Below.refl _ _ | with_reducible assumption | with_reducible refine below_drewN ?_ _ | with_reducible refine Below.drew ?_ | (with_reducible refine Below.alloc ?_ ?_ _; rotate_left; · first | (simp; done) | (simp; omega) | exact Below.size (by assumption) | (have hsz := Below.size (by assumption : Below _ _ _); simp at hsz ⊢; omega)) | (with_reducible refine Below.setCell ?_ ?_ _; rotate_left; · first | (simp; done) | (simp; omega))))⟩
end Go.Proofs.Ytmfncbibajoeoaa
