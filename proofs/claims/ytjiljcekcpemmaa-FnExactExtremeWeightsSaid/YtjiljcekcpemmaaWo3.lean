/- eqWeighted(S): contracts for equal values. -/
import Derived.Test.YtjiljcekcpemmaaWo2
import Derived.Test.YtjiljcekcpemmaaSym
namespace Go.Proofs.Ytjiljcekcpemmaa
open Go.RowKit

attribute [local go_sem ↓] Go.wp_at_zero Go.wp_at_succ
set_option maxHeartbeats 1000000 in
theorem eqWeighted_same (g1 o1 c1 g2 o2 c2 : Nat) (V : List Int) (C : Int) (w : World) (hV : V.length ≤ 1048576) (hg1 : g1 < w.heap.size) (hg2 : g2 < w.heap.size) (h1 : Cells w g1 o1 V) (h2 : Cells w g2 o2 V) :
    Calls Try.prog 58 #[.agg #[(Value.slice (some ⟨g1, o1, none⟩) V.length c1), .int .i64 C], .agg #[(Value.slice (some ⟨g2, o2, none⟩) V.length c2), .int .i64 C]] w (Gives w (.bool true)) := by
  have k1 : Hid (∀ W, Below w.heap.size w W → Calls Try.prog 13 #[(Value.slice (some ⟨g1, o1, none⟩) V.length c1), (Value.slice (some ⟨g2, o2, none⟩) V.length c2)] W (Reads W (.bool true))) := fun W hW => eqIntS_same g1 o1 _ c1 g2 o2 _ c2 V W rfl rfl (by omega) (h1.below hW hg1) (h2.below hW hg2)
  clear h1 h2
  go_enter Try.func58, Try.ntmps58
  go_wp2_with fail
  refine (k1.out _ (by repeat (first | with_reducible exact Below.refl _ _ | with_reducible assumption | with_reducible refine below_drewN ?_ _ | with_reducible refine Below.drew ?_ | (with_reducible refine Below.alloc ?_ ?_ _; rotate_left; · first | (simp; done) | (simp; omega) | exact Below.size (by assumption) | (have hsz := Below.size (by assumption : Below _ _ _); simp at hsz ⊢; omega)) | (with_reducible refine Below.setCell ?_ ?_ _; rotate_left; · first | (simp; done) | (simp; omega))))).mono ?_
  rintro e w1 ⟨rfl, m1, rfl⟩
  go_wp2_with fail
  go_ret
  exact ⟨rfl, (by repeat (first | with_reducible exact Below.refl _ _ | with_reducible assumption | with_reducible refine below_drewN ?_ _ | with_reducible refine Below.drew ?_ | (with_reducible refine Below.alloc ?_ ?_ _; rotate_left; · first | (simp; done) | (simp; omega) | exact Below.size (by assumption) | (have hsz := Below.size (by assumption : Below _ _ _); simp at hsz ⊢; omega)) | (with_reducible refine Below.setCell ?_ ?_ _; rotate_left; · first | (simp; done) | (simp; omega))))⟩

set_option maxHeartbeats 4000000 in
theorem eqWeightedS_same (g1 o1 n1 c1 g2 o2 n2 c2 : Nat) (l : List Wt) (w : World) (hn1 : l.length = n1) (hn2 : l.length = n2) (hf : wFew l) (hg1 : g1 < w.heap.size) (hg2 : g2 < w.heap.size) (h1 : WRows w g1 o1 l) (h2 : WRows w g2 o2 l) :
    Calls Try.prog 28 #[(Value.slice (some ⟨g1, o1, none⟩) n1 c1), (Value.slice (some ⟨g2, o2, none⟩) n2 c2)] w (Gives w (.bool true)) := by
  subst hn1; subst hn2
  have hfl := hf.1
  go_enter Try.func28, Try.ntmps28
  go_wp2
  go_loopw [5] (fun i wr => ∃ k : Nat, k ≤ l.length ∧ i = .int .i64 k ∧ Below w.heap.size w wr) (fun i _ => l.length - (intOf i).toNat)
  case atStart => exact ⟨0, Nat.zero_le _, rfl, Below.refl _ _⟩
  case round =>
    obtain ⟨k, hk, rfl, hb⟩ := hrel
    by_cases hlt : k < l.length
    · obtain ⟨ga, oa, ca, p1, p2, p3, p4, p5⟩ := h1 k hlt
      obtain ⟨gb, ob, cb, q1, q2, q3, q4, q5⟩ := h2 k hlt
      have hfk := hf.2 k hlt
      generalize wOf l k = V at *
      generalize ctOf l k = C at *
      have kk : Hid (∀ W, Below w.heap.size w W → Calls Try.prog 58 #[.agg #[(Value.slice (some ⟨ga, oa, none⟩) V.length ca), .int .i64 C], .agg #[(Value.slice (some ⟨gb, ob, none⟩) V.length cb), .int .i64 C]] W (Gives W (.bool true))) := fun W hW =>
        eqWeighted_same ga oa ca gb ob cb V C W hfk (Nat.lt_of_lt_of_le p4 hW.size) (Nat.lt_of_lt_of_le q4 hW.size) (p5.below hW p4) (q5.below hW q4)
      have hB : Below w.heap.size w wr.drew := Below.drew hb
      have u1 : wr.drew.cell? ⟨g1, o1 + k * 2, none⟩ = some (Value.slice (some ⟨ga, oa, none⟩) V.length ca) := (hB.cell (p := ⟨g1, o1 + k * 2, none⟩) hg1).trans p1
      have u2 : wr.drew.cell? ⟨g1, o1 + k * 2 + 1, none⟩ = some (.int .i64 C) := (hB.cell (p := ⟨g1, o1 + k * 2 + 1, none⟩) hg1).trans p2
      have u3 : wr.drew.cell? ⟨g2, o2 + k * 2, none⟩ = some (Value.slice (some ⟨gb, ob, none⟩) V.length cb) := (hB.cell (p := ⟨g2, o2 + k * 2, none⟩) hg2).trans q1
      have u4 : wr.drew.cell? ⟨g2, o2 + k * 2 + 1, none⟩ = some (.int .i64 C) := (hB.cell (p := ⟨g2, o2 + k * 2 + 1, none⟩) hg2).trans q2
      clear p1 p2 p3 q1 q2 q3 p5 q5 h1 h2 hf
      go_wp2_with fail
      go_region_held3 (fun W => Below w.heap.size w W ∧ W.cell? ⟨g1, o1 + k * 2, none⟩ = some (Value.slice (some ⟨ga, oa, none⟩) V.length ca) ∧ W.cell? ⟨g1, o1 + k * 2 + 1, none⟩ = some (.int .i64 C) ∧ W.cell? ⟨g2, o2 + k * 2, none⟩ = some (Value.slice (some ⟨gb, ob, none⟩) V.length cb) ∧ W.cell? ⟨g2, o2 + k * 2 + 1, none⟩ = some (.int .i64 C))
        (first | exact ⟨hB, u1, u2, u3, u4⟩ | exact ⟨hB.trans (hbA.mono hB.size), keepCell hbA u1, keepCell hbA u2, keepCell hbA u3, keepCell hbA u4⟩)
        ((go_at_call 58; refine (kk.out _ hB).mono ?_; rintro e wA ⟨rfl, hbA⟩))
      have hBB := hB.trans (hbA.mono hB.size)
      clear u1 u2 u3 u4 kk
      go_wp2
      go_roundw
      case rel => exact ⟨k + 1, by omega, by go_num, hBB⟩
      case measure => simp [intOf]; omega
    · obtain rfl : k = l.length := by omega
      go_wp2
      go_ret
      exact ⟨rfl, hb⟩
end Go.Proofs.Ytjiljcekcpemmaa
