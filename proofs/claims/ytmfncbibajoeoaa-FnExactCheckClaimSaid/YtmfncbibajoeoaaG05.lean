/- Arguments opened: rows of integers; a claim. Claims: szClaim. -/
import Derived.Test.YtmfncbibajoeoaaG04
import Derived.Deep.Matrix
import Derived.Lib.SmallJoins
namespace Go.Proofs.Ytmfncbibajoeoaa
set_option maxRecDepth 100000
open Go.Joins Go.ChangeShapes Go.WideShapes Go.RowKit Go.Deep

section
variable {H : Type} {enc : TypeId × Value → H} {w : World} {base : Nat}

theorem open_agg6 {P : Program} {spare : Nat → Bool} {held : Bool} {r : Reach} {b0 : Nat} {t : TypeId} {f0 f1 f2 f3 f4 f5 : Field} {v : Value} {d : DataW H} {p : List MemPlace} (hs : P.underlying t = some (.struct #[f0, f1, f2, f3, f4, f5])) (hone : oneCellFields P #[f0, f1, f2, f3, f4, f5] = true) (hC : P.cellsOf t = 6)
    (hv : Value.okWide P w r b0 t v) (h : DataW.Trod enc P w base spare held t v d p) :
    ∃ (v0 v1 v2 v3 v4 v5 : Value) (y0 y1 y2 y3 y4 y5 : DataW H × List MemPlace) (n : Nat), v = .agg #[v0, v1, v2, v3, v4, v5] ∧
      DataW.trod enc P w base spare held n f0.type [v0] = some y0 ∧ DataW.trod enc P w base spare held n f1.type [v1] = some y1 ∧ DataW.trod enc P w base spare held n f2.type [v2] = some y2 ∧ DataW.trod enc P w base spare held n f3.type [v3] = some y3 ∧ DataW.trod enc P w base spare held n f4.type [v4] = some y4 ∧ DataW.trod enc P w base spare held n f5.type [v5] = some y5 := by
  obtain ⟨cs, rfl, hsz⟩ := okWide_struct hs hv
  obtain ⟨l⟩ := cs
  match l, hsz.trans hC with
  | [c0, c1, c2, c3, c4, c5], _ =>
    obtain ⟨fuel, hf⟩ := h
    obtain ⟨xs, n, _, hx, _, hlen, hg⟩ := DataW.trod_struct hs hf
    obtain ⟨o0, k0⟩ := hone_of hone 0 f0 rfl
    obtain ⟨o1, k1⟩ := hone_of hone 1 f1 rfl
    obtain ⟨o2, k2⟩ := hone_of hone 2 f2 rfl
    obtain ⟨o3, k3⟩ := hone_of hone 3 f3 rfl
    obtain ⟨o4, k4⟩ := hone_of hone 4 f4 rfl
    obtain ⟨o5, k5⟩ := hone_of hone 5 f5 rfl
    match xs, hlen with
    | [y0, y1, y2, y3, y4, y5], _ =>
      exact ⟨c0, c1, c2, c3, c4, c5, y0, y1, y2, y3, y4, y5, n, rfl, by simpa [Value.cells, o0, k0] using hg 0 f0 rfl, by simpa [Value.cells, o1, k1] using hg 1 f1 rfl, by simpa [Value.cells, o2, k2] using hg 2 f2 rfl, by simpa [Value.cells, o3, k3] using hg 3 f3 rfl, by simpa [Value.cells, o4, k4] using hg 4 f4 rfl, by simpa [Value.cells, o5, k5] using hg 5 f5 rfl⟩

theorem argClaim_openW {r : Reach} {b0 : Nat} {v : Value} {d : DataW H} {p : List MemPlace} (hv : Value.okWide Try.prog w r b0 47 v) (h : DataW.Trod enc Try.prog w base (fun _ => true) true 47 v d p) :
    ∃ x : ClaimD, ArgClaim w v x ∧ (x.cartan.length ≤ 9223372036854775807 ∧ x.a.length ≤ 9223372036854775807 ∧ x.b.length ≤ 9223372036854775807 ∧ x.proof.length ≤ 9223372036854775807 ∧ x.roots.length ≤ 9223372036854775807) ∧
      (∀ j, j < x.cartan.length → (x.cartan.getD j []).length ≤ 9223372036854775807) ∧ (∀ j, j < x.roots.length → (x.roots.getD j []).length ≤ 9223372036854775807) ∧ (∀ n ∈ x.proof, (Lit.int .i64 n).wf = true) ∧ rowsWf x.roots := by
  obtain ⟨v0, v1, v2, v3, v4, v5, y0, y1, y2, y3, y4, y5, n, rfl, h0, h1, h2, h3, h4, h5⟩ := open_agg6 Try.underlying47 (by kernel_rfl) (by kernel_rfl) hv h
  obtain ⟨k, hk, -⟩ := DataW.trod_int Try.underlying3 h0
  obtain ⟨a1, c1, r1, rfl, q1, l1, j1, -⟩ := argRows_open h1
  obtain ⟨a2, c2, r2, rfl, q2, l2, -⟩ := argInts_open h2
  obtain ⟨a3, c3, r3, rfl, q3, l3, -⟩ := argInts_open h3
  obtain ⟨a4, c4, r4, rfl, q4, l4, w4⟩ := argInts_open h4
  obtain ⟨a5, c5, r5, rfl, q5, l5, j5, w5⟩ := argRows_open h5
  have hm : maxLen ≤ 9223372036854775807 := by decide +kernel
  simp at hk
  subst hk
  refine ⟨⟨k, r1, r2, r3, r4, r5⟩, ⟨a1, c1, a2, c2, a3, c3, a4, c4, a5, c5, rfl, q1, q2, q3, q4, q5⟩, ⟨by simp; omega, by simp; omega, by simp; omega, by simp; omega, by simp; omega⟩, fun j hj => ?_, fun j hj => ?_, w4, w5⟩
  · have := j1 j hj; simp only at this ⊢; omega
  · have := j5 j hj; simp only at this ⊢; omega
theorem argClaim_open {r : Reach} {b0 : Nat} {v : Value} {d : DataW H} {p : List MemPlace} (hv : Value.okWide Try.prog w r b0 47 v) (h : DataW.Trod enc Try.prog w base (fun _ => true) true 47 v d p) :
    ∃ x : ClaimD, ArgClaim w v x ∧ (x.cartan.length ≤ 9223372036854775807 ∧ x.a.length ≤ 9223372036854775807 ∧ x.b.length ≤ 9223372036854775807 ∧ x.proof.length ≤ 9223372036854775807 ∧ x.roots.length ≤ 9223372036854775807) ∧
      (∀ j, j < x.cartan.length → (x.cartan.getD j []).length ≤ 9223372036854775807) ∧ (∀ j, j < x.roots.length → (x.roots.getD j []).length ≤ 9223372036854775807) := by
  obtain ⟨x, h1, h2, h3, h4, -⟩ := argClaim_openW hv h
  exact ⟨x, h1, h2, h3, h4⟩
end
end Go.Proofs.Ytmfncbibajoeoaa
namespace Go.Proofs.Ytmfncbibajoeoaa
set_option maxRecDepth 100000
open Go.RowKit

/-- the size of a claim: what is left, where it is not negative, tells that it is small -/
def szPost (x : ClaimD) (w : World) (e : Ending) (w' : World) : Prop := ∃ L : Int, e = .returned (.int .i64 L) ∧ (0 ≤ L → claimFew x ∧ L ≤ 1048576) ∧ Below w.heap.size w w'

theorem szL_pos {n : Nat} {left : Int} (hl : left ≤ 1048576) (h : 0 ≤ szL n left) : n ≤ 1048576 ∧ szL n left ≤ 1048576 := by
  unfold szL at *
  split at h
  · omega
  · rename_i hh; rw [if_neg hh]; omega
theorem szLL_pos {rows : List (List Int)} {left : Int} (hl : left ≤ 1048576) (h : 0 ≤ szLL rows left) : rowsFewC rows ∧ szLL rows left ≤ 1048576 := by
  unfold szLL at *
  split at h
  · omega
  · rename_i hh
    rw [if_neg hh]
    refine ⟨⟨by omega, fun j hj => ?_⟩, by omega⟩
    have h1 := sumLen_succ rows j hj
    have h2 := sumLen_mono rows (k := j + 1) (n := rows.length) hj
    omega

set_option maxHeartbeats 2000000 in
theorem szClaim_any (v : Value) (x : ClaimD) (left : Int) (w : World) (h : ArgClaim w v x) (hl : 0 ≤ left ∧ left ≤ 1048576)
    (hn : x.cartan.length ≤ 9223372036854775807 ∧ x.a.length ≤ 9223372036854775807 ∧ x.b.length ≤ 9223372036854775807 ∧ x.proof.length ≤ 9223372036854775807 ∧ x.roots.length ≤ 9223372036854775807)
    (hr1 : ∀ j, j < x.cartan.length → (x.cartan.getD j []).length ≤ 9223372036854775807) (hr5 : ∀ j, j < x.roots.length → (x.roots.getD j []).length ≤ 9223372036854775807) :
    Calls Try.prog 31 #[v, .int .i64 left] w (szPost x w) := by
  obtain ⟨a1, c1, a2, c2, a3, c3, a4, c4, a5, c5, rfl, h1, h2, h3, h4, h5⟩ := h
  have k1 : Hid (∀ W (l : Int), Below w.heap.size w W → 0 ≤ l → l ≤ 1048576 → Calls Try.prog 57 #[.slice a1 x.cartan.length c1, .int .i64 l] W (Reads W (.int .i64 (szLL x.cartan l)))) := fun W l hW l0 l1 => szIntSS_any a1 _ c1 x.cartan l W rfl ⟨l0, l1⟩ hn.1 hr1 (h1.below hW)
  have k2 : Hid (∀ W (l : Int), 0 ≤ l → l ≤ 1048576 → Calls Try.prog 58 #[.slice a2 x.a.length c2, .int .i64 l] W (Reads W (.int .i64 (szL x.a.length l)))) := fun W l l0 l1 => szIntS_any a2 _ c2 l W ⟨l0, l1⟩ hn.2.1
  have k3 : Hid (∀ W (l : Int), 0 ≤ l → l ≤ 1048576 → Calls Try.prog 58 #[.slice a3 x.b.length c3, .int .i64 l] W (Reads W (.int .i64 (szL x.b.length l)))) := fun W l l0 l1 => szIntS_any a3 _ c3 l W ⟨l0, l1⟩ hn.2.2.1
  have k4 : Hid (∀ W (l : Int), 0 ≤ l → l ≤ 1048576 → Calls Try.prog 58 #[.slice a4 x.proof.length c4, .int .i64 l] W (Reads W (.int .i64 (szL x.proof.length l)))) := fun W l l0 l1 => szIntS_any a4 _ c4 l W ⟨l0, l1⟩ hn.2.2.2.1
  have k5 : Hid (∀ W (l : Int), Below w.heap.size w W → 0 ≤ l → l ≤ 1048576 → Calls Try.prog 57 #[.slice a5 x.roots.length c5, .int .i64 l] W (Reads W (.int .i64 (szLL x.roots l)))) := fun W l hW l0 l1 => szIntSS_any a5 _ c5 x.roots l W rfl ⟨l0, l1⟩ hn.2.2.2.2 hr5 (h5.below hW)
  clear h1 h2 h3 h4 h5 hr1 hr5
  obtain ⟨hl0, hl1⟩ := hl
  go_enter Try.func31, Try.ntmps31
  go_wp2_with fail
  refine (k1.out _ _ (by repeat (first | with_reducible exact Below.refl _ _ | with_reducible assumption | with_reducible refine below_drewN ?_ _ | with_reducible refine Below.drew ?_ | (with_reducible refine Below.alloc ?_ ?_ _; rotate_left; · first | (simp; done) | (simp; omega) | exact Below.size (by assumption) | (have hsz := Below.size (by assumption : Below _ _ _); simp at hsz ⊢; omega)) | (with_reducible refine Below.setCell ?_ ?_ _; rotate_left; · first | (simp; done) | (simp; omega)))) hl0 hl1).mono ?_
  rintro e w1 ⟨rfl, m1, rfl⟩
  obtain ⟨L1, hL1⟩ : ∃ L, szLL x.cartan left = L := ⟨_, rfl⟩
  have hp1 := fun h => szLL_pos (left := left) hl1 (show 0 ≤ szLL x.cartan left from h)
  rw [hL1] at hp1 ⊢
  clear hL1
  have Hp1 := Lib.hid hp1; clear hp1
  by_cases hneg1 : L1 < 0
  · go_wp2_with fail
    go_ret
    exact ⟨-1, rfl, fun h => absurd h (by omega), (by repeat (first | with_reducible exact Below.refl _ _ | with_reducible assumption | with_reducible refine below_drewN ?_ _ | with_reducible refine Below.drew ?_ | (with_reducible refine Below.alloc ?_ ?_ _; rotate_left; · first | (simp; done) | (simp; omega) | exact Below.size (by assumption) | (have hsz := Below.size (by assumption : Below _ _ _); simp at hsz ⊢; omega)) | (with_reducible refine Below.setCell ?_ ?_ _; rotate_left; · first | (simp; done) | (simp; omega))))⟩
  have hl1a : 0 ≤ L1 := by omega
  have hl1b := (Hp1.out hl1a).2
  go_wp2_with fail
  refine (k2.out _ _ hl1a hl1b).mono ?_
  rintro e w2 ⟨rfl, m2, rfl⟩
  obtain ⟨L2, hL2⟩ : ∃ L, szL x.a.length L1 = L := ⟨_, rfl⟩
  have hp2 := fun h => szL_pos (left := L1) hl1b (show 0 ≤ szL x.a.length L1 from h)
  rw [hL2] at hp2 ⊢
  clear hL2
  have Hp2 := Lib.hid hp2; clear hp2
  by_cases hneg2 : L2 < 0
  · go_wp2_with fail
    go_ret
    exact ⟨-1, rfl, fun h => absurd h (by omega), (by repeat (first | with_reducible exact Below.refl _ _ | with_reducible assumption | with_reducible refine below_drewN ?_ _ | with_reducible refine Below.drew ?_ | (with_reducible refine Below.alloc ?_ ?_ _; rotate_left; · first | (simp; done) | (simp; omega) | exact Below.size (by assumption) | (have hsz := Below.size (by assumption : Below _ _ _); simp at hsz ⊢; omega)) | (with_reducible refine Below.setCell ?_ ?_ _; rotate_left; · first | (simp; done) | (simp; omega))))⟩
  have hl2a : 0 ≤ L2 := by omega
  have hl2b := (Hp2.out hl2a).2
  go_wp2_with fail
  refine (k3.out _ _ hl2a hl2b).mono ?_
  rintro e w3 ⟨rfl, m3, rfl⟩
  obtain ⟨L3, hL3⟩ : ∃ L, szL x.b.length L2 = L := ⟨_, rfl⟩
  have hp3 := fun h => szL_pos (left := L2) hl2b (show 0 ≤ szL x.b.length L2 from h)
  rw [hL3] at hp3 ⊢
  clear hL3
  have Hp3 := Lib.hid hp3; clear hp3
  by_cases hneg3 : L3 < 0
  · go_wp2_with fail
    go_ret
    exact ⟨-1, rfl, fun h => absurd h (by omega), (by repeat (first | with_reducible exact Below.refl _ _ | with_reducible assumption | with_reducible refine below_drewN ?_ _ | with_reducible refine Below.drew ?_ | (with_reducible refine Below.alloc ?_ ?_ _; rotate_left; · first | (simp; done) | (simp; omega) | exact Below.size (by assumption) | (have hsz := Below.size (by assumption : Below _ _ _); simp at hsz ⊢; omega)) | (with_reducible refine Below.setCell ?_ ?_ _; rotate_left; · first | (simp; done) | (simp; omega))))⟩
  have hl3a : 0 ≤ L3 := by omega
  have hl3b := (Hp3.out hl3a).2
  go_wp2_with fail
  refine (k4.out _ _ hl3a hl3b).mono ?_
  rintro e w4 ⟨rfl, m4, rfl⟩
  obtain ⟨L4, hL4⟩ : ∃ L, szL x.proof.length L3 = L := ⟨_, rfl⟩
  have hp4 := fun h => szL_pos (left := L3) hl3b (show 0 ≤ szL x.proof.length L3 from h)
  rw [hL4] at hp4 ⊢
  clear hL4
  have Hp4 := Lib.hid hp4; clear hp4
  by_cases hneg4 : L4 < 0
  · go_wp2_with fail
    go_ret
    exact ⟨-1, rfl, fun h => absurd h (by omega), (by repeat (first | with_reducible exact Below.refl _ _ | with_reducible assumption | with_reducible refine below_drewN ?_ _ | with_reducible refine Below.drew ?_ | (with_reducible refine Below.alloc ?_ ?_ _; rotate_left; · first | (simp; done) | (simp; omega) | exact Below.size (by assumption) | (have hsz := Below.size (by assumption : Below _ _ _); simp at hsz ⊢; omega)) | (with_reducible refine Below.setCell ?_ ?_ _; rotate_left; · first | (simp; done) | (simp; omega))))⟩
  have hl4a : 0 ≤ L4 := by omega
  have hl4b := (Hp4.out hl4a).2
  go_wp2_with fail
  refine (k5.out _ _ (by repeat (first | with_reducible exact Below.refl _ _ | with_reducible assumption | with_reducible refine below_drewN ?_ _ | with_reducible refine Below.drew ?_ | (with_reducible refine Below.alloc ?_ ?_ _; rotate_left; · first | (simp; done) | (simp; omega) | exact Below.size (by assumption) | (have hsz := Below.size (by assumption : Below _ _ _); simp at hsz ⊢; omega)) | (with_reducible refine Below.setCell ?_ ?_ _; rotate_left; · first | (simp; done) | (simp; omega)))) hl4a hl4b).mono ?_
  rintro e w5 ⟨rfl, m5, rfl⟩
  obtain ⟨L5, hL5⟩ : ∃ L, szLL x.roots L4 = L := ⟨_, rfl⟩
  have hp5 := fun h => szLL_pos (left := L4) hl4b (show 0 ≤ szLL x.roots L4 from h)
  rw [hL5] at hp5 ⊢
  clear hL5
  have Hp5 := Lib.hid hp5; clear hp5
  by_cases hneg5 : L5 < 0
  · go_wp2_with fail
    go_ret
    exact ⟨-1, rfl, fun h => absurd h (by omega), (by repeat (first | with_reducible exact Below.refl _ _ | with_reducible assumption | with_reducible refine below_drewN ?_ _ | with_reducible refine Below.drew ?_ | (with_reducible refine Below.alloc ?_ ?_ _; rotate_left; · first | (simp; done) | (simp; omega) | exact Below.size (by assumption) | (have hsz := Below.size (by assumption : Below _ _ _); simp at hsz ⊢; omega)) | (with_reducible refine Below.setCell ?_ ?_ _; rotate_left; · first | (simp; done) | (simp; omega))))⟩
  have hl5a : 0 ≤ L5 := by omega
  have hl5b := (Hp5.out hl5a).2
  go_wp2_with fail
  go_ret
  exact ⟨L5, rfl, fun _ => ⟨⟨(Hp1.out hl1a).1, (Hp2.out hl2a).1, (Hp3.out hl3a).1, (Hp4.out hl4a).1, (Hp5.out hl5a).1⟩, hl5b⟩, (by repeat (first | with_reducible exact Below.refl _ _ | with_reducible assumption | with_reducible refine below_drewN ?_ _ | with_reducible refine Below.drew ?_ | (with_reducible refine Below.alloc ?_ ?_ _; rotate_left; · first | (simp; done) | (simp; omega) | exact Below.size (by assumption) | (have hsz := Below.size (by assumption : Below _ _ _); simp at hsz ⊢; omega)) | (with_reducible refine Below.setCell ?_ ?_ _; rotate_left; · first | (simp; done) | (simp; omega))))⟩

end Go.Proofs.Ytmfncbibajoeoaa
