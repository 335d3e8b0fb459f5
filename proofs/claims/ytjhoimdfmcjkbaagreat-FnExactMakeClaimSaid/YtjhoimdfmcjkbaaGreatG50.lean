/- MakeClaim of the reference; what is made is small. -/
import Derived.Test.YtjhoimdfmcjkbaaGreatG49
namespace Go.Proofs.YtjhoimdfmcjkbaaGreat
set_option maxRecDepth 100000
open Go.RowKit Game

theorem okM_true {kd : Int} {c : List (List Int)} {a b : List Int} (h : okM kd c a b = true) : (isWordB c a && isWordB c b) = true ∧ 1 ≤ kd ∧ kd ≤ 6 := by
  unfold okM at h
  rw [Bool.and_eq_true] at h
  refine ⟨h.1, ?_⟩
  have h2 := h.2
  unfold okC at h2
  repeat' split at h2
  all_goals first | omega | cases h2
theorem lmk_make {kd : Int} {c : List (List Int)} {a b : List Int} (h : okM kd c a b = true) : lmkC kd c a b = makeC kd c a b := by
  unfold lmkC makeC
  rw [if_pos (okM_true h), if_pos h]

set_option maxHeartbeats 1000000 in
theorem spec_MakeClaim_any (kd : Int) (gc oc n cc g1 o1 n1 c1 g2 o2 n2 c2 : Nat) (c : List (List Int)) (a b : List Int) (w : World) (hn : c.length = n) (hn1 : a.length = n1) (hn2 : b.length = n2)
    (hx : c.length ≤ 1048576) (hrl : ∀ j, j < c.length → (c.getD j []).length ≤ 1048576) (hla : a.length ≤ 1048576) (hlb : b.length ≤ 1048576) (hcap1 : n1 ≤ c1) (hcap2 : n2 ≤ c2) (hgc : gc < w.heap.size) (hg1 : g1 < w.heap.size) (hg2 : g2 < w.heap.size)
    (hr : Rows2 w gc oc c) (h1 : Cells w g1 o1 a) (h2 : Cells w g2 o2 b) :
    Calls Tryz.prog 5 #[.int .i64 kd, (Value.slice (some ⟨gc, oc, none⟩) n cc), (Value.slice (some ⟨g1, o1, none⟩) n1 c1), (Value.slice (some ⟨g2, o2, none⟩) n2 c2)] w (MadeC w (makeC kd c a b) (okM kd c a b)) := by
  have Z0 := Lib.hid (heap_alloc_new w (.cells #[.int .i64 0, .slice none 0 0, .slice none 0 0, .slice none 0 0, .slice none 0 0, .slice none 0 0] 26 (0, 0)))
  have hB0 : Below w.heap.size w (w.alloc (.cells #[.int .i64 0, .slice none 0 0, .slice none 0 0, .slice none 0 0, .slice none 0 0, .slice none 0 0] 26)) := (Below.refl _ _).alloc (Nat.le_refl _) _
  have kM := Lib.hid (fun (W : World) (hb : Below w.heap.size w W) => spec_l34Make_any kd gc oc n cc g1 o1 n1 c1 g2 o2 n2 c2 c a b W hn hn1 hn2 hx hrl hla hlb hcap1 hcap2 (Nat.lt_of_lt_of_le hgc hb.size) (Nat.lt_of_lt_of_le hg1 hb.size) (Nat.lt_of_lt_of_le hg2 hb.size) (hr.below hb hgc) (h1.below hb hg1) (h2.below hb hg2))
  clear hr h1 h2 hrl
  have hX : okM kd c a b = true → lmkC kd c a b = makeC kd c a b := lmk_make
  have hN : okM kd c a b = false → makeC kd c a b = zeroC := fun h => by unfold makeC; rw [h]; rfl
  generalize makeC kd c a b = X at *
  generalize lmkC kd c a b = L at *
  generalize okM kd c a b = O at *
  have HX := Lib.hid hX; have HN := Lib.hid hN
  clear hX hN
  go_enter Tryz.func5, Tryz.ntmps5
  go_wp2_with fail
  refine (kM.out _ hB0).mono ?_
  rintro e w1 ⟨v, rfl, hv, hb1⟩
  obtain ⟨v1, v2, v3, v4, v5, E1, E2, E3, E4, rfl, hI, a1, a2, a3, a4, a5⟩ := hv
  obtain ⟨p1, c1', q1⟩ := a1.shape
  obtain ⟨p2, c2', q2⟩ := a2.shape
  obtain ⟨p3, c3', q3⟩ := a3.shape
  obtain ⟨p4, c4', q4⟩ := a4.shape
  obtain ⟨p5, c5', q5⟩ := a5.shape
  have hs0 : w.heap.size + 1 ≤ (w.alloc (.cells #[.int .i64 0, .slice none 0 0, .slice none 0 0, .slice none 0 0, .slice none 0 0, .slice none 0 0] 26)).heap.size := by simp
  have hB1 := hB0.trans (hb1.mono hB0.size)
  have Z1 := Lib.hid ((hb1.block _ (lt_of_block Z0.out)).trans Z0.out)
  generalize (w.alloc (.cells #[.int .i64 0, .slice none 0 0, .slice none 0 0, .slice none 0 0, .slice none 0 0, .slice none 0 0] 26)).heap.size = S at *
  clear hb1 Z0 hB0 kM
  generalize hK : L.kind = kd2 at *
  generalize hl1 : L.cartan.length = m1 at *
  generalize hl2 : L.a.length = m2 at *
  generalize hl3 : L.b.length = m3 at *
  generalize hl4 : L.proof.length = m4 at *
  generalize hl5 : L.roots.length = m5 at *
  subst q1 q2 q3 q4 q5
  have hL : HeldC w1 S w1.heap.size (.agg #[.int .i64 kd2, .slice p1 m1 c1', .slice p2 m2 c2', .slice p3 m3 c3', .slice p4 m4 c4', .slice p5 m5 c5']) L :=
    ⟨_, _, _, _, _, E1, E2, E3, E4, by rw [hK], hI, a1, a2, a3, a4, a5⟩
  have HL := Lib.hid hL
  clear hL a1 a2 a3 a4 a5 hK hl1 hl2 hl3 hl4 hl5 hI
  have hb2 : Below w1.heap.size w1 (w1.alloc (.cells #[.int .i64 kd2, .slice p1 m1 c1', .slice p2 m2 c2', .slice p3 m3 c3', .slice p4 m4 c4', .slice p5 m5 c5'] 26)) := (Below.refl _ _).alloc (Nat.le_refl _) _
  have C2 := Lib.hid (heap_alloc_new w1 (.cells #[.int .i64 kd2, .slice p1 m1 c1', .slice p2 m2 c2', .slice p3 m3 c3', .slice p4 m4 c4', .slice p5 m5 c5'] 26 (0, 0)))
  have hB2 := hB1.trans (hb2.mono hB1.size)
  have Z2 := Lib.hid ((hb2.block _ (lt_of_block Z1.out)).trans Z1.out)
  have HL2 := Lib.hid (HL.out.below hb2 (Nat.le_refl _))
  have cc : ∀ j, (w1.alloc (.cells #[.int .i64 kd2, .slice p1 m1 c1', .slice p2 m2 c2', .slice p3 m3 c3', .slice p4 m4 c4', .slice p5 m5 c5'] 26)).cell? ⟨w1.heap.size, j, none⟩ = (#[.int .i64 kd2, .slice p1 m1 c1', .slice p2 m2 c2', .slice p3 m3 c3', .slice p4 m4 c4', .slice p5 m5 c5'] : Array Value)[j]? := fun j => cell_of_cells C2.out j
  have dd : ∀ j, (w1.alloc (.cells #[.int .i64 kd2, .slice p1 m1 c1', .slice p2 m2 c2', .slice p3 m3 c3', .slice p4 m4 c4', .slice p5 m5 c5'] 26)).cell? ⟨w.heap.size, j, none⟩ = (#[.int .i64 0, .slice none 0 0, .slice none 0 0, .slice none 0 0, .slice none 0 0, .slice none 0 0] : Array Value)[j]? := fun j => cell_of_cells Z2.out j
  have fd : ∀ j, (w1.alloc (.cells #[.int .i64 kd2, .slice p1 m1 c1', .slice p2 m2 c2', .slice p3 m3 c3', .slice p4 m4 c4', .slice p5 m5 c5'] 26)).frozen? ⟨w.heap.size, j, none⟩ = false := fun j => free_of_cells Z2.out j
  have hsz := hb2.size
  clear hb2 hB1 Z1 HL
  cases O with
  | false =>
    have e1 : X = zeroC := HN.out rfl
    go_wp2_with fail
    refine bodyPost_ret (v := .tuple #[zeroV, .bool false]) (by simp [results, Tryz.results5, go_sem, dd, zeroV]) rfl ?_
    clear cc dd fd
    rw [e1]
    refine MadeC.zero (Below.only hB2 (only_six _ w.heap.size _ _ _ _ _ _) (Nat.le_refl _) (Nat.le_refl _))
  | true =>
    have e1 : L = X := HX.out rfl
    have E1 := Lib.hid e1
    clear e1
    go_wp2_with fail
    refine bodyPost_ret (v := .tuple #[.agg #[.int .i64 kd2, .slice p1 m1 c1', .slice p2 m2 c2', .slice p3 m3 c3', .slice p4 m4 c4', .slice p5 m5 c5'], .bool true]) (by simp [results, Tryz.results5, go_sem, dd]) rfl ?_
    clear cc dd fd
    rw [← E1.out]
    have hO := only_six (w1.alloc (.cells #[.int .i64 kd2, .slice p1 m1 c1', .slice p2 m2 c2', .slice p3 m3 c3', .slice p4 m4 c4', .slice p5 m5 c5'] 26)) w.heap.size (.int .i64 kd2) (.slice p1 m1 c1') (.slice p2 m2 c2') (.slice p3 m3 c3') (.slice p4 m4 c4') (.slice p5 m5 c5')
    have hH := HL2.out.only hO (.inr hs0)
    refine ⟨_, rfl, ?_, Below.only hB2 hO (Nat.le_refl _) (Nat.le_refl _)⟩
    obtain ⟨u1, u2, u3, u4, u5, E1, E2, E3, E4, e, hI, b1, b2, b3, b4, b5⟩ := hH
    exact ⟨u1, u2, u3, u4, u5, E1, E2, E3, E4, e, by have := hO.size; omega, b1.wide (by omega) (Nat.le_refl _), b2, b3, b4, b5.wide (Nat.le_refl _) (by have := hO.size; omega)⟩

theorem HeldC.shape {w : World} {B E : Nat} {v : Value} {x : ClaimD} (h : HeldC w B E v x) : ∃ p1 c1 p2 c2 p3 c3 p4 c4 p5 c5, v = .agg #[.int .i64 x.kind, .slice p1 x.cartan.length c1, .slice p2 x.a.length c2, .slice p3 x.b.length c3, .slice p4 x.proof.length c4, .slice p5 x.roots.length c5] := by
  obtain ⟨v1, v2, v3, v4, v5, E1, E2, E3, E4, rfl, hI, a1, a2, a3, a4, a5⟩ := h
  obtain ⟨p1, c1', rfl⟩ := a1.shape
  obtain ⟨p2, c2', rfl⟩ := a2.shape
  obtain ⟨p3, c3', rfl⟩ := a3.shape
  obtain ⟨p4, c4', rfl⟩ := a4.shape
  obtain ⟨p5, c5', rfl⟩ := a5.shape
  exact ⟨_, _, _, _, _, _, _, _, _, _, rfl⟩
/-! ### what is made is small -/
theorem rowsFew_ofC {rows : List (List Int)} (h1 : rows.length ≤ 200) (h2 : ∀ x ∈ rows, x.length ≤ 15) : rowsFew rows := by
  have h3 : ∀ j, j < rows.length → (rows.getD j []).length ≤ 15 := fun j hj => h2 _ (by simp [List.getD, hj])
  refine ⟨by omega, fun j hj => by have := h3 j hj; omega, ?_⟩
  have : ∀ k, k ≤ rows.length → sumLen rows k ≤ 15 * k := by
    intro k
    induction k with
    | zero => intro _; simp [sumLen]
    | succ k ih =>
      intro hk
      rw [sumLen_succ _ _ (by omega)]
      have := h3 k (by omega)
      have := ih (by omega)
      omega
  have := this rows.length (Nat.le_refl _)
  omega
theorem make_small {kd : Int} {c : List (List Int)} {a b : List Int} (hc : rowsFew c) (ha : a.length ≤ 1048576) (hb : b.length ≤ 1048576) : ClSmall (makeC kd c a b) := by
  have hz : rowsFew ([] : List (List Int)) := rowsFew_ofC (by simp) (by simp)
  unfold makeC
  split
  · rename_i hok
    have hw := (okM_true hok).1
    rw [Bool.and_eq_true] at hw
    have hA := wordOk_of hw.1
    have hB := wordOk_of hw.2
    have hn4 := hA.isC.2.1
    refine ⟨hc, ha, hb, ?_, ?_⟩
    · show (proofC kd c a b).length ≤ 1048576
      unfold proofC
      split
      · cases hp : pathA c a b with
        | none => simp
        | some p => have := (pathA_len hA hp).1; simp; omega
      · split
        · split
          · have h1 := subP_len (c := c) (nfI c b) 0 (nfI c a)
            have h2 := (nw_nf hB).lets.few
            show (subP c (nfI c b) 0 (nfI c a)).length ≤ _
            omega
          · simp
        · split
          · have h1 := dropL_len (c := c) (nfI c b) (nfI c a)
            have h2 := (nw_nf hB).lets.few
            omega
          · split
            · have := witness_len c; omega
            · simp
    · show rowsFew (rootsC kd c a)
      unfold rootsC
      split
      · rw [show seqA c a = seqL c a from if_pos hA.isWord]
        have hl := hA.few
        refine rowsFew_ofC (by simp [seqL]; omega) fun x hx => ?_
        unfold seqL at hx
        obtain ⟨k, -, rfl⟩ := List.mem_map.1 hx
        rw [actR_length, simpL_length]; omega
      · exact hz
  · exact ⟨hz, by simp [zeroC], by simp [zeroC], by simp [zeroC], hz⟩
end Go.Proofs.YtjhoimdfmcjkbaaGreat
