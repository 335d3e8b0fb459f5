/- BpS -/
import Derived.Test.YtkjglfafphffiaaGreatDoorC27
import Derived.Test.YtkjglfafphffiaaGreatDoorC28
import Derived.Test.YtkjglfafphffiaaGreatDoorC15
namespace Go.Proofs.YtkjglfafphffiaaGreatDoor
set_option maxRecDepth 100000
open Go.RowKit Game
def pathA (c : List (List Int)) (a b : List Int) : Option (List Int) := if redW c a = true then (if redW c b = true then bpR c a b else none) else none
theorem pathA_len {c : List (List Int)} {a b p : List Int} (hA : WordOk c a) (h : pathA c a b = some p) : p.length ≤ 120 ∧ ∀ x ∈ p, 0 ≤ x ∧ x < 16 := by
  unfold pathA at h
  split at h
  · split at h
    · exact bpGo_len 121 0 _ p (BpOk.start hA) h
    · cases h
  · cases h
theorem wordsB_at {Q : List BNode} {k : Nat} {u p : List Int} (hk : k < Q.length) (h : Q.getD k ([], []) = (u, p)) : (wordsB Q).getD k [] = u ∧ (pathsB Q).getD k [] = p := by
  have e : Q.getD k ([], []) = Q[k] := by simp [List.getD, hk]
  rw [e] at h
  simp [wordsB, pathsB, List.getD, hk, h]
theorem wordsB_length (Q : List BNode) : (wordsB Q).length = Q.length := by simp [wordsB]
theorem pathsB_length (Q : List BNode) : (pathsB Q).length = Q.length := by simp [pathsB]
theorem wordsB_push (Q : List BNode) (N : BNode) : wordsB (Q ++ [N]) = wordsB Q ++ [N.1] := by simp [wordsB]
theorem pathsB_push (Q : List BNode) (N : BNode) : pathsB (Q ++ [N]) = pathsB Q ++ [N.2] := by simp [pathsB]
theorem BpOk.lens {c : List (List Int)} {l : Nat} {Q : List BNode} (h : BpOk c l Q) (hl : l ≤ 1048576) : ∀ j, j < (wordsB Q).length → ((wordsB Q).getD j []).length ≤ 1048576 := fun j hj => by
  rw [wordsB_length] at hj
  have e : (wordsB Q).getD j [] = (Q.getD j ([], [])).1 := by simp [wordsB, List.getD, hj]
  rw [e]
  have := (h.word _ (getD_mem hj)).2
  omega
theorem bp_start (w : World) (B ga oa la ca : Nat) (a : List Int) (hB : B ≤ w.heap.size) (hla : a.length = la) (hca : la ≤ ca) (hga : ga < w.heap.size) (hc : Cells w ga oa a) :
    Que (((w.alloc (.cells #[(Value.slice (some ⟨ga, oa, none⟩) la ca)] 25)).alloc (.cells #[] 3)).alloc (.cells #[(Value.slice (some ⟨(w.heap.size + 1), 0, none⟩) 0 0)] 25)) B w.heap.size 1 [w.heap.size, w.heap.size + 1 + 1] [a] ∧
    Que (((w.alloc (.cells #[(Value.slice (some ⟨ga, oa, none⟩) la ca)] 25)).alloc (.cells #[] 3)).alloc (.cells #[(Value.slice (some ⟨(w.heap.size + 1), 0, none⟩) 0 0)] 25)) B (w.heap.size + 1 + 1) 1 [w.heap.size, w.heap.size + 1 + 1] [[]] ∧
    Below w.heap.size w (((w.alloc (.cells #[(Value.slice (some ⟨ga, oa, none⟩) la ca)] 25)).alloc (.cells #[] 3)).alloc (.cells #[(Value.slice (some ⟨(w.heap.size + 1), 0, none⟩) 0 0)] 25)) := by
  subst hla
  have q1 := Que.one (w := w) (B := B) (A := [w.heap.size, w.heap.size + 1 + 1]) hB hga hca hc (by simp; omega) (by simp)
  have s1 : (w.alloc (.cells #[(Value.slice (some ⟨ga, oa, none⟩) a.length ca)] 25)).heap.size = w.heap.size + 1 := by simp
  have b1 := (Below.refl _ (w.alloc (.cells #[(Value.slice (some ⟨ga, oa, none⟩) a.length ca)] 25))).alloc (Nat.le_refl _) (.cells #[] 3)
  have s2 : ((w.alloc (.cells #[(Value.slice (some ⟨ga, oa, none⟩) a.length ca)] 25)).alloc (.cells #[] 3)).heap.size = w.heap.size + 1 + 1 := by simp
  have b2 := (Below.refl _ ((w.alloc (.cells #[(Value.slice (some ⟨ga, oa, none⟩) a.length ca)] 25)).alloc (.cells #[] 3))).alloc (Nat.le_refl _) (.cells #[(Value.slice (some ⟨(w.heap.size + 1), 0, none⟩) 0 0)] 25)
  have q2 := (q1.below b1).below b2
  have q3 := Que.one (w := ((w.alloc (.cells #[(Value.slice (some ⟨ga, oa, none⟩) a.length ca)] 25)).alloc (.cells #[] 3))) (B := B) (A := [w.heap.size, w.heap.size + 1 + 1]) (x := w.heap.size + 1) (o := 0) (c := 0) (y := []) (by rw [s2]; omega) (by rw [s2]; omega) (Nat.le_refl _) (fun j hj => by simp at hj) (by simp) (by rw [s2]; simp)
  rw [s2] at q3
  refine ⟨q2, q3, ?_⟩
  have h1 := (Below.refl w.heap.size w).alloc (Nat.le_refl _) (.cells #[(Value.slice (some ⟨ga, oa, none⟩) a.length ca)] 25)
  have h2 := h1.alloc h1.size (.cells #[] 3)
  exact h2.alloc h2.size _
set_option maxHeartbeats 3000000 in
theorem spec_BraidPath_ok (gc oc n cc g1 o1 n1 c1 g2 o2 n2 c2 : Nat) (c : List (List Int)) (a b : List Int) (w : World) (hn : c.length = n) (hn1 : a.length = n1) (hn2 : b.length = n2) (hA : WordOk c a) (hB : WordOk c b) (hcap1 : n1 ≤ c1) (hgc : gc < w.heap.size) (hg1 : g1 < w.heap.size) (hg2 : g2 < w.heap.size)
    (hr : Rows2 w gc oc c) (h1 : Cells w g1 o1 a) (h2 : Cells w g2 o2 b) :
    Calls Tryz.prog 100 #[(Value.slice (some ⟨gc, oc, none⟩) n cc), (Value.slice (some ⟨g1, o1, none⟩) n1 c1), (Value.slice (some ⟨g2, o2, none⟩) n2 c2)] w (GotIntsB w ((pathA c a b).getD []) (pathA c a b).isSome) := by
  have hn4 := hA.isC.2.1
  have hcl := hA.isC.2.2.1
  have hla := hA.few
  have hlb := hB.few
  have k1 := Lib.hid (spec_IsReduced_any gc oc n cc g1 o1 n1 c1 c a w hn hn1 (by omega) (fun j hj => by have := hcl j hj; omega) (by omega) hgc hg1 hr h1)
  have k2 := Lib.hid (fun (W : World) (hb : Below w.heap.size w W) => spec_IsReduced_any gc oc n cc g2 o2 n2 c2 c b W hn hn2 (by omega) (fun j hj => by have := hcl j hj; omega) (by omega) (Nat.lt_of_lt_of_le hgc hb.size) (Nat.lt_of_lt_of_le hg2 hb.size) (hr.below hb hgc) (h2.below hb hg2))
  cases hra : redW c a with
  | false =>
    rw [hra] at k1
    have hp : pathA c a b = none := by unfold pathA; rw [hra]; rfl
    rw [hp]
    clear hp hr h1 h2 hA hB k2 hra
    go_enter Tryz.func100, Tryz.ntmps100
    go_wp2_with fail
    refine k1.out.mono ?_
    rintro e w1 ⟨rfl, hb1⟩
    go_wp2_with fail
    go_ret2
    exact ⟨_, 0, rfl, Own.empty hb1.size, hb1.alloc hb1.size _⟩
  | true =>
  rw [hra] at k1
  cases hrb : redW c b with
  | false =>
    rw [hrb] at k2
    have hp : pathA c a b = none := by unfold pathA; rw [hra, hrb]; rfl
    rw [hp]
    clear hp hr h1 h2 hA hB hra hrb
    go_enter Tryz.func100, Tryz.ntmps100
    go_wp2_with fail
    refine k1.out.mono ?_
    rintro e w1 ⟨rfl, hb1⟩
    go_wp2_with fail
    refine (k2.out w1 hb1).mono ?_
    rintro e w2 ⟨rfl, hb2⟩
    have hB2 := hb1.trans (hb2.mono hb1.size)
    go_wp2_with fail
    go_ret2
    exact ⟨_, 0, rfl, Own.empty hB2.size, hB2.alloc hB2.size _⟩
  | true =>
  rw [hrb] at k2
  have hp : pathA c a b = bpGo c b 121 0 [(a, [])] := by unfold pathA; rw [hra, hrb]; rfl
  rw [hp]
  have HS := Lib.hid (BpOk.start hA)
  obtain ⟨R, hR⟩ : ∃ R, bpGo c b 121 0 [(a, [])] = R := ⟨_, rfl⟩
  rw [hR]
  have HR0 : Hid (bpGo c b (121 - 0) 0 [(a, [])] = R) := Lib.hid hR
  clear hR
  obtain ⟨l, hl⟩ : ∃ l, a.length = l := ⟨_, rfl⟩
  rw [hl] at HS
  obtain rfl : n1 = l := by omega
  have hl15 : n1 ≤ 15 := by omega
  have kE := Lib.hid (fun (u : List Int) (hu : u.length = n1) (W : World) (gj oj cj : Nat) (hb : Below w.heap.size w W) (hc : Cells W gj oj u) => spec_EqualWords_any gj oj n1 cj g2 o2 n2 c2 u b W hu hn2 (by omega) hc (h2.below hb hg2))
  have kP := Lib.hid (fun (u : List Int) (hu : u.length = n1) (W : World) (gj oj cj : Nat) (hb : Below w.heap.size w W) (hcj : n1 ≤ cj) (hgj : gj < W.heap.size) (hc : Cells W gj oj u) => spec_BraidPlaces_any gc oc n cc gj oj n1 cj c u W hn hu (by omega) (fun j hj => by have := hcl j hj; omega) (by omega) (by omega) (Nat.lt_of_lt_of_le hgc hb.size) hgj (hr.below hb hgc) hc)
  have kB := Lib.hid (fun (u : List Int) (hu : u.length = n1) (x : Int) (hx : 0 ≤ x ∧ x < 16) (W : World) (gj oj cj : Nat) (hb : Below w.heap.size w W) (hcj : n1 ≤ cj) (hgj : gj < W.heap.size) (hc : Cells W gj oj u) => spec_BraidAt_any gc oc n cc gj oj n1 cj x c u W hn hu (by omega) (fun j hj => by have := hcl j hj; omega) (by omega) (by omega) ⟨by omega, by omega⟩ (Nat.lt_of_lt_of_le hgc hb.size) hgj (hr.below hb hgc) hc)
  have H1 := Lib.hid (fun (W : World) (hb : Below w.heap.size w W) => h1.below hb hg1)
  have Hla := Lib.hid hn1
  clear hr h1 h2 hA hB hra hrb hp hcl hl hn hn1 hn2 hla
  go_enter Tryz.func100, Tryz.ntmps100
  go_wp2_with fail
  refine k1.out.mono ?_
  rintro e w1 ⟨rfl, hb1⟩
  go_wp2_with fail
  refine (k2.out w1 hb1).mono ?_
  rintro e w2 ⟨rfl, hb2⟩
  have hB2 := hb1.trans (hb2.mono hb1.size)
  clear hb1 hb2 k1 k2
  obtain ⟨hQ0, hP0, hb0⟩ := bp_start w2 w.heap.size g1 o1 n1 c1 a hB2.size Hla.out hcap1 (Nat.lt_of_lt_of_le hg1 hB2.size) (H1.out _ hB2)
  have hB3 := hB2.trans (hb0.mono hB2.size)
  have hne0 : w2.heap.size ≠ w2.heap.size + 1 + 1 := by omega
  have hQ0' := Lib.hid (show Que _ _ _ _ _ (wordsB [(a, ([] : List Int))]) from hQ0)
  have hP0' := Lib.hid (show Que _ _ _ _ _ (pathsB [(a, ([] : List Int))]) from hP0)
  clear hb0 hB2 hQ0 hP0
  go_wp2_with fail
  go_loopw [8, 9, 10] (fun qv pv kv wr => ∃ (k gQ cQ gP cP m : Nat) (Q : List BNode), kv = .int .i64 k ∧ qv = (Value.slice (some ⟨gQ, 0, none⟩) m cQ) ∧ pv = (Value.slice (some ⟨gP, 0, none⟩) m cP) ∧ k ≤ m ∧ m ≤ 120 ∧ gQ ≠ gP ∧ Hid (Q.length = m) ∧ Hid (BpOk c n1 Q) ∧ Hid (bpGo c b (121 - k) k Q = R) ∧ Que wr w.heap.size gQ cQ [gQ, gP] (wordsB Q) ∧ Que wr w.heap.size gP cP [gQ, gP] (pathsB Q) ∧ Below w.heap.size w wr) (fun _ _ kv _ => 121 - (intOf kv).toNat)
  case atStart => exact ⟨0, _, 1, _, 1, 1, [(a, [])], rfl, rfl, rfl, by omega, by omega, hne0, rfl, HS.out, HR0.out, hQ0'.out, hP0'.out, hB3⟩
  case round =>
    clear hQ0' hP0' hB3 hne0 HS HR0 H1
    obtain ⟨k, gQ, cQ, gP, cP, m, Q, rfl, rfl, rfl, hkm, hm120, hne, hQl, hok, hgo, hQ, hP, hb⟩ := hrel
    by_cases hlt : k < m
    · have hkQ : k < Q.length := by rw [hQl.out]; exact hlt
      obtain ⟨u, p, hN⟩ : ∃ u p, Q.getD k ([], []) = (u, p) := ⟨_, _, rfl⟩
      obtain ⟨e1, e2⟩ := wordsB_at hkQ hN
      obtain ⟨hWu, hul⟩ := hok.out.word _ (getD_mem hkQ)
      have hpl := hok.out.path k hkQ
      have hpp := hok.out.places _ (getD_mem hkQ)
      rw [hN] at hWu hul hpl hpp
      replace hWu : WordOk c u := hWu
      replace hul : u.length = n1 := hul
      obtain ⟨gj, oj, cj, q1, q2, q3, q4, q5⟩ := hQ.at (by rw [wordsB_length]; exact hkQ)
      rw [e1, show u.length = n1 from hul] at q1 q2
      rw [e1] at q5
      have hE := Lib.hid (kE.out u hul wr gj oj cj hb q5)
      have hPl := Lib.hid (kP.out u hul)
      by_cases hub : u = b
      · rw [decide_eq_true hub] at hE
        have hv : R = some p := by
          rw [← hgo.out, show 121 - k = (120 - k) + 1 by omega, bpGo_found hkQ (by rw [hN]; exact hub), hN]
        obtain ⟨gx, ox, cx, x1, x2, x3, x4, x5⟩ := hP.at (k := k) (by rw [pathsB_length]; exact hkQ)
        rw [e2] at x1 x5
        obtain ⟨lp, hlp⟩ : ∃ lp, p.length = lp := ⟨_, rfl⟩
        rw [hlp] at x1
        have Hv := Lib.hid hv; have X5 := Lib.hid x5; have Hlp := Lib.hid hlp
        have hlp120 : lp ≤ 120 := by have : p.length ≤ k := hpl; omega
        clear hv x5 x4 x2 q5 q4 q2 hpl hpp hWu hul hN e1 e2 hgo hub hPl hlp
        go_wp2_with fail
        refine hE.out.mono ?_
        rintro e w5 ⟨rfl, hs5⟩
        have hb5 := below_still hb hs5
        have x15 := (cell_still hs5 _).trans x1
        have hE0 := (Below.refl w5.heap.size w5).alloc (Nat.le_refl _) (.cells #[] 3)
        have hgx : gx < w5.heap.size := by rw [size_still hs5]; exact x3
        have hPlt : gP < w5.heap.size := by rw [size_still hs5]; exact hP.lt
        have x16 := (hE0.cell (p := ⟨gP, k, none⟩) hPlt).trans x15
        have X55 := Lib.hid (X5.out.still hs5)
        clear x1 q1 X5 hE hQ hP hs5 hE0 x15
        go_wp2_with (at_builtin; refine wpList_clone rfl _ _ rfl gx ox lp cx p Hlp.out hgx X55.out rfl rfl (by rw [Hlp.out]; omega) ?_)
        intro g3 c3 w6 ho6 hb6
        have hB6 := hb5.trans (hb6.mono hb5.size)
        go_wp2_with fail
        go_ret2
        rw [Hv.out]
        exact GotIntsB.mk' g3 c3 Hlp.out (ho6.mono hb5.size) hB6
      · rw [decide_eq_false hub] at hE
        have hgn : bpGo c b (120 - k) (k + 1) (bpRow c (u, p) Q (placesL c u).length) = R := by
          rw [← hgo.out, show 121 - k = (120 - k) + 1 by omega, bpGo_next hkQ (by rw [hN]; exact hub), hN]
        have hrow : ∀ t, t ≤ (placesL c u).length → BpOk c n1 (bpRow c (u, p) Q t) ∧ k < (bpRow c (u, p) Q t).length ∧ (bpRow c (u, p) Q t).getD k ([], []) = (u, p) := fun t ht => by
          have := hok.out.row hkQ t (by rw [hN]; exact ht)
          rwa [hN] at this
        have hat : ∀ t, t < (placesL c u).length → (0 ≤ (placesL c u).getD t 0 ∧ (placesL c u).getD t 0 < 16) ∧ (∀ y, (braidA c u ((placesL c u).getD t 0)).getD u = y → y.length = n1) ∧ bpRow c (u, p) Q (t + 1) = bpStep c (u, p) (bpRow c (u, p) Q t) ((placesL c u).getD t 0) := fun t ht => by
          obtain ⟨h1, h2⟩ := placesL_mem (getD_memI ht)
          refine ⟨⟨h1.1, by have := hWu.few; omega⟩, fun y hy => ?_, bpRow_succ ht⟩
          obtain ⟨z, hz⟩ := Option.isSome_iff_exists.1 h2
          rw [hz] at hy
          rw [← hy, ← hul]
          exact braidA_length hz
        have hplk : p.length ≤ k := hpl
        have Hgn := Lib.hid hgn; have Hrow := Lib.hid hrow; have Hat := Lib.hid hat
        obtain ⟨t, ht⟩ : ∃ t, (placesL c u).length = t := ⟨_, rfl⟩
        have htl : t ≤ 15 := by rw [← ht]; have := placesTo_len c u u.length; have h3 := hWu.few; unfold placesL; omega
        rw [ht] at Hgn Hrow Hat
        have Ht := Lib.hid ht
        have Q5 := Lib.hid q5
        have kBu := Lib.hid (kB.out u hul)
        clear hgn hrow hat hpl hpp hWu hul hN e1 e2 hgo hub ht q4 q5
        go_wp2_with fail
        refine hE.out.mono ?_
        rintro e w5 ⟨rfl, hs5⟩
        have hb5 := below_still hb hs5
        have q15 := (cell_still hs5 _).trans q1
        have Q55 := Q5.out.still hs5
        have hQ5 := hQ.still hs5; have hP5 := hP.still hs5
        have hgj5 : gj < w5.heap.size := by rw [size_still hs5]; exact q3
        clear q1 q3 hE hQ hP hb hs5 Q5
        have hPc := Lib.hid (hPl.out w5 gj oj cj hb5 q2 hgj5 Q55)
        clear Q55 hPl
        go_wp2_with fail
        refine hPc.out.mono ?_
        rintro e w6 ⟨gL, cL, rfl, hoL, hb6⟩
        rw [Ht.out]
        have hB6 := hb5.trans (hb6.mono hb5.size)
        have hQ6 := hQ5.below hb6; have hP6 := hP5.below hb6
        have hoL6 := hoL.mono hb5.size
        have hLQ : gL ≠ gQ := by have h1 := hoL.base; have h2 := hQ5.lt; omega
        have hLP : gL ≠ gP := by have h1 := hoL.base; have h2 := hP5.lt; omega
        clear q15 hQ5 hP5 hoL hb5 hb6 hPc hgj5 q2
        have HQ0 : Hid ((bpRow c (u, p) Q 0).length = m) := Lib.hid hQl.out
        go_wp2_with fail
        go_loopw [8, 9, 12] (fun qv pv nv wx => ∃ (s gQ cQ gP cP m : Nat), nv = .int .i64 s ∧ qv = (Value.slice (some ⟨gQ, 0, none⟩) m cQ) ∧ pv = (Value.slice (some ⟨gP, 0, none⟩) m cP) ∧ s ≤ t ∧ m ≤ 120 ∧ gQ ≠ gP ∧ gL ≠ gQ ∧ gL ≠ gP ∧ Hid ((bpRow c (u, p) Q s).length = m) ∧ Que wx w.heap.size gQ cQ [gQ, gP] (wordsB (bpRow c (u, p) Q s)) ∧ Que wx w.heap.size gP cP [gQ, gP] (pathsB (bpRow c (u, p) Q s)) ∧ Own wx w.heap.size gL cL (placesL c u) ∧ Below w.heap.size w wx) (fun _ _ nv _ => t - (intOf nv).toNat)
        case atStart => exact ⟨0, gQ, cQ, gP, cP, m, rfl, rfl, rfl, by omega, hm120, hne, hLQ, hLP, HQ0.out, hQ6, hP6, hoL6, hB6⟩
        case round =>
          clear hQ6 hP6 hoL6 hB6 hLQ hLP HQ0 hne
          obtain ⟨s, gQ, cQ, gP, cP, m, rfl, rfl, rfl, hst, hm120, hne, hLQ, hLP, hQl, hQ, hP, hoL, hb⟩ := hrel
          obtain ⟨hok', hk', hN'⟩ := Hrow.out s hst
          by_cases hlt2 : s < t
          · obtain ⟨ha, hyl, hsucc⟩ := Hat.out s hlt2
            have qn := hoL.cell s (by rw [Ht.out]; exact hlt2)
            obtain ⟨e1, e2⟩ := wordsB_at hk' hN'
            obtain ⟨gj, oj, cj, q1, q2, q3, q4, q5⟩ := hQ.at (k := k) (by rw [wordsB_length]; exact hk')
            have hul := (hok'.word _ (getD_mem hk')).2
            rw [hN'] at hul
            rw [e1, show u.length = n1 from hul] at q1 q2
            rw [e1] at q5
            obtain ⟨gx, ox, cx, x1, x2, x3, x4, x5⟩ := hP.at (k := k) (by rw [pathsB_length]; exact hk')
            have hnext := hok'.step hk' (a := (placesL c u).getD s 0) (by rw [hN']; exact getD_memI (by rw [Ht.out]; exact hlt2))
            have hcase := bpStep_cases c (u, p) (bpRow c (u, p) Q s) ((placesL c u).getD s 0)
            rw [← hsucc] at hcase
            generalize hQ2 : bpRow c (u, p) Q (s + 1) = Q2 at *
            have HQ2 := Lib.hid hQ2
            generalize bpRow c (u, p) Q s = Q1 at *
            have qn' : wr.cell? ⟨gL, s, none⟩ = some (.int .i64 ((placesL c u).getD s 0)) := qn
            generalize hpx : (placesL c u).getD s 0 = x at *
            have kBx := Lib.hid (kBu.out x ha wr gj oj cj hb q2 q3 q5)
            have hLX := Lib.hid (fun (W : World) (ho : Own W w.heap.size gL cL (placesL c u)) => show W.cell? ⟨gL, s, none⟩ = some (.int .i64 x) from by rw [← hpx]; exact ho.cell s (by rw [Ht.out]; exact hlt2))
            have hNew : (u, p).2 ++ [x] = p ++ [x] := rfl
            generalize hy : (braidA c u x).getD u = y at *
            have hyl' := hyl y rfl
            have hlw := hok'.lens (show n1 ≤ 1048576 by omega)
            have kI := Lib.hid (fun (W : World) (gY cY : Nat) (hQW : Que W w.heap.size gQ cQ [gQ, gP] (wordsB Q1)) (B : Nat) (hoY : Own W B gY cY y) => spec_l7In_any gQ 0 m cQ gY 0 n1 cY (wordsB Q1) y W (by rw [wordsB_length]; exact hQl.out) hyl' (by rw [wordsB_length, hQl.out]; omega) hlw hQW.rows2 hoY.cells)
            have Hyl := Lib.hid hyl'; have Hk' := Lib.hid hk'; have He2 := Lib.hid e2; have Hok2 := Lib.hid hnext
            have HoL := Lib.hid hoL; have HQ := Lib.hid hQ; have HP := Lib.hid hP; have HB := Lib.hid hb
            have qnR : wr.drew.cell? ⟨gL, s, none⟩ = some (.int .i64 x) := qn'
            have q1R : wr.drew.cell? ⟨gQ, k, none⟩ = some (Value.slice (some ⟨gj, oj, none⟩) n1 cj) := q1
            have kBR := Lib.hid (show Calls Tryz.prog 114 #[(Value.slice (some ⟨gc, oc, none⟩) n cc), (Value.slice (some ⟨gj, oj, none⟩) n1 cj), .int .i64 x] wr.drew (GotIntsB wr.drew ((braidA c u x).getD u) (braidA c u x).isSome) from kBu.out x ha wr.drew gj oj cj (Below.drew hb) q2 q3 q5)
            rw [hy] at kBR
            have b1 : (0 : Int) ≤ (s : Int) := by omega
            have b2 : (s : Int) < (t : Int) := by omega
            have b3 : (0 : Int) ≤ (k : Int) := by omega
            have hkm1 : k < m := by rw [← hQl.out]; exact hk'
            have b4 : (k : Int) < (m : Int) := by omega
            clear hQ2 hsucc hnext e1 e2 hul hk' hok' hN' hyl hyl' hlw q2 q3 q4 q5 x1 x2 x3 x4 x5 hQ hP hoL hb qn qn' q1 kBx ha hNew
            go_wp2_with fail
            go_region_held3 (fun W => W.cell? ⟨gQ, k, none⟩ = some (Value.slice (some ⟨gj, oj, none⟩) n1 cj) ∧ W.cell? ⟨gL, s, none⟩ = some (.int .i64 x))
              (first | exact ⟨q1R, qnR⟩ | exact ⟨keepCell hbA q1R, keepCell hbA qnR⟩)
              (first
                | (go_at_call 114; refine kBR.out.mono ?_; rintro e wA ⟨gY, cY, rfl, hoY, hbA⟩; rw [Hyl.out]))
            have hBA := (Below.drew HB.out).trans (hbA.mono (Below.drew HB.out).size)
            have hQA : Que wA w.heap.size gQ cQ [gQ, gP] (wordsB Q1) := Que.below (w := wr.drew) HQ.out hbA
            have hPA : Que wA w.heap.size gP cP [gQ, gP] (pathsB Q1) := Que.below (w := wr.drew) HP.out hbA
            have hLA : Own wA w.heap.size gL cL (placesL c u) := Own.below (w := wr.drew) HoL.out hbA HoL.out.lt
            have hoYB := hoY.base
            have qnA := keepCell hbA qnR
            have hYQ : gY ≠ gQ := by have h1 : wr.heap.size ≤ gY := hoY.base; have h2 := HQ.out.lt; omega
            have hYP : gY ≠ gP := by have h1 : wr.heap.size ≤ gY := hoY.base; have h2 := HP.out.lt; omega
            have kIA := Lib.hid (kI.out wA gY cY hQA _ hoY)
            clear HB HQ HP HoL qnR q1R kBR hbA kI hoYB
            by_cases hin : y ∈ wordsB Q1
            · rw [decide_eq_true hin] at kIA
              have h2 : Q2 = Q1 := by
                rcases hcase with ⟨h, -⟩ | ⟨-, h, -⟩
                · exact h
                · exact absurd hin h
              have H2 := Lib.hid h2
              clear hcase h2 hin
              go_wp2_with fail
              refine kIA.out.mono ?_
              rintro e wC ⟨rfl, hsC⟩
              have hBC := below_still hBA hsC
              have hQC := hQA.still hsC; have hPC := hPA.still hsC; have hLC := hLA.still hsC
              clear hBA hQA hPA hLA hsC hoY kIA
              rw [← H2.out] at hQC hPC hQl
              go_wp2_with fail
              go_roundw
              case rel => exact ⟨s + 1, gQ, cQ, gP, cP, m, by go_num, rfl, rfl, by omega, hm120, hne, hLQ, hLP, by rw [HQ2.out]; exact hQl.out, by rw [HQ2.out]; exact hQC, by rw [HQ2.out]; exact hPC, hLC, hBC⟩
              case measure => simp [intOf]; omega
            · rw [decide_eq_false hin] at kIA
              by_cases hfull : m < 120
              · have h2 : Q2 = Q1 ++ [(y, p ++ [x])] := by
                  rcases hcase with ⟨-, h⟩ | ⟨h, -⟩
                  · rcases h with h | h
                    · exact absurd h hin
                    · have := hQl.out; omega
                  · exact h
                have H2 := Lib.hid h2
                have bm : (m : Int) < 120 := by omega
                have Hwl : Hid ((wordsB Q1).length = m) := Lib.hid (by rw [wordsB_length]; exact hQl.out)
                have Hpl : Hid ((pathsB Q1).length = m) := Lib.hid (by rw [pathsB_length]; exact hQl.out)
                clear hcase h2 hin
                go_wp2_with fail
                refine kIA.out.mono ?_
                rintro e wC ⟨rfl, hsC⟩
                have hBC := below_still hBA hsC
                have hQC := hQA.still hsC; have hPC := hPA.still hsC; have hLC := hLA.still hsC; have hYC := hoY.still hsC
                have hYcap := hYC.capLe
                rw [Hyl.out] at hYcap
                have hnot : gY ∉ [gQ, gP] := by simp; exact ⟨hYQ, hYP⟩
                clear hBA hQA hPA hLA hsC hoY kIA
                go_wp2_with (at_builtin; refine wpList_append_que (w := wC) rfl _ _ rfl w.heap.size gQ cQ m wC.heap.size gY 0 n1 cY [gQ, gP] (wordsB Q1) y _ Hwl.out Hyl.out rfl rfl hQC hYC.lt hnot hYcap hYC.cells rfl rfl (by omega) ?_)
                intro gQ2 cQ2 w8 hQ8 hg8 hor8
                have hB8 : Below w.heap.size w w8 := hBC.grown hg8 hBC.size (by intro z hz; cases hz; exact hQC.base)
                have hP8 : Que w8 w.heap.size gP cP [gQ2, gP] (pathsB Q1) := by
                  have h1 := hPC.avoid (A' := [gQ2, gQ, gP]) (fun z hz => by
                    simp at hz
                    rcases hz with h | h | h
                    · rcases hor8 with q | q
                      · left; rw [h, q]; simp
                      · right; omega
                    · left; rw [h]; simp
                    · left; rw [h]; simp) (by simp)
                  exact (h1.grown hg8 (by simp) (fun e => hne e.symm)).avoid (fun z hz => by
                    simp at hz
                    rcases hz with h | h
                    · left; rw [h]; simp
                    · left; rw [h]; simp) (by simp)
                have hQ8' : Que w8 w.heap.size gQ2 cQ2 [gQ2, gP] (wordsB Q1 ++ [y]) := hQ8.avoid (fun z hz => by
                    simp at hz
                    rcases hz with h | h
                    · left; rw [h]; simp
                    · left; rw [h]; simp) (by simp)
                have hL8 := hLC.grown hg8 (fun e => hLQ (Option.some.inj e))
                have hne2 : gQ2 ≠ gP := fun e => by
                  rcases hor8 with q | q
                  · exact hne (q.symm.trans e)
                  · have := hPC.lt; omega
                have hLQ2 : gL ≠ gQ2 := fun e => by
                  rcases hor8 with q | q
                  · exact hLQ (e.trans q)
                  · have := hLC.lt; omega
                clear hQ8 hg8 hor8 hQC hPC hLC hYC hBC hYcap hnot
                obtain ⟨gX, oX, cX, x1, x2, x3, x4, x5⟩ := hP8.at (k := k) (by rw [Hpl.out]; exact hkm1)
                rw [He2.out] at x1 x2 x5
                obtain ⟨lp, hlp⟩ : ∃ lp, p.length = lp := ⟨_, rfl⟩
                rw [hlp] at x1 x2
                have hlp120 : lp ≤ 120 := by rw [← hlp]; omega
                have qn8 : w8.cell? ⟨gL, s, none⟩ = some (.int .i64 x) := (hLX.out w8 hL8)
                have Hlp := Lib.hid hlp
                have KS := Lib.hid (fun (W : World) (hBW : Below w8.heap.size w8 W) => show W.cell? ⟨gP, k, none⟩ = some (Value.slice (some ⟨gX, oX, none⟩) lp cX) ∧ W.cell? ⟨gL, s, none⟩ = some (.int .i64 x) from ⟨keepCell hBW x1, keepCell hBW qn8⟩)
                have KC := Lib.hid (fun (W : World) (hBW : Below w8.heap.size w8 W) => x5.below hBW x3)
                have KP := Lib.hid (fun (W : World) (hBW : Below w8.heap.size w8 W) => hP8.below hBW)
                have D0 : Below w8.heap.size w8 w8.drew := Below.drew (Below.refl _ _)
                have B0 : Below w8.heap.size w8 ((w8.alloc (.cells #[] 3)).drew) := Below.drew ((Below.refl _ _).alloc (Nat.le_refl _) _)
                have B0b : Below w8.heap.size w8 (((w8.alloc (.cells #[] 3)).alloc (.cells #[.int .i64 x] 3)).drew) := Below.drew (((Below.refl _ _).alloc (Nat.le_refl _) _).alloc (by simp) _)
                have F1 : ∀ w1, ((w8.alloc (.cells #[] 3)).drew).grownBy w1 (some w8.heap.size) → Below w8.heap.size w8 w1 := fun w1 h => B0.grown h B0.size (by intro j hj; cases hj; exact Nat.le_refl _)
                have F1b : ∀ w1, (((w8.alloc (.cells #[] 3)).alloc (.cells #[.int .i64 x] 3)).drew).grownBy w1 (some w8.heap.size) → Below w8.heap.size w8 w1 := fun w1 h => B0b.grown h B0b.size (by intro j hj; cases hj; exact Nat.le_refl _)
                have hOx : Own (((w8.alloc (.cells #[] 3)).alloc (.cells #[.int .i64 x] 3)).drew) w8.heap.size (w8.heap.size + 1) 1 [x] := by
                  have h1 := Own.new (w := w8.alloc (.cells #[] 3)) (B := w8.heap.size) x (by simp)
                  rw [show (w8.alloc (.cells #[] 3)).heap.size = w8.heap.size + 1 by simp] at h1
                  exact h1
                have HX2 := Lib.hid (fun (w1 : World) (h : (((w8.alloc (.cells #[] 3)).alloc (.cells #[.int .i64 x] 3)).drew).grownBy w1 (some w8.heap.size)) => show Cells w1 (w8.heap.size + 1) 0 [x] from (hOx.grown h (by simp)).cells)
                have hOe : Own (((w8.alloc (.cells #[] 3)).alloc (.cells #[.int .i64 x] 3)).drew) w8.heap.size w8.heap.size 0 [] := (Own.empty (w := w8) (Nat.le_refl _)).alloc _
                have B0c1 : Below w8.heap.size w8 ((w8.alloc (.cells #[.int .i64 x] 3)).drew) := Below.drew ((Below.refl _ _).alloc (Nat.le_refl _) _)
                have B0c : Below w8.heap.size w8 (((w8.alloc (.cells #[.int .i64 x] 3)).alloc (.cells #[] 3)).drew) := Below.drew (((Below.refl _ _).alloc (Nat.le_refl _) _).alloc (by simp) _)
                have F1c : ∀ w1, (((w8.alloc (.cells #[.int .i64 x] 3)).alloc (.cells #[] 3)).drew).grownBy w1 (some (w8.heap.size + 1)) → Below w8.heap.size w8 w1 := fun w1 h => B0c.grown h B0c.size (by intro j hj; cases hj; omega)
                have HX3 := Lib.hid (fun (w1 : World) (h : (((w8.alloc (.cells #[.int .i64 x] 3)).alloc (.cells #[] 3)).drew).grownBy w1 (some (w8.heap.size + 1))) => show Cells w1 w8.heap.size 0 [x] from (Own.grown (w := (((w8.alloc (.cells #[.int .i64 x] 3)).alloc (.cells #[] 3)).drew)) (Own.alloc (Own.new (w := w8) (B := w8.heap.size) x (Nat.le_refl _)) _) h (by simp)).cells)
                have hOe3 : Own (((w8.alloc (.cells #[.int .i64 x] 3)).alloc (.cells #[] 3)).drew) w8.heap.size (w8.heap.size + 1) 0 [] := by
                  have h1 := Own.empty (w := w8.alloc (.cells #[.int .i64 x] 3)) (B := w8.heap.size) (by simp)
                  rw [show (w8.alloc (.cells #[.int .i64 x] 3)).heap.size = w8.heap.size + 1 by simp] at h1
                  exact h1
                have F2 : ∀ (w1 w2 : World) (g1 : Nat), Below w8.heap.size w8 w1 → w8.heap.size ≤ g1 → w1.grownBy w2 (some g1) → Below w8.heap.size w8 w2 := fun w1 w2 g1 h hg h2 => h.grown h2 h.size (by intro j hj; cases hj; exact hg)
                have HN2 := Lib.hid (fun (z : Nat) (hz : w8.heap.size ≤ z) => show z ∉ [gQ2, gP] from by
                  have h1 := hQ8'.lt
                  have h2 := hP8.lt
                  simp
                  omega)
                clear hlp x1 x2 x5 qn8
                go_wp2_with fail
                go_region_held3 (fun W => W.cell? ⟨gP, k, none⟩ = some (Value.slice (some ⟨gX, oX, none⟩) lp cX) ∧ W.cell? ⟨gL, s, none⟩ = some (.int .i64 x))
                  (first | exact KS.out _ D0 | exact KS.out _ B0 | exact KS.out _ B0b | exact KS.out _ B0c1 | exact KS.out _ B0c | exact KS.out _ hb9 | exact KS.out _ (hb9.alloc hb9.size _) | exact KS.out _ hb10 | exact KS.out _ (hb10.alloc hb10.size _) | exact ⟨(hkc11 k (by rw [Hpl.out]; exact hkm1)).trans (KS.out _ hb10).1, (hg11.cell (a := ⟨gL, s, none⟩) (KS.out _ hb10).2 (fun e => hLP (Option.some.inj e)))⟩ | fail "keep")
                  (first
                    | (refine step_append_ints (by rfl) _ _ (by rfl) w8.heap.size w8.heap.size 0 0 gX oX lp cX [] p rfl Hlp.out (by exact (Own.empty (w := w8.drew) (Nat.le_refl _))) (by exact KC.out _ B0) (by rfl) (by rfl) (by omega) ?_; intro g1 c1 w9 ho1 hg1 hor1; have hb9 := F1 _ hg1)
                    | (refine step_append_ints (by rfl) _ _ (by rfl) w8.heap.size w8.heap.size 0 0 gX oX lp cX [] p rfl Hlp.out (by exact hOe) (by exact KC.out _ B0b) (by rfl) (by rfl) (by omega) ?_; intro g1 c1 w9 ho1 hg1 hor1; have hb9 := F1b _ hg1)
                    | (refine step_append_ints (by rfl) _ _ (by rfl) w8.heap.size (w8.heap.size + 1) 0 0 gX oX lp cX [] p rfl Hlp.out (by exact hOe3) (by exact KC.out _ B0c) (by rfl) (by rfl) (by omega) ?_; intro g1 c1 w9 ho1 hg1 hor1; have hb9 := F1c _ hg1)
                    | (refine step_append_int (w := w9) (by rfl) _ _ (by rfl) w8.heap.size g1 c1 lp w9.heap.size ([] ++ p) x _ (by rw [List.nil_append]; exact Hlp.out) (by rfl) (by rfl) (by exact ho1) (by rfl) (by rfl) (by omega) ?_; intro g2 c2 w10 ho2 hg2 hor2; have hb10 := F2 _ _ _ hb9 ho1.base hg2)
                    | (refine step_append_ints (by rfl) _ _ (by rfl) w8.heap.size g1 c1 lp (w8.heap.size + 1) 0 1 1 ([] ++ p) [x] (by rw [List.nil_append]; exact Hlp.out) (by rfl) (by exact ho1) (by exact HX2.out _ hg1) (by rfl) (by rfl) (by omega) ?_; intro g2 c2 w10 ho2 hg2 hor2; have hb10 := F2 _ _ _ hb9 ho1.base hg2)
                    | (refine step_append_ints (by rfl) _ _ (by rfl) w8.heap.size g1 c1 (0 + lp) (w8.heap.size + 1) 0 1 1 ([] ++ p) [x] (by rw [List.nil_append, Nat.zero_add]; exact Hlp.out) (by rfl) (by exact ho1) (by exact HX2.out _ hg1) (by rfl) (by rfl) (by omega) ?_; intro g2 c2 w10 ho2 hg2 hor2; have hb10 := F2 _ _ _ hb9 ho1.base hg2)
                    | (refine step_append_ints (by rfl) _ _ (by rfl) w8.heap.size g1 c1 (0 + lp) w8.heap.size 0 1 1 ([] ++ p) [x] (by rw [List.nil_append, Nat.zero_add]; exact Hlp.out) (by rfl) (by exact ho1) (by exact HX3.out _ hg1) (by rfl) (by rfl) (by omega) ?_; intro g2 c2 w10 ho2 hg2 hor2; have hb10 := F2 _ _ _ hb9 ho1.base hg2)
                    | (refine step_append_que (w := w10) (by rfl) _ _ (by rfl) w.heap.size gP cP m w10.heap.size g2 0 (lp + 1) c2 [gQ2, gP] (pathsB Q1) ([] ++ p ++ [x]) _ Hpl.out (by simp; exact Hlp.out) (by rfl) (by rfl) (by exact KP.out _ hb10) (by exact ho2.lt) (by exact HN2.out _ ho2.base) (by have := ho2.capLe; rw [List.length_append, List.nil_append, Hlp.out] at this; exact this) (by exact ho2.cells) (by rfl) (by rfl) (by omega) ?_; intro g3 c3 w11 hP11 hg11 hor11 hkc11)
                    | fail "arm")
                all_goals
                  have hB10 := hB8.trans (hb10.mono hB8.size)
                  have hB11 : Below w.heap.size w w11 := hB10.grown hg11 hB10.size (by intro z hz; cases hz; exact hP8.base)
                  have hQ10 := hQ8'.below hb10
                  have hL10 := hL8.below hb10 hL8.lt
                  have hQ11 : Que w11 w.heap.size gQ2 cQ2 [gQ2, g3] (wordsB Q1 ++ [y]) := by
                    have h1 := hQ10.avoid (A' := [gQ2, g3, gP]) (fun z hz => by
                      simp at hz
                      rcases hz with h | h | h
                      · left; rw [h]; simp
                      · rcases hor11 with q | q
                        · left; rw [h, q]; simp
                        · right; omega
                      · left; rw [h]; simp) (by simp)
                    exact (h1.grown hg11 (by simp) hne2).avoid (fun z hz => by
                      simp at hz
                      rcases hz with h | h
                      · left; rw [h]; simp
                      · left; rw [h]; simp) (by simp)
                  have hP11' : Que w11 w.heap.size g3 c3 [gQ2, g3] (pathsB Q1 ++ [p ++ [x]]) := hP11.avoid (fun z hz => by
                      simp at hz
                      rcases hz with h | h
                      · left; rw [h]; simp
                      · left; rw [h]; simp) (by simp)
                  have hL11 := hL10.grown hg11 (fun e => hLP (Option.some.inj e))
                  have hne3 : gQ2 ≠ g3 := fun e => by
                    rcases hor11 with q | q
                    · exact hne2 (e.trans q)
                    · have := hQ10.lt; omega
                  have hLP3 : gL ≠ g3 := fun e => by
                    rcases hor11 with q | q
                    · exact hLP (e.trans q)
                    · have := hL10.lt; omega
                  have hl2 : Hid (Q2.length = m + 1) := Lib.hid (by rw [H2.out, List.length_append, hQl.out]; rfl)
                  have hq2 : Hid (wordsB Q2 = wordsB Q1 ++ [y]) := Lib.hid (by rw [H2.out, wordsB_push])
                  have hp2 : Hid (pathsB Q2 = pathsB Q1 ++ [p ++ [x]]) := Lib.hid (by rw [H2.out, pathsB_push])
                  clear F1 F1b F1c F2 B0 B0b B0c B0c1 D0 hOx hOe hOe3 hb9 hb10 hB10 hQ10 hL10 hP11 hg11 hor11 hkc11 hg1 hor1 ho1 hg2 hor2 ho2 hP8 hQ8' hL8 hB8
                  go_wp2_with fail
                  go_roundw
                  case rel => exact ⟨s + 1, gQ2, cQ2, g3, c3, m + 1, by go_num, rfl, rfl, by omega, by omega, hne3, hLQ2, hLP3, by rw [HQ2.out]; exact hl2.out, by rw [HQ2.out, hq2.out]; exact hQ11, by rw [HQ2.out, hp2.out]; exact hP11', hL11, hB11⟩
                  case measure => simp [intOf]; omega
              · have h2 : Q2 = Q1 := by
                  rcases hcase with ⟨h, -⟩ | ⟨-, -, h⟩
                  · exact h
                  · have := hQl.out; omega
                have H2 := Lib.hid h2
                have bm : (120 : Int) ≤ (m : Int) := by omega
                clear hcase h2 hin
                go_wp2_with fail
                refine kIA.out.mono ?_
                rintro e wC ⟨rfl, hsC⟩
                have hBC := below_still hBA hsC
                have hQC := hQA.still hsC; have hPC := hPA.still hsC; have hLC := hLA.still hsC
                clear hBA hQA hPA hLA hsC hoY kIA
                rw [← H2.out] at hQC hPC hQl
                go_wp2_with fail
                go_roundw
                case rel => exact ⟨s + 1, gQ, cQ, gP, cP, m, by go_num, rfl, rfl, by omega, hm120, hne, hLQ, hLP, by rw [HQ2.out]; exact hQl.out, by rw [HQ2.out]; exact hQC, by rw [HQ2.out]; exact hPC, hLC, hBC⟩
                case measure => simp [intOf]; omega
          · obtain rfl : s = t := by omega
            have hkm1 : k < m := by rw [← hQl.out]; exact hk'
            have Hok := Lib.hid hok'
            clear hk' hN' hoL
            go_wp2_with fail
            go_roundw
            case rel => exact ⟨k + 1, gQ, cQ, gP, cP, m, _, by go_num, rfl, rfl, by omega, hm120, hne, hQl.out, Hok.out, by rw [show 121 - (k + 1) = 120 - k by omega]; exact Hgn.out, hQ, hP, hb⟩
            case measure => simp [intOf]; omega
    · obtain rfl : k = m := by omega
      have hv : R = none := by rw [← hgo.out]; exact bpGo_done (by rw [hQl.out]; exact Nat.le_refl _)
      have Hv := Lib.hid hv
      clear hv hgo
      go_wp2_with fail
      go_ret2
      rw [Hv.out]
      exact ⟨_, 0, rfl, Own.empty hb.size, hb.alloc hb.size _⟩
end Go.Proofs.YtkjglfafphffiaaGreatDoor
