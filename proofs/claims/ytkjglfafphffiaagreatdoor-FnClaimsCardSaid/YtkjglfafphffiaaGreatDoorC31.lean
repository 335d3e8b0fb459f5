/- BpI -/
import Derived.Test.YtkjglfafphffiaaGreatDoorC29
import Derived.Test.YtkjglfafphffiaaGreatDoorC30
import Derived.Test.YtkjglfafphffiaaGreatDoorC06
namespace Go.Proofs.YtkjglfafphffiaaGreatDoor
set_option maxRecDepth 100000
open Go.RowKit Game
theorem WordOk.fewW {c : List (List Int)} {v : List Int} (h : WordOk c v) : FewW v :=
  ⟨fun x hx => by have h1 := h.lets.mem x hx; have := h.isC.2.1; omega, h.few⟩
theorem bpI_start (w : World) (B g c l : Nat) (a : List Int) (hB : B ≤ w.heap.size) (ho : Own w B g c a) (hl : a.length = l) :
    OwnT ((w.alloc (.cells #[(Value.slice (some ⟨g, 0, none⟩) l c), .int .i64 (-1), .int .i64 0] 73)).alloc (.map #[] 0)) B w.heap.size 1 [((g, c, a), -1, 0)] ∧
    SeenW ((w.alloc (.cells #[(Value.slice (some ⟨g, 0, none⟩) l c), .int .i64 (-1), .int .i64 0] 73)).alloc (.map #[] 0)) (w.heap.size + 1) 0 [] ∧
    Below w.heap.size w ((w.alloc (.cells #[(Value.slice (some ⟨g, 0, none⟩) l c), .int .i64 (-1), .int .i64 0] 73)).alloc (.map #[] 0)) := by
  subst hl
  have h1 := OwnT.one (w := w) (B := B) ((g, c, a), -1, 0) hB ho
  have s1 : (w.alloc (.cells #[(Value.slice (some ⟨g, 0, none⟩) a.length c), .int .i64 (-1), .int .i64 0] 73)).heap.size = w.heap.size + 1 := by simp
  have b1 := (Below.refl w.heap.size w).alloc (Nat.le_refl _) (.cells #[(Value.slice (some ⟨g, 0, none⟩) a.length c), .int .i64 (-1), .int .i64 0] 73)
  have b2 := (Below.refl _ (w.alloc (.cells #[(Value.slice (some ⟨g, 0, none⟩) a.length c), .int .i64 (-1), .int .i64 0] 73))).alloc (Nat.le_refl _) (.map #[] 0)
  have h2 := SeenW.start (w.alloc (.cells #[(Value.slice (some ⟨g, 0, none⟩) a.length c), .int .i64 (-1), .int .i64 0] 73))
  rw [s1] at h2
  exact ⟨OwnT.below h1 b2, h2, b1.alloc b1.size _⟩
theorem Own.row {w : World} {B g cap : Nat} {xs : List Int} (h : Own w B g cap xs) : ∃ cur, w.heap[g]? = some (.cells cur 3 (0, 0)) := by obtain ⟨cur, h1, -⟩ := h.toV.row; exact ⟨cur, h1⟩
set_option maxHeartbeats 3000000 in
theorem impl_BraidPath_ok (gc oc n cc g1 o1 n1 c1 g2 o2 n2 c2 : Nat) (c : List (List Int)) (a b : List Int) (w : World) (hn : c.length = n) (hn1 : a.length = n1) (hn2 : b.length = n2) (hA : WordOk c a) (hB : WordOk c b) (_hcap1 : n1 ≤ c1) (hgc : gc < w.heap.size) (hg1 : g1 < w.heap.size) (hg2 : g2 < w.heap.size)
    (hr : Rows2 w gc oc c) (h1 : Cells w g1 o1 a) (h2 : Cells w g2 o2 b) :
    Calls Tryz.prog 29 #[(Value.slice (some ⟨gc, oc, none⟩) n cc), (Value.slice (some ⟨g1, o1, none⟩) n1 c1), (Value.slice (some ⟨g2, o2, none⟩) n2 c2)] w (GotIntsB w ((pathA c a b).getD []) (pathA c a b).isSome) := by
  have hn4 := hA.isC.2.1
  have hcl := hA.isC.2.2.1
  have hla := hA.few
  have hlb := hB.few
  have k1 := Lib.hid (impl_IsReduced_any gc oc n cc g1 o1 n1 c1 c a w hn hn1 (by omega) (fun j hj => by have := hcl j hj; omega) (by omega) hgc hg1 hr h1)
  have k2 := Lib.hid (fun (W : World) (hb : Below w.heap.size w W) => impl_IsReduced_any gc oc n cc g2 o2 n2 c2 c b W hn hn2 (by omega) (fun j hj => by have := hcl j hj; omega) (by omega) (Nat.lt_of_lt_of_le hgc hb.size) (Nat.lt_of_lt_of_le hg2 hb.size) (hr.below hb hgc) (h2.below hb hg2))
  cases hra : redW c a with
  | false =>
    rw [hra] at k1
    have hp : pathA c a b = none := by unfold pathA; rw [hra]; rfl
    rw [hp]
    clear hp hr h1 h2 hA hB k2 hra
    go_enter Tryz.func29, Tryz.ntmps29
    go_wp2_with fail
    refine k1.out.mono ?_
    rintro e w1 ⟨rfl, hb1⟩
    go_wp2_with fail
    go_ret2
    exact ⟨_, 0, rfl, Own.empty hb1.size, hb1.alloc hb1.size _⟩
  | true =>
  rw [hra] at k1
  cases hrb : redW c b with
  | false =>
    rw [hrb] at k2
    have hp : pathA c a b = none := by unfold pathA; rw [hra, hrb]; rfl
    rw [hp]
    clear hp hr h1 h2 hA hB hra hrb
    go_enter Tryz.func29, Tryz.ntmps29
    go_wp2_with fail
    refine k1.out.mono ?_
    rintro e w1 ⟨rfl, hb1⟩
    go_wp2_with fail
    refine (k2.out w1 hb1).mono ?_
    rintro e w2 ⟨rfl, hb2⟩
    have hB2 := hb1.trans (hb2.mono hb1.size)
    go_wp2_with fail
    go_ret2
    exact ⟨_, 0, rfl, Own.empty hB2.size, hB2.alloc hB2.size _⟩
  | true =>
  rw [hrb] at k2
  have hp : pathA c a b = bpGo c b 121 0 [(a, [])] := by unfold pathA; rw [hra, hrb]; rfl
  rw [hp]
  have HS := Lib.hid (BpOk.start hA)
  obtain ⟨R, hR⟩ : ∃ R, bpGo c b 121 0 [(a, [])] = R := ⟨_, rfl⟩
  rw [hR]
  have HR0 : Hid (bpGo c b (121 - 0) 0 [(a, [])] = R) := Lib.hid hR
  clear hR
  obtain ⟨l, hl⟩ : ∃ l, a.length = l := ⟨_, rfl⟩
  rw [hl] at HS
  obtain rfl : n1 = l := by omega
  have hl15 : n1 ≤ 15 := by omega
  have Hfa := Lib.hid hA.fewW
  have kE := Lib.hid (fun (u : List Int) (hu : u.length = n1) (W : World) (gj cj : Nat) (hb : Below w.heap.size w W) (hc : Cells W gj 0 u) => impl_EqualWords_any gj 0 n1 cj g2 o2 n2 c2 u b W hu hn2 (by omega) (by omega) hc (h2.below hb hg2))
  have kP := Lib.hid (fun (u : List Int) (hu : u.length = n1) (W : World) (gj cj : Nat) (hb : Below w.heap.size w W) (hcj : n1 ≤ cj) (hgj : gj < W.heap.size) (hc : Cells W gj 0 u) => impl_BraidPlaces_any gc oc n cc gj 0 n1 cj c u W hn hu (by omega) (fun j hj => by have := hcl j hj; omega) (by omega) (by omega) (Nat.lt_of_lt_of_le hgc hb.size) hgj (hr.below hb hgc) hc)
  have kB := Lib.hid (fun (u : List Int) (hu : u.length = n1) (x : Int) (hx : 0 ≤ x ∧ x < 16) (W : World) (gj cj : Nat) (hb : Below w.heap.size w W) (hcj : n1 ≤ cj) (hgj : gj < W.heap.size) (hc : Cells W gj 0 u) => impl_BraidAt_any gc oc n cc gj 0 n1 cj x c u W hn hu (by omega) (fun j hj => by have := hcl j hj; omega) (by omega) (by omega) ⟨by omega, by omega⟩ (Nat.lt_of_lt_of_le hgc hb.size) hgj (hr.below hb hgc) hc)
  have kF := Lib.hid (fun (y : List Int) (hy : y.length = n1) (W : World) (B gj cj : Nat) (ho : Own W B gj cj y) => impl_FormatWord_any gj 0 n1 cj y W hy (by omega) ho.lt ho.cells)
  have H1 := Lib.hid (fun (W : World) (hb : Below w.heap.size w W) => h1.below hb hg1)
  have kFa := Lib.hid (fun (W : World) (hb : Below w.heap.size w W) => impl_FormatWord_any g1 o1 n1 c1 a W hn1 (by omega) (Nat.lt_of_lt_of_le hg1 hb.size) (h1.below hb hg1))
  have Hla := Lib.hid hn1
  clear hr h1 h2 hA hB hra hrb hp hcl hl hn hn1 hn2 hla
  go_enter Tryz.func29, Tryz.ntmps29
  go_wp2_with fail
  refine k1.out.mono ?_
  rintro e w1 ⟨rfl, hb1⟩
  go_wp2_with fail
  refine (k2.out w1 hb1).mono ?_
  rintro e w2 ⟨rfl, hb2⟩
  have hB2 := hb1.trans (hb2.mono hb1.size)
  have hg12 := Nat.lt_of_lt_of_le hg1 hB2.size
  have hc2 := Lib.hid (H1.out _ hB2)
  clear hb1 hb2 k1 k2
  go_wp2_with (at_builtin; refine wpList_clone rfl _ _ rfl g1 o1 _ c1 a Hla.out hg12 hc2.out rfl rfl (by rw [Hla.out]; omega) ?_)
  intro g3 c3 w3 ho3 hb3
  have hB3 := hB2.trans (hb3.mono hB2.size)
  obtain ⟨hT0, hM0, hb0⟩ := bpI_start w3 w.heap.size g3 c3 n1 a hB3.size (ho3.mono hB2.size) Hla.out
  have hB4 := hB3.trans (hb0.mono hB3.size)
  have kFa4 := Lib.hid (kFa.out _ hB4)
  have HT0 := Lib.hid hT0; have HM0 := Lib.hid hM0
  have hbM0 : w.heap.size ≤ w3.heap.size + 1 := by have := hB3.size; omega
  clear hb3 ho3 hB2 hB3 hb0 hT0 hM0 hc2 kFa H1 hg12
  have hmm := @run_makeMap Tryz.prog
  go_wp2_with fail
  refine kFa4.out.mono ?_
  rintro e w5 ⟨rfl, hb5⟩
  have hB5 := hB4.trans (hb5.mono hB4.size)
  have hT5 := HT0.out.below hb5
  have hM5 := HM0.out.below hb5 HM0.out.lt
  clear hB4 hb5 HT0 HM0 kFa4 hmm
  go_wp2_with (refine wpList_seenW_insert (n := 0) (L := []) rfl (.tmp 34) (.tmp 36) (.const (.bool true)) rfl _ a Hfa.out hM5 (by omega) rfl rfl rfl ?_)
  intro w6 hM6 hg6
  have hmne : ∀ {x : Nat} {cx : Array Value} {E : TypeId}, w5.heap[x]? = some (.cells cx E (0, 0)) → x ≠ w3.heap.size + 1 := fun h e => hM5.neCells (by rw [← e]; exact h) rfl
  have hT6 : OwnT w6 w.heap.size w3.heap.size 1 [((g3, c3, a), -1, 0)] := hT5.grown hg6 (by obtain ⟨cur, h⟩ := hT5.row; exact hmne h) (fun s hs => by obtain ⟨cur, h⟩ := (hT5.2 s hs).row; exact hmne h)
  have hB6 : Below w.heap.size w w6 := hB5.grown hg6 hB5.size (by intro z hz; cases hz; exact hbM0)
  have hRel0 := Lib.hid (StRel.start (g3, c3, a))
  have hM6' : SeenW w6 (w3.heap.size + 1) 1 (wordsB [(a, ([] : List Int))]) := hM6
  have HM6 := Lib.hid hM6'
  clear hM5 hT5 hg6 hB5 hM6 hM6' hmne
  generalize w3.heap.size + 1 = bM at *
  generalize w3.heap.size = gT at *
  go_wp2_with fail
  go_loopw [8, 10] (fun lv kv wr => ∃ (k gT cT m : Nat) (ss : List StRef) (Q : List BNode), kv = .int .i64 k ∧ lv = (Value.slice (some ⟨gT, 0, none⟩) m cT) ∧ k ≤ m ∧ m ≤ 120 ∧ Hid (ss.length = m) ∧ Hid (Q.length = m) ∧ Hid (StRel ss Q) ∧ Hid (BpOk c n1 Q) ∧ Hid (bpGo c b (121 - k) k Q = R) ∧ OwnT wr w.heap.size gT cT ss ∧ SeenW wr bM m (wordsB Q) ∧ Below w.heap.size w wr) (fun _ kv _ => 121 - (intOf kv).toNat)
  case atStart => exact ⟨0, gT, 1, 1, [((g3, c3, a), -1, 0)], [(a, [])], rfl, rfl, by omega, by omega, rfl, rfl, hRel0.out, HS.out, HR0.out, hT6, HM6.out, hB6⟩
  case round =>
    clear hT6 hB6 HM6 hRel0 HS HR0
    obtain ⟨k, gT, cT, m, ss, Q, rfl, rfl, hkm, hm120, hsl, hQl, hrel', hok, hgo, hT, hM, hb⟩ := hrel
    by_cases hlt : k < m
    · have hkQ : k < Q.length := by rw [hQl.out]; exact hlt
      have hkS : k < ss.length := by rw [hsl.out]; exact hlt
      obtain ⟨u, p, hN⟩ : ∃ u p, Q.getD k ([], []) = (u, p) := ⟨_, _, rfl⟩
      obtain ⟨hWu, hul⟩ := hok.out.word _ (getD_mem hkQ)
      have hpl := hok.out.path k hkQ
      have hpp := hok.out.places _ (getD_mem hkQ)
      rw [hN] at hWu hul hpl hpp
      replace hWu : WordOk c u := hWu
      replace hul : u.length = n1 := hul
      have hw := hrel'.out.word k hkQ
      rw [hN] at hw
      obtain ⟨⟨gj, cj, u'⟩, fr, pl, hsk⟩ : ∃ (r : RowRef) (fr pl : Int), ss.getD k stD = (r, fr, pl) := ⟨_, _, _, rfl⟩
      rw [hsk] at hw
      obtain rfl : u = u' := hw.symm
      obtain ⟨q1, -, -⟩ := hT.cell hkS
      rw [hsk] at q1
      have e1 : rowVal (gj, cj, u) = (Value.slice (some ⟨gj, 0, none⟩) n1 cj) := by unfold rowVal; rw [hul]
      rw [show ((gj, cj, u), fr, pl).1 = (gj, cj, u) from rfl, e1] at q1
      have hown := hT.2 _ (OwnT.mem hkS)
      rw [hsk] at hown
      replace hown : Own wr w.heap.size gj cj u := hown
      have hcj : n1 ≤ cj := by have := hown.capLe; omega
      have hE := Lib.hid (kE.out u hul wr gj cj hb hown.cells)
      by_cases hub : u = b
      · rw [decide_eq_true hub] at hE
        have hv : R = some p := by
          rw [← hgo.out, show 121 - k = (120 - k) + 1 by omega, bpGo_found hkQ (by rw [hN]; exact hub), hN]
        have Hv := Lib.hid hv
        have hplk : p.length ≤ k := hpl
        have HNk := Lib.hid hN
        clear hv hown hgo hub hw hWu hul hpp hpl hsk e1 hcj hkQ hkS hN
        go_wp2_with fail
        refine hE.out.mono ?_
        rintro e w5' ⟨rfl, hs5⟩
        have hb5 := below_still hb hs5
        have hT5 := hT.still hs5
        clear hb hT hM hs5 q1 hE
        have hX := (Below.refl w5'.heap.size w5').alloc (Nat.le_refl _) (.cells #[] 3)
        have hT6 := hT5.below hX
        have hb6 := hb5.trans (hX.mono hb5.size)
        have hox : Own (w5'.alloc (.cells #[] 3)) w.heap.size w5'.heap.size 0 [] := Own.empty hb5.size
        have Hx0 : Hid (([] : List Int) ++ p.reverse = p.reverse) := Lib.hid rfl
        have Hfr := Lib.hid (show ∀ s ∈ ss, s.1.1 ≠ w5'.heap.size from fun s hs e => by have := (hT5.2 s hs).lt; omega)
        clear hX hb5 hT5
        go_wp2_with fail
        go_loopw [11, 12] (fun pv iv wx => ∃ (i gx cx mx : Nat) (xs : List Int), iv = .int .i64 i ∧ pv = (Value.slice (some ⟨gx, 0, none⟩) mx cx) ∧ i ≤ k ∧ mx + i ≤ k ∧ Hid (∀ s ∈ ss, s.1.1 ≠ gx) ∧ Hid (xs.length = mx) ∧ Hid (xs ++ (Q.getD i ([], [])).2.reverse = p.reverse) ∧ OwnT wx w.heap.size gT cT ss ∧ Own wx w.heap.size gx cx xs ∧ Below w.heap.size w wx) (fun _ iv _ => (intOf iv).toNat)
        case atStart => exact ⟨k, _, 0, 0, [], rfl, rfl, Nat.le_refl _, by omega, Hfr.out, rfl, by rw [HNk.out]; exact Hx0.out, hT6, hox, hb6⟩
        case round =>
          clear hT6 hox hb6 Hx0 HNk Hfr
          obtain ⟨i, gx, cx, mx, xs, rfl, rfl, hik, hmi, hfr, hxl, hxp, hT, hox, hb⟩ := hrel
          have hiQ : i < Q.length := by rw [hQl.out]; omega
          have hiS : i < ss.length := by rw [hsl.out]; omega
          obtain ⟨-, r1, r2⟩ := hT.cell hiS
          have hch := hrel'.out.chain i hiQ
          have him : i < m := by omega
          obtain ⟨rr, fi, pi, hsi⟩ : ∃ (r : RowRef) (fr pl : Int), ss.getD i stD = (r, fr, pl) := ⟨_, _, _, rfl⟩
          rw [hsi] at r1 r2 hch
          replace r1 : wr.cell? ⟨gT, i * 3 + 1, none⟩ = some (.int .i64 fi) := r1
          replace r2 : wr.cell? ⟨gT, i * 3 + 2, none⟩ = some (.int .i64 pi) := r2
          have HR1 := Lib.hid (fun (W : World) (hTW : OwnT W w.heap.size gT cT ss) => show W.cell? ⟨gT, i * 3 + 1, none⟩ = some (.int .i64 fi) from by have := (hTW.cell hiS).2.1; rw [hsi] at this; exact this)
          have hneT := hT.ne hox
          have hiI : (i : Int) < (m : Int) := by omega
          rcases hch with ⟨hfi, hnil⟩ | ⟨i', hfi, hlt', hpath⟩
          · replace hfi : fi < 0 := hfi
            have hxr : xs = p.reverse := by rw [← hxp.out, hnil]; simp
            have hrv := Lib.hid (slices_Reverse_any w.heap.size gx mx cx xs wr hxl.out (by rw [hxl.out]; omega) hox)
            have hxrr : xs.reverse = p := by rw [hxr, List.reverse_reverse]
            have Hxrr := Lib.hid hxrr
            have hpl' : p.length = mx := by rw [← hxrr, List.length_reverse]; exact hxl.out
            have Hpl' := Lib.hid hpl'
            clear hxr hxrr hpl' hxp hnil hsi HR1 r2 hT hox
            go_wp2_with fail
            refine hrv.out.mono ?_
            rintro e w7 ⟨rfl, ho7, hg7⟩
            rw [Hxrr.out] at ho7
            have hb7 := hb.grown hg7 hb.size (by intro z hz; cases hz; exact ho7.base)
            go_wp2_with fail
            go_ret2
            rw [Hv.out]
            exact GotIntsB.mk' gx cx Hpl'.out ho7 hb7
          · replace hfi : fi = (i' : Int) := hfi
            replace hpath : (Q.getD i ([], [])).2 = (Q.getD i' ([], [])).2 ++ [pi] := hpath
            subst hfi
            have hxp2 : xs ++ [pi] ++ (Q.getD i' ([], [])).2.reverse = p.reverse := by
              rw [← hxp.out, hpath]; simp
            have Hxp2 := Lib.hid hxp2
            clear hxp2 hpath hsi
            have b0 : (0 : Int) ≤ (i' : Int) := by omega
            go_wp2_with (at_builtin; refine wpList_append_int_n (w := wr) rfl _ _ rfl w.heap.size gx cx mx xs pi hxl.out hox rfl rfl (by omega) ?_)
            intro g7 c7 w7 ho7 hg7 hor7
            have hT7 := hT.grown hg7 hneT hfr.out
            have hb7 : Below w.heap.size w w7 := hb.grown hg7 hb.size (by intro z hz; cases hz; exact hox.base)
            have r17 := HR1.out w7 hT7
            have hfr7 : ∀ s ∈ ss, s.1.1 ≠ g7 := fun s hs e => by
              rcases hor7 with q | q
              · exact hfr.out s hs (e.trans q)
              · have := (hT.2 s hs).lt; omega
            have Hfr7 := Lib.hid hfr7
            have hl7 : Hid ((xs ++ [pi]).length = mx + 1) := Lib.hid (by rw [List.length_append, hxl.out]; rfl)
            clear hT hox hb hg7 hor7 hfr7 r1 r2 hneT
            go_wp2_with fail
            go_roundw
            case rel => exact ⟨i', g7, c7, mx + 1, _, rfl, rfl, by omega, by omega, Hfr7.out, hl7.out, Hxp2.out, hT7, ho7, hb7⟩
            case measure => simp [intOf]; omega
      · rw [decide_eq_false hub] at hE
        have hgn : bpGo c b (120 - k) (k + 1) (bpRow c (u, p) Q (placesL c u).length) = R := by
          rw [← hgo.out, show 121 - k = (120 - k) + 1 by omega, bpGo_next hkQ (by rw [hN]; exact hub), hN]
        have hrow : ∀ t, t ≤ (placesL c u).length → BpOk c n1 (bpRow c (u, p) Q t) ∧ k < (bpRow c (u, p) Q t).length ∧ (bpRow c (u, p) Q t).getD k ([], []) = (u, p) := fun t ht => by
          have := hok.out.row hkQ t (by rw [hN]; exact ht)
          rwa [hN] at this
        have hat : ∀ t, t < (placesL c u).length → (0 ≤ (placesL c u).getD t 0 ∧ (placesL c u).getD t 0 < 16) ∧ (∀ y, (braidA c u ((placesL c u).getD t 0)).getD u = y → y.length = n1 ∧ FewW y) ∧ bpRow c (u, p) Q (t + 1) = bpStep c (u, p) (bpRow c (u, p) Q t) ((placesL c u).getD t 0) := fun t ht => by
          obtain ⟨h1, h2⟩ := placesL_mem (getD_memI ht)
          refine ⟨⟨h1.1, by have := hWu.few; omega⟩, fun y hy => ?_, bpRow_succ ht⟩
          obtain ⟨z, hz⟩ := Option.isSome_iff_exists.1 h2
          rw [hz] at hy
          replace hy : z = y := hy
          subst hy
          exact ⟨by rw [← hul]; exact braidA_length hz, (braidA_ok hWu hz).fewW⟩
        have hplk : p.length ≤ k := hpl
        have Hgn := Lib.hid hgn; have Hrow := Lib.hid hrow; have Hat := Lib.hid hat
        obtain ⟨t, ht⟩ : ∃ t, (placesL c u).length = t := ⟨_, rfl⟩
        have htl : t ≤ 15 := by rw [← ht]; have := placesTo_len c u u.length; have h3 := hWu.few; unfold placesL; omega
        rw [ht] at Hgn Hrow Hat
        have Ht := Lib.hid ht; have Hul := Lib.hid hul
        have kPu := Lib.hid (kP.out u hul); have kBu := Lib.hid (kB.out u hul)
        have Hown := Lib.hid hown
        clear hgn hrow hat hpl hpp hWu hul hN hgo hub ht hown hw hsk e1 hkS hkQ
        go_wp2_with fail
        refine hE.out.mono ?_
        rintro e w5' ⟨rfl, hs5⟩
        have hb5 := below_still hb hs5
        have q15 := (cell_still hs5 _).trans q1
        have hown5 := Hown.out.still hs5
        have hT5 := hT.still hs5; have hM5 := hM.still hs5
        have hPc := Lib.hid (kPu.out w5' gj cj hb5 hcj hown5.lt hown5.cells)
        clear q1 hE hT hM hb hs5 Hown hown5 kPu
        go_wp2_with fail
        refine hPc.out.mono ?_
        rintro e w6' ⟨gL, cL, rfl, hoL, hb6⟩
        rw [Ht.out]
        have hB6 := hb5.trans (hb6.mono hb5.size)
        have hT6 := hT5.below hb6; have hM6 := hM5.below hb6 hM5.lt
        have hoL6 := hoL.mono hb5.size
        clear q15 hT5 hM5 hoL hb5 hb6 hPc hcj
        go_wp2_with fail
        go_loopw [8, 83] (fun lv sv wx => ∃ (s gT cT m : Nat) (ss : List StRef), sv = .int .i64 s ∧ lv = (Value.slice (some ⟨gT, 0, none⟩) m cT) ∧ s ≤ t ∧ m ≤ 120 ∧ Hid (ss.length = m) ∧ Hid ((bpRow c (u, p) Q s).length = m) ∧ Hid (StRel ss (bpRow c (u, p) Q s)) ∧ OwnT wx w.heap.size gT cT ss ∧ SeenW wx bM m (wordsB (bpRow c (u, p) Q s)) ∧ Own wx w.heap.size gL cL (placesL c u) ∧ Below w.heap.size w wx) (fun _ sv _ => t - (intOf sv).toNat)
        case atStart => exact ⟨0, gT, cT, m, ss, rfl, rfl, by omega, hm120, hsl.out, hQl.out, hrel'.out, hT6, hM6, hoL6, hB6⟩
        case round =>
          clear hT6 hM6 hoL6 hB6 hsl hQl hrel' hok
          obtain ⟨s, gT, cT, m, ss, rfl, rfl, hst, hm120, hsl, hQl, hrel', hT, hM, hoL, hb⟩ := hrel
          obtain ⟨hok', hk', hN'⟩ := Hrow.out s hst
          by_cases hlt2 : s < t
          · obtain ⟨ha, hyl, hsucc⟩ := Hat.out s hlt2
            have qn : wr.cell? ⟨gL, s, none⟩ = some (.int .i64 ((placesL c u).getD s 0)) := hoL.cell s (by rw [Ht.out]; exact hlt2)
            have hkS : k < ss.length := by rw [hrel'.out.len]; exact hk'
            have hw := hrel'.out.word k hk'
            rw [hN'] at hw
            obtain ⟨⟨gj, cj, u'⟩, fr, pl, hsk⟩ : ∃ (r : RowRef) (fr pl : Int), ss.getD k stD = (r, fr, pl) := ⟨_, _, _, rfl⟩
            rw [hsk] at hw
            obtain rfl : u = u' := hw.symm
            obtain ⟨q1, -, -⟩ := hT.cell hkS
            rw [hsk] at q1
            have e1 : rowVal (gj, cj, u) = (Value.slice (some ⟨gj, 0, none⟩) n1 cj) := by unfold rowVal; rw [Hul.out]
            rw [show ((gj, cj, u), fr, pl).1 = (gj, cj, u) from rfl, e1] at q1
            have hown := hT.2 _ (OwnT.mem hkS)
            rw [hsk] at hown
            replace hown : Own wr w.heap.size gj cj u := hown
            have hcj : n1 ≤ cj := by have := hown.capLe; rw [Hul.out] at this; exact this
            have hcase := bpStep_cases c (u, p) (bpRow c (u, p) Q s) ((placesL c u).getD s 0)
            rw [← hsucc] at hcase
            have Hpush := Lib.hid (fun (r : RowRef) (x : Int) => hrel'.out.push (r := r) (x := x) hk' hN')
            generalize hQ2 : bpRow c (u, p) Q (s + 1) = Q2 at *
            have HQ2 := Lib.hid hQ2
            generalize bpRow c (u, p) Q s = Q1 at *
            generalize (placesL c u).getD s 0 = x at *
            have kBx := Lib.hid (kBu.out x ha wr gj cj hb hcj hown.lt hown.cells)
            generalize hy : (braidA c u x).getD u = y at *
            obtain ⟨hyl', hfy⟩ := hyl y rfl
            have Hyl := Lib.hid hyl'; have Hfy := Lib.hid hfy
            have kFy := Lib.hid (kF.out y hyl')
            have hkm1 : k < m := by rw [← hQl.out]; exact hk'
            have hknI : (k : Int) < (m : Int) := by omega
            clear hQ2 hy hsucc hyl hyl' hfy hown hsk hw e1 hkS hN' hk' hok'
            go_wp2_with fail
            refine kBx.out.mono ?_
            rintro e wA ⟨gY, cY, rfl, hoY, hbA⟩
            rw [Hyl.out]
            have hBA := hb.trans (hbA.mono hb.size)
            have hTA := hT.below hbA; have hMA := hM.below hbA hM.lt; have hLA := hoL.below hbA hoL.lt
            have hoYA := hoY.mono hb.size
            have hFc := Lib.hid (kFy.out wA _ gY cY hoY)
            clear hb hT hM hoL hbA hoY q1 qn kBx
            go_wp2_with fail
            refine hFc.out.mono ?_
            rintro e wB ⟨rfl, hbB⟩
            have hBB := hBA.trans (hbB.mono hBA.size)
            have hTB := hTA.below hbB; have hMB := hMA.below hbB hMA.lt; have hLB := hLA.below hbB hLA.lt; have hYB := hoYA.below hbB hoYA.lt
            clear hBA hTA hMA hLA hoYA hbB hFc
            by_cases hin : y ∈ wordsB Q1
            · have h2 : Q2 = Q1 := by
                rcases hcase with ⟨h, -⟩ | ⟨-, h, -⟩
                · exact h
                · exact absurd hin h
              have H2 := Lib.hid h2
              have Hd := Lib.hid (decide_eq_true hin)
              clear hcase h2 hin
              go_wp2_with (at_lookup; refine wpList_seenW_look rfl _ _ rfl bM m (wordsB Q1) y Hfy.out hMB rfl rfl true Hd.out ?_)
              rw [← H2.out] at hMB hQl hrel'
              go_roundw
              case rel => exact ⟨s + 1, gT, cT, m, ss, by go_num, rfl, by omega, hm120, hsl.out, by rw [HQ2.out]; exact hQl.out, by rw [HQ2.out]; exact hrel'.out, hTB, by rw [HQ2.out]; exact hMB, hLB, hBB⟩
              case measure => simp [intOf]; omega
            · have Hd := Lib.hid (decide_eq_false hin)
              by_cases hfull : m < 120
              · have h2 : Q2 = Q1 ++ [(y, p ++ [x])] := by
                  rcases hcase with ⟨-, h⟩ | ⟨h, -⟩
                  · rcases h with h | h
                    · exact absurd h hin
                    · have := hQl.out; omega
                  · exact h
                have H2 := Lib.hid h2
                have bm : (m : Int) < 120 := by omega
                have hmn : m < 1048576 := by omega
                clear hcase h2 hin
                go_wp2_with (first | (at_lookup; refine wpList_seenW_look rfl _ _ rfl bM m (wordsB Q1) y Hfy.out hMB rfl rfl false Hd.out ?_) | (at_mapUpdate; refine wpList_seenW_put rfl _ _ _ rfl bM m (wordsB Q1) y Hfy.out hMB hmn rfl rfl rfl ?_))
                intro w8 hM8 hg8
                have hmne : ∀ {z : Nat} {cx : Array Value} {E : TypeId}, wB.heap[z]? = some (.cells cx E (0, 0)) → z ≠ bM := fun h e => hMB.neCells (by rw [← e]; exact h) rfl
                have hT8 : OwnT w8 w.heap.size gT cT ss := hTB.grown hg8 (by obtain ⟨cur, h⟩ := hTB.row; exact hmne h) (fun r hr => by obtain ⟨cur, h⟩ := (hTB.2 r hr).row; exact hmne h)
                have hL8 := hLB.grown hg8 (fun e => by obtain ⟨cur, h⟩ := hLB.row; exact hmne h (Option.some.inj e))
                have hY8 := hYB.grown hg8 (fun e => by obtain ⟨cur, h⟩ := hYB.row; exact hmne h (Option.some.inj e))
                have hB8 : Below w.heap.size w w8 := hBB.grown hg8 hBB.size (by intro z hz; cases hz; exact hbM0)
                clear hMB hTB hLB hYB hBB hg8 hmne
                go_wp2_with (at_builtin; refine wpList_append_step rfl _ _ rfl w.heap.size gT cT m w8.heap.size gY n1 cY ss y (k : Int) x w8 _ hsl.out Hyl.out rfl rfl hT8 hY8 rfl rfl (by omega) ?_)
                intro g9 c9 w9 hT9 hg9 hor9
                have hM9 : SeenW w9 bM (m + 1) (wordsB Q1 ++ [y]) := hM8.same (hg9.block bM hM8.lt (fun e => by obtain ⟨cur, h⟩ := hT8.row; exact hM8.neCells h (Option.some.inj e)))
                have hL9 := hL8.grown hg9 (fun e => hT8.ne hL8 (Option.some.inj e).symm)
                have hB9 : Below w.heap.size w w9 := hB8.grown hg9 hB8.size (by intro z hz; cases hz; exact hT8.base)
                have hrel2 : Hid (StRel (ss ++ [((gY, cY, y), (k : Int), x)]) Q2) := Lib.hid (by rw [H2.out]; exact Hpush.out (gY, cY, y) x)
                have hs2 : Hid ((ss ++ [((gY, cY, y), (k : Int), x)]).length = m + 1) := Lib.hid (by rw [List.length_append, hsl.out]; rfl)
                have hl2 : Hid (Q2.length = m + 1) := Lib.hid (by rw [H2.out, List.length_append, hQl.out]; rfl)
                have hq2 : Hid (wordsB Q2 = wordsB Q1 ++ [y]) := Lib.hid (by rw [H2.out, wordsB_push])
                clear hT8 hM8 hL8 hY8 hB8 hg9 hor9
                go_wp2_with fail
                go_roundw
                case rel => exact ⟨s + 1, g9, c9, m + 1, _, by go_num, rfl, by omega, by omega, hs2.out, by rw [HQ2.out]; exact hl2.out, by rw [HQ2.out]; exact hrel2.out, hT9, by rw [HQ2.out, hq2.out]; exact hM9, hL9, hB9⟩
                case measure => simp [intOf]; omega
              · have h2 : Q2 = Q1 := by
                  rcases hcase with ⟨h, -⟩ | ⟨-, -, h⟩
                  · exact h
                  · have := hQl.out; omega
                have H2 := Lib.hid h2
                have bm : (120 : Int) ≤ (m : Int) := by omega
                clear hcase h2 hin
                go_wp2_with (at_lookup; refine wpList_seenW_look rfl _ _ rfl bM m (wordsB Q1) y Hfy.out hMB rfl rfl false Hd.out ?_)
                rw [← H2.out] at hMB hQl hrel'
                go_roundw
                case rel => exact ⟨s + 1, gT, cT, m, ss, by go_num, rfl, by omega, hm120, hsl.out, by rw [HQ2.out]; exact hQl.out, by rw [HQ2.out]; exact hrel'.out, hTB, by rw [HQ2.out]; exact hMB, hLB, hBB⟩
                case measure => simp [intOf]; omega
          · obtain rfl : s = t := by omega
            have hkm1 : k < m := by rw [← hQl.out]; exact hk'
            have Hok := Lib.hid hok'
            clear hk' hN' hoL
            go_wp2_with fail
            go_roundw
            case rel => exact ⟨k + 1, gT, cT, m, ss, _, by go_num, rfl, by omega, hm120, hsl.out, hQl.out, hrel'.out, Hok.out, by rw [show 121 - (k + 1) = 120 - k by omega]; exact Hgn.out, hT, hM, hb⟩
            case measure => simp [intOf]; omega
    · obtain rfl : k = m := by omega
      have hv : R = none := by rw [← hgo.out]; exact bpGo_done (by rw [hQl.out]; exact Nat.le_refl _)
      have Hv := Lib.hid hv
      clear hv hgo
      go_wp2_with fail
      go_ret2
      rw [Hv.out]
      exact ⟨_, 0, rfl, Own.empty hb.size, hb.alloc hb.size _⟩
end Go.Proofs.YtkjglfafphffiaaGreatDoor
