/- The reference's images, normal forms, concatenations, and lists of words: contracts. The reference's insertion into a list of words: contract. The reference's levels of elements: contract. The size that the type's name tells is the number of elements, where it is at most 200: the kernel's enumeration. Plain law. The kernel's enumeration of sizes, part 1. The kernel's enumeration of sizes, part 2. The kernel's enumeration of sizes, part 3. The kernel's enumeration of sizes, part 4. The kernel's enumeration of sizes, part 5. Every finite type: the size told by its name is at least 1, and, if it is at most 200, the number of its elements; its columns are independent. Plain law. Where the program's elements by length stand. Plain law. (Split off BallI.) -/
import Derived.Test.YtnpechcnmchneaaGreatDoorG21
import Derived.Test.YtnpechcnmchneaaGreatDoorG02
import Derived.Test.YtnpechcnmchneaaGreatDoorG23
import Derived.Test.YtnpechcnmchneaaGreatDoorG08
import Derived.Test.YtnpechcnmchneaaGreatDoorG05
import Derived.Test.YtnpechcnmchneaaGreatDoorG20
namespace Go.Proofs.YtnpechcnmchneaaGreatDoor
set_option maxRecDepth 100000
open Go.RowKit Game

set_option maxHeartbeats 2000000 in
theorem spec_l8Image_any (gc oc n cc g1 o1 n1 c1 : Nat) (c : List (List Int)) (l : List Int) (w : World) (hn : c.length = n) (hn1 : l.length = n1) (hC : IsC c) (hl : l.length ≤ 1048576)
    (hin : ∀ k, k < l.length → 0 ≤ l.getD k 0 ∧ l.getD k 0 < c.length) (hgc : gc < w.heap.size) (hg1 : g1 < w.heap.size) (hr : Rows2 w gc oc c) (hc1 : Cells w g1 o1 l) :
    Calls Tryz.prog 165 #[(Value.slice (some ⟨gc, oc, none⟩) n cc), (Value.slice (some ⟨g1, o1, none⟩) n1 c1)] w (GotInts w (actW c l (onesL c.length))) := by
  subst hn; subst hn1
  have hn4 := hC.2.1
  have ew : IntKind.i64.wrap ((l.length : Int) - 1) = (l.length : Int) - 1 := IntWalk.i64_in _ (by omega)
  go_enter Tryz.func165, Tryz.ntmps165
  go_wp2_with fail
  refine (spec_RhoOf_ok gc oc _ cc c w rfl hC hgc hr).mono ?_
  rintro e w1 ⟨gv, cv, rfl, ho1, hb1⟩
  rw [onesL_length]
  go_wp2_with fail
  clear ew
  go_loopw [5, 6] (fun s i wr => ∃ (k : Nat) (j : Int) (gv cv : Nat), k ≤ l.length ∧ i = .int .i64 j ∧ j = (k : Int) - 1 ∧ s = (Value.slice (some ⟨gv, 0, none⟩) c.length cv) ∧ Own wr w.heap.size gv cv (actW c (l.drop k) (onesL c.length)) ∧ Below w.heap.size w wr) (fun _ i _ => (intOf i + 1).toNat)
  case atStart => exact ⟨l.length, _, gv, cv, Nat.le_refl _, rfl, rfl, rfl, by rw [List.drop_length]; exact ho1, hb1⟩
  case round =>
    obtain ⟨k, j, gv, cv, hk, rfl, hj, rfl, ho, hb⟩ := hrel
    by_cases hlt : 0 < k
    · obtain ⟨t, rfl⟩ : ∃ t, k = t + 1 := ⟨k - 1, by omega⟩
      obtain rfl : j = (t : Int) := by omega
      have htl : t < l.length := by omega
      have q1 := hc1.below hb hg1 t htl
      have hit := hin t htl
      have hd := actW_drop c l (onesL c.length) t htl
      obtain ⟨iN, hiN⟩ : ∃ iN : Nat, l.getD t 0 = iN := ⟨(l.getD t 0).toNat, by omega⟩
      rw [hiN] at q1 hit hd
      rw [Int.toNat_natCast] at hd
      have hic : iN < c.length := by omega
      have hal : (actW c (l.drop (t + 1)) (onesL c.length)).length = c.length := by rw [actW_length]; exact onesL_length _
      have hcall := spec_l6Reflect_any gc oc _ cc gv 0 c.length cv iN c (actW c (l.drop (t + 1)) (onesL c.length)) wr rfl hal (by rw [hal]; exact Nat.le_refl _) hn4 hC.2.2.1 (by rw [hal]; exact hic) (Nat.lt_of_lt_of_le hgc hb.size) ho.lt (hr.below hb hgc) ho.cells
      have Hcall := Lib.hid hcall; have Hd := Lib.hid hd
      clear hcall hd hiN hal hit
      clear hj
      go_wp2_with fail
      refine Hcall.out.mono ?_
      rintro e w2 ⟨g2, c2, rfl, ho2, hb2⟩
      rw [← Hd.out] at ho2
      have hl2 : (actW c (l.drop t) (onesL c.length)).length = c.length := by rw [actW_length]; exact onesL_length _
      have e2 : (refl c iN (actW c (List.drop (t + 1) l) (onesL c.length))).length = c.length := by rw [refl_length, actW_length]; exact onesL_length _
      rw [e2]
      clear e2 hl2
      go_wp2_with fail
      go_roundw
      case rel =>
        exact ⟨t, (t : Int) - 1, g2, c2, by omega, by go_num, rfl, rfl, ho2.mono hb.size, hb.trans (hb2.mono hb.size)⟩
      case measure => simp [intOf]
    · obtain rfl : k = 0 := by omega
      obtain rfl : j = -1 := by omega
      clear hj
      go_wp2
      go_ret
      exact GotInts.mk' gv cv (by rw [actW_length]; exact onesL_length _) ho hb

set_option maxHeartbeats 2000000 in
theorem spec_l8Normal_any (gc oc n cc g1 o1 n1 c1 : Nat) (c : List (List Int)) (l word : List Int) (w : World) (hn : c.length = n) (hn1 : l.length = n1) (hC : IsC c) (hl : l.length ≤ 1048576)
    (hin : ∀ k, k < l.length → 0 ≤ l.getD k 0 ∧ l.getD k 0 < c.length) (hword : normG c 30 (actW c l (onesL c.length)) = some word) (hgc : gc < w.heap.size) (hg1 : g1 < w.heap.size) (hr : Rows2 w gc oc c) (hc1 : Cells w g1 o1 l) :
    Calls Tryz.prog 135 #[(Value.slice (some ⟨gc, oc, none⟩) n cc), (Value.slice (some ⟨g1, o1, none⟩) n1 c1)] w (GotInts w word) := by
  subst hn; subst hn1
  go_enter Tryz.func135, Tryz.ntmps135
  go_wp2_with fail
  refine (spec_l8Image_any gc oc _ cc g1 o1 _ c1 c l w rfl rfl hC hl hin hgc hg1 hr hc1).mono ?_
  rintro e w1 ⟨gv, cv, rfl, ho1, hb1⟩
  have hal : (actW c l (onesL c.length)).length = c.length := by rw [actW_length]; exact onesL_length _
  rw [hal]
  have Hal := Lib.hid hal; clear hal
  go_wp2_with fail
  refine (spec_l8Form_any gc oc _ cc gv 0 c.length cv 30 c (actW c l (onesL c.length)) word w1 rfl Hal.out hC Hal.out (by omega) hword (Nat.lt_of_lt_of_le hgc hb1.size) ho1.lt (hr.below hb1 hgc) ho1.cells).mono ?_
  rintro e w2 ⟨g2, c2, rfl, ho2, hb2⟩
  go_wp2_with fail
  go_ret
  exact ⟨g2, c2, rfl, ho2.mono hb1.size, hb1.trans (hb2.mono hb1.size)⟩

set_option maxHeartbeats 1000000 in
theorem spec_ConcatWords_any (g1 o1 n1 c1 g2 o2 n2 c2 : Nat) (xs ys : List Int) (w : World) (hn1 : xs.length = n1) (hn2 : ys.length = n2) (hx : xs.length ≤ 1048576) (hy : ys.length ≤ 1048576)
    (hg1 : g1 < w.heap.size) (hg2 : g2 < w.heap.size) (hc1 : Cells w g1 o1 xs) (hc2 : Cells w g2 o2 ys) :
    Calls Tryz.prog 136 #[(Value.slice (some ⟨g1, o1, none⟩) n1 c1), (Value.slice (some ⟨g2, o2, none⟩) n2 c2)] w (GotInts w (xs ++ ys)) := by
  subst hn1; subst hn2
  go_enter Tryz.func136, Tryz.ntmps136
  go_wp2_with (at_builtin; refine wpList_clone rfl _ _ rfl g1 o1 _ c1 xs rfl hg1 hc1 rfl rfl (by omega) ?_)
  intro g3 c3 w3 ho3 hb3
  go_wp2_with (at_builtin; refine wpList_append_ints rfl _ _ rfl w.heap.size g3 c3 xs ho3 g2 o2 c2 ys (hc2.below hb3 hg2) rfl rfl (by omega) ?_)
  intro g4 c4 w4 ho4 hg4 hor
  go_wp2_with fail
  go_ret
  exact GotInts.mk' g4 c4 (by simp) ho4 (hb3.grown hg4 hb3.size (by intro j hj; cases hj; exact ho3.base))

end Go.Proofs.YtnpechcnmchneaaGreatDoor
namespace Go.Proofs.YtnpechcnmchneaaGreatDoor
set_option maxRecDepth 100000
open Go.RowKit Game

theorem wordCmp_vals (a b : List Int) : wordCmp a b = -1 ∨ wordCmp a b = 0 ∨ wordCmp a b = 1 := by
  have hl : ∀ a b : List Int, lexCmp a b = -1 ∨ lexCmp a b = 0 ∨ lexCmp a b = 1 := by
    intro a
    induction a with
    | nil => intro b; simp [lexCmp]
    | cons x a ih =>
      intro b
      cases b with
      | nil => simp [lexCmp]
      | cons y b =>
        simp only [lexCmp]
        split
        · simp
        · split
          · simp
          · exact ih b
  unfold wordCmp
  split
  · simp
  · split
    · simp
    · exact hl a b

theorem putL_eq {x word : List Int} {l : List (List Int)} (h : wordCmp word x = 0) : putL (x :: l) word = x :: l := by
  have := wordCmp_zero h; simp [putL, this]
theorem putL_lt {x word : List Int} {l : List (List Int)} (h : wordCmp word x = -1) : putL (x :: l) word = word :: x :: l := by
  have : word ≠ x := by intro e; subst e; rw [wordCmp_self] at h; omega
  simp [putL, this, h]
theorem putL_gt {x word : List Int} {l : List (List Int)} (h : wordCmp word x = 1) : putL (x :: l) word = x :: putL l word := by
  have : word ≠ x := by intro e; subst e; rw [wordCmp_self] at h; omega
  simp [putL, this, h]

set_option maxHeartbeats 4000000 in
theorem spec_l11Put_any (B0 g cap n g1 o1 n1 c1 : Nat) (rs : List RowRef) (word : List Int) (w : World) (hn : rs.length = n) (hn1 : word.length = n1) (hl : rs.length ≤ 1000000) (hwl : word.length ≤ 1048576)
    (ho : OwnRows w B0 g cap rs) (hg1 : g1 < w.heap.size) (hc1 : Cells w g1 o1 word) :
    Calls Tryz.prog 138 #[(Value.slice (some ⟨g, 0, none⟩) n cap), (Value.slice (some ⟨g1, o1, none⟩) n1 c1)] w (GotPut w B0 (putL (contents rs) word)) := by
  subst hn; subst hn1
  have hB0 : B0 ≤ w.heap.size := by have := ho.base; have := ho.lt; omega
  have hg := ho.lt
  go_enter Tryz.func138, Tryz.ntmps138
  go_wp2
  go_loopw [5, 6, 7, 8] (fun ov pv iv _ wr => ∃ (i p g' c' : Nat) (acc : List RowRef) (pl : Bool), i ≤ rs.length ∧ iv = .int .i64 i ∧ pv = .bool pl ∧ ov = (Value.slice (some ⟨g', 0, none⟩) p c') ∧ Hid (acc.length = p) ∧ p ≤ i + 1 ∧ Hid (PutSt (fun l => putL l word) w.heap.size rs i acc pl) ∧ OwnRows wr B0 g' c' acc ∧ w.heap.size ≤ g' ∧ Below w.heap.size w wr) (fun _ _ iv _ _ => rs.length - (intOf iv).toNat)
  case atStart =>
    exact ⟨0, 0, w.heap.size, 0, [], false, Nat.zero_le _, rfl, rfl, rfl, rfl, by omega, PutSt.start, OwnRows.empty hB0, Nat.le_refl _, (Below.refl _ _).alloc (Nat.le_refl _) _⟩
  case round =>
    obtain ⟨i, p, g', c', acc, pl, hi, rfl, rfl, rfl, hp, hpi, hst, hO, hgn, hb⟩ := hrel
    by_cases hlt : i < rs.length
    · have hm : rs[i] ∈ rs := List.getElem_mem hlt
      have hoi := ho.2.1 _ hm
      have hneI := hst.out.ne ho.2.2 hlt hoi.lt
      have hq : wr.cell? ⟨g, i, none⟩ = some (rowVal rs[i]) := by
        rw [hb.cell (p := ⟨g, i, none⟩) hg, ho.1.cell i (by simpa using hlt)]; simp
      have HS : ∀ (new : List RowRef) (pl' : Bool), (∀ s ∈ new, w.heap.size ≤ s.1) → acc.length + new.length ≤ i + 1 → (pl' = false → pl = false ∧ new = []) → (if pl then contents (rs.drop i) else putL (contents (rs.drop i)) word) = contents new ++ rs[i].2.2 :: (if pl' then contents (rs.drop (i + 1)) else putL (contents (rs.drop (i + 1))) word) → PutSt (fun l => putL l word) w.heap.size rs (i + 1) (acc ++ new ++ [rs[i]]) pl' :=
        fun new pl' h1 h2 h3 h4 => hst.out.step hlt new pl' h1 h2 h3 h4
      have HS' := Lib.hid HS
      have hcd := contents_drop rs hlt
      have Hcd := Lib.hid hcd
      have hlen := hst.out.lenF
      have Hlen := Lib.hid hlen
      clear HS hcd hlen
      generalize rs[i] = r at *
      obtain ⟨bi, ci, xi⟩ := r
      have hq' : wr.cell? ⟨g, i, none⟩ = some (Value.slice (some ⟨bi, 0, none⟩) xi.length ci) := hq
      have hoi' : Own wr B0 bi ci xi := hoi.below hb hoi.lt
      have hcall := spec_CompareWords_any g1 o1 word.length c1 bi 0 xi.length ci word xi wr rfl rfl (by omega) (hc1.below hb hg1) hoi'.cells
      have HneI := Lib.hid hneI
      have hbi : bi < w.heap.size := hoi.lt
      have hpl : p ≤ i + 1 := hpi
      have Ho := Lib.hid ho
      have Hst := Lib.hid hst
      clear hq hoi hm hneI ho hst
      rcases wordCmp_vals word xi with hv | hv | hv
      · rw [hv] at hcall
        have Hcall := Lib.hid hcall
        have Hv := Lib.hid hv
        clear hcall hv
        cases pl with
        | false =>
          have hpi : p ≤ i := by have := Hlen.out rfl; have := hp.out; omega
          clear Hlen
          go_wp2_with fail
          refine Hcall.out.mono ?_
          rintro e w2 ⟨rfl, hs2⟩
          have hq9 : w2.cell? ⟨g, i, none⟩ = some (Value.slice (some ⟨bi, 0, none⟩) xi.length ci) := (cell_still hs2 _).trans hq'
          have hB9 := below_still hb hs2
          have hO9 := hO.still hs2
          have hoi9 := hoi'.still hs2
          have hgn9 := hgn
          clear hb hO hoi' hq' Hcall hs2
          go_wp2_with (at_builtin; refine wpList_clone (w := w2) rfl _ _ rfl g1 o1 _ c1 word rfl (Nat.lt_of_lt_of_le hg1 hB9.size) (hc1.below hB9 hg1) rfl rfl (by omega) ?_)
          intro g3 c3 w3 ho3 hb3
          have hB3 : Below w.heap.size w w3 := hB9.trans (hb3.mono hB9.size)
          have hO3 : OwnRows w3 B0 g' c' acc := hO9.below hb3
          have hne3 : ∀ s ∈ acc, s.1 ≠ g3 := fun s hs e => by
            have h1 := (hO9.2.1 s hs).lt
            have h2 := ho3.base
            omega
          have hg3 : w.heap.size ≤ g3 := by have := ho3.base; have := hB9.size; omega
          have ho3' : Own w3 B0 g3 c3 word := ho3.mono (by have := hB9.size; omega)
          have hoi3 : Own w3 B0 bi ci xi := hoi9.below hb3 hoi9.lt
          have hq3 : w3.cell? ⟨g, i, none⟩ = some (Value.slice (some ⟨bi, 0, none⟩) xi.length ci) := (hb3.cell (p := ⟨g, i, none⟩) (Nat.lt_of_lt_of_le hg hB9.size)).trans hq9
          clear hq9 hoi9 hO9 hB9 hb3
          go_wp2_with (at_builtin; refine wpList_append_row rfl _ _ rfl B0 g' c' p w3.heap.size acc (g3, c3, word) _ hp.out rfl rfl hO3 ho3' hne3 rfl rfl (by omega) ?_)
          intro g4 c4 w4 hO9 hg4 hor4
          have hB9 : Below w.heap.size w w4 := hB3.grown hg4 hB3.size (by intro j hj; cases hj; exact hgn)
          have hoi9 : Own w4 B0 bi ci xi := hoi3.grown hg4 (fun e => hO3.1.ne hoi3.toV (by decide) (Option.some.inj e).symm)
          have hgn9 : w.heap.size ≤ g4 := by
            rcases hor4 with h | h
            · omega
            · have := hB3.size; omega
          have hq9 : w4.cell? ⟨g, i, none⟩ = some (Value.slice (some ⟨bi, 0, none⟩) xi.length ci) := hg4.cell (a := ⟨g, i, none⟩) hq3 (by simp; omega)
          have hne9 : ∀ s ∈ acc ++ [(g3, c3, word)], s.1 ≠ bi := fun s hs => by
            rcases List.mem_append.1 hs with h | h
            · exact HneI.out s h
            · simp at h; subst h; show g3 ≠ bi; omega
          have hl9 : (acc ++ [(g3, c3, word)]).length = p + 1 := by rw [List.length_append, hp.out]; rfl
          have Hl9 := Lib.hid hl9
          clear hq3 hoi3 hO3 hB3 hg4 hor4 ho3 ho3' hne3 hl9
          go_wp2_with (at_builtin; refine wpList_append_row rfl _ _ rfl B0 g4 _ (p + 1) w4.heap.size (acc ++ [(g3, c3, word)]) (bi, ci, xi) _ Hl9.out rfl rfl hO9 hoi9 hne9 rfl rfl (by omega) ?_)
          intro g5 c5 w5 hO5 hg5 hor5
          have hB5 : Below w.heap.size w w5 := hB9.grown hg5 hB9.size (by intro j hj; cases hj; exact hgn9)
          have hg5n : w.heap.size ≤ g5 := by
            rcases hor5 with h | h
            · omega
            · have := hB9.size; omega
          go_wp2
          go_roundw
          case rel =>
            refine ⟨i + 1, p + 1 + 1, g5, c5, acc ++ [(g3, c3, word), (bi, ci, xi)], true, by omega, by go_num, by first | rfl | trivial, by first | rfl | trivial, ?_, by omega, ?_, hO5, hg5n, hB5⟩
            · show _ = _
              have := Hl9.out
              simp at this ⊢; omega
            · show PutSt _ _ _ _ _ _
              have := HS'.out [(g3, c3, word)] true (by intro s hs; simp at hs; subst hs; exact hg3) (by rw [hp.out]; simpa using hpi) (by intro e; simp at e) (by simp only [if_true]; rw [Hcd.out]; exact (putL_lt Hv.out)); simpa using this
          case measure => simp [intOf]; omega
        | true =>
          clear Hlen
          go_wp2_with fail
          refine Hcall.out.mono ?_
          rintro e w2 ⟨rfl, hs2⟩
          have hq9 : w2.cell? ⟨g, i, none⟩ = some (Value.slice (some ⟨bi, 0, none⟩) xi.length ci) := (cell_still hs2 _).trans hq'
          have hB9 := below_still hb hs2
          have hO9 := hO.still hs2
          have hoi9 := hoi'.still hs2
          have hgn9 := hgn
          clear hb hO hoi' hq' Hcall hs2
          have hne9 := HneI.out
          go_wp2_with (at_builtin; refine wpList_append_row rfl _ _ rfl B0 g' _ (p) w2.heap.size (acc) (bi, ci, xi) _ hp.out rfl rfl hO9 hoi9 hne9 rfl rfl (by omega) ?_)
          intro g5 c5 w5 hO5 hg5 hor5
          have hB5 : Below w.heap.size w w5 := hB9.grown hg5 hB9.size (by intro j hj; cases hj; exact hgn9)
          have hg5n : w.heap.size ≤ g5 := by
            rcases hor5 with h | h
            · omega
            · have := hB9.size; omega
          go_wp2
          go_roundw
          case rel =>
            refine ⟨i + 1, p + 1, g5, c5, acc ++ [(bi, ci, xi)], true, by omega, by go_num, by first | rfl | trivial, by first | rfl | trivial, ?_, by omega, ?_, hO5, hg5n, hB5⟩
            · show _ = _
              have := hp.out
              simp at this ⊢; omega
            · show PutSt _ _ _ _ _ _
              have := HS'.out [] true (by simp) (by rw [hp.out]; simpa using hpl) (by simp) (by simp only [if_true]; rw [Hcd.out]; rfl); simpa using this
          case measure => simp [intOf]; omega
      · rw [hv] at hcall
        have Hcall := Lib.hid hcall
        have Hv := Lib.hid hv
        clear hcall hv
        cases pl with
        | false =>
          have hpi : p ≤ i := by have := Hlen.out rfl; have := hp.out; omega
          clear Hlen
          go_wp2_with fail
          refine Hcall.out.mono ?_
          rintro e w2 ⟨rfl, hs2⟩
          have hq9 : w2.cell? ⟨g, i, none⟩ = some (Value.slice (some ⟨bi, 0, none⟩) xi.length ci) := (cell_still hs2 _).trans hq'
          have hB9 := below_still hb hs2
          have hO9 := hO.still hs2
          have hoi9 := hoi'.still hs2
          have hgn9 := hgn
          clear hb hO hoi' hq' Hcall hs2
          have hne9 := HneI.out
          go_wp2_with (at_builtin; refine wpList_append_row rfl _ _ rfl B0 g' _ (p) w2.heap.size (acc) (bi, ci, xi) _ hp.out rfl rfl hO9 hoi9 hne9 rfl rfl (by omega) ?_)
          intro g5 c5 w5 hO5 hg5 hor5
          have hB5 : Below w.heap.size w w5 := hB9.grown hg5 hB9.size (by intro j hj; cases hj; exact hgn9)
          have hg5n : w.heap.size ≤ g5 := by
            rcases hor5 with h | h
            · omega
            · have := hB9.size; omega
          go_wp2
          go_roundw
          case rel =>
            refine ⟨i + 1, p + 1, g5, c5, acc ++ [(bi, ci, xi)], true, by omega, by go_num, by first | rfl | trivial, by first | rfl | trivial, ?_, by omega, ?_, hO5, hg5n, hB5⟩
            · show _ = _
              have := hp.out
              simp at this ⊢; omega
            · show PutSt _ _ _ _ _ _
              have := HS'.out [] true (by simp) (by rw [hp.out]; simpa using hpl) (by simp) (by simp only [if_true]; rw [Hcd.out]; exact (putL_eq Hv.out)); simpa using this
          case measure => simp [intOf]; omega
        | true =>
          clear Hlen
          go_wp2_with fail
          refine Hcall.out.mono ?_
          rintro e w2 ⟨rfl, hs2⟩
          have hq9 : w2.cell? ⟨g, i, none⟩ = some (Value.slice (some ⟨bi, 0, none⟩) xi.length ci) := (cell_still hs2 _).trans hq'
          have hB9 := below_still hb hs2
          have hO9 := hO.still hs2
          have hoi9 := hoi'.still hs2
          have hgn9 := hgn
          clear hb hO hoi' hq' Hcall hs2
          have hne9 := HneI.out
          go_wp2_with (at_builtin; refine wpList_append_row rfl _ _ rfl B0 g' _ (p) w2.heap.size (acc) (bi, ci, xi) _ hp.out rfl rfl hO9 hoi9 hne9 rfl rfl (by omega) ?_)
          intro g5 c5 w5 hO5 hg5 hor5
          have hB5 : Below w.heap.size w w5 := hB9.grown hg5 hB9.size (by intro j hj; cases hj; exact hgn9)
          have hg5n : w.heap.size ≤ g5 := by
            rcases hor5 with h | h
            · omega
            · have := hB9.size; omega
          go_wp2
          go_roundw
          case rel =>
            refine ⟨i + 1, p + 1, g5, c5, acc ++ [(bi, ci, xi)], true, by omega, by go_num, by first | rfl | trivial, by first | rfl | trivial, ?_, by omega, ?_, hO5, hg5n, hB5⟩
            · show _ = _
              have := hp.out
              simp at this ⊢; omega
            · show PutSt _ _ _ _ _ _
              have := HS'.out [] true (by simp) (by rw [hp.out]; simpa using hpl) (by simp) (by simp only [if_true]; rw [Hcd.out]; rfl); simpa using this
          case measure => simp [intOf]; omega
      · rw [hv] at hcall
        have Hcall := Lib.hid hcall
        have Hv := Lib.hid hv
        clear hcall hv
        cases pl with
        | false =>
          have hpi : p ≤ i := by have := Hlen.out rfl; have := hp.out; omega
          clear Hlen
          go_wp2_with fail
          refine Hcall.out.mono ?_
          rintro e w2 ⟨rfl, hs2⟩
          have hq9 : w2.cell? ⟨g, i, none⟩ = some (Value.slice (some ⟨bi, 0, none⟩) xi.length ci) := (cell_still hs2 _).trans hq'
          have hB9 := below_still hb hs2
          have hO9 := hO.still hs2
          have hoi9 := hoi'.still hs2
          have hgn9 := hgn
          clear hb hO hoi' hq' Hcall hs2
          have hne9 := HneI.out
          go_wp2_with (at_builtin; refine wpList_append_row rfl _ _ rfl B0 g' _ (p) w2.heap.size (acc) (bi, ci, xi) _ hp.out rfl rfl hO9 hoi9 hne9 rfl rfl (by omega) ?_)
          intro g5 c5 w5 hO5 hg5 hor5
          have hB5 : Below w.heap.size w w5 := hB9.grown hg5 hB9.size (by intro j hj; cases hj; exact hgn9)
          have hg5n : w.heap.size ≤ g5 := by
            rcases hor5 with h | h
            · omega
            · have := hB9.size; omega
          go_wp2
          go_roundw
          case rel =>
            refine ⟨i + 1, p + 1, g5, c5, acc ++ [(bi, ci, xi)], false, by omega, by go_num, by first | rfl | trivial, by first | rfl | trivial, ?_, by omega, ?_, hO5, hg5n, hB5⟩
            · show _ = _
              have := hp.out
              simp at this ⊢; omega
            · show PutSt _ _ _ _ _ _
              have := HS'.out [] false (by simp) (by rw [hp.out]; simpa using hpl) (by simp) (by rw [Hcd.out]; exact (putL_gt Hv.out)); simpa using this
          case measure => simp [intOf]; omega
        | true =>
          clear Hlen
          go_wp2_with fail
          refine Hcall.out.mono ?_
          rintro e w2 ⟨rfl, hs2⟩
          have hq9 : w2.cell? ⟨g, i, none⟩ = some (Value.slice (some ⟨bi, 0, none⟩) xi.length ci) := (cell_still hs2 _).trans hq'
          have hB9 := below_still hb hs2
          have hO9 := hO.still hs2
          have hoi9 := hoi'.still hs2
          have hgn9 := hgn
          clear hb hO hoi' hq' Hcall hs2
          have hne9 := HneI.out
          go_wp2_with (at_builtin; refine wpList_append_row rfl _ _ rfl B0 g' _ (p) w2.heap.size (acc) (bi, ci, xi) _ hp.out rfl rfl hO9 hoi9 hne9 rfl rfl (by omega) ?_)
          intro g5 c5 w5 hO5 hg5 hor5
          have hB5 : Below w.heap.size w w5 := hB9.grown hg5 hB9.size (by intro j hj; cases hj; exact hgn9)
          have hg5n : w.heap.size ≤ g5 := by
            rcases hor5 with h | h
            · omega
            · have := hB9.size; omega
          go_wp2
          go_roundw
          case rel =>
            refine ⟨i + 1, p + 1, g5, c5, acc ++ [(bi, ci, xi)], true, by omega, by go_num, by first | rfl | trivial, by first | rfl | trivial, ?_, by omega, ?_, hO5, hg5n, hB5⟩
            · show _ = _
              have := hp.out
              simp at this ⊢; omega
            · show PutSt _ _ _ _ _ _
              have := HS'.out [] true (by simp) (by rw [hp.out]; simpa using hpl) (by simp) (by simp only [if_true]; rw [Hcd.out]; rfl); simpa using this
          case measure => simp [intOf]; omega
    · obtain rfl : i = rs.length := by omega
      cases pl with
      | true =>
        go_wp2_with fail
        go_ret
        have hd := hst.out.done
        exact GotPut.mk' g' c' acc hp.out hd hO hgn hb
      | false =>
        go_wp2_with (at_builtin; refine wpList_clone (w := wr) rfl _ _ rfl g1 o1 _ c1 word rfl (Nat.lt_of_lt_of_le hg1 hb.size) (hc1.below hb hg1) rfl rfl (by omega) ?_)
        intro g3 c3 w3 ho3 hb3
        have hB3 : Below w.heap.size w w3 := hb.trans (hb3.mono hb.size)
        have hO3 : OwnRows w3 B0 g' c' acc := hO.below hb3
        have hne3 : ∀ s ∈ acc, s.1 ≠ g3 := fun s hs e => by
          have h1 := (hO.2.1 s hs).lt
          have h2 := ho3.base
          omega
        have ho3' : Own w3 B0 g3 c3 word := ho3.mono (by have := hb.size; omega)
        go_wp2_with (at_builtin; refine wpList_append_row rfl _ _ rfl B0 g' c' p w3.heap.size acc (g3, c3, word) _ hp.out rfl rfl hO3 ho3' hne3 rfl rfl (by omega) ?_)
        intro g4 c4 w4 hO4 hg4 hor4
        have hB4 : Below w.heap.size w w4 := hB3.grown hg4 hB3.size (by intro j hj; cases hj; exact hgn)
        have hg4n : w.heap.size ≤ g4 := by
          rcases hor4 with h | h
          · omega
          · have := hB3.size; omega
        go_wp2_with fail
        go_ret
        have hd := hst.out.last (g3, c3, word) rfl
        exact GotPut.mk' g4 c4 (acc ++ [(g3, c3, word)]) (by rw [List.length_append, hp.out]; rfl) hd hO4 hg4n hB4
end Go.Proofs.YtnpechcnmchneaaGreatDoor
namespace Go.Proofs.YtnpechcnmchneaaGreatDoor
set_option maxRecDepth 100000
open Go.RowKit Game

theorem infoLev : (Tryz.prog.info? 22).map (fun i => (i.zero, i.size, i.bytes)) = some (some (.slice none 0 0), 1, 24) := by kernel_rfl

/-- a list of lists of rows, of the call's own -/
abbrev LevRef := Nat × Nat × List RowRef
def levVal (L : LevRef) : Value := (Value.slice (some ⟨L.1, 0, none⟩) L.2.2.length L.2.1)
def OwnLevs (w : World) (B g cap : Nat) (Ls : List LevRef) : Prop := OwnV w B 22 g cap (Ls.map levVal) ∧ ∀ L ∈ Ls, OwnRows w B L.1 L.2.1 L.2.2
def levCont (Ls : List LevRef) : List (List (List Int)) := Ls.map fun L => contents L.2.2
section
variable {w w' : World} {B g cap : Nat} {Ls : List LevRef}
theorem OwnLevs.lt (h : OwnLevs w B g cap Ls) : g < w.heap.size := h.1.lt
theorem OwnLevs.below (h : OwnLevs w B g cap Ls) (hb : Below w.heap.size w w') : OwnLevs w' B g cap Ls := ⟨h.1.below hb h.1.lt, fun L hL => (h.2 L hL).below hb⟩
theorem OwnLevs.mono {B' : Nat} (h : OwnLevs w B g cap Ls) (hB : B' ≤ B) : OwnLevs w B' g cap Ls := ⟨h.1.mono hB, fun L hL => (h.2 L hL).mono hB⟩
theorem OwnRows.grownT {g' cap' : Nat} {rs : List RowRef} {vs : List Value} {E : TypeId} (h : OwnRows w B g cap rs) (ho : OwnV w B E g' cap' vs) (h1 : E ≠ 28) (h2 : E ≠ 3) (hg : w.grownBy w' (some g')) : OwnRows w' B g cap rs :=
  ⟨h.1.grown hg (fun e => ho.ne h.1 h1 (Option.some.inj e).symm), fun r hr => (h.2.1 r hr).grown hg (fun e => ho.ne (h.2.1 r hr).toV h2 (Option.some.inj e).symm), h.2.2⟩
end

/-- how many elements up to this length -/
def tot (c : List (List Int)) : Nat → Nat
  | 0 => 1
  | n + 1 => tot c n + (levS c (n + 1)).length
/-- the last length that is told of -/
def depthG (c : List (List Int)) : Nat → Nat → Nat
  | 0, n => n
  | f + 1, n => if levS c (n + 1) = [] ∨ 200 < tot c (n + 1) then n else depthG c f (n + 1)
def levsTo (c : List (List Int)) (m : Nat) : List (List (List Int)) := (List.range (m + 1)).map (levS c)
theorem levsTo_succ (c : List (List Int)) (m : Nat) : levsTo c (m + 1) = levsTo c m ++ [levS c (m + 1)] := by unfold levsTo; rw [List.range_succ, List.map_append]; rfl
theorem levsTo_length (c : List (List Int)) (m : Nat) : (levsTo c m).length = m + 1 := by simp [levsTo]
theorem levsTo_getD (c : List (List Int)) (m k : Nat) (hk : k ≤ m) : (levsTo c m).getD k [] = levS c k := by simp [levsTo, List.getD, show k < m + 1 by omega]
theorem stepL_len (c : List (List Int)) (n : Nat) (W : List Int) (nx : List (List Int)) (i : Nat) : (stepL c n W nx i).length ≤ nx.length + 1 := by
  have hp : ∀ (l : List (List Int)) (w : List Int), (putL l w).length ≤ l.length + 1 := by
    intro l w
    induction l with
    | nil => simp [putL]
    | cons x l ih => simp only [putL]; split; · simp
                     split; · simp
                     simp; omega
  unfold stepL; split
  · exact hp _ _
  · omega
theorem rowTo_len (c : List (List Int)) (n : Nat) (W : List Int) (nx : List (List Int)) : ∀ k, (rowTo c n W nx k).length ≤ nx.length + k
  | 0 => by simp [rowTo]
  | k + 1 => by rw [rowTo_succ]; have := stepL_len c n W (rowTo c n W nx k) k; have := rowTo_len c n W nx k; omega
theorem nextTo_len (c : List (List Int)) (hc : c.length ≤ 4) (n : Nat) (prev : List (List Int)) : ∀ k, k ≤ prev.length → (nextTo c n prev k).length ≤ 4 * k
  | 0, _ => by simp [nextTo]
  | k + 1, hk => by
    rw [nextTo_succ _ _ _ _ (by omega)]
    have h1 := rowTo_len c n (prev.getD k []) (nextTo c n prev k) c.length
    have h2 := nextTo_len c hc n prev k (by omega)
    omega
theorem tot_le (c : List (List Int)) (n : Nat) : (levS c n).length ≤ tot c n := by
  cases n with
  | zero => simp [levS, tot]
  | succ n => simp only [tot]; omega
/-- what a word of a level is, and its products from behind -/
theorem lev_row {c : List (List Int)} (hC : IsC c) {n t : Nat} (hn : n ≤ 28) (ht : t < (levS c n).length) :
    ((levS c n).getD t []).length = n ∧ (∀ k, k < ((levS c n).getD t []).length → 0 ≤ ((levS c n).getD t []).getD k 0 ∧ ((levS c n).getD t []).getD k 0 < c.length) ∧
    ∀ i, i < c.length → normG c 30 (actW c ((levS c n).getD t [] ++ [(i : Int)]) (onesL c.length)) = some (nfI c ((levS c n).getD t [] ++ [(i : Int)])) ∧ (nfI c ((levS c n).getD t [] ++ [(i : Int)])).length ≤ n + 1 := by
  obtain ⟨W, hW, hWe⟩ := ((levS_ok hC n (by omega)).2 ((levS c n).getD t [])).1 (by simp [List.getD, ht])
  rw [hWe]
  refine ⟨by rw [intsOf_length]; exact hW.len, fun k hk => ?_, fun i hi => ?_⟩
  · rw [intsOf_length] at hk
    rw [intsOf_getD _ _ hk]
    have := hW.nf.lt (W.getD k 0) (by simp [List.getD, hk])
    omega
  · have hlt : ∀ j ∈ W ++ [i], j < c.length := by
      intro j hj
      rcases List.mem_append.1 hj with h | h
      · exact hW.nf.lt j h
      · simp at h; subst h; exact hi
    obtain ⟨X, hX⟩ := nf_of hC hlt (by have := hW.len; simp; omega)
    have e : intsOf W ++ [(i : Int)] = intsOf (W ++ [i]) := by rw [intsOf_append]; rfl
    rw [e, nfI_of hX, intsOf_length]
    exact ⟨hX.norm, by have := hX.len; have := hW.len; simp at *; omega⟩
theorem rows_len {c : List (List Int)} {n k i : Nat} {W : List Int} {prev : List (List Int)} (hk : k ≤ prev.length) : ∀ x ∈ rowTo c n W (nextTo c n prev k) i, x.length = n := by
  intro x hx
  rcases (mem_rowTo i).1 hx with h | ⟨_, _, _, h⟩
  · obtain ⟨_, _, _, _, _, h⟩ := (mem_nextTo k hk).1 h
    exact h
  · exact h
theorem getD_len {l : List (List Int)} {n : Nat} (h : ∀ x ∈ l, x.length = n) (hn : n ≤ 1048576) : ∀ j, j < l.length → (l.getD j []).length ≤ 1048576 := by
  intro j hj
  have : l.getD j [] ∈ l := by simp [List.getD, hj]
  rw [h _ this]; exact hn
theorem letters_push {W : List Int} {m i : Nat} (h : ∀ k, k < W.length → 0 ≤ W.getD k 0 ∧ W.getD k 0 < m) (hi : i < m) : ∀ k, k < (W ++ [(i : Int)]).length → 0 ≤ (W ++ [(i : Int)]).getD k 0 ∧ (W ++ [(i : Int)]).getD k 0 < m := by
  intro k hk
  simp at hk
  by_cases e : k < W.length
  · have := h k e
    simp only [List.getD, List.getElem?_append_left e]
    exact this
  · obtain rfl : k = W.length := by omega
    simp [List.getD]; omega

def GotLevs (w : World) (L : List (List (List Int))) (e : Ending) (w' : World) : Prop :=
  ∃ g cap Ls, e = .returned (Value.slice (some ⟨g, 0, none⟩) L.length cap) ∧ levCont Ls = L ∧ OwnLevs w' w.heap.size g cap Ls ∧ Below w.heap.size w w'
theorem GotLevs.mk' {w w' : World} {L : List (List (List Int))} {n : Nat} (g cap : Nat) (Ls : List LevRef) (hl : Ls.length = n) (hc : levCont Ls = L) (ho : OwnLevs w' w.heap.size g cap Ls) (hb : Below w.heap.size w w') :
    GotLevs w L (.returned (Value.slice (some ⟨g, 0, none⟩) n cap)) w' := by
  subst hl; subst hc
  exact ⟨g, cap, Ls, by simp [levCont], rfl, ho, hb⟩

theorem start_levs (w : World) : OwnLevs (((w.alloc (.cells #[] 3)).alloc (.cells #[(Value.slice (some ⟨w.heap.size, 0, none⟩) 0 0)] 28)).alloc (.cells #[(Value.slice (some ⟨(w.heap.size + 1), 0, none⟩) 1 1)] 22)) w.heap.size (w.heap.size + 2) 1 [(w.heap.size + 1, 1, [(w.heap.size, 0, [])])] := by
  have h1 : Own (w.alloc (.cells #[] 3)) w.heap.size w.heap.size 0 [] := Own.empty (w := w) (Nat.le_refl _)
  have h2 : OwnV ((w.alloc (.cells #[] 3)).alloc (.cells #[(Value.slice (some ⟨w.heap.size, 0, none⟩) 0 0)] 28)) w.heap.size 28 (w.heap.size + 1) 1 [(Value.slice (some ⟨w.heap.size, 0, none⟩) 0 0)] := by
    have := OwnV.new (w := w.alloc (.cells #[] 3)) (B := w.heap.size) (E := 28) (Value.slice (some ⟨w.heap.size, 0, none⟩) 0 0) rfl (by simp)
    simpa using this
  have h3 : OwnV (((w.alloc (.cells #[] 3)).alloc (.cells #[(Value.slice (some ⟨w.heap.size, 0, none⟩) 0 0)] 28)).alloc (.cells #[(Value.slice (some ⟨(w.heap.size + 1), 0, none⟩) 1 1)] 22)) w.heap.size 22 (w.heap.size + 2) 1 [(Value.slice (some ⟨(w.heap.size + 1), 0, none⟩) 1 1)] := by
    have := OwnV.new (w := (w.alloc (.cells #[] 3)).alloc (.cells #[(Value.slice (some ⟨w.heap.size, 0, none⟩) 0 0)] 28)) (B := w.heap.size) (E := 22) (Value.slice (some ⟨(w.heap.size + 1), 0, none⟩) 1 1) rfl (by simp; omega)
    simpa using this
  refine ⟨h3, fun L hL => ?_⟩
  rw [List.mem_singleton] at hL
  subst hL
  exact ⟨h2.alloc _, ⟨fun r hr => by rw [List.mem_singleton] at hr; subst hr; exact (h1.alloc _).alloc _, by simp⟩⟩
theorem depth_stop {c : List (List Int)} {most t : Nat} (ht15 : t ≤ 15) (htm : t ≤ most) (h : ¬ (t + 1 ≤ most ∧ t + 1 ≤ 15)) (hd : depthG c (min most 15 - t) t = depthG c (min most 15) 0) : t = depthG c (min most 15) 0 := by
  have e : min most 15 - t = 0 := by omega
  rw [e] at hd
  exact hd
theorem depth_end {c : List (List Int)} {most t : Nat} (h : t + 1 ≤ most ∧ t + 1 ≤ 15) (hz : levS c (t + 1) = [] ∨ 200 < tot c (t + 1)) (hd : depthG c (min most 15 - t) t = depthG c (min most 15) 0) : t = depthG c (min most 15) 0 := by
  have e : min most 15 - t = (min most 15 - (t + 1)) + 1 := by omega
  rw [e] at hd
  simp only [depthG] at hd
  rwa [if_pos hz] at hd
theorem depth_go {c : List (List Int)} {most t : Nat} (h : t + 1 ≤ most ∧ t + 1 ≤ 15) (hz : ¬ (levS c (t + 1) = [] ∨ 200 < tot c (t + 1))) (hd : depthG c (min most 15 - t) t = depthG c (min most 15) 0) : depthG c (min most 15 - (t + 1)) (t + 1) = depthG c (min most 15) 0 := by
  have e : min most 15 - t = (min most 15 - (t + 1)) + 1 := by omega
  rw [e] at hd
  simp only [depthG] at hd
  rwa [if_neg hz] at hd

end Go.Proofs.YtnpechcnmchneaaGreatDoor
namespace Go.Proofs.YtnpechcnmchneaaGreatDoor
set_option maxRecDepth 100000
open Go.RowKit Game

def in30 (V : List (List Int)) : Bool := V.all fun v => v.all fun x => decide (-30 ≤ x) && decide (x ≤ 30)
/-- counts the elements' images, shell by shell; 0 if a number is too great -/
def shN (c : List (List Int)) : Nat → List (List Int) → Nat → Nat
  | 0, _, _ => 0
  | f + 1, sh, t => match sh with
    | [] => t
    | x :: r => if in30 (x :: r) = true then shN c f (shTo c (x :: r) (x :: r).length) (t + (x :: r).length) else 0
def szC (c : List (List Int)) (z : Int) : Bool := decide (1 ≤ z) && (decide (200 < z) || decide ((shN c (if z ≤ 48 then 11 else 28) [onesL c.length] 0 : Int) = z))
def szB (c : List (List Int)) : Bool := szC c (prodT (nameL c))
def colL (c : List (List Int)) (j : Nat) (v : List Int) : List (List Int) := (List.range c.length).map fun k => (c.getD k []).set j (v.getD k 0)
def dC (c : List (List Int)) : Int := det c.length c
def colOf (c : List (List Int)) (i : Nat) : List Int := (List.range c.length).map fun k => ent c k i
/-- the kernel's: columns are independent, and the determinant is positive -/
def crB (c : List (List Int)) : Bool := decide (0 < dC c) && (List.range c.length).all fun j => (List.range c.length).all fun i => decide (i = j) || decide (det c.length (colL c j (colOf c i)) = 0)
def szK (c : List (List Int)) : Bool := crB c && szB c
def chkD (P : List (List Int) → Bool) (a b e d : Int × Int) : Bool := L6.all fun f => bad3 a d f || L6.all fun g => bad3 b d g || (bad3 e f g || (decide (det 4 (mat4 a b d e f g) ≤ 0) || P (mat4 a b d e f g)))
def chkE (P : List (List Int) → Bool) (a b e : Int × Int) : Bool := bad3 a b e || L6.all fun d => chkD P a b e d
theorem chkE_eq (P : List (List Int) → Bool) (a b : Int × Int) : chk4At P a b = L6.all fun e => chkE P a b e := rfl
end Go.Proofs.YtnpechcnmchneaaGreatDoor
namespace Go.Proofs.YtnpechcnmchneaaGreatDoor
set_option maxRecDepth 100000
open Go.RowKit Game

theorem szK_1 : szK [[2]] = true := by kernel_rfl
theorem szK_2 : chk2 szK = true := by kernel_rfl
theorem szK_3 : chk3 szK = true := by kernel_rfl
theorem szK_4_01 : chk4At szK (0, 0) (-1, -1) = true := by kernel_rfl
theorem szK_4_02 : chk4At szK (0, 0) (-1, -2) = true := by kernel_rfl
theorem szK_4_03 : chk4At szK (0, 0) (-2, -1) = true := by kernel_rfl
theorem szK_4_04 : chk4At szK (0, 0) (-1, -3) = true := by kernel_rfl
theorem szK_4_05 : chk4At szK (0, 0) (-3, -1) = true := by kernel_rfl
theorem szK_4_10 : chk4At szK (-1, -1) (0, 0) = true := by kernel_rfl
theorem szK_4_11 : chk4At szK (-1, -1) (-1, -1) = true := by kernel_rfl
theorem szK_4_12 : chk4At szK (-1, -1) (-1, -2) = true := by kernel_rfl
theorem szK_4_13 : chk4At szK (-1, -1) (-2, -1) = true := by kernel_rfl
theorem szK_4_14 : chk4At szK (-1, -1) (-1, -3) = true := by kernel_rfl
theorem szK_4_15 : chk4At szK (-1, -1) (-3, -1) = true := by kernel_rfl
end Go.Proofs.YtnpechcnmchneaaGreatDoor
namespace Go.Proofs.YtnpechcnmchneaaGreatDoor
set_option maxRecDepth 100000
open Go.RowKit Game

theorem szK_4_20 : chk4At szK (-1, -2) (0, 0) = true := by kernel_rfl
theorem szK_4_21 : chk4At szK (-1, -2) (-1, -1) = true := by kernel_rfl
theorem szK_4_22 : chk4At szK (-1, -2) (-1, -2) = true := by kernel_rfl
theorem szK_4_23 : chk4At szK (-1, -2) (-2, -1) = true := by kernel_rfl
theorem szK_4_24 : chk4At szK (-1, -2) (-1, -3) = true := by kernel_rfl
theorem szK_4_25 : chk4At szK (-1, -2) (-3, -1) = true := by kernel_rfl
theorem szK_4_30 : chk4At szK (-2, -1) (0, 0) = true := by kernel_rfl
theorem szK_4_31 : chk4At szK (-2, -1) (-1, -1) = true := by kernel_rfl
theorem szK_4_32 : chk4At szK (-2, -1) (-1, -2) = true := by kernel_rfl
theorem szK_4_33 : chk4At szK (-2, -1) (-2, -1) = true := by kernel_rfl
theorem szK_4_34 : chk4At szK (-2, -1) (-1, -3) = true := by kernel_rfl
theorem szK_4_35 : chk4At szK (-2, -1) (-3, -1) = true := by kernel_rfl
end Go.Proofs.YtnpechcnmchneaaGreatDoor
namespace Go.Proofs.YtnpechcnmchneaaGreatDoor
set_option maxRecDepth 100000
open Go.RowKit Game

theorem szK_4_40 : chk4At szK (-1, -3) (0, 0) = true := by kernel_rfl
theorem szK_4_41 : chk4At szK (-1, -3) (-1, -1) = true := by kernel_rfl
theorem szK_4_42 : chk4At szK (-1, -3) (-1, -2) = true := by kernel_rfl
theorem szK_4_43 : chk4At szK (-1, -3) (-2, -1) = true := by kernel_rfl
theorem szK_4_44 : chk4At szK (-1, -3) (-1, -3) = true := by kernel_rfl
theorem szK_4_45 : chk4At szK (-1, -3) (-3, -1) = true := by kernel_rfl
theorem szK_4_50 : chk4At szK (-3, -1) (0, 0) = true := by kernel_rfl
theorem szK_4_51 : chk4At szK (-3, -1) (-1, -1) = true := by kernel_rfl
theorem szK_4_52 : chk4At szK (-3, -1) (-1, -2) = true := by kernel_rfl
theorem szK_4_53 : chk4At szK (-3, -1) (-2, -1) = true := by kernel_rfl
theorem szK_4_54 : chk4At szK (-3, -1) (-1, -3) = true := by kernel_rfl
theorem szK_4_55 : chk4At szK (-3, -1) (-3, -1) = true := by kernel_rfl
end Go.Proofs.YtnpechcnmchneaaGreatDoor
namespace Go.Proofs.YtnpechcnmchneaaGreatDoor
set_option maxRecDepth 100000
open Go.RowKit Game

theorem szK_D_0 : chkD szK (0, 0) (0, 0) (0, 0) (0, 0) = true := by kernel_rfl
theorem szK_D_1 : chkD szK (0, 0) (0, 0) (0, 0) (-1, -1) = true := by kernel_rfl
theorem szK_D_2 : chkD szK (0, 0) (0, 0) (0, 0) (-1, -2) = true := by kernel_rfl
theorem szK_D_3 : chkD szK (0, 0) (0, 0) (0, 0) (-2, -1) = true := by kernel_rfl
theorem szK_D_4 : chkD szK (0, 0) (0, 0) (0, 0) (-1, -3) = true := by kernel_rfl
theorem szK_D_5 : chkD szK (0, 0) (0, 0) (0, 0) (-3, -1) = true := by kernel_rfl
end Go.Proofs.YtnpechcnmchneaaGreatDoor
namespace Go.Proofs.YtnpechcnmchneaaGreatDoor
set_option maxRecDepth 100000
open Go.RowKit Game

theorem szK_E_1 : chkE szK (0, 0) (0, 0) (-1, -1) = true := by kernel_rfl
theorem szK_E_2 : chkE szK (0, 0) (0, 0) (-1, -2) = true := by kernel_rfl
theorem szK_E_3 : chkE szK (0, 0) (0, 0) (-2, -1) = true := by kernel_rfl
theorem szK_E_4 : chkE szK (0, 0) (0, 0) (-1, -3) = true := by kernel_rfl
theorem szK_E_5 : chkE szK (0, 0) (0, 0) (-3, -1) = true := by kernel_rfl
end Go.Proofs.YtnpechcnmchneaaGreatDoor
namespace Go.Proofs.YtnpechcnmchneaaGreatDoor
set_option maxRecDepth 100000
open Go.RowKit Game

theorem szK_E_0 : chkE szK (0, 0) (0, 0) (0, 0) = true := by
  unfold chkE
  simp only [L6, List.all_cons, List.all_nil, Bool.and_true, szK_D_0, szK_D_1, szK_D_2, szK_D_3, szK_D_4, szK_D_5, Bool.or_true]
theorem szK_4_00 : chk4At szK (0, 0) (0, 0) = true := by
  rw [chkE_eq]
  simp only [L6, List.all_cons, List.all_nil, Bool.and_true, szK_E_0, szK_E_1, szK_E_2, szK_E_3, szK_E_4, szK_E_5]
theorem szK_4 : chk4 szK = true := by
  rw [chk4_eq]
  simp only [L6, List.all_cons, List.all_nil, Bool.and_true, szK_4_00, szK_4_01, szK_4_02, szK_4_03, szK_4_04, szK_4_05, szK_4_10, szK_4_11, szK_4_12, szK_4_13, szK_4_14, szK_4_15, szK_4_20, szK_4_21, szK_4_22, szK_4_23, szK_4_24, szK_4_25, szK_4_30, szK_4_31, szK_4_32, szK_4_33, szK_4_34, szK_4_35, szK_4_40, szK_4_41, szK_4_42, szK_4_43, szK_4_44, szK_4_45, szK_4_50, szK_4_51, szK_4_52, szK_4_53, szK_4_54, szK_4_55]
theorem szK_fin {c : List (List Int)} (hC : IsC c) (hf : finB c = true) : szK c = true := fin_all szK szK_1 szK_2 szK_3 szK_4 hC hf
end Go.Proofs.YtnpechcnmchneaaGreatDoor
namespace Go.Proofs.YtnpechcnmchneaaGreatDoor
set_option maxRecDepth 100000
open Go.RowKit Game

def ballOk (c : List (List Int)) (M : Nat) : Bool := decide (depthG c M 0 = M ∨ levS c (depthG c M 0 + 1) = [])
theorem levs_flat_succ (c : List (List Int)) (m : Nat) : (levsTo c (m + 1)).flatten = (levsTo c m).flatten ++ levS c (m + 1) := by rw [levsTo_succ]; simp
theorem tot_flat (c : List (List Int)) : ∀ m, (levsTo c m).flatten.length = tot c m
  | 0 => rfl
  | m + 1 => by rw [levs_flat_succ, List.length_append, tot_flat c m]; rfl
/-- where the loop stands: t levels are done -/
structure BallSt (c : List (List Int)) (M t : Nat) : Prop where
  le : t ≤ M
  small : tot c t ≤ 200
  on : levS c t ≠ [] → depthG c (M - t) t = depthG c M 0
  off : levS c t = [] → depthG c M 0 + 1 = t
theorem BallSt.zero (c : List (List Int)) (M : Nat) : BallSt c M 0 := ⟨Nat.zero_le _, by simp [tot], fun _ => rfl, fun h => by simp [levS] at h⟩
theorem BallSt.done {c : List (List Int)} {M t : Nat} (h : BallSt c M t) (hd : ¬ t + 1 ≤ M ∨ levS c t = []) : (levsTo c t).flatten = (levsTo c (depthG c M 0)).flatten ∧ ballOk c M = true := by
  by_cases hz : levS c t = []
  · have h1 := h.off hz
    rw [← h1] at hz ⊢
    refine ⟨by rw [levs_flat_succ, hz, List.append_nil], ?_⟩
    unfold ballOk
    simp [hz]
  · have h1 := h.on hz
    have h2 : M - t = 0 := by have := h.le; rcases hd with h | h; · omega
                              exact absurd h hz
    rw [h2] at h1
    have h3 : depthG c 0 t = t := rfl
    rw [h3] at h1
    rw [← h1]
    refine ⟨rfl, ?_⟩
    unfold ballOk
    rw [← h1]
    have := h.le
    simp; left; omega
theorem BallSt.step {c : List (List Int)} {M t : Nat} (h : BallSt c M t) (ht : t + 1 ≤ M) (hz : levS c t ≠ []) (hs : tot c (t + 1) ≤ 200) : BallSt c M (t + 1) := by
  have h1 := h.on hz
  have e : M - t = (M - (t + 1)) + 1 := by omega
  rw [e] at h1
  simp only [depthG] at h1
  refine ⟨ht, hs, fun hn => ?_, fun hn => ?_⟩
  · rwa [if_neg (by intro h; rcases h with h | h; · exact hn h
                    omega)] at h1
  · rw [if_pos (.inl hn)] at h1; omega
theorem BallSt.over {c : List (List Int)} {M t : Nat} (h : BallSt c M t) (ht : t + 1 ≤ M) (hz : levS c t ≠ []) (hs : 200 < tot c (t + 1)) : t = depthG c M 0 ∧ ballOk c M = false := by
  have h1 := h.on hz
  have e : M - t = (M - (t + 1)) + 1 := by omega
  rw [e] at h1
  simp only [depthG] at h1
  rw [if_pos (.inr hs)] at h1
  refine ⟨h1, ?_⟩
  unfold ballOk
  rw [← h1]
  apply decide_eq_false
  rintro (g | g)
  · omega
  · have := h.small
    simp only [tot, g] at hs
    simp at hs; omega

end Go.Proofs.YtnpechcnmchneaaGreatDoor
