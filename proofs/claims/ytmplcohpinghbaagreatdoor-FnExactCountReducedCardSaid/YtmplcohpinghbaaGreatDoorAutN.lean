/- The automaton by the program: the state behind a letter: contract. -/
import Derived.Test.YtmplcohpinghbaaGreatDoorAutI
namespace Go.Proofs.YtmplcohpinghbaaGreatDoor
open Go.RowKit Game

/-- the table of moves -/
def movI (c S : List (List Int)) (i : Nat) (r : List Int) : Int := if r = simpL c.length i then -2 else idxL S (mirL c i r)
def movesL (c S : List (List Int)) : List (List Int) := S.map fun r => (List.range c.length).map fun i => movI c S i r
section
variable {c S : List (List Int)} {i k : Nat} {st : List Int}
theorem movesL_length : (movesL c S).length = S.length := by simp [movesL]
theorem movesL_row (hk : k < S.length) : (movesL c S).getD k [] = (List.range c.length).map fun i => movI c S i (S.getD k []) := by simp [movesL, List.getD, hk]
theorem movesL_rowLen (hk : k < S.length) : ((movesL c S).getD k []).length = c.length := by rw [movesL_row hk]; simp
theorem movesL_at (hk : k < S.length) (hi : i < c.length) : ((movesL c S).getD k []).getD i 0 = movI c S i (S.getD k []) := by rw [movesL_row hk]; simp [List.getD, hi]
theorem movI_own (h : S.getD k [] = simpL c.length i) : movI c S i (S.getD k []) = -2 := if_pos h
theorem movI_to (h : S.getD k [] ≠ simpL c.length i) : movI c S i (S.getD k []) = toI c S i (k : Int) := by
  unfold movI toI; rw [if_neg h]; simp
end
/-- the state behind a letter; none if there is none -/
def nextR (c S : List (List Int)) (i : Nat) (st : List Int) : Option (List Int) := if ownI c S i ∈ st then none else some (nextL c S i st)
def NextPost (w : World) (R : Option (List Int)) (e : Ending) (w' : World) : Prop :=
  (R = none ∧ e = .returned (.tuple #[.slice none 0 0, .bool false]) ∧ Below w.heap.size w w') ∨ ∃ st, R = some st ∧ GotIntsB w st true e w'

set_option maxHeartbeats 4000000 in
theorem impl_next_any (gc oc n cc gR cR nR gM nM cM i g o m cp : Nat) (c S : List (List Int)) (st : List Int) (w : World) (hn : c.length = n) (hnR : S.length = nR) (hnM : S.length = nM) (hm : st.length = m) (hS : SmallOk c S) (hst : FineS S.length st) (hn4 : c.length ≤ 4) (hi : i < c.length)
    (lR : gR < w.heap.size) (lM : gM < w.heap.size) (hg : g < w.heap.size) (hR : Rows2 w gR 0 S) (hM : Rows2 w gM 0 (movesL c S)) (hcl : Cells w g o st) :
    Calls Tryz.prog 37 #[.agg #[(Value.slice (some ⟨gc, oc, none⟩) n cc), (Value.slice (some ⟨gR, 0, none⟩) nR cR), (Value.slice (some ⟨gM, 0, none⟩) nM cM)], (Value.slice (some ⟨g, o, none⟩) m cp), .int .i64 i] w (NextPost w (nextR c S i st)) := by
  subst hn; subst hnR; subst hnM; subst hm
  have hlS := hS.len
  have hlst := hst.len
  have hss := hS.simp' i hi
  have K1 : ∀ W, Below w.heap.size w W → Calls Tryz.prog 46 #[.agg #[(Value.slice (some ⟨gc, oc, none⟩) c.length cc), (Value.slice (some ⟨gR, 0, none⟩) S.length cR), (Value.slice (some ⟨gM, 0, none⟩) S.length cM)], .int .i64 i] W (Gives W (.int .i64 (ownI c S i))) := fun W hW =>
    impl_own_any gc oc c.length cc gR cR S.length S.length cM i (some ⟨gM, 0, none⟩) c S W rfl rfl hS hn4 hi (Nat.lt_of_lt_of_le lR hW.size) (hR.below hW lR)
  have H0 : Hid (rawTo c S i st 0 = [ownI c S i]) := rfl
  have hin : ∀ k, k < st.length → ∀ j : Nat, st.getD k 0 = (j : Int) → S.getD j [] = simpL c.length i → nextR c S i st = none := fun k hk j hj e => by
    have hjl : j < S.length := by have := hst.at' hk; omega
    have := (idx_iff hS.nodup hjl hss).1 e
    unfold nextR
    exact if_pos (by show idxL S (simpL c.length i) ∈ st; rw [← this, ← hj]; simp [List.getD, hk])
  have hfin : (∀ u, u < st.length → st.getD u 0 ≠ ownI c S i) → nextR c S i st = some (Go.Lib.compact ((rawTo c S i st st.length).mergeSort fun x y => decide (x ≤ y))) := fun h => by
    have h1 : ownI c S i ∉ st := fun hm => by
      obtain ⟨u, hu, e⟩ := List.getElem_of_mem hm
      exact h u hu (by simp [List.getD, hu, e])
    unfold nextR
    rw [if_neg h1, sortC_eq (nextTo_up st.length) (fun x => nextTo_mem x st.length)]
    rfl
  have k1 := Lib.hid K1; have Hin := Lib.hid hin; have Hfin := Lib.hid hfin; have HM := Lib.hid hM; have Hcl := Lib.hid hcl
  clear K1 hin hfin hM hcl hR
  obtain ⟨R, hRR⟩ : ∃ R, nextR c S i st = R := ⟨_, rfl⟩
  rw [hRR] at Hin Hfin ⊢
  clear hRR
  go_enter Tryz.func37, Tryz.ntmps37
  go_wp2_with fail
  have hh : Hid ((w.alloc (.cells #[(Value.slice (some ⟨gc, oc, none⟩) c.length cc), (Value.slice (some ⟨gR, 0, none⟩) S.length cR), (Value.slice (some ⟨gM, 0, none⟩) S.length cM)] 48)).heap[w.heap.size]? = some (.cells #[(Value.slice (some ⟨gc, oc, none⟩) c.length cc), (Value.slice (some ⟨gR, 0, none⟩) S.length cR), (Value.slice (some ⟨gM, 0, none⟩) S.length cM)] 48 (0, 0))) := heap_alloc_new _ _
  have hb1 : Below w.heap.size w (w.alloc (.cells #[(Value.slice (some ⟨gc, oc, none⟩) c.length cc), (Value.slice (some ⟨gR, 0, none⟩) S.length cR), (Value.slice (some ⟨gM, 0, none⟩) S.length cM)] 48)) := (Below.refl _ _).alloc (Nat.le_refl _) _
  refine (k1.out _ hb1).mono ?_
  generalize w.alloc (.cells #[(Value.slice (some ⟨gc, oc, none⟩) c.length cc), (Value.slice (some ⟨gR, 0, none⟩) S.length cR), (Value.slice (some ⟨gM, 0, none⟩) S.length cM)] 48) = w1 at *
  rintro e w2 ⟨rfl, hb2⟩
  have hlt1 : w.heap.size < w1.heap.size := box_lt hh.out
  clear k1
  go_wp2_with fail
  go_loopw [8, 18] (fun ov kv wr => ∃ (t a g2 c2 : Nat), t ≤ st.length ∧ kv = .int .i64 t ∧ ov = (Value.slice (some ⟨g2, 0, none⟩) a c2) ∧ Hid ((rawTo c S i st t).length = a) ∧ a ≤ t + 1 ∧ Hid (∀ u, u < t → st.getD u 0 ≠ ownI c S i) ∧ Own wr w1.heap.size g2 c2 (rawTo c S i st t) ∧ Below w1.heap.size w1 wr) (fun _ kv _ => st.length - (intOf kv).toNat)
  case atStart => exact ⟨0, 1, _, 1, Nat.zero_le _, rfl, rfl, by show _ = _; rw [H0.out]; rfl, by omega, fun u hu => absurd hu (by omega), by rw [H0.out]; exact Own.new (w := w2) _ hb2.size, hb2.alloc hb2.size _⟩
  case round =>
    clear hb2
    obtain ⟨t, a, g2, c2, ht, rfl, rfl, ha, hal, hno, ho, hb⟩ := hrel
    have hB := hb1.trans (hb.mono (Nat.le_of_lt hlt1))
    by_cases hlt : t < st.length
    · have q1 := (hB.cell (p := ⟨g, o + t, none⟩) hg).trans (Hcl.out t hlt)
      obtain ⟨hy0, hy1⟩ := hst.at' hlt
      obtain ⟨j, hj⟩ : ∃ j : Nat, st.getD t 0 = (j : Int) := ⟨_, (Int.toNat_of_nonneg hy0).symm⟩
      have hjl : j < S.length := by omega
      have hstep : rawTo c S i st (t + 1) = if 0 ≤ toI c S i (st.getD t 0) then rawTo c S i st t ++ [toI c S i (st.getD t 0)] else rawTo c S i st t := rfl
      rw [hj] at hstep q1
      obtain ⟨-, -, z2⟩ := cell3 ((hb.block _ hlt1).trans hh.out)
      obtain ⟨ga, oa, ca, p1, p2, p3, p4⟩ := HM.out j (by rw [movesL_length]; exact hjl)
      have e0 := p4 i (by rw [movesL_rowLen hjl]; exact hi)
      rw [movesL_at hjl hi] at e0
      rw [movesL_rowLen hjl] at p1
      rw [Nat.zero_add] at p1
      replace p1 := (hB.cell (p := ⟨gM, j, none⟩) lM).trans p1
      replace e0 := (hB.cell (p := ⟨ga, oa + i, none⟩) p3).trans e0
      have hjI : (j : Int) < (S.length : Int) := by omega
      have hj0 : (0 : Int) ≤ (j : Int) := by omega
      by_cases heq : S.getD j [] = simpL c.length i
      · have hr := Hin.out t hlt j hj heq
        rw [movI_own heq] at e0
        have Hr := Lib.hid hr
        clear hr heq hstep hj hy0 hy1 p4 p2
        go_wp2
        go_ret2
        exact .inl ⟨Hr.out, rfl, hB⟩
      · rw [movI_to heq] at e0
        have hne : st.getD t 0 ≠ ownI c S i := fun h => heq ((idx_iff hS.nodup hjl hss).2 (hj.symm.trans h))
        have hge : -1 ≤ toI c S i (j : Int) := idx_ge
        have hno2 : ∀ u, u < t + 1 → st.getD u 0 ≠ ownI c S i := fun u hu => by
          by_cases e : u = t
          · subst e; exact hne
          · exact hno.out u (by omega)
        have Hno2 := Lib.hid hno2
        clear hno2 hne heq hj hy0 hy1 p4 p2 hno
        generalize toI c S i (j : Int) = x at *
        have d1 : (x == -2) = false := by simp; omega
        have Hstep := Lib.hid hstep
        clear hstep
        by_cases hx : 0 ≤ x
        · have hst2 : rawTo c S i st t ++ [x] = rawTo c S i st (t + 1) := by rw [Hstep.out, if_pos hx]
          have Hst2 := Lib.hid hst2
          clear hst2
          go_wp2_with (at_builtin; refine wpList_append_int_n (w := wr) rfl _ _ rfl w1.heap.size g2 c2 a (rawTo c S i st t) x ha.out ho rfl rfl (by omega) ?_)
          intro g3 c3 w3 ho3 hg3 hor3
          have hb3 : Below w1.heap.size w1 w3 := hb.grown hg3 hb.size (by intro t ht; cases ht; exact ho.base)
          rw [Hst2.out] at ho3
          clear ho hg3 hb hB
          go_wp2_with fail
          go_roundw
          case rel => exact ⟨t + 1, a + 1, g3, c3, by omega, by go_num, rfl, by show _ = _; rw [← Hst2.out, List.length_append, ha.out]; rfl, by omega, Hno2.out, ho3, hb3⟩
          case measure => simp [intOf]; omega
        · have hst2 : rawTo c S i st (t + 1) = rawTo c S i st t := by rw [Hstep.out, if_neg hx]
          have Hst2 := Lib.hid hst2
          have hxn : x < 0 := by omega
          clear hst2 hx
          go_wp2_with fail
          go_roundw
          case rel => exact ⟨t + 1, a, g2, c2, by omega, by go_num, rfl, by show _ = _; rw [Hst2.out]; exact ha.out, by omega, Hno2.out, by rw [Hst2.out]; exact ho, hb⟩
          case measure => simp [intOf]; omega
    · obtain rfl : t = st.length := by omega
      have hf := Hfin.out hno.out
      have Hf := Lib.hid hf
      clear hf hno Hfin Hin
      generalize rawTo c S i st st.length = xs at *
      have hs := ints_Sort w1.heap.size g2 c2 a xs wr ha.out (by rw [ha.out]; omega) ho
      have hml : (xs.mergeSort fun x y => decide (x ≤ y)).length = xs.length := by simp
      have Hs := Lib.hid hs; have Hml := Lib.hid hml
      clear hs hml
      go_wp2_with fail
      refine Hs.out.mono ?_
      rintro e w3 ⟨rfl, ho3, hg3⟩
      have hb3 : Below w1.heap.size w1 w3 := hb.grown hg3 hb.size (by intro t ht; cases ht; exact ho.base)
      have hs := ints_Compact w1.heap.size g2 c2 a _ w3 (by rw [Hml.out, ha.out]) (by rw [Hml.out, ha.out]; omega) ho3
      generalize (xs.mergeSort fun x y => decide (x ≤ y)) = ys at *
      have Hs2 := Lib.hid hs
      clear hs Hs ho hg3 hb hB
      go_wp2_with fail
      refine Hs2.out.mono ?_
      rintro e w4 ⟨rfl, ho4, hg4⟩
      have hb4 : Below w1.heap.size w1 w4 := hb3.grown hg4 hb3.size (by intro t ht; cases ht; exact ho3.base)
      have hB4 := hb1.trans (hb4.mono (Nat.le_of_lt hlt1))
      obtain ⟨b, hbl⟩ : ∃ b, (Go.Lib.compact ys).length = b := ⟨_, rfl⟩
      rw [hbl]
      have Hbl := Lib.hid hbl
      clear hbl ho3 hg4 hb3 hb4 Hs2
      go_wp2_with fail
      go_ret2
      exact .inr ⟨_, Hf.out, GotIntsB.mk' g2 c2 Hbl.out (ho4.mono (Nat.le_of_lt hlt1)) hB4⟩
end Go.Proofs.YtmplcohpinghbaaGreatDoor
