/- The orbit of a dominant weight by the program: contracts. -/
import Derived.Test.YtjiljcekcpemmaaOrbS
import Derived.Test.YtjiljcekcpemmaaRev
import Derived.Test.YtjiljcekcpemmaaSortR
namespace Go.Proofs.Ytjiljcekcpemmaa
open Go.RowKit Game
open Go.Sort (SWO)

set_option maxHeartbeats 2000000 in
theorem impl_normal_dom (gc oc n cc g2 o2 n2 c2 : Nat) (c : List (List Int)) (v : List Int) (w : World) (hn : c.length = n) (hn2 : v.length = n2) (hD : DomW c v) (_hgc : gc < w.heap.size) (hg2 : g2 < w.heap.size) (_hr : Rows2 w gc oc c) (hc2 : Cells w g2 o2 v) :
    Calls Try.prog 73 #[(Value.slice (some ⟨gc, oc, none⟩) n cc), (Value.slice (some ⟨g2, o2, none⟩) n2 c2)] w (GotInts w []) := by
  subst hn; subst hn2
  have hv4 : v.length ≤ 4 := by have := hD.hC.2.1; have := hD.len; omega
  have hfn : firstNegI v = -1 := by unfold firstNegI; rw [firstNeg_nil hD.dom]
  have Hfn := Lib.hid hfn
  clear hfn
  go_enter Try.func73, Try.ntmps73
  go_wp2_with (at_builtin; refine wpList_clone rfl _ _ rfl g2 o2 _ c2 v rfl hg2 hc2 rfl rfl (by omega) ?_)
  intro gv cv w1 ho1 hb1
  go_wp2
  have hb2 : Below w.heap.size w (w1.alloc (.cells #[] 3)) := hb1.alloc hb1.size _
  have ho2 : Own (w1.alloc (.cells #[] 3)) w.heap.size gv cv v := ho1.alloc _
  have hO2 : Own (w1.alloc (.cells #[] 3)) w.heap.size w1.heap.size 0 [] := Own.empty (w := w1) hb1.size
  generalize w1.alloc (.cells #[] 3) = w2 at *
  generalize w1.heap.size = H at *
  clear ho1 hb1
  go_loopw [5, 6] (fun s _ wr => s = (Value.slice (some ⟨H, 0, none⟩) 0 0) ∧ wr = w2) (fun _ _ _ => 0)
  case atStart => exact ⟨rfl, rfl⟩
  case round =>
    obtain ⟨rfl, rfl⟩ := hrel
    have hfd := impl_firstDescent_any gv 0 v.length cv v wr rfl (by omega) ho2.cells
    rw [Hfn.out] at hfd
    have Hfd := Lib.hid hfd
    clear hfd
    go_wp2_with fail
    refine Hfd.out.mono ?_
    rintro e w3 ⟨rfl, hs3⟩
    have hb3 := below_still hb2 hs3
    have hO3 := hO2.still hs3
    clear hs3
    go_wp2_with fail
    go_ret
    exact GotInts.mk' H 0 rfl hO3 hb3

set_option maxHeartbeats 2000000 in
theorem impl_raised_dom (gc oc n cc g o m cv : Nat) (c : List (List Int)) (v : List Int) (w : World) (hn : c.length = n) (hm : v.length = m) (hD : DomW c v) (hgc : gc < w.heap.size) (hg : g < w.heap.size) (hr : Rows2 w gc oc c) (hv : Cells w g o v) :
    Calls Try.prog 105 #[(Value.slice (some ⟨gc, oc, none⟩) n cc), (Value.slice (some ⟨g, o, none⟩) m cv)] w (fun e w' => ∃ g1 c1 g2 c2, e = .returned (.tuple #[(Value.slice (some ⟨g1, 0, none⟩) v.length c1), (Value.slice (some ⟨g2, 0, none⟩) 0 c2)]) ∧ Own w' w.heap.size g1 c1 v ∧ Below w.heap.size w w') := by
  subst hn; subst hm
  have hcall := impl_normal_dom gc oc _ cc g o _ cv c v w rfl rfl hD hgc hg hr hv
  have Hcall := Lib.hid hcall
  clear hcall
  go_enter Try.func105, Try.ntmps105
  go_wp2_with fail
  refine Hcall.out.mono ?_
  rintro e w1 ⟨g1, c1, rfl, ho1, hb1⟩
  clear Hcall
  have hcall := impl_ReverseWord_any g1 0 0 c1 [] w1 rfl (by simp) ho1.lt ho1.cells
  have Hcall := Lib.hid hcall
  clear hcall
  go_wp2_with fail
  refine Hcall.out.mono ?_
  rintro e w2 ⟨g2, c2, rfl, ho2, hb2⟩
  have hB2 := hb1.trans (hb2.mono hb1.size)
  clear Hcall
  have hcall := impl_acted_any gc oc _ cc g2 0 0 c2 g o _ cv c [] v w2 rfl rfl rfl hD.hC hD.len (by simp) (by simp) (Nat.lt_of_lt_of_le hgc hB2.size) ho2.lt (Nat.lt_of_lt_of_le hg hB2.size) (hr.below hB2 hgc) ho2.cells (hv.below hB2 hg)
  have Hcall := Lib.hid hcall
  clear hcall hb1 hb2
  go_wp2_with fail
  refine Hcall.out.mono ?_
  rintro e w3 ⟨g3, c3, rfl, ho3, hb3⟩
  have hB3 := hB2.trans (hb3.mono hB2.size)
  have ho3' : Own w3 w.heap.size g3 c3 v := ho3.mono hB2.size
  clear Hcall ho3
  have hcall := impl_normal_dom gc oc _ cc g o _ cv c v w3 rfl rfl hD (Nat.lt_of_lt_of_le hgc hB3.size) (Nat.lt_of_lt_of_le hg hB3.size) (hr.below hB3 hgc) (hv.below hB3 hg)
  have Hcall := Lib.hid hcall
  clear hcall hb3
  go_wp2_with fail
  refine Hcall.out.mono ?_
  rintro e w4 ⟨g4, c4, rfl, ho4, hb4⟩
  have hB4 := hB3.trans (hb4.mono hB3.size)
  have ho5 := ho3'.below hb4 ho3'.lt
  clear Hcall
  go_wp2_with fail
  go_ret2
  exact ⟨g3, c3, g4, c4, rfl, ho5, hB4⟩

set_option maxHeartbeats 4000000 in
theorem impl_DominantOf_dom (gc oc n cc g o m cv : Nat) (c : List (List Int)) (v : List Int) (w : World) (hn : c.length = n) (hm : v.length = m) (hD : DomW c v) (hgc : gc < w.heap.size) (hg : g < w.heap.size) (hr : Rows2 w gc oc c) (hv : Cells w g o v) :
    Calls Try.prog 82 #[(Value.slice (some ⟨gc, oc, none⟩) n cc), (Value.slice (some ⟨g, o, none⟩) m cv)] w (GotDom w v) := by
  subst hn; subst hm
  have hn4 := hD.hC.2.1
  have hv4 : v.length ≤ 4 := by have := hD.len; omega
  have hrl : ∀ j, j < c.length → (c.getD j []).length ≤ 1048576 := fun j hj => by rw [hD.hC.2.2.1 j hj]; omega
  have hcall := impl_IsWeight_any gc oc _ cc g o _ cv c v w rfl rfl (by omega) (by omega) hrl hr hv
  rw [decide_eq_true hD.wt] at hcall
  have Hcall := Lib.hid hcall
  clear hcall
  go_enter Try.func82, Try.ntmps82
  go_wp2_with fail
  refine Hcall.out.mono ?_
  rintro e w1 ⟨rfl, hs1⟩
  have hb1 := below_still (Below.refl w.heap.size w) hs1
  clear hs1 Hcall
  have hcall := impl_IsFinite_any gc oc _ cc c w1 rfl (by omega) hrl (Nat.lt_of_lt_of_le hgc hb1.size) (hr.below hb1 hgc)
  rw [hD.fin] at hcall
  have Hcall := Lib.hid hcall
  clear hcall
  go_wp2_with fail
  refine Hcall.out.mono ?_
  rintro e w2 ⟨rfl, hb2'⟩
  have hb2 := hb1.trans (hb2'.mono hb1.size)
  clear Hcall hb1 hb2'
  have hcall := impl_raised_dom gc oc _ cc g o _ cv c v w2 rfl rfl hD (Nat.lt_of_lt_of_le hgc hb2.size) (Nat.lt_of_lt_of_le hg hb2.size) (hr.below hb2 hgc) (hv.below hb2 hg)
  have Hcall := Lib.hid hcall
  clear hcall
  go_wp2_with fail
  refine Hcall.out.mono ?_
  rintro e w3 ⟨g3, c3, g4, c4, rfl, ho3, hb3⟩
  clear Hcall
  go_wp2_with fail
  go_ret3
  exact ⟨g3, c3, g4, c4, rfl, ho3.mono hb2.size, hb2.trans (hb3.mono hb2.size)⟩

set_option maxHeartbeats 4000000 in
theorem impl_DominantOf_none (gc oc n cc g o m cv : Nat) (c : List (List Int)) (v : List Int) (w : World) (hn : c.length = n) (hm : v.length = m) (hx : c.length ≤ 1048576) (hvx : v.length ≤ 1048576) (hrl : ∀ j, j < c.length → (c.getD j []).length ≤ 1048576)
    (hno : ¬ (wtOk c v ∧ finB c = true)) (hgc : gc < w.heap.size) (hr : Rows2 w gc oc c) (hv : Cells w g o v) :
    Calls Try.prog 82 #[(Value.slice (some ⟨gc, oc, none⟩) n cc), (Value.slice (some ⟨g, o, none⟩) m cv)] w (GotNone w) := by
  subst hn; subst hm
  have hcall := impl_IsWeight_any gc oc _ cc g o _ cv c v w rfl rfl hx hvx hrl hr hv
  by_cases hW : wtOk c v
  · have hF : finB c = false := by
      cases h : finB c with
      | true => exact absurd ⟨hW, h⟩ hno
      | false => rfl
    rw [decide_eq_true hW] at hcall
    have Hcall := Lib.hid hcall
    have HF := Lib.hid hF
    clear hcall hno hW hF
    go_enter Try.func82, Try.ntmps82
    go_wp2_with fail
    refine Hcall.out.mono ?_
    rintro e w1 ⟨rfl, hs1⟩
    have hb1 := below_still (Below.refl w.heap.size w) hs1
    clear hs1 Hcall
    have hcall := impl_IsFinite_any gc oc _ cc c w1 rfl hx hrl (Nat.lt_of_lt_of_le hgc hb1.size) (hr.below hb1 hgc)
    rw [HF.out] at hcall
    have Hcall := Lib.hid hcall
    clear hcall
    go_wp2_with fail
    refine Hcall.out.mono ?_
    rintro e w2 ⟨rfl, hb2'⟩
    have hb2 := hb1.trans (hb2'.mono hb1.size)
    clear Hcall hb1 hb2'
    go_wp2_with fail
    go_ret3
    exact ⟨_, _, rfl, (hb2.alloc hb2.size _).alloc (by simp; have := hb2.size; omega) _⟩
  · rw [decide_eq_false hW] at hcall
    have Hcall := Lib.hid hcall
    clear hcall hno hW
    go_enter Try.func82, Try.ntmps82
    go_wp2_with fail
    refine Hcall.out.mono ?_
    rintro e w1 ⟨rfl, hs1⟩
    have hb1 := below_still (Below.refl w.heap.size w) hs1
    clear hs1 Hcall
    go_wp2_with fail
    go_ret3
    exact ⟨_, _, rfl, (hb1.alloc hb1.size _).alloc (by simp; have := hb1.size; omega) _⟩

/-- greater ones first -/
def downCmp (a b : List Int) : Int := sliceCmp b a
theorem swo_down : SWO (ltOf downCmp) where
  irrefl x := by unfold ltOf downCmp; rw [sliceCmp_self]; rfl
  trans x y z h1 h2 := by unfold ltOf downCmp at *; simp at *; exact sliceCmp_trans _ _ _ h2 h1
  ntrans x y z h1 h2 := by
    unfold ltOf downCmp at *
    simp at *
    rcases Int.lt_trichotomy (sliceCmp z x) 0 with h | h | h
    · have a1 := sliceCmp_anti x y
      have a2 := sliceCmp_anti y z
      rcases Int.lt_trichotomy (sliceCmp y x) 0 with g | g | g
      · omega
      · have := sliceCmp_zero g; subst this; omega
      · rcases Int.lt_trichotomy (sliceCmp z y) 0 with k | k | k
        · omega
        · have := sliceCmp_zero k; subst this; omega
        · have := sliceCmp_trans x y z (by omega) (by omega)
          have a3 := sliceCmp_anti x z
          omega
    · omega
    · omega
set_option maxHeartbeats 1000000 in
theorem impl_compareWeights_any (g1 o1 n1 c1 g2 o2 n2 c2 : Nat) (xs ys : List Int) (w : World) (hn1 : xs.length = n1) (hn2 : ys.length = n2) (hy : ys.length ≤ 1099511627776)
    (hcx : Cells w g1 o1 xs) (hcy : Cells w g2 o2 ys) :
    Calls Try.prog 89 #[(Value.slice (some ⟨g1, o1, none⟩) n1 c1), (Value.slice (some ⟨g2, o2, none⟩) n2 c2)] w (Reads w (.int .i64 (downCmp xs ys))) := by
  subst hn1; subst hn2
  go_enter Try.func89, Try.ntmps89
  go_wp2_with fail
  refine (slices_Compare_any g2 o2 _ c2 g1 o1 _ c1 ys xs w rfl rfl hy hcy hcx).mono ?_
  rintro e w1 ⟨rfl, hs1⟩
  go_wp2_with fail
  go_ret
  exact ⟨rfl, hs1⟩
theorem cmp_down : CmpOk 89 downCmp := fun g1 o1 c1 g2 o2 c2 xs ys w _ hy h1 h2 =>
  (impl_compareWeights_any g1 o1 _ c1 g2 o2 _ c2 xs ys w rfl rfl (by omega) h1 h2).mono fun _ _ h => reads_grow h

theorem desc_of_sorted {L : List (List Int)} {n : Nat} (h : L.Pairwise fun a b => ¬ downCmp b a < 0) (hn : L.Nodup) (hl : ∀ x ∈ L, x.length = n) : Desc L := by
  refine List.Pairwise.imp_of_mem (fun {a b} ha hb hab => ?_) (h.and hn)
  have e := wordCmp_same (a := b) (b := a) (by rw [hl a ha, hl b hb])
  have h1 : ¬ sliceCmp a b < 0 := hab.1
  have h2 := sliceCmp_anti a b
  rw [e]
  rcases Int.lt_trichotomy (sliceCmp b a) 0 with g | g | g
  · exact g
  · exact absurd (sliceCmp_zero g).symm hab.2
  · omega
theorem SeenM.neV {w : World} {b n m g cap B : Nat} {E : TypeId} {ks : List (List Int)} {vs : List Value} (h : SeenM w b n m ks) (ho : OwnV w B E g cap vs) : b ≠ g := by
  rintro rfl
  obtain ⟨D, ⟨es, clock, hh, -⟩, -⟩ := h
  obtain ⟨cur, h2, -⟩ := ho.row
  rw [hh] at h2
  simp at h2
theorem wfV_small {v : List Int} (h : ∀ j, j < v.length → -1000 ≤ v.getD j 0 ∧ v.getD j 0 ≤ 1000) : WfV v := by
  intro j _
  have e : v.getD j 0 = wrap64 (v.getD j 0) := by
    have h2 : -1000 ≤ v.getD j 0 ∧ v.getD j 0 ≤ 1000 := by
      by_cases hj : j < v.length
      · exact h j hj
      · have : v.getD j 0 = 0 := by simp [List.getD, hj]
        omega
    exact (IntWalk.wrap64_in _ ⟨by omega, by omega⟩).symm
  rw [e]; exact wrap64_wf _
/-- 'seen[key] = true' in a literal -/
theorem wpList_seen_insert {w : World} {b n m : Nat} {ks : List (List Int)} {ops : Array Oper} {rest : List Oper} {o : Oper} {a : Act} {Q : Exit → Act → World → Prop}
    (hg : o.guard = none) (x y z : Operand) (hop : o.op = Op.insert 75 x y z) (v : List Int) (hv : v.length = m) (h4 : m ≤ 4) (hw : WfV v)
    (hown : SeenM w b n m ks) (hn : n < 1048576) (hx : a.eval x = .map (some b)) (hy : a.eval y = vecVal v) (hz : a.eval z = .bool true)
    (hK : ∀ w', SeenM w' b (n + 1) m (ks ++ [v]) → w.grownBy w' (some b) → wpList Try.prog ops Q rest (a.put o.dst undef) w') :
    wpList Try.prog ops Q (o :: rest) a w := by
  refine wpList_plain hg fun K' hK' => ?_
  obtain ⟨D, hD, hmap, hat⟩ := hown
  obtain ⟨w', hrun, hown', hgr⟩ := hD.update vecKeyed Try.underlying75 (by unfold maxLen; omega) (keyOf_vec hw) (plainElem_bool (H := Unit) Try.underlying4 true)
  unfold Oper.wp
  simp [execOp, hop, hx, hy, hz, hrun, Result.andThen]
  refine hK' _ _ (hK w' ⟨_, hown', ?_, fun u hu hwu => ?_⟩ hgr)
  · obtain ⟨es, rfl⟩ := hmap
    exact ⟨_, rfl⟩
  · by_cases e : u = v
    · subst e
      rw [Maps.atKey_put_same hmap (vecKeyed.key (keyOf_vec hw))]
      simp
    · have hne : keyL u ≠ keyL v := fun h => e (keyL_inj hwu hw (by omega) (by omega) h)
      rw [Maps.atKey_put_other hne, hat u hu hwu]
      simp [e]

set_option maxRecDepth 100000 in
set_option maxHeartbeats 8000000 in
theorem impl_orbit_dom (gc oc n cc g o m cv : Nat) (c : List (List Int)) (v : List Int) (M : List (List Int)) (b : Bool) (w : World) (hn : c.length = n) (hm : v.length = m) (hD : DomW c v) (hM : OrbM c v M b) (hgc : gc < w.heap.size) (hg : g < w.heap.size) (hr : Rows2 w gc oc c) (hv : Cells w g o v) :
    Calls Try.prog 83 #[(Value.slice (some ⟨gc, oc, none⟩) n cc), (Value.slice (some ⟨g, o, none⟩) m cv)] w (GotRowsB w M b) := by
  subst hn; subst hm
  have hn4 := hD.hC.2.1
  have hv4 : v.length ≤ 4 := by have := hD.len; omega
  have hcl : ∀ j, j < c.length → (c.getD j []).length = c.length := fun j hj => hD.hC.2.2.1 j hj
  have Hcl := Lib.hid hcl
  have hvw : WfV v := wfV_small hD.small
  have hmm := @run_makeMap Try.prog
  clear hcl
  go_enter Try.func83, Try.ntmps83
  go_wp2_with (at_builtin; refine wpList_clone rfl _ _ rfl g o _ cv v rfl hg hv rfl rfl (by omega) ?_)
  intro g1 c1 w1 ho1 hb1
  have hO2 : OwnRows ((w1.alloc (.cells #[(Value.slice (some ⟨g1, 0, none⟩) v.length c1)] 24)).alloc (.map #[] 0)) w.heap.size w1.heap.size 1 [(g1, c1, v)] := by
    have h2 := OwnV.new (w := w1) (B := w.heap.size) (E := 24) (Value.slice (some ⟨g1, 0, none⟩) v.length c1) rfl hb1.size
    have h3 : OwnRows (w1.alloc (.cells #[(Value.slice (some ⟨g1, 0, none⟩) v.length c1)] 24)) w.heap.size w1.heap.size 1 [(g1, c1, v)] :=
      ⟨by simpa [rowVal] using h2, ⟨fun r hr => by rw [List.mem_singleton] at hr; subst hr; exact ho1.alloc _, by simp⟩⟩
    exact h3.below ((Below.refl _ _).alloc (Nat.le_refl _) _)
  have hB2 : Below w.heap.size w ((w1.alloc (.cells #[(Value.slice (some ⟨g1, 0, none⟩) v.length c1)] 24)).alloc (.map #[] 0)) := (hb1.alloc hb1.size _).alloc (by simp; have := hb1.size; omega) _
  have hS2 : SeenM ((w1.alloc (.cells #[(Value.slice (some ⟨g1, 0, none⟩) v.length c1)] 24)).alloc (.map #[] 0)) (w1.heap.size + 1) 0 c.length [] := by
    have := SeenM.start (w1.alloc (.cells #[(Value.slice (some ⟨g1, 0, none⟩) v.length c1)] 24)) c.length
    simpa using this
  go_wp2_with fail
  refine (impl_vectorOf_any g o v.length cv v _ rfl hv4 (Nat.lt_of_lt_of_le hg hB2.size) (hv.below hB2 hg)).mono ?_
  rintro e w3 ⟨rfl, hb3⟩
  have hO3 := hO2.below hb3
  have hB3 := hB2.trans (hb3.mono hB2.size)
  have hS3 := hS2.below hb3 hS2.lt
  have hbM : w.heap.size ≤ w1.heap.size + 1 := by have := hb1.size; omega
  clear hO2 hB2 hS2 hb3 ho1 hb1 hmm
  generalize w1.heap.size + 1 = bM at *
  generalize w1.heap.size = gO0 at *
  have hvl := hD.len
  have Hvl := Lib.hid hvl
  clear hvl
  go_wp2_with (refine wpList_seen_insert (o := ⟨none, _, _, _, _, _⟩) rfl _ _ _ rfl v Hvl.out hn4 hvw hS3 (by omega) rfl rfl rfl ?_)
  intro w4 hS4 hg4
  have hO4 : OwnRows w4 w.heap.size gO0 1 [(g1, c1, v)] := ⟨hO3.1.grown hg4 (by intro e; exact hS3.neV hO3.1 (Option.some.inj e).symm), fun r hr => (hO3.2.1 r hr).grown hg4 (by intro e; exact hS3.neOwn (hO3.2.1 r hr) (Option.some.inj e).symm), hO3.2.2⟩
  have hB4 := hB3.grown hg4 hB3.size (by intro j hj; cases hj; exact hbM)
  clear hO3 hS3 hB3 hg4
  go_wp2_with fail
  go_loopw [6, 8] (fun ov kv wr => ∃ (k gO cO nO : Nat) (rs : List RowRef), kv = .int .i64 k ∧ ov = (Value.slice (some ⟨gO, 0, none⟩) nO cO) ∧ Hid (rs.length = nO) ∧ k ≤ nO ∧ nO ≤ 200 ∧ Hid (QSt c v false (contents rs) k 0) ∧ OwnRows wr w.heap.size gO cO rs ∧ (∃ nM, nM ≤ nO ∧ SeenM wr bM nM c.length (contents rs)) ∧ Below w.heap.size w wr) (fun _ kv _ => 200 - (intOf kv).toNat)
  case atStart =>
    exact ⟨0, gO0, 1, 1, [(g1, c1, v)], rfl, rfl, rfl, by omega, by omega, QSt.start hD false, hO4, ⟨1, by omega, hS4⟩, hB4⟩
  case round =>
    clear hO4 hS4 hB4
    obtain ⟨k, gO, cO, nO, rs, rfl, rfl, hrl, hk, hnO, hst, hO, ⟨nM, hnM, hS⟩, hb⟩ := hrel
    obtain ⟨wo, rfl⟩ : ∃ wo : World, wo = wr := ⟨_, rfl⟩
    by_cases hlt : k < nO
    · go_wp2_with fail
      go_loopw [6, 28] (fun ov iv wj => ∃ (i gO cO nO : Nat) (rs : List RowRef), i ≤ c.length ∧ iv = .int .i64 i ∧ ov = (Value.slice (some ⟨gO, 0, none⟩) nO cO) ∧ Hid (rs.length = nO) ∧ k < nO ∧ nO ≤ 200 + i ∧ Hid (QSt c v false (contents rs) k i) ∧ OwnRows wj w.heap.size gO cO rs ∧ (∃ nM, nM ≤ nO ∧ SeenM wj bM nM c.length (contents rs)) ∧ Below w.heap.size w wj) (fun _ iv _ => c.length - (intOf iv).toNat)
      case atStart => exact ⟨0, gO, cO, nO, rs, Nat.zero_le _, rfl, rfl, hrl, hlt, by omega, hst, hO, ⟨nM, hnM, hS⟩, hb⟩
      case round =>
        clear hO hb hst hrl hlt hnO hk hS hnM
        obtain ⟨i, gO, cO, nO, rs, hi, rfl, rfl, hrl, hk, hnO, hst, hO, ⟨nM, hnM, hS⟩, hb⟩ := hrel
        by_cases hil : i < c.length
        · have hkr : k < rs.length := by rw [hrl.out]; exact hk
          have hrow := hst.out.row (by rw [contents_length]; exact hkr)
          have hcg := contents_getD' hkr
          have hq : wr.cell? ⟨gO, k, none⟩ = some (rowVal rs[k]) := by
            rw [hO.1.cell k (by simpa using hkr)]; simp
          have hoi := hO.2.1 _ (List.getElem_mem hkr)
          have HADD := hst.out.add hD (by rw [contents_length]; exact hkr) hil
          have HSKIP := hst.out.skip (i := i)
          rw [hcg] at hrow HADD HSKIP
          clear hcg
          generalize rs[k] = r at *
          obtain ⟨bi, ci, x⟩ := r
          have hq' : wr.cell? ⟨gO, k, none⟩ = some (Value.slice (some ⟨bi, 0, none⟩) x.length ci) := hq
          have hxl : x.length = c.length := hrow.1
          have hoi' : Own wr w.heap.size bi ci x := hoi
          have hbl := hoi'.lt
          have Hxl := Lib.hid hxl
          have hx4 : x.length ≤ 4 := by omega
          have Hadd := Lib.hid HADD; have Hskip := Lib.hid HSKIP; have Hrow := Lib.hid hrow
          have hgOl := hO.lt
          clear HADD HSKIP hrow hq hoi hxl
          have hq0 : ∀ o1, (wr.alloc o1).cell? ⟨gO, k, none⟩ = some (Value.slice (some ⟨bi, 0, none⟩) x.length ci) := fun o1 => (((Below.refl wr.heap.size wr).alloc (Nat.le_refl _) o1).cell (p := ⟨gO, k, none⟩) hgOl).trans hq'
          have hcx0 : ∀ o1, Cells (wr.alloc o1) bi 0 x := fun o1 => hoi'.cells.below ((Below.refl _ _).alloc (Nat.le_refl _) _) hbl
          go_wp2_with (at_builtin; refine wpList_clone rfl _ _ rfl bi 0 _ ci x rfl hbl hoi'.cells rfl rfl (by omega) ?_)
          intro g3 c3 w3 ho3 hb3
          have hB3 := hb.trans (hb3.mono hb.size)
          have hO3 := hO.below hb3
          have hS3 := hS.below hb3 hS.lt
          have hg3 : wr.heap.size ≤ g3 := ho3.base
          have hg3w : w.heap.size ≤ g3 := Nat.le_trans hb.size hg3
          have hrlt : ∀ r ∈ rs, r.1 < g3 := fun r hr' => Nat.lt_of_lt_of_le (hO.2.1 r hr').lt hg3
          have hSl := hS.lt
          have hcall := impl_reflected_any w gc oc c.length cc g3 c3 i x.length c x w3 rfl rfl Hxl.out hn4 Hcl.out hil hgc hr hB3 (ho3.mono hb.size)
          have Hcall := Lib.hid hcall
          clear hcall hO hS hb hb3 ho3 hq' hoi' hq0 hcx0
          go_wp2_with fail
          refine Hcall.out.mono ?_
          rintro e w5 ⟨rfl, ho5, hg5⟩
          have hO5 : OwnRows w5 w.heap.size gO cO rs := ⟨hO3.1.grown hg5 (by intro e; have := Option.some.inj e; omega), fun r hr' => (hO3.2.1 r hr').grown hg5 (by intro e; have h1 := Option.some.inj e; have h2 := hrlt r hr'; omega), hO3.2.2⟩
          have hS5 := hS3.grown hg5 (by intro e; have := Option.some.inj e; omega)
          have hB5 : Below w.heap.size w w5 := hB3.grown hg5 hB3.size (by intro j hj; cases hj; exact hg3w)
          clear hO3 hS3 hB3 hg5 Hcall
          have hyl : (refl c i x).length = x.length := refl_length c i x
          have hyw := wfV_refl c i x
          generalize refl c i x = y at *
          have Hyl := Lib.hid hyl; have Hyw := Lib.hid hyw
          clear hyl hyw
          obtain ⟨y0, j0⟩ : ∃ z, z = y.getD 0 0 := ⟨_, rfl⟩
          obtain ⟨y1, j1⟩ : ∃ z, z = y.getD 1 0 := ⟨_, rfl⟩
          obtain ⟨y2, j2⟩ : ∃ z, z = y.getD 2 0 := ⟨_, rfl⟩
          obtain ⟨y3, j3⟩ : ∃ z, z = y.getD 3 0 := ⟨_, rfl⟩
          have hvy : vecVal y = .agg #[.int .i64 y0, .int .i64 y1, .int .i64 y2, .int .i64 y3] := by unfold vecVal; rw [j0, j1, j2, j3]
          have hcall := impl_vectorOf_any g3 0 x.length c3 y w5 Hyl.out (by rw [Hyl.out]; exact hx4) ho5.lt ho5.cells
          rw [hvy] at hcall
          have Hcall := Lib.hid hcall; have Hvy := Lib.hid hvy
          clear j0 j1 j2 j3 hcall hvy
          go_wp2_with fail
          refine Hcall.out.mono ?_
          rintro e w6 ⟨rfl, hb6⟩
          have hO6 := hO5.below hb6
          have hS6 := hS5.below hb6 hS5.lt
          have hB6 := hB5.trans (hb6.mono hB5.size)
          have ho6 := ho5.below hb6 ho5.lt
          clear hO5 hS5 hB5 hb6 ho5 Hcall
          have hS7 : SeenM (w6.alloc (.cells #[.int .i64 y0, .int .i64 y1, .int .i64 y2, .int .i64 y3] 71)) bM nM c.length (contents rs) := hS6.grown (World.grownBy_alloc _ _ none) (by simp)
          have hO7 : OwnRows (w6.alloc (.cells #[.int .i64 y0, .int .i64 y1, .int .i64 y2, .int .i64 y3] 71)) w.heap.size gO cO rs := hO6.below ((Below.refl _ _).alloc (Nat.le_refl _) _)
          have ho7 : Own (w6.alloc (.cells #[.int .i64 y0, .int .i64 y1, .int .i64 y2, .int .i64 y3] 71)) w.heap.size g3 c3 y := ho6.alloc _
          have hB7 : Below w.heap.size w (w6.alloc (.cells #[.int .i64 y0, .int .i64 y1, .int .i64 y2, .int .i64 y3] 71)) := hB6.alloc hB6.size _
          have hk7 : Hid ((w6.alloc (.cells #[.int .i64 y0, .int .i64 y1, .int .i64 y2, .int .i64 y3] 71)).heap[w6.heap.size]? = some (.cells #[.int .i64 y0, .int .i64 y1, .int .i64 y2, .int .i64 y3] 71 (0, 0))) := heap_alloc_new _ _
          have hylc : y.length = c.length := by rw [Hyl.out, Hxl.out]
          have Hylc := Lib.hid hylc
          clear hylc hS6 hO6 ho6 hB6
          by_cases hmem : y ∈ contents rs
          · have hsk := Hskip.out (fun _ => hmem)
            have hdm : decide (y ∈ contents rs) = true := decide_eq_true hmem
            have Hsk := Lib.hid hsk; have Hdm := Lib.hid hdm
            clear hsk hdm hmem hk7
            go_wp2_with (at_lookup; refine wpList_seen_lookup rfl _ _ rfl bM nM c.length (contents rs) y Hylc.out Hyw.out hS7 rfl (by rw [Hvy.out]; rfl) true Hdm.out ?_)
            go_roundw
            case rel => exact ⟨i + 1, gO, cO, nO, rs, by omega, by go_num, rfl, hrl, hk, by omega, Hsk.out, hO7, ⟨nM, hnM, hS7⟩, hB7⟩
            case measure => simp [intOf]; omega
          · have had := Hadd.out hmem
            have hdm : decide (y ∈ contents rs) = false := decide_eq_false hmem
            have Had := Lib.hid had; have Hdm := Lib.hid hdm
            clear had hdm hmem
            go_wp2_with (first
              | (at_lookup; refine wpList_seen_lookup rfl _ _ rfl bM nM c.length (contents rs) y Hylc.out Hyw.out hS7 rfl (by rw [Hvy.out]; rfl) false Hdm.out ?_)
              | (at_mapUpdate; refine wpList_seen_put rfl _ _ _ rfl bM nM c.length (contents rs) y Hylc.out hn4 Hyw.out hS7 (by omega) rfl (by rw [Hvy.out]; rfl) rfl ?_))
            intro w8 hS8 hg8
            have hO8 : OwnRows w8 w.heap.size gO cO rs := ⟨hO7.1.grown hg8 (by intro e; exact hS7.neV hO7.1 (Option.some.inj e).symm), fun r hr' => (hO7.2.1 r hr').grown hg8 (by intro e; exact hS7.neOwn (hO7.2.1 r hr') (Option.some.inj e).symm), hO7.2.2⟩
            have ho8 : Own w8 w.heap.size g3 c3 y := ho7.grown hg8 (by intro e; exact hS7.neOwn ho7 (Option.some.inj e).symm)
            have hB8 : Below w.heap.size w w8 := hB7.grown hg8 hB7.size (by intro j hj; cases hj; exact hbM)
            have hne8 : ∀ s ∈ rs, s.1 ≠ g3 := fun s hs e => by have := hrlt s hs; omega
            clear hS7 hO7 ho7 hB7 hg8 hk7
            go_wp2_with (at_builtin; refine wpList_append_row rfl _ _ rfl w.heap.size gO cO nO w8.heap.size rs (g3, c3, y) _ hrl.out (by unfold rowVal; rw [Hyl.out]) rfl hO8 ho8 hne8 rfl rfl (by omega) ?_)
            intro g9 c9 w9 hO9 hg9 hor9
            have hS9 := hS8.grown hg9 (by intro e; exact hS8.neV hO8.1 (Option.some.inj e))
            have hB9 : Below w.heap.size w w9 := hB8.grown hg9 hB8.size (by intro j hj; cases hj; exact hO8.base)
            clear hO8 hS8 hB8 ho8 hg9 hor9
            go_wp2_with fail
            go_roundw
            case rel =>
              refine ⟨i + 1, g9, c9, nO + 1, rs ++ [(g3, c3, y)], by omega, by go_num, rfl, ?_, by omega, by omega, ?_, hO9, ⟨nM + 1, by omega, by rw [contents_append]; exact hS9⟩, hB9⟩
              · show _ = _
                rw [List.length_append, hrl.out]; rfl
              · show QSt _ _ _ _ _ _
                rw [contents_append]; exact Had.out
            case measure => simp [intOf]; omega
        · obtain rfl : i = c.length := by omega
          have hnx := hst.out.next (by rw [contents_length, hrl.out]; exact hk)
          by_cases hbig : 200 < nO
          · have hno := hnx.big (by rw [contents_length, hrl.out]; exact hbig)
            have hMb : M = [] ∧ b = false := by
              rcases hM with ⟨h1, h2, -⟩ | ⟨-, h1, h2⟩
              · exact absurd ⟨M, h1, h2⟩ hno
              · exact ⟨h1, h2⟩
            obtain ⟨rfl, rfl⟩ := hMb
            have hbI : (200 : Int) < (nO : Int) := by omega
            clear hnx hno
            go_wp2_with fail
            go_ret2
            exact GotRowsB.mk' _ _ [] rfl rfl (OwnRows.empty hb.size) (hb.alloc hb.size _)
          · have hbI : ¬ (200 : Int) < (nO : Int) := by omega
            have Hnx := Lib.hid hnx
            clear hnx
            go_wp2_with fail
            go_roundw
            case rel => exact ⟨k + 1, gO, cO, nO, rs, by go_num, rfl, hrl, by omega, by omega, Hnx.out, hO, ⟨nM, hnM, hS⟩, hb⟩
            case measure => simp [intOf]; omega
    · obtain rfl : k = nO := by omega
      have hall : ∀ x, x ∈ contents rs ↔ OrbP c v x := by
        refine QSt.all (down := false) ?_ hD
        rw [contents_length, hrl.out]; exact hst.out
      have hnd := hst.out.nodup
      have hrlen : ∀ r ∈ rs, r.2.2.length ≤ 1048576 := by
        intro r hr'
        have := ((hall r.2.2).1 (List.mem_map.2 ⟨r, hr', rfl⟩)).1
        omega
      have hcall := sort_rows 89 downCmp cmp_down swo_down (enters_of Try.func89 (by kernel_rfl) rfl) w.heap.size gO cO k rs wo hrl.out (by rw [hrl.out]; omega) hrlen hO
      have Hcall := Lib.hid hcall; have Hall := Lib.hid hall; have Hnd := Lib.hid hnd
      clear hcall hall hnd hrlen
      go_wp2_with fail
      refine Hcall.out.mono ?_
      rintro e w4 ⟨rfl, rs4, hperm, hsort, hO4, hg4⟩
      have hB4 : Below w.heap.size w w4 := hb.grown hg4 hb.size (by intro j hj; cases hj; exact hO.base)
      have hl4 : rs4.length = k := by rw [hperm.length_eq]; exact hrl.out
      have hpc : (contents rs4).Perm (contents rs) := hperm.map _
      have horb : IsOrb c v (contents rs4) := by
        have hm : ∀ x, x ∈ contents rs4 ↔ OrbP c v x := fun x => hpc.mem_iff.trans (Hall.out x)
        exact ⟨desc_of_sorted (n := c.length) (hsort.imp (by intro a b h; omega)) (hpc.nodup_iff.2 Hnd.out) (fun x hx => ((hm x).1 hx).1), hm⟩
      have hMb : M = contents rs4 ∧ b = true := by
        rcases hM with ⟨h1, h2, h3⟩ | ⟨h0, -, -⟩
        · exact ⟨h1.uniq horb, h3⟩
        · exact absurd ⟨_, horb, by rw [contents_length, hl4]; omega⟩ h0
      obtain ⟨rfl, rfl⟩ := hMb
      have Hl4 := Lib.hid hl4
      clear hl4 hpc horb hM hsort hperm hO hb hS Hcall hg4
      go_wp2_with fail
      go_ret2
      exact GotRowsB.mk' gO cO rs4 Hl4.out rfl hO4 hB4

set_option maxHeartbeats 4000000 in
theorem impl_OrbitOf_none (gc oc n cc g o m cv : Nat) (c : List (List Int)) (v : List Int) (w : World) (hn : c.length = n) (hm : v.length = m) (hx : c.length ≤ 1048576) (hvx : v.length ≤ 1048576) (hrl : ∀ j, j < c.length → (c.getD j []).length ≤ 1048576)
    (hno : ¬ (wtOk c v ∧ finB c = true)) (hgc : gc < w.heap.size) (hr : Rows2 w gc oc c) (hv : Cells w g o v) :
    Calls Try.prog 47 #[(Value.slice (some ⟨gc, oc, none⟩) n cc), (Value.slice (some ⟨g, o, none⟩) m cv)] w (GotRowsB w [] false) := by
  have hcall := impl_DominantOf_none gc oc n cc g o m cv c v w hn hm hx hvx hrl hno hgc hr hv
  subst hn; subst hm
  have Hcall := Lib.hid hcall
  clear hcall hno
  go_enter Try.func47, Try.ntmps47
  go_wp2_with fail
  refine Hcall.out.mono ?_
  rintro e w2 ⟨g1, g2, rfl, hb2⟩
  clear Hcall
  go_wp2_with fail
  go_ret2
  exact GotRowsB.mk' _ _ [] rfl rfl (OwnRows.empty hb2.size) (hb2.alloc hb2.size _)

set_option maxHeartbeats 4000000 in
theorem impl_OrbitOf_dom (gc oc n cc g o m cv : Nat) (c : List (List Int)) (v : List Int) (M : List (List Int)) (b : Bool) (w : World) (hn : c.length = n) (hm : v.length = m) (hD : DomW c v) (hM : OrbM c v M b) (hgc : gc < w.heap.size) (hg : g < w.heap.size) (hr : Rows2 w gc oc c) (hv : Cells w g o v) :
    Calls Try.prog 47 #[(Value.slice (some ⟨gc, oc, none⟩) n cc), (Value.slice (some ⟨g, o, none⟩) m cv)] w (GotRowsB w M b) := by
  have hcall := impl_DominantOf_dom gc oc n cc g o m cv c v w hn hm hD hgc hg hr hv
  subst hn; subst hm
  have Hcall := Lib.hid hcall
  clear hcall
  go_enter Try.func47, Try.ntmps47
  go_wp2_with fail
  refine Hcall.out.mono ?_
  rintro e w2 ⟨g1, c1, g2, c2, rfl, -, hb2⟩
  clear Hcall
  have hcall := impl_orbit_dom gc oc _ cc g o _ cv c v M b w2 rfl rfl hD hM (Nat.lt_of_lt_of_le hgc hb2.size) (Nat.lt_of_lt_of_le hg hb2.size) (hr.below hb2 hgc) (hv.below hb2 hg)
  have Hcall := Lib.hid hcall
  clear hcall
  go_wp2_with fail
  refine Hcall.out.mono ?_
  rintro e w3 ⟨g3, c3, rs, rfl, hcr, hO3, hb3⟩
  clear Hcall
  go_wp2_with fail
  go_ret2
  exact ⟨g3, c3, rs, rfl, hcr, hO3.mono hb2.size, hb2.trans (hb3.mono hb2.size)⟩

set_option maxHeartbeats 4000000 in
theorem impl_ExtremeWeights_any (gc oc n cc g o m cv : Nat) (c : List (List Int)) (v : List Int) (M : List (List Int)) (b : Bool) (w : World) (hn : c.length = n) (hm : v.length = m) (hM : ExtM c v M b) (hx : c.length ≤ 1048576) (hvx : v.length ≤ 1048576) (hrl : ∀ j, j < c.length → (c.getD j []).length ≤ 1048576)
    (hgc : gc < w.heap.size) (hg : g < w.heap.size) (hr : Rows2 w gc oc c) (hv : Cells w g o v) :
    Calls Try.prog 23 #[(Value.slice (some ⟨gc, oc, none⟩) n cc), (Value.slice (some ⟨g, o, none⟩) m cv)] w (GotRowsB w M b) := by
  subst hn; subst hm
  have hcall := impl_IsDominant_any g o _ cv v w rfl hvx hv
  by_cases hdom : (firstNeg v).isNone = true
  · rw [hdom] at hcall
    have hcall2 : ∀ w2, Below w.heap.size w w2 → Calls Try.prog 47 #[(Value.slice (some ⟨gc, oc, none⟩) c.length cc), (Value.slice (some ⟨g, o, none⟩) v.length cv)] w2 (GotRowsB w2 M b) := fun w2 hb => by
      have h1 : gc < w2.heap.size := Nat.lt_of_lt_of_le hgc hb.size
      have h2 : g < w2.heap.size := Nat.lt_of_lt_of_le hg hb.size
      rcases hM with ⟨hD, hM⟩ | ⟨hD, rfl, rfl⟩
      · exact impl_OrbitOf_dom gc oc _ cc g o _ cv c v M b w2 rfl rfl hD hM h1 h2 (hr.below hb hgc) (hv.below hb hg)
      · exact impl_OrbitOf_none gc oc _ cc g o _ cv c v w2 rfl rfl hx hvx hrl (fun h => hD (DomW.of h.1 h.2 hdom)) h1 (hr.below hb hgc) (hv.below hb hg)
    have Hcall := Lib.hid hcall; have Hcall2 := Lib.hid hcall2
    clear hcall hcall2 hM hdom
    go_enter Try.func23, Try.ntmps23
    go_wp2_with fail
    refine Hcall.out.mono ?_
    rintro e w1 ⟨rfl, hs1⟩
    have hb1 := below_still (Below.refl w.heap.size w) hs1
    clear hs1 Hcall
    have hcall := Hcall2.out w1 hb1
    have Hcall := Lib.hid hcall
    clear hcall Hcall2
    go_wp2_with fail
    refine Hcall.out.mono ?_
    rintro e w2 ⟨g2, c2, rs, rfl, hcr, hO2, hb2⟩
    clear Hcall
    go_wp2_with fail
    go_ret2
    exact ⟨g2, c2, rs, rfl, hcr, hO2.mono hb1.size, hb1.trans (hb2.mono hb1.size)⟩
  · have hf : (firstNeg v).isNone = false := Bool.eq_false_iff.2 hdom
    rw [hf] at hcall
    have hMb : M = [] ∧ b = false := by
      rcases hM with ⟨hD, -⟩ | ⟨-, h1, h2⟩
      · exfalso
        apply hdom
        rw [firstNeg_nil hD.dom]; rfl
      · exact ⟨h1, h2⟩
    obtain ⟨rfl, rfl⟩ := hMb
    have Hcall := Lib.hid hcall
    clear hcall hM hdom hf
    go_enter Try.func23, Try.ntmps23
    go_wp2_with fail
    refine Hcall.out.mono ?_
    rintro e w1 ⟨rfl, hs1⟩
    have hb1 := below_still (Below.refl w.heap.size w) hs1
    clear hs1 Hcall
    go_wp2_with fail
    go_ret2
    exact GotRowsB.mk' _ _ [] rfl rfl (OwnRows.empty hb1.size) (hb1.alloc hb1.size _)
end Go.Proofs.Ytjiljcekcpemmaa
