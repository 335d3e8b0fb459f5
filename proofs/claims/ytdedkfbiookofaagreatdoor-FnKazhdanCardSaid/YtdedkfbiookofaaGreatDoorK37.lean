/- slices.SortFunc over rows of the call's own: contract. The program's elements by length: contract. -/
import Derived.Test.YtdedkfbiookofaaGreatDoorK04
import Derived.Test.YtdedkfbiookofaaGreatDoorSlay
import Derived.Shelf.SlSortCmp.NoneTotal
import Derived.Test.YtdedkfbiookofaaGreatDoorK13
import Derived.Test.YtdedkfbiookofaaGreatDoorK14
import Derived.Test.YtdedkfbiookofaaGreatDoorK20
namespace Go.Proofs.YtdedkfbiookofaaGreatDoor
set_option maxRecDepth 100000
open Go.RowKit Game
open Go.Sort (Holds putRow putCells mapBlock onCells grow heap_grow_old SWO PermIn SortedIn)
section
variable {α : Type} [Inhabited α] (enc : α → Value)
theorem heap_sortedE {w : World} {g n : Nat} {os : Array Obj} {cur : Array Value} {e : TypeId} {fr : Nat × Nat} (d : Array α) (hb : w.heap[g]? = some (.cells cur e fr)) :
    (sortWorld enc w g 0 n d os).heap[g]? = some (.cells (putCells enc 0 d cur) e fr) := by
  have hg : g < w.heap.size := (Array.getElem?_eq_some_iff.1 hb).1
  unfold sortWorld
  rw [heap_grow_old _ _ (by simpa using hg)]
  simp [putRow, mapBlock, Sort.ahead, Array.getElem?_modify, hb, onCells]
theorem heap_sorted_other {w : World} {g n k : Nat} {os : Array Obj} (d : Array α) (hk : k < w.heap.size) (hne : g ≠ k) :
    (sortWorld enc w g 0 n d os).heap[k]? = w.heap[k]? := by
  unfold sortWorld
  rw [heap_grow_old _ _ (by simpa using hk)]
  simp [putRow, mapBlock, Sort.ahead, Array.getElem?_modify, hne]
theorem grownBy_sortedE {w : World} {g n : Nat} {os : Array Obj} (d : Array α) : w.grownBy (sortWorld enc w g 0 n d os) (some g) :=
  ⟨rfl, rfl, rfl, by unfold sortWorld; simp, fun k hk hne => heap_sorted_other enc d hk (fun e => hne (by rw [e]))⟩
theorem take_putCellsE (cur : Array Value) (ts : List α) (h : ts.length ≤ cur.size) : (putCells enc 0 ts.toArray cur).toList.take ts.length = ts.map enc := by
  apply List.ext_getElem?
  intro j
  by_cases hj : j < ts.length
  · rw [List.getElem?_take_of_lt hj, Array.getElem?_toList]
    simp [putCells, hj, show j < cur.size by omega]
  · rw [List.getElem?_take_eq_none (by omega), List.getElem?_eq_none (by simp; omega)]
theorem holds_of_ownV {w : World} {B g cap : Nat} {E : TypeId} {ss : List α} (h : OwnV w B E g cap (ss.map enc)) : Holds enc w g 0 ss.toArray := by
  intro j hj
  have hj' : j < ss.length := by simpa using hj
  refine ⟨?_, h.frozen _⟩
  rw [Nat.zero_add, h.cell j (by simpa using hj')]
  simp [hj']
theorem ownV_sorted {w : World} {B g cap n : Nat} {E : TypeId} {os : Array Obj} {ss ts : List α} (h : OwnV w B E g cap (ss.map enc)) (hl : ts.length = ss.length) : OwnV (sortWorld enc w g 0 n ts.toArray os) B E g cap (ts.map enc) := by
  rcases h.2 with ⟨h', _⟩ | ⟨g', cap', cur, h', hb, hh, hn, hm, hs, htk⟩
  · simp at h'
  · simp only [Value.slice.injEq, Option.some.injEq, Addr.mk.injEq, List.length_map] at h'
    obtain ⟨⟨rfl, _⟩, _, rfl⟩ := h'
    refine ⟨by simp, .inr ⟨g, cap, _, by simp, hb, heap_sortedE enc _ hh, by simp at hn ⊢; omega, hm, by simp [putCells, hs], ?_⟩⟩
    rw [Nat.mul_one, List.length_map]
    refine take_putCellsE enc cur ts ?_
    simp at hn hs; omega
end
/-- what is asked of a comparison: in whatever world, at whatever two lists -/
def CmpOk (f : Nat) (cf : List Int → List Int → Int) : Prop :=
  ∀ (g1 o1 c1 g2 o2 c2 : Nat) (xs ys : List Int) (w : World), xs.length ≤ 1048576 → ys.length ≤ 1048576 → Cells w g1 o1 xs → Cells w g2 o2 ys →
    Calls Tryz.prog f #[(Value.slice (some ⟨g1, o1, none⟩) xs.length c1), (Value.slice (some ⟨g2, o2, none⟩) ys.length c2)] w fun e w' => e = .returned (.int .i64 (cf xs ys)) ∧ ∃ q os', w' = grow (w.drewN q) os'
theorem lays_grow {w : World} {v : Value} {e : Ending} {w' : World} (h : Lays w v e w') : e = .returned v ∧ ∃ q os', w' = grow (w.drewN q) os' := by
  obtain ⟨h1, o, q, rfl⟩ := h
  refine ⟨h1, q, #[o], ?_⟩
  rw [← Sort.alloc_eq_grow]
  rfl
set_option maxHeartbeats 1000000 in
theorem sort_rows (f : Nat) (cf : List Int → List Int → Int) (hcf : CmpOk f cf) (hswo : SWO (ltOf cf)) (ef : ∀ args w, (callFunc f args).run Tryz.prog w = .ok (.enter f args) w) (B g cap n : Nat) (rs : List RowRef) (w : World) (hn : rs.length = n) (hl : rs.length ≤ 1048576) (hrl : ∀ r ∈ rs, r.2.2.length ≤ 1048576)
    (ho : OwnRows w B g cap rs) :
    Calls Tryz.prog 166 #[(Value.slice (some ⟨g, 0, none⟩) n cap), .func (.func f) #[] #[]] w fun e w' =>
      e = .returned (.tuple #[]) ∧ ∃ rs', rs'.Perm rs ∧ (contents rs').Pairwise (fun a b => ¬ cf b a < 0) ∧ OwnRows w' B g cap rs' ∧ w.grownBy w' (some g) := by
  subst hn
  cases hrs : rs with
  | nil =>
    have hcon := AnyF.slices_SortFunc_none { Tryz.sortRows with } (some ⟨g, 0, none⟩) cap (.func (.func f) #[] #[]) w
    change Calls Tryz.prog 166 _ _ _ at hcon
    refine hcon.mono ?_
    rintro e w' ⟨rfl, rfl⟩
    subst hrs
    exact ⟨rfl, [], List.Perm.refl _, List.Pairwise.nil, ho, World.grownBy.refl _ _⟩
  | cons r0 rest =>
    rw [← hrs]
    have hr0 : r0 ∈ rs := by rw [hrs]; simp
    letI : Inhabited {r : RowRef // r ∈ rs} := ⟨⟨r0, hr0⟩⟩
    let d : Array {r : RowRef // r ∈ rs} := rs.attach.toArray
    let enc : {r : RowRef // r ∈ rs} → Value := fun r => rowVal r.1
    let cf' : {r : RowRef // r ∈ rs} → {r : RowRef // r ∈ rs} → Int := fun a b => cf a.1.2.2 b.1.2.2
    have hds : d.size = rs.length := by simp [d]
    have hown : OwnV w B 25 g cap (rs.attach.map enc) := by
      have e : rs.attach.map enc = rs.map rowVal := by
        show rs.attach.map (fun r => rowVal r.1) = _
        have h := List.map_map (f := (Subtype.val : {r : RowRef // r ∈ rs} → RowRef)) (g := rowVal) (l := rs.attach)
        rw [List.attach_map_subtype_val] at h
        exact h.symm
      rw [e]; exact ho.1
    have hH : Holds enc w g 0 d := holds_of_ownV enc hown
    have hswo' : SWO (ltOf cf') := ⟨fun x => hswo.irrefl _, fun x y z h1 h2 => hswo.trans _ _ _ h1 h2, fun x y z h1 h2 => hswo.ntrans _ _ _ h1 h2⟩
    have hcmp : CmpLays1 Tryz.prog f #[] enc cf' g 0 d.size w := by
      intro m os dk hdk x y
      have hx := ho.2.1 x.1 x.2
      have hy := ho.2.1 y.1 y.2
      have hcx : Cells (sortWorld enc w g 0 m dk os) x.1.1 0 x.1.2.2 := by
        have h1 := hx.cells
        have hne : g ≠ x.1.1 := ho.1.ne hx.toV (by decide)
        intro j hj
        rw [← h1 j hj]
        unfold World.cell?
        simp only [heap_sorted_other enc dk hx.lt hne]
      have hcy : Cells (sortWorld enc w g 0 m dk os) y.1.1 0 y.1.2.2 := by
        have h1 := hy.cells
        have hne : g ≠ y.1.1 := ho.1.ne hy.toV (by decide)
        intro j hj
        rw [← h1 j hj]
        unfold World.cell?
        simp only [heap_sorted_other enc dk hy.lt hne]
      exact hcf x.1.1 0 x.1.2.1 y.1.1 0 y.1.2.1 x.1.2.2 y.1.2.2 _ (hrl _ x.2) (hrl _ y.2) hcx hcy
    have hcon := Any.slices_SortFunc Tryz.sortRows enc (fun _ => rfl) cf' hswo' f #[] g 0 cap d w ef hcmp hH ho.1.lt (by rw [hds]; omega)
    rw [hds] at hcon
    change Calls Tryz.prog 166 _ _ _ at hcon
    refine hcon.mono ?_
    rintro e w' ⟨rfl, d', k, os, hp, hs, rfl⟩
    have hp1 : d'.size = rs.length := by rw [hp.1, hds]
    have hpm : (d'.toList.map (fun x : {r : RowRef // r ∈ rs} => x.1)).Perm rs := by
      have h1 := hp.2.2
      have h2 : (d'.extract 0 rs.length).toList = d'.toList := by rw [← hp1]; simp
      have h3 : (d.extract 0 rs.length).toList = d.toList := by rw [← hds]; simp
      rw [h2, h3] at h1
      have h4 := h1.map (fun x : {r : RowRef // r ∈ rs} => x.1)
      have h5 : d.toList.map (fun x : {r : RowRef // r ∈ rs} => x.1) = rs := List.attach_map_subtype_val rs
      rw [h5] at h4
      exact h4
    refine ⟨rfl, d'.toList.map (·.1), hpm, ?_, ?_, grownBy_sortedE enc d'⟩
    · unfold contents
      rw [List.map_map, List.pairwise_map, List.pairwise_iff_getElem]
      intro i j hi hj hij
      have h1 := hs i j (Nat.zero_le _) hij (by rw [← hp1]; simpa using hj)
      have h2 : i < d'.size := by simpa using hi
      have h3 : j < d'.size := by simpa using hj
      rw [getElem!_pos d' i h2, getElem!_pos d' j h3] at h1
      unfold ltOf at h1
      simpa using h1
    · have hl' : d'.toList.length = rs.attach.length := by simp [hp.1, hds]
      have h1 := ownV_sorted (n := k) (os := os) enc hown hl'
      have e1 : d'.toList.map enc = (d'.toList.map (·.1)).map rowVal := by rw [List.map_map]; rfl
      rw [e1] at h1
      have hmem : ∀ r ∈ d'.toList.map (·.1), r ∈ rs := fun r hr => by
        obtain ⟨x, -, rfl⟩ := List.mem_map.1 hr
        exact x.2
      refine ⟨by simpa using h1, fun r hr => ?_, ?_⟩
      · have h2 := ho.2.1 r (hmem r hr)
        exact h2.grown (grownBy_sortedE enc d') (fun e => ho.1.ne h2.toV (by decide) (Option.some.inj e).symm)
      · exact (hpm.map (·.1)).nodup_iff.2 ho.2.2
end Go.Proofs.YtdedkfbiookofaaGreatDoor
namespace Go.Proofs.YtdedkfbiookofaaGreatDoor
set_option maxRecDepth 100000
open Go.RowKit Game
open Go.Sort (SWO)
set_option maxRecDepth 100000 in
set_option maxHeartbeats 1000000 in
theorem impl_list_any (n : Nat) (v : List Int) (w : World) (hn : v.length = n) (h4 : v.length ≤ 4) :
    Calls Tryz.prog 165 #[vecVal v, .int .i64 n] w (GotInts w v) := by
  subst hn
  obtain ⟨w1, hw1⟩ : ∃ w1, w1 = w.alloc (.cells #[.int .i64 (v.getD 0 0), .int .i64 (v.getD 1 0), .int .i64 (v.getD 2 0), .int .i64 (v.getD 3 0)] 117) := ⟨_, rfl⟩
  have hs1 : w1.heap.size = w.heap.size + 1 := by rw [hw1]; simp
  have hb1 : Below w.heap.size w w1 := by rw [hw1]; exact (Below.refl _ _).alloc (Nat.le_refl _) _
  have hh1 : w1.heap[w.heap.size]? = some (.cells #[.int .i64 (v.getD 0 0), .int .i64 (v.getD 1 0), .int .i64 (v.getD 2 0), .int .i64 (v.getD 3 0)] 117 (0, 0)) := by rw [hw1]; exact heap_alloc_new _ _
  have hc1 : Cells w1 w.heap.size 0 v := cells_of4 h4 hh1
  have Hw1 := Lib.hid hw1; have Hc1 := Lib.hid hc1; have Hs1 := Lib.hid hs1
  clear hw1 hh1 hc1 hs1
  unfold vecVal
  generalize v.getD 0 0 = x0 at *
  generalize v.getD 1 0 = x1 at *
  generalize v.getD 2 0 = x2 at *
  generalize v.getD 3 0 = x3 at *
  have h4I : (v.length : Int) ≤ 4 := by omega
  go_enter Tryz.func165, Tryz.ntmps165
  go_wp2_with (at_builtin; refine wpList_clone_n rfl _ _ rfl w1 _ (w.heap.size + 1) w.heap.size 0 v.length 4 v rfl (by rw [Hw1.out]) Hs1.out hb1 (by rw [Hs1.out]; omega) Hc1.out rfl rfl (by omega) ?_)
  intro g' c' w' ho' hb'
  go_wp2_with fail
  go_ret
  exact ⟨g', c', rfl, ho', hb'⟩
theorem SeenM.ne {w : World} {b n m g cap B : Nat} {ks vs : List (List Int)} (h : SeenM w b n m ks) (ho : OwnVecs w B g cap vs) : b ≠ g := by
  rintro rfl
  obtain ⟨D, ⟨es, clock, hh, -⟩, -⟩ := h
  obtain ⟨cur, h2, -⟩ := OwnK.row ho
  rw [hh] at h2
  simp at h2
theorem addV_len (c : List (List Int)) (x : List Int) (nx : List (List Int)) (i : Nat) : (addV c x nx i).length ≤ nx.length + 1 := by
  unfold addV; split
  · omega
  · split
    · omega
    · simp
theorem addTo_len (c : List (List Int)) (x : List Int) (nx : List (List Int)) : ∀ k, (addTo c x nx k).length ≤ nx.length + k
  | 0 => by simp [addTo]
  | k + 1 => by rw [addTo_succ]; have := addV_len c x (addTo c x nx k) k; have := addTo_len c x nx k; omega
theorem shTo_len (c : List (List Int)) (hc : c.length ≤ 4) (sh : List (List Int)) : ∀ k, k ≤ sh.length → (shTo c sh k).length ≤ 4 * k
  | 0, _ => by simp [shTo]
  | k + 1, hk => by
    rw [shTo_succ _ _ _ (by omega)]
    have h1 := addTo_len c (sh.getD k []) (shTo c sh k) c.length
    have h2 := shTo_len c hc sh k (by omega)
    omega
/-- the comparison of words -/
theorem swo_word : SWO (ltOf wordCmp) where
  irrefl x := by unfold ltOf; rw [wordCmp_self]; rfl
  trans x y z h1 h2 := by unfold ltOf at *; simp at *; exact wordCmp_trans h1 h2
  ntrans x y z h1 h2 := by
    unfold ltOf at *
    simp at *
    rcases Int.lt_trichotomy (wordCmp x z) 0 with h | h | h
    · have a1 := wordCmp_anti x y
      have a2 := wordCmp_anti y z
      rcases Int.lt_trichotomy (wordCmp x y) 0 with g | g | g
      · omega
      · have := wordCmp_zero g; subst this; omega
      · rcases Int.lt_trichotomy (wordCmp y z) 0 with k | k | k
        · omega
        · have := wordCmp_zero k; subst this; omega
        · have := wordCmp_trans (a := z) (b := y) (d := x) (by omega) (by omega)
          have a3 := wordCmp_anti x z
          omega
    · omega
    · omega
theorem cmp_words : CmpOk 167 wordCmp := fun g1 o1 c1 g2 o2 c2 xs ys w hx _ h1 h2 =>
  (impl_CompareWords_any g1 o1 _ c1 g2 o2 _ c2 xs ys w rfl rfl hx h1 h2).mono fun _ _ h => lays_grow h
set_option maxRecDepth 100000 in
set_option maxHeartbeats 8000000 in
theorem impl_ball_any (gc oc n cc M : Nat) (c : List (List Int)) (w : World) (hn : c.length = n) (hC : IsC c) (hM : ∀ t, t ≤ M → levS c t ≠ [] → t ≤ 28) (hgc : gc < w.heap.size) (hr : Rows2 w gc oc c) :
    Calls Tryz.prog 139 #[(Value.slice (some ⟨gc, oc, none⟩) n cc), .int .i64 M, .int .i64 200] w (GotRowsB w (levsTo c (depthG c M 0)).flatten (ballOk c M)) := by
  subst hn
  have hn4 := hC.2.1
  obtain ⟨w1, hw1⟩ : ∃ w1, w1 = (w.alloc (.cells #[] 3)).alloc (.cells #[(Value.slice (some ⟨w.heap.size, 0, none⟩) 0 0)] 25) := ⟨_, rfl⟩
  have hb1 : Below w.heap.size w w1 := by rw [hw1]; exact (by repeat (first | with_reducible exact Below.refl _ _ | with_reducible assumption | with_reducible refine below_drewN ?_ _ | with_reducible refine Below.drew ?_ | (with_reducible refine Below.alloc ?_ ?_ _; rotate_left; · first | (simp; done) | (simp; omega) | exact Below.size (by assumption) | (have hsz := Below.size (by assumption : Below _ _ _); simp at hsz ⊢; omega)) | (with_reducible refine Below.setCell ?_ ?_ _; rotate_left; · first | (simp; done) | (simp; omega))))
  have hO1 : OwnRows w1 w.heap.size (w.heap.size + 1) 1 [(w.heap.size, 0, [])] := by rw [hw1]; exact start_rows w
  have hcall := impl_ones_any c.length w1 (by omega)
  rw [hw1] at hcall
  have Hcall := Lib.hid hcall; have Hw1 := Lib.hid hw1; clear hcall hw1
  go_enter Tryz.func139, Tryz.ntmps139
  go_wp2_with fail
  refine Hcall.out.mono ?_
  rintro e w2 ⟨g2, c2, rfl, ho2, hb2⟩
  rw [← Hw1.out] at ho2 hb2
  rw [onesL_length]
  have hO2 := hO1.below hb2
  have hB2 := hb1.trans (hb2.mono hb1.size)
  clear Hcall Hw1 hO1 hb1 hb2
  go_wp2_with fail
  refine (impl_vectorOf_any g2 0 c.length c2 (onesL c.length) w2 (onesL_length _) (by rw [onesL_length]; omega) ho2.lt ho2.cells).mono ?_
  rintro e w3 ⟨rfl, hb3⟩
  have hO3 := hO2.below hb3
  have hB3 := hB2.trans (hb3.mono hB2.size)
  clear hO2 hb3 hB2 ho2
  unfold vecVal
  go_wp2_with fail
  go_loopw [8, 9, 10] (fun ov sv lv wr => ∃ (t gO cO nO gS cS sl : Nat) (rsO : List RowRef) (vs : List (List Int)), lv = .int .i64 ((t + 1 : Nat) : Int) ∧ Hid (BallSt c M t) ∧ t ≤ M ∧ ov = (Value.slice (some ⟨gO, 0, none⟩) nO cO) ∧ nO ≤ 200 ∧ Hid (rsO.length = nO) ∧ Hid (contents rsO = (levsTo c t).flatten) ∧ sv = (Value.slice (some ⟨gS, 0, none⟩) sl cS) ∧ Hid (vs.length = sl) ∧ Hid (Shell c t vs) ∧ t ≤ 29 ∧ OwnVecs wr w.heap.size gS cS vs ∧ OwnRows wr w.heap.size gO cO rsO ∧ Below w.heap.size w wr) (fun _ _ lv _ => M + 2 - (intOf lv).toNat)
  case atStart =>
    refine ⟨0, w.heap.size + 1, 1, 1, w3.heap.size, 1, 1, [(w.heap.size, 0, [])], [onesL c.length], rfl, BallSt.zero c M, Nat.zero_le _, rfl, by omega, rfl, rfl, rfl, rfl, Shell.zero hC, by omega, ?_, hO3.below ((Below.refl _ _).alloc (Nat.le_refl _) _), hB3.alloc hB3.size _⟩
    have := OwnVecs.one (w := w3) (B := w.heap.size) (onesL c.length) hB3.size
    simpa [List.getD] using this
  case round =>
    clear hO3 hB3
    obtain ⟨t, gO, cO, nO, gS, cS, sl, rsO, vs, rfl, hst, htM, rfl, hnO, hrl, hcO, rfl, hvl, hsh, ht29, hV, hO, hb⟩ := hrel
    have hsl : sl = (levS c t).length := by rw [← hvl.out]; exact hsh.out.len hC ht29
    by_cases hgo : t + 1 ≤ M ∧ 0 < sl
    · obtain ⟨hg1, hg2⟩ := hgo
      have hlz : levS c t ≠ [] := by intro e; rw [e] at hsl; simp at hsl; omega
      have ht28 := hM t htM hlz
      have hsl200 : sl ≤ 200 := by rw [hsl]; exact Nat.le_trans (tot_le c t) hst.out.small
      have Hlz := Lib.hid hlz; have Hsl := Lib.hid hsl
      clear hlz hsl
      obtain ⟨wo, rfl⟩ : ∃ wo : World, wo = wr := ⟨_, rfl⟩
      have hmm := @run_makeMap Tryz.prog
      go_wp2_with fail
      clear hmm
      go_loopw [12, 42] (fun nx kv wi => ∃ (k gN cN nN : Nat) (ns : List (List Int)), k ≤ sl ∧ kv = .int .i64 k ∧ nx = (Value.slice (some ⟨gN, 0, none⟩) nN cN) ∧ Hid (ns.length = nN) ∧ Hid (ns = shTo c vs k) ∧ OwnVecs wi wo.heap.size gN cN ns ∧ (∃ nM, nM ≤ nN ∧ SeenM wi wo.heap.size nM c.length ns) ∧ Below wo.heap.size wo wi) (fun _ kv _ => sl - (intOf kv).toNat)
      case atStart =>
        refine ⟨0, wo.heap.size + 1, 0, 0, [], Nat.zero_le _, rfl, rfl, rfl, rfl, ?_, ⟨0, Nat.le_refl _, ?_⟩, (by repeat (first | with_reducible exact Below.refl _ _ | with_reducible assumption | with_reducible refine below_drewN ?_ _ | with_reducible refine Below.drew ?_ | (with_reducible refine Below.alloc ?_ ?_ _; rotate_left; · first | (simp; done) | (simp; omega) | exact Below.size (by assumption) | (have hsz := Below.size (by assumption : Below _ _ _); simp at hsz ⊢; omega)) | (with_reducible refine Below.setCell ?_ ?_ _; rotate_left; · first | (simp; done) | (simp; omega))))⟩
        · have := OwnVecs.empty (w := wo.alloc (.map #[] 0)) (B := wo.heap.size) (by simp)
          simpa using this
        · exact (SeenM.start wo c.length).grown (World.grownBy_alloc _ _ none) (by simp)
      case round =>
        obtain ⟨k, gN, cN, nN, ns, hk, rfl, rfl, hnl, hns, hN, ⟨nM, hnM, hSM⟩, hbi⟩ := hrel
        have hBi := hb.trans (hbi.mono hb.size)
        have hNb := hN.base
        by_cases hlt : k < sl
        · have hkv : k < vs.length := by rw [hvl.out]; exact hlt
          have hVi := hV.below hbi hV.lt
          have a0 := hVi.cell hkv (i := 0) (by omega)
          have a1 := hVi.cell hkv (i := 1) (by omega)
          have a2 := hVi.cell hkv (i := 2) (by omega)
          have a3 := hVi.cell hkv (i := 3) (by omega)
          rw [Nat.add_zero] at a0
          have hsucc := shTo_succ c vs k hkv
          obtain ⟨x, hx⟩ : ∃ x, x = vs.getD k [] := ⟨_, rfl⟩
          have hxm : x ∈ vs := by rw [hx]; simp [List.getD, hkv]
          rw [← hx] at a0 a1 a2 a3 hsucc
          obtain ⟨W0, hW0, hxe⟩ := (hsh.out.2 x).1 hxm
          have hxl : x.length = c.length := by rw [hxe]; exact imgL_length _ _
          have Hx := Lib.hid hx; have Hsucc := Lib.hid hsucc; have Hxl := Lib.hid hxl; have HW0 := Lib.hid hW0; have Hxe := Lib.hid hxe
          clear hx hsucc hxl hxm hW0 hxe
          obtain ⟨x0, h0⟩ : ∃ x0, x0 = x.getD 0 0 := ⟨_, rfl⟩
          obtain ⟨x1, h1⟩ : ∃ x1, x1 = x.getD 1 0 := ⟨_, rfl⟩
          obtain ⟨x2, h2⟩ : ∃ x2, x2 = x.getD 2 0 := ⟨_, rfl⟩
          obtain ⟨x3, h3⟩ : ∃ x3, x3 = x.getD 3 0 := ⟨_, rfl⟩
          rw [← h0] at a0; rw [← h1] at a1; rw [← h2] at a2; rw [← h3] at a3
          have H0 := Lib.hid h0; have H1 := Lib.hid h1; have H2 := Lib.hid h2; have H3 := Lib.hid h3
          clear h0 h1 h2 h3
          have hvv : vecVal x = .agg #[.int .i64 x0, .int .i64 x1, .int .i64 x2, .int .i64 x3] := by unfold vecVal; rw [H0.out, H1.out, H2.out, H3.out]
          have Hvv := Lib.hid hvv; clear hvv
          go_wp2_with fail
          have hhx : (wr.alloc (.cells #[.int .i64 x0, .int .i64 x1, .int .i64 x2, .int .i64 x3] 117)).heap[wr.heap.size]? = some (.cells #[.int .i64 x0, .int .i64 x1, .int .i64 x2, .int .i64 x3] 117 (0, 0)) := heap_alloc_new _ _
          have hbx : Below wo.heap.size wo (wr.alloc (.cells #[.int .i64 x0, .int .i64 x1, .int .i64 x2, .int .i64 x3] 117)) := hbi.alloc hbi.size _
          have hNx : OwnVecs (wr.alloc (.cells #[.int .i64 x0, .int .i64 x1, .int .i64 x2, .int .i64 x3] 117)) wo.heap.size gN cN ns := hN.grown (World.grownBy_alloc _ _ none) (by simp)
          have hSx : SeenM (wr.alloc (.cells #[.int .i64 x0, .int .i64 x1, .int .i64 x2, .int .i64 x3] 117)) wo.heap.size nM c.length ns := hSM.grown (World.grownBy_alloc _ _ none) (by simp)
          have hgx : gN ≠ wr.heap.size := by have := hN.lt; omega
          have hwx : wo.heap.size < wr.heap.size := hSM.lt
          clear hN hSM hVi hBi hbi a0 a1 a2 a3
          generalize wr.alloc (.cells #[.int .i64 x0, .int .i64 x1, .int .i64 x2, .int .i64 x3] 117) = wx at *
          generalize wr.heap.size = bX at *
          go_loopw [12, 48] (fun nx iv wj => ∃ (i gN cN nN : Nat) (ns : List (List Int)), i ≤ c.length ∧ iv = .int .i64 i ∧ nx = (Value.slice (some ⟨gN, 0, none⟩) nN cN) ∧ Hid (ns.length = nN) ∧ Hid (ns = addTo c x (shTo c vs k) i) ∧ OwnVecs wj wo.heap.size gN cN ns ∧ (∃ nM, nM ≤ nN ∧ SeenM wj wo.heap.size nM c.length ns) ∧ Below wo.heap.size wo wj ∧ gN ≠ bX ∧ Hid (wj.heap[bX]? = some (.cells #[.int .i64 x0, .int .i64 x1, .int .i64 x2, .int .i64 x3] 117 (0, 0)))) (fun _ iv _ => c.length - (intOf iv).toNat)
          case atStart =>
            exact ⟨0, gN, cN, nN, ns, Nat.zero_le _, rfl, rfl, hnl, hns, hNx, ⟨nM, hnM, hSx⟩, hbx, hgx, hhx⟩
          case round =>
            clear hNx hSx hbx hhx hgx hnl hns hnM hNb
            obtain ⟨i, gN, cN, nN, ns, hi, rfl, rfl, hnl, hns, hN, ⟨nM, hnM, hSM⟩, hbj, hgx, hhx⟩ := hrel
            by_cases hil : i < c.length
            · have hxl4 : x.length ≤ 4 := by rw [Hxl.out]; exact hn4
              have hcx : Cells wr bX 0 x := cells_of4 (t := 117) hxl4 (by rw [← H0.out, ← H1.out, ← H2.out, ← H3.out]; exact hhx.out)
              have q := hcx i (by rw [Hxl.out]; exact hil)
              rw [Nat.zero_add] at q
              obtain ⟨⟨b0, b1, b2, b3⟩, -⟩ := cell4 hhx.out
              have hadd := addTo_succ c x (shTo c vs k) i
              rw [← hns.out] at hadd
              unfold addV at hadd
              have i4 : i < 4 := by omega
              have hbXl : bX < wr.heap.size := by
                have := hhx.out
                rcases Nat.lt_or_ge bX wr.heap.size with h | h
                · exact h
                · rw [Array.getElem?_eq_none h] at this; simp at this
              obtain ⟨xi, hxi⟩ : ∃ xi, xi = x.getD i 0 := ⟨_, rfl⟩
              rw [← hxi] at q hadd
              have Hxi := Lib.hid hxi; clear hxi hcx
              by_cases hneg : xi < 0
              · rw [if_pos hneg] at hadd
                have Hadd := Lib.hid hadd; clear hadd
                go_wp2_with fail
                go_roundw
                case rel => exact ⟨i + 1, gN, cN, nN, ns, by omega, by go_num, rfl, hnl, Hadd.out.symm, hN, ⟨nM, hnM, hSM⟩, hbj, hgx, hhx⟩
                case measure => simp [intOf]; omega
              · rw [if_neg hneg] at hadd
                have Hadd := Lib.hid hadd; clear hadd
                have hcall := impl_list_any c.length x wr Hxl.out hxl4
                rw [Hvv.out] at hcall
                have Hcall := Lib.hid hcall; clear hcall
                go_wp2_with fail
                refine Hcall.out.mono ?_
                rintro e w4 ⟨gv, cv, rfl, hov, hbv⟩
                rw [Hxl.out]
                have hxv : x.length = c.length := Hxl.out
                have hBv : Below wo.heap.size wo w4 := hbj.trans (hbv.mono hbj.size)
                have hgw : gc < wo.heap.size := Nat.lt_of_lt_of_le hgc hb.size
                have hcall := impl_reflected_any wo gc oc c.length cc gv cv i c.length c x w4 rfl hxv hxv hn4 hC.2.2.1 hil hgw (hr.below hb hgc) hBv (hov.mono hbj.size)
                have Hcall := Lib.hid hcall; clear hcall hxv
                have hN4 := hN.below hbv hN.lt
                have hS4 := hSM.below hbv hSM.lt
                have hh4 : Hid (w4.heap[bX]? = some (.cells #[.int .i64 x0, .int .i64 x1, .int .i64 x2, .int .i64 x3] 117 (0, 0))) := (hbv.block _ hbXl).trans hhx.out
                have hgvN : gN ≠ gv := by have := hN.lt; have := hov.base; omega
                have hgvX : gv ≠ bX := by have := hov.base; omega
                have hgvo : wo.heap.size ≤ gv := by have := hov.base; have := hbj.size; omega
                have hbX4 : bX < w4.heap.size := Nat.lt_of_lt_of_le hbXl hbv.size
                have hbM : wo.heap.size ≠ gv := hS4.neOwn hov
                clear hN hSM hhx hbj hbXl b0 b1 b2 b3 q
                go_wp2_with fail
                refine Hcall.out.mono ?_
                rintro e w5 ⟨rfl, ho5, hg5⟩
                have hN5 := hN4.grown hg5 (by simpa using hgvN)
                have hS5 := hS4.grown hg5 (by simpa using hbM)
                have hh5 : Hid (w5.heap[bX]? = some (.cells #[.int .i64 x0, .int .i64 x1, .int .i64 x2, .int .i64 x3] 117 (0, 0))) := (hg5.block _ hbX4 (by simp; omega)).trans hh4.out
                have hB5 : Below wo.heap.size wo w5 := hBv.grown hg5 hBv.size (by intro j hj; cases hj; exact hgvo)
                have hbX5 : bX < w5.heap.size := Nat.lt_of_lt_of_le hbX4 hg5.size
                clear hN4 hS4 hh4 hBv hg5 hov hbv hbX4 Hcall
                have hyl : (refl c i x).length = c.length := by rw [refl_length]; exact Hxl.out
                have hyw := wfV_refl c i x
                generalize refl c i x = y at *
                have Hyl := Lib.hid hyl; have Hyw := Lib.hid hyw
                clear hyl hyw
                obtain ⟨y0, j0⟩ : ∃ z, z = y.getD 0 0 := ⟨_, rfl⟩
                obtain ⟨y1, j1⟩ : ∃ z, z = y.getD 1 0 := ⟨_, rfl⟩
                obtain ⟨y2, j2⟩ : ∃ z, z = y.getD 2 0 := ⟨_, rfl⟩
                obtain ⟨y3, j3⟩ : ∃ z, z = y.getD 3 0 := ⟨_, rfl⟩
                have hvy : vecVal y = .agg #[.int .i64 y0, .int .i64 y1, .int .i64 y2, .int .i64 y3] := by unfold vecVal; rw [j0, j1, j2, j3]
                have J0 := Lib.hid j0; have J1 := Lib.hid j1; have J2 := Lib.hid j2; have J3 := Lib.hid j3
                have hcall := impl_vectorOf_any gv 0 c.length cv y w5 Hyl.out (by rw [Hyl.out]; exact hn4) ho5.lt ho5.cells
                rw [hvy] at hcall
                have Hcall := Lib.hid hcall; have Hvy := Lib.hid hvy
                clear j0 j1 j2 j3 hcall hvy
                go_wp2_with fail
                refine Hcall.out.mono ?_
                rintro e w6 ⟨rfl, hb6⟩
                have hN6 := hN5.below hb6 hN5.lt
                have hS6 := hS5.below hb6 hS5.lt
                have hh6 : Hid (w6.heap[bX]? = some (.cells #[.int .i64 x0, .int .i64 x1, .int .i64 x2, .int .i64 x3] 117 (0, 0))) := (hb6.block _ hbX5).trans hh5.out
                have hB6 := hB5.trans (hb6.mono hB5.size)
                have hbX6 : bX < w6.heap.size := Nat.lt_of_lt_of_le hbX5 hb6.size
                clear hN5 hS5 hh5 hB5 hb6 ho5 hbX5 Hcall
                have hS7 : SeenM (w6.alloc (.cells #[.int .i64 y0, .int .i64 y1, .int .i64 y2, .int .i64 y3] 117)) wo.heap.size nM c.length ns := hS6.grown (World.grownBy_alloc _ _ none) (by simp)
                have hN7 : OwnVecs (w6.alloc (.cells #[.int .i64 y0, .int .i64 y1, .int .i64 y2, .int .i64 y3] 117)) wo.heap.size gN cN ns := hN6.grown (World.grownBy_alloc _ _ none) (by simp)
                have hB7 : Below wo.heap.size wo (w6.alloc (.cells #[.int .i64 y0, .int .i64 y1, .int .i64 y2, .int .i64 y3] 117)) := hB6.alloc hB6.size _
                have hk7 : Hid ((w6.alloc (.cells #[.int .i64 y0, .int .i64 y1, .int .i64 y2, .int .i64 y3] 117)).heap[w6.heap.size]? = some (.cells #[.int .i64 y0, .int .i64 y1, .int .i64 y2, .int .i64 y3] 117 (0, 0))) := heap_alloc_new _ _
                have hh7 : Hid ((w6.alloc (.cells #[.int .i64 y0, .int .i64 y1, .int .i64 y2, .int .i64 y3] 117)).heap[bX]? = some (.cells #[.int .i64 x0, .int .i64 x1, .int .i64 x2, .int .i64 x3] 117 (0, 0))) := (Below.heap_alloc _ _ _ hbX6).trans hh6.out
                have hs7 : (w6.alloc (.cells #[.int .i64 y0, .int .i64 y1, .int .i64 y2, .int .i64 y3] 117)).heap.size = w6.heap.size + 1 := by simp
                by_cases hmem : y ∈ ns
                · have hadd2 := Hadd.out
                  rw [if_pos hmem] at hadd2
                  have hdm : decide (y ∈ ns) = true := decide_eq_true hmem
                  have Hadd2 := Lib.hid hadd2; have Hdm := Lib.hid hdm
                  clear hadd2 hdm hmem hk7 hs7
                  go_wp2_with (at_lookup; refine wpList_seen_lookup rfl _ _ rfl wo.heap.size nM c.length ns y Hyl.out Hyw.out hS7 rfl (by rw [Hvy.out]; rfl) true Hdm.out ?_)
                  go_roundw
                  case rel => exact ⟨i + 1, gN, cN, nN, ns, by omega, by go_num, rfl, hnl, Hadd2.out.symm, hN7, ⟨nM, hnM, hS7⟩, hB7, hgx, hh7⟩
                  case measure => simp [intOf]; omega
                · have hadd2 := Hadd.out
                  rw [if_neg hmem] at hadd2
                  have hdm : decide (y ∈ ns) = false := decide_eq_false hmem
                  have Hadd2 := Lib.hid hadd2; have Hdm := Lib.hid hdm
                  clear hadd2 hdm hmem
                  have hnN : nN ≤ 4096 := by
                    have h1 := addTo_len c x (shTo c vs k) i
                    have h2 := shTo_len c hn4 vs k (by rw [hvl.out]; omega)
                    rw [← hns.out, hnl.out] at h1
                    omega
                  go_wp2_with (first
                    | (at_lookup; refine wpList_seen_lookup rfl _ _ rfl wo.heap.size nM c.length ns y Hyl.out Hyw.out hS7 rfl (by rw [Hvy.out]; rfl) false Hdm.out ?_)
                    | (at_mapUpdate; refine wpList_seen_put rfl _ _ _ rfl wo.heap.size nM c.length ns y Hyl.out hn4 Hyw.out hS7 (by omega) rfl (by rw [Hvy.out]; rfl) rfl ?_))
                  intro w8 hS8 hg8
                  have hN8 := hN7.grown hg8 (by simpa using (hS7.ne hN7).symm)
                  have hB8 : Below wo.heap.size wo w8 := hB7.grown hg8 hB7.size (by intro j hj; cases hj; exact Nat.le_refl _)
                  have hbM6 := hS6.lt
                  have hk8 : w8.heap[w6.heap.size]? = some (.cells #[.int .i64 y0, .int .i64 y1, .int .i64 y2, .int .i64 y3] 117 (0, 0)) := (hg8.block _ (by rw [hs7]; omega) (by simp; omega)).trans hk7.out
                  have hh8 : Hid (w8.heap[bX]? = some (.cells #[.int .i64 x0, .int .i64 x1, .int .i64 x2, .int .i64 x3] 117 (0, 0))) := (hg8.block _ (by rw [hs7]; omega) (by simp; omega)).trans hh7.out
                  have hs8 := hg8.size
                  rw [hs7] at hs8
                  obtain ⟨⟨k0, k1, k2, k3⟩, -⟩ := cell4 hk8
                  clear hk8 hk7 hh7 hN7 hS7 hB7 hg8 hN6 hS6 hh6 hB6
                  go_wp2_with (at_builtin; refine wpList_append_vec rfl _ _ rfl wo.heap.size gN cN nN w8.heap.size ns y w8 _ hnl.out (by rw [J0.out, J1.out, J2.out, J3.out]) rfl hN8 rfl rfl (by omega) ?_)
                  intro g9 c9 w9 hN9 hg9 hor9
                  have hS9 := hS8.grown hg9 (by simpa using hS8.ne hN8)
                  have hB9 : Below wo.heap.size wo w9 := hB8.grown hg9 hB8.size (by intro j hj; cases hj; exact hN8.base)
                  have hh9 : Hid (w9.heap[bX]? = some (.cells #[.int .i64 x0, .int .i64 x1, .int .i64 x2, .int .i64 x3] 117 (0, 0))) := (hg9.block _ (by omega) (by simpa using hgx.symm)).trans hh8.out
                  have hgx9 : g9 ≠ bX := by
                    rcases hor9 with h | h
                    · rw [h]; exact hgx
                    · omega
                  clear hN8 hS8 hB8 hh8 hg9 hor9 k0 k1 k2 k3
                  go_wp2_with fail
                  go_roundw
                  case rel =>
                    refine ⟨i + 1, g9, c9, nN + 1, ns ++ [y], by omega, by go_num, rfl, ?_, Hadd2.out.symm, hN9, ⟨nM + 1, by omega, hS9⟩, hB9, hgx9, hh9⟩
                    show _ = _
                    rw [List.length_append, hnl.out]; rfl
                  case measure => simp [intOf]; omega
            · obtain rfl : i = c.length := by omega
              go_wp2_with fail
              go_roundw
              case rel => exact ⟨k + 1, gN, cN, nN, ns, by omega, by go_num, rfl, hnl, by show _ = _; rw [Hsucc.out]; exact hns.out, hN, ⟨nM, hnM, hSM⟩, hbj⟩
              case measure => simp [intOf]; omega
        · obtain rfl : k = sl := by omega
          have hshN : Shell c (t + 1) ns := by
            have h1 := hsh.out.next hC ht29
            rw [hvl.out] at h1
            rw [hns.out]; exact h1
          have hnl2 : nN = (levS c (t + 1)).length := by rw [← hnl.out]; exact hshN.len hC (by omega)
          have htot : tot c (t + 1) = nO + nN := by
            simp only [tot]
            rw [← hnl2, ← tot_flat, ← hcO.out, contents_length, hrl.out]
          have hO2 := hO.below hbi
          have hB2 := hb.trans (hbi.mono hb.size)
          have hnN : nN ≤ 4096 := by
            have h2 := shTo_len c hn4 vs k (by rw [hvl.out]; omega)
            rw [← hns.out, hnl.out] at h2
            omega
          have HshN := Lib.hid hshN; have Htot := Lib.hid htot; have Hnl2 := Lib.hid hnl2
          clear hshN htot hnl2
          by_cases hbig : 200 < nO + nN
          · have hov := hst.out.over hg1 Hlz.out (by rw [Htot.out]; exact hbig)
            obtain ⟨ho1, ho2⟩ := hov
            have Ho1 := Lib.hid ho1; have Ho2 := Lib.hid ho2
            clear ho1 ho2
            have hbI : (200 : Int) < (nO : Int) + (nN : Int) := by omega
            go_wp2_with fail
            go_ret2
            rw [Ho2.out, ← Ho1.out]
            exact GotRowsB.mk' gO cO rsO hrl.out hcO.out hO2 hB2
          · have hst2 := hst.out.step hg1 Hlz.out (by rw [Htot.out]; omega)
            have Hst2 := Lib.hid hst2; clear hst2
            have hbI : ¬ (200 : Int) < (nO : Int) + (nN : Int) := by omega
            have hgOo := hO.lt
            have hgNo := hN.base
            obtain ⟨wp, rfl⟩ : ∃ wp : World, wp = wr := ⟨_, rfl⟩
            go_wp2_with fail
            go_loopw [18, 88] (fun wv uv wk => ∃ (u gW cW : Nat) (rsW : List RowRef), u ≤ nN ∧ uv = .int .i64 u ∧ wv = (Value.slice (some ⟨gW, 0, none⟩) u cW) ∧ Hid (rsW.length = u) ∧ Hid (contents rsW = (ns.take u).map (nfV c)) ∧ OwnRows wk wp.heap.size gW cW rsW ∧ Below wp.heap.size wp wk) (fun _ uv _ => nN - (intOf uv).toNat)
            case atStart => exact ⟨0, wp.heap.size, 0, [], Nat.zero_le _, rfl, rfl, rfl, rfl, OwnRows.empty (Nat.le_refl _), (Below.refl _ _).alloc (Nat.le_refl _) _⟩
            case round =>
              obtain ⟨u, gW, cW, rsW, hu, rfl, rfl, hlW, hcW, hW, hbk⟩ := hrel
              have hNk := hN.below hbk hN.lt
              have hBk := hB2.trans (hbk.mono hB2.size)
              by_cases hul : u < nN
              · have hun : u < ns.length := by rw [hnl.out]; exact hul
                have a0 := hNk.cell hun (i := 0) (by omega)
                have a1 := hNk.cell hun (i := 1) (by omega)
                have a2 := hNk.cell hun (i := 2) (by omega)
                have a3 := hNk.cell hun (i := 3) (by omega)
                rw [Nat.add_zero] at a0
                have htk : (ns.take (u + 1)).map (nfV c) = (ns.take u).map (nfV c) ++ [nfV c (ns.getD u [])] := by
                  have e : ns.getD u [] = ns[u] := by simp [List.getD, hun]
                  rw [e, List.take_succ_eq_append_getElem hun, List.map_append]; rfl
                have hxm : ns.getD u [] ∈ ns := by simp [List.getD, hun]
                obtain ⟨W0, hW0, hxe⟩ := (HshN.out.2 _).1 hxm
                have hnf := nfV_img hW0
                rw [← hxe] at hnf
                have hxl : (ns.getD u []).length = c.length := by rw [hxe]; exact imgL_length _ _
                have hWl := hW0.len
                rw [hnf.2] at htk
                generalize ns.getD u [] = x at *
                have Htk := Lib.hid htk; have Hxl := Lib.hid hxl; have Hnf := Lib.hid hnf.1; have HWl := Lib.hid hWl
                clear htk hxl hxm hW0 hxe hnf hWl
                obtain ⟨x0, h0⟩ : ∃ x0, x0 = x.getD 0 0 := ⟨_, rfl⟩
                obtain ⟨x1, h1⟩ : ∃ x1, x1 = x.getD 1 0 := ⟨_, rfl⟩
                obtain ⟨x2, h2⟩ : ∃ x2, x2 = x.getD 2 0 := ⟨_, rfl⟩
                obtain ⟨x3, h3⟩ : ∃ x3, x3 = x.getD 3 0 := ⟨_, rfl⟩
                rw [← h0] at a0; rw [← h1] at a1; rw [← h2] at a2; rw [← h3] at a3
                have hvv : vecVal x = .agg #[.int .i64 x0, .int .i64 x1, .int .i64 x2, .int .i64 x3] := by unfold vecVal; rw [h0, h1, h2, h3]
                clear h0 h1 h2 h3
                obtain ⟨wa, hwa⟩ : ∃ wa, wa = wr.alloc (.cells #[.int .i64 x0, .int .i64 x1, .int .i64 x2, .int .i64 x3] 117) := ⟨_, rfl⟩
                have hba : Below wr.heap.size wr wa := by rw [hwa]; exact (Below.refl _ _).alloc (Nat.le_refl _) _
                have hcall := impl_list_any c.length x wa Hxl.out (by rw [Hxl.out]; exact hn4)
                rw [hvv, hwa] at hcall
                have Hcall := Lib.hid hcall
                clear hcall hvv
                go_wp2_with fail
                refine Hcall.out.mono ?_
                rintro e w4 ⟨gv, cv, rfl, hov, hbv⟩
                rw [← hwa] at hov hbv
                rw [Hxl.out]
                have hb4 : Below wp.heap.size wp w4 := hbk.trans ((hba.trans (hbv.mono hba.size)).mono hbk.size)
                have hB4 := hB2.trans (hb4.mono hB2.size)
                have hW4 := hW.below (hba.trans (hbv.mono hba.size))
                clear hW hNk hBk hba hbv hwa a0 a1 a2 a3 Hcall hbk
                go_wp2_with fail
                refine (impl_normal_any gc oc _ cc gv 0 c.length cv 30 c x (intsOf W0) w4 rfl Hxl.out hC Hxl.out (by omega) Hnf.out (Nat.lt_of_lt_of_le hgc hB4.size) hov.lt (hr.below hB4 hgc) hov.cells).mono ?_
                rintro e w5 ⟨g5, c5, rfl, ho5, hb5⟩
                have hb5' : Below wp.heap.size wp w5 := hb4.trans (hb5.mono hb4.size)
                have hW5 := hW4.below hb5
                have ho5' : Own w5 wp.heap.size g5 c5 (intsOf W0) := ho5.mono hb4.size
                have hne5 : ∀ s ∈ rsW, s.1 ≠ g5 := fun s hs e => by
                  have h1 := (hW4.2.1 s hs).lt
                  have h2 := ho5.base
                  omega
                have hl5 : (intsOf W0).length = t + 1 := by rw [intsOf_length]; exact HWl.out
                rw [hl5]
                have Hl5 := Lib.hid hl5
                clear hl5 hW4 hb4 hb5 hov hB4 ho5
                go_wp2_with (at_builtin; refine wpList_append_row rfl _ _ rfl wp.heap.size gW cW u w5.heap.size rsW (g5, c5, intsOf W0) _ hlW.out (by unfold rowVal; rw [Hl5.out]) rfl hW5 ho5' hne5 rfl rfl (by omega) ?_)
                intro g6 c6 w6 hW6 hg6 hor6
                have hb6 : Below wp.heap.size wp w6 := hb5'.grown hg6 hb5'.size (by intro j hj; cases hj; exact hW5.base)
                clear hW5 hg6 hor6 hb5' ho5' hne5
                go_wp2_with fail
                go_roundw
                case rel =>
                  refine ⟨u + 1, g6, c6, rsW ++ [(g5, c5, intsOf W0)], by omega, by go_num, rfl, ?_, ?_, hW6, hb6⟩
                  · show _ = _
                    rw [List.length_append, hlW.out]; rfl
                  · show _ = _
                    rw [contents_append, hcW.out, Htk.out]
                case measure => simp [intOf]; omega
              · obtain rfl : u = nN := by omega
                have hcW2 : contents rsW = ns.map (nfV c) := by
                  rw [hcW.out, List.take_of_length_le (by rw [hnl.out]; omega)]
                have hrlen : ∀ r ∈ rsW, r.2.2.length ≤ 1048576 := by
                  intro r hr'
                  have h1 : r.2.2 ∈ contents rsW := List.mem_map.2 ⟨r, hr', rfl⟩
                  rw [hcW2] at h1
                  obtain ⟨v, hv, e⟩ := List.mem_map.1 h1
                  obtain ⟨W0, hW0, rfl⟩ := (HshN.out.2 v).1 hv
                  rw [← e, (nfV_img hW0).2, intsOf_length, hW0.len]
                  omega
                have hcall := sort_rows 167 wordCmp cmp_words swo_word (enters_of Tryz.func167 (by kernel_rfl) rfl) wp.heap.size gW cW u rsW wr hlW.out (by rw [hlW.out]; omega) hrlen hW
                have Hcall := Lib.hid hcall; have HcW2 := Lib.hid hcW2
                clear hcall hcW2 hrlen
                go_wp2_with fail
                refine Hcall.out.mono ?_
                rintro e w4 ⟨rfl, rs4, hperm, hsort, hO4, hg4⟩
                have hb4 : Below wp.heap.size wp w4 := hbk.grown hg4 hbk.size (by intro j hj; cases hj; exact hW.base)
                have hlev : contents rs4 = levS c (t + 1) := by
                  refine HshN.out.words hC ?_ (hsort.imp (by intro a b h; omega)) (by omega)
                  rw [← HcW2.out]
                  exact hperm.map _
                have hl4 : rs4.length = u := by rw [hperm.length_eq]; exact hlW.out
                have hOO := hO2.below hb4
                have hNN := hN.below hb4 hN.lt
                have hne : ∀ r ∈ rsO, ∀ s ∈ rs4, r.1 ≠ s.1 := fun r h1 s h2 e => by
                  have h3 := (hO2.2.1 r h1).lt
                  have h4 := (hO4.2.1 s h2).base
                  omega
                have hB4 := hB2.trans (hb4.mono hB2.size)
                have Hlev := Lib.hid hlev; have Hl4 := Lib.hid hl4
                clear hlev hl4 hperm hsort hg4 Hcall hW hNk hBk hbk
                go_wp2_with (at_builtin; refine wpList_append_rows rfl _ _ rfl w.heap.size gO cO nO gW cW u rsO rs4 w4 hrl.out Hl4.out hOO (hO4.mono hB2.size) hne rfl rfl (by omega) ?_)
                intro g5 c5 w5 hO5 hg5 hor5
                have hB5 : Below w.heap.size w w5 := hB4.grown hg5 hB4.size (by intro j hj; cases hj; exact hOO.base)
                have hN5 := hNN.grown hg5 (by simp; omega)
                clear hOO hNN hg5 hor5 hB4 hb4
                go_wp2_with fail
                go_roundw
                case rel =>
                  refine ⟨t + 1, g5, c5, nO + u, gN, cN, u, rsO ++ rs4, ns, by go_num, Hst2.out, by omega, rfl, by omega, ?_, ?_, rfl, hnl, HshN.out, by omega, hN5.mono hb.size, hO5, hB5⟩
                  · show _ = _
                    rw [List.length_append, hrl.out, Hl4.out]
                  · show _ = _
                    rw [levs_flat_succ, ← hcO.out, ← Hlev.out]
                    simp [contents]
                case measure => simp [intOf]; omega
    · have hd := hst.out.done (by
        by_cases h : t + 1 ≤ M
        · right
          apply List.length_eq_zero_iff.1
          rw [← hsl]
          have : ¬ 0 < sl := fun h2 => hgo ⟨h, h2⟩
          omega
        · exact .inl h)
      obtain ⟨hd1, hd2⟩ := hd
      have Hd1 := Lib.hid hd1; have Hd2 := Lib.hid hd2; have Hsl := Lib.hid hsl
      clear hd1 hd2 hsl
      by_cases h1 : t + 1 ≤ M
      · have h1I : (t : Int) + 1 ≤ (M : Int) := by omega
        obtain rfl : sl = 0 := by
          have : ¬ 0 < sl := fun h2 => hgo ⟨h1, h2⟩
          omega
        go_wp2_with fail
        go_ret2
        rw [Hd2.out, ← Hd1.out]
        exact GotRowsB.mk' gO cO rsO hrl.out hcO.out hO hb
      · have h1I : ¬ (t : Int) + 1 ≤ (M : Int) := by omega
        go_wp2_with fail
        go_ret2
        rw [Hd2.out, ← Hd1.out]
        exact GotRowsB.mk' gO cO rsO hrl.out hcO.out hO hb
end Go.Proofs.YtdedkfbiookofaaGreatDoor
