/- slices.SortFunc over rows of the call's own: contract. Letters left out of words: slices.Delete, DeleteAt, DeletionPair, ReduceByDeletion, ReplayDeletions of the program: contracts. -/
import Derived.Test.YtkjglfafphffiaaGreatT10
import Derived.Test.YtkjglfafphffiaaGreatSlay
import Derived.Shelf.SlSortCmp.NoneTotal
import Derived.Test.YtkjglfafphffiaaGreatSlad
import Derived.Test.YtkjglfafphffiaaGreatT19
import Derived.Test.YtkjglfafphffiaaGreatT13
import Derived.Test.YtkjglfafphffiaaGreatT37
namespace Go.Proofs.YtkjglfafphffiaaGreat
set_option maxRecDepth 100000
open Go.RowKit Game
open Go.Sort (Holds putRow putCells mapBlock onCells grow heap_grow_old SWO PermIn SortedIn)
section
variable {α : Type} [Inhabited α] (enc : α → Value)
theorem heap_sortedE {w : World} {g n : Nat} {os : Array Obj} {cur : Array Value} {e : TypeId} {fr : Nat × Nat} (d : Array α) (hb : w.heap[g]? = some (.cells cur e fr)) :
    (sortWorld enc w g 0 n d os).heap[g]? = some (.cells (putCells enc 0 d cur) e fr) := by
  have hg : g < w.heap.size := (Array.getElem?_eq_some_iff.1 hb).1
  unfold sortWorld
  rw [heap_grow_old _ _ (by simpa using hg)]
  simp [putRow, mapBlock, Sort.ahead, Array.getElem?_modify, hb, onCells]
theorem heap_sorted_other {w : World} {g n k : Nat} {os : Array Obj} (d : Array α) (hk : k < w.heap.size) (hne : g ≠ k) :
    (sortWorld enc w g 0 n d os).heap[k]? = w.heap[k]? := by
  unfold sortWorld
  rw [heap_grow_old _ _ (by simpa using hk)]
  simp [putRow, mapBlock, Sort.ahead, Array.getElem?_modify, hne]
theorem grownBy_sortedE {w : World} {g n : Nat} {os : Array Obj} (d : Array α) : w.grownBy (sortWorld enc w g 0 n d os) (some g) :=
  ⟨rfl, rfl, rfl, by unfold sortWorld; simp, fun k hk hne => heap_sorted_other enc d hk (fun e => hne (by rw [e]))⟩
theorem take_putCellsE (cur : Array Value) (ts : List α) (h : ts.length ≤ cur.size) : (putCells enc 0 ts.toArray cur).toList.take ts.length = ts.map enc := by
  apply List.ext_getElem?
  intro j
  by_cases hj : j < ts.length
  · rw [List.getElem?_take_of_lt hj, Array.getElem?_toList]
    simp [putCells, hj, show j < cur.size by omega]
  · rw [List.getElem?_take_eq_none (by omega), List.getElem?_eq_none (by simp; omega)]
theorem holds_of_ownV {w : World} {B g cap : Nat} {E : TypeId} {ss : List α} (h : OwnV w B E g cap (ss.map enc)) : Holds enc w g 0 ss.toArray := by
  intro j hj
  have hj' : j < ss.length := by simpa using hj
  refine ⟨?_, h.frozen _⟩
  rw [Nat.zero_add, h.cell j (by simpa using hj')]
  simp [hj']
theorem ownV_sorted {w : World} {B g cap n : Nat} {E : TypeId} {os : Array Obj} {ss ts : List α} (h : OwnV w B E g cap (ss.map enc)) (hl : ts.length = ss.length) : OwnV (sortWorld enc w g 0 n ts.toArray os) B E g cap (ts.map enc) := by
  rcases h.2 with ⟨h', _⟩ | ⟨g', cap', cur, h', hb, hh, hn, hm, hs, htk⟩
  · simp at h'
  · simp only [Value.slice.injEq, Option.some.injEq, Addr.mk.injEq, List.length_map] at h'
    obtain ⟨⟨rfl, _⟩, _, rfl⟩ := h'
    refine ⟨by simp, .inr ⟨g, cap, _, by simp, hb, heap_sortedE enc _ hh, by simp at hn ⊢; omega, hm, by simp [putCells, hs], ?_⟩⟩
    rw [Nat.mul_one, List.length_map]
    refine take_putCellsE enc cur ts ?_
    simp at hn hs; omega
end
/-- what is asked of a comparison: in whatever world, at whatever two lists -/
def CmpOk (f : Nat) (cf : List Int → List Int → Int) : Prop :=
  ∀ (g1 o1 c1 g2 o2 c2 : Nat) (xs ys : List Int) (w : World), xs.length ≤ 1048576 → ys.length ≤ 1048576 → Cells w g1 o1 xs → Cells w g2 o2 ys →
    Calls Tryz.prog f #[(Value.slice (some ⟨g1, o1, none⟩) xs.length c1), (Value.slice (some ⟨g2, o2, none⟩) ys.length c2)] w fun e w' => e = .returned (.int .i64 (cf xs ys)) ∧ ∃ q os', w' = grow (w.drewN q) os'
theorem lays_grow {w : World} {v : Value} {e : Ending} {w' : World} (h : Lays w v e w') : e = .returned v ∧ ∃ q os', w' = grow (w.drewN q) os' := by
  obtain ⟨h1, o, q, rfl⟩ := h
  refine ⟨h1, q, #[o], ?_⟩
  rw [← Sort.alloc_eq_grow]
  rfl
/-- a comparison that tells all lists apart is a strict weak order -/
theorem swo_of {cf : List Int → List Int → Int} (anti : ∀ a b, cf b a = - cf a b) (zero : ∀ {a b}, cf a b = 0 → a = b) (tr : ∀ {a b d}, cf a b < 0 → cf b d < 0 → cf a d < 0) : SWO (ltOf cf) where
  irrefl x := by unfold ltOf; have := anti x x; simp; omega
  trans x y z h1 h2 := by unfold ltOf at *; simp at *; exact tr h1 h2
  ntrans x y z h1 h2 := by
    unfold ltOf at *
    simp at *
    rcases Int.lt_trichotomy (cf x z) 0 with h | h | h
    · have a1 := anti x y
      have a2 := anti y z
      rcases Int.lt_trichotomy (cf x y) 0 with g | g | g
      · omega
      · have := zero g; subst this; omega
      · rcases Int.lt_trichotomy (cf y z) 0 with k | k | k
        · omega
        · have := zero k; subst this; omega
        · have := tr (a := z) (b := y) (d := x) (by omega) (by omega)
          have a3 := anti x z
          omega
    · omega
    · omega
set_option maxHeartbeats 1000000 in
theorem sort_rows (f : Nat) (cf : List Int → List Int → Int) (hcf : CmpOk f cf) (hswo : SWO (ltOf cf)) (ef : ∀ args w, (callFunc f args).run Tryz.prog w = .ok (.enter f args) w) (B g cap n : Nat) (rs : List RowRef) (w : World) (hn : rs.length = n) (hl : rs.length ≤ 1048576) (hrl : ∀ r ∈ rs, r.2.2.length ≤ 1048576)
    (ho : OwnRows w B g cap rs) :
    Calls Tryz.prog 46 #[(Value.slice (some ⟨g, 0, none⟩) n cap), .func (.func f) #[] #[]] w fun e w' =>
      e = .returned (.tuple #[]) ∧ ∃ rs', rs'.Perm rs ∧ (contents rs').Pairwise (fun a b => ¬ cf b a < 0) ∧ OwnRows w' B g cap rs' ∧ w.grownBy w' (some g) := by
  subst hn
  cases hrs : rs with
  | nil =>
    have hcon := AnyF.slices_SortFunc_none { Tryz.sortRows with } (some ⟨g, 0, none⟩) cap (.func (.func f) #[] #[]) w
    change Calls Tryz.prog 46 _ _ _ at hcon
    refine hcon.mono ?_
    rintro e w' ⟨rfl, rfl⟩
    subst hrs
    exact ⟨rfl, [], List.Perm.refl _, List.Pairwise.nil, ho, World.grownBy.refl _ _⟩
  | cons r0 rest =>
    rw [← hrs]
    have hr0 : r0 ∈ rs := by rw [hrs]; simp
    letI : Inhabited {r : RowRef // r ∈ rs} := ⟨⟨r0, hr0⟩⟩
    let d : Array {r : RowRef // r ∈ rs} := rs.attach.toArray
    let enc : {r : RowRef // r ∈ rs} → Value := fun r => rowVal r.1
    let cf' : {r : RowRef // r ∈ rs} → {r : RowRef // r ∈ rs} → Int := fun a b => cf a.1.2.2 b.1.2.2
    have hds : d.size = rs.length := by simp [d]
    have hown : OwnV w B 25 g cap (rs.attach.map enc) := by
      have e : rs.attach.map enc = rs.map rowVal := by
        show rs.attach.map (fun r => rowVal r.1) = _
        have h := List.map_map (f := (Subtype.val : {r : RowRef // r ∈ rs} → RowRef)) (g := rowVal) (l := rs.attach)
        rw [List.attach_map_subtype_val] at h
        exact h.symm
      rw [e]; exact ho.1
    have hH : Holds enc w g 0 d := holds_of_ownV enc hown
    have hswo' : SWO (ltOf cf') := ⟨fun x => hswo.irrefl _, fun x y z h1 h2 => hswo.trans _ _ _ h1 h2, fun x y z h1 h2 => hswo.ntrans _ _ _ h1 h2⟩
    have hcmp : CmpLays1 Tryz.prog f #[] enc cf' g 0 d.size w := by
      intro m os dk hdk x y
      have hx := ho.2.1 x.1 x.2
      have hy := ho.2.1 y.1 y.2
      have hcx : Cells (sortWorld enc w g 0 m dk os) x.1.1 0 x.1.2.2 := by
        have h1 := hx.cells
        have hne : g ≠ x.1.1 := ho.1.ne hx.toV (by decide)
        intro j hj
        rw [← h1 j hj]
        unfold World.cell?
        simp only [heap_sorted_other enc dk hx.lt hne]
      have hcy : Cells (sortWorld enc w g 0 m dk os) y.1.1 0 y.1.2.2 := by
        have h1 := hy.cells
        have hne : g ≠ y.1.1 := ho.1.ne hy.toV (by decide)
        intro j hj
        rw [← h1 j hj]
        unfold World.cell?
        simp only [heap_sorted_other enc dk hy.lt hne]
      exact hcf x.1.1 0 x.1.2.1 y.1.1 0 y.1.2.1 x.1.2.2 y.1.2.2 _ (hrl _ x.2) (hrl _ y.2) hcx hcy
    have hcon := Any.slices_SortFunc Tryz.sortRows enc (fun _ => rfl) cf' hswo' f #[] g 0 cap d w ef hcmp hH ho.1.lt (by rw [hds]; omega)
    rw [hds] at hcon
    change Calls Tryz.prog 46 _ _ _ at hcon
    refine hcon.mono ?_
    rintro e w' ⟨rfl, d', k, os, hp, hs, rfl⟩
    have hp1 : d'.size = rs.length := by rw [hp.1, hds]
    have hpm : (d'.toList.map (fun x : {r : RowRef // r ∈ rs} => x.1)).Perm rs := by
      have h1 := hp.2.2
      have h2 : (d'.extract 0 rs.length).toList = d'.toList := by rw [← hp1]; simp
      have h3 : (d.extract 0 rs.length).toList = d.toList := by rw [← hds]; simp
      rw [h2, h3] at h1
      have h4 := h1.map (fun x : {r : RowRef // r ∈ rs} => x.1)
      have h5 : d.toList.map (fun x : {r : RowRef // r ∈ rs} => x.1) = rs := List.attach_map_subtype_val rs
      rw [h5] at h4
      exact h4
    refine ⟨rfl, d'.toList.map (·.1), hpm, ?_, ?_, grownBy_sortedE enc d'⟩
    · unfold contents
      rw [List.map_map, List.pairwise_map, List.pairwise_iff_getElem]
      intro i j hi hj hij
      have h1 := hs i j (Nat.zero_le _) hij (by rw [← hp1]; simpa using hj)
      have h2 : i < d'.size := by simpa using hi
      have h3 : j < d'.size := by simpa using hj
      rw [getElem!_pos d' i h2, getElem!_pos d' j h3] at h1
      unfold ltOf at h1
      simpa using h1
    · have hl' : d'.toList.length = rs.attach.length := by simp [hp.1, hds]
      have h1 := ownV_sorted (n := k) (os := os) enc hown hl'
      have e1 : d'.toList.map enc = (d'.toList.map (·.1)).map rowVal := by rw [List.map_map]; rfl
      rw [e1] at h1
      have hmem : ∀ r ∈ d'.toList.map (·.1), r ∈ rs := fun r hr => by
        obtain ⟨x, -, rfl⟩ := List.mem_map.1 hr
        exact x.2
      refine ⟨by simpa using h1, fun r hr => ?_, ?_⟩
      · have h2 := ho.2.1 r (hmem r hr)
        exact h2.grown (grownBy_sortedE enc d') (fun e => ho.1.ne h2.toV (by decide) (Option.some.inj e).symm)
      · exact (hpm.map (·.1)).nodup_iff.2 ho.2.2
end Go.Proofs.YtkjglfafphffiaaGreat
namespace Go.Proofs.YtkjglfafphffiaaGreat
set_option maxRecDepth 100000
open Go.RowKit Game
open Go.Sort (Holds putRow grow)
theorem Own.front' {w : World} {B g cap : Nat} {xs ys : List Int} (h : Own w B g cap (xs ++ ys)) : Own w B g cap xs := by
  rcases h.2 with ⟨h', _⟩ | ⟨g', cap', cur, h', hb, hh, hn, hm, hs, htk⟩
  · simp at h'
  · simp only [Value.slice.injEq, Option.some.injEq, Addr.mk.injEq] at h'
    obtain ⟨⟨rfl, _⟩, _, rfl⟩ := h'
    refine ⟨by simp, .inr ⟨g, cap, cur, rfl, hb, hh, by simp at hn; omega, hm, hs, ?_⟩⟩
    have h2 := congrArg (List.take xs.length) htk
    rw [List.take_take] at h2
    simp only [Nat.mul_one] at *
    rw [show min xs.length (xs ++ ys).length = xs.length by simp] at h2
    rw [h2]
    simp
theorem ints_Delete (B g cap n at' : Nat) (xs : List Int) (w : World) (hn : xs.length = n) (hl : xs.length ≤ 1048576) (hat : at' < n) (ho : Own w B g cap xs) :
    Calls Tryz.prog 74 #[(Value.slice (some ⟨g, 0, none⟩) n cap), .int .i64 at', .int .i64 ((at' : Int) + 1)] w fun e w' => e = .returned (Value.slice (some ⟨g, 0, none⟩) (n - 1) cap) ∧ Own w' B g cap (xs.eraseIdx at') ∧ w.grownBy w' (some g) := by
  subst hn
  have hown : OwnV w B 3 g cap (xs.map (Value.int .i64)) := ho.toV
  have hH : Holds (Value.int .i64) w g 0 xs.toArray := holds_of_ownV (Value.int .i64) hown
  have hcon := Any.slices_Delete_int Tryz.laysDel g 0 cap at' (at' + 1) xs w hH ho.capLe (by have := ho.capMax; unfold maxLen at this; omega) (by omega) (by omega)
  change Calls Tryz.prog 74 _ _ _ at hcon
  rw [show ((at' + 1 : Nat) : Int) = (at' : Int) + 1 by omega] at hcon
  refine hcon.mono ?_
  rintro e w' ⟨rfl, q, rfl⟩
  have he : xs.take at' ++ xs.drop (at' + 1) ++ List.replicate (at' + 1 - at') 0 = xs.eraseIdx at' ++ [0] := by
    rw [show at' + 1 - at' = 1 by omega, List.eraseIdx_eq_take_drop_succ]; rfl
  rw [he, show xs.length - (at' + 1 - at') = xs.length - 1 by omega]
  have hlm : (xs.eraseIdx at' ++ [0]).length = xs.length := by rw [List.length_append, List.length_eraseIdx, if_pos hat]; simp; omega
  have e0 : putRow (Value.int .i64) (Sort.ahead w q) g 0 (xs.eraseIdx at' ++ [0]).toArray = sortWorld (Value.int .i64) w g 0 q (xs.eraseIdx at' ++ [0]).toArray #[] := by
    unfold sortWorld; rw [Sort.grow_empty]
  rw [e0]
  have h1 := ownV_sorted (n := q) (os := #[]) (ts := xs.eraseIdx at' ++ [0]) (Value.int .i64) hown hlm
  refine ⟨rfl, ?_, grownBy_sortedE (Value.int .i64) _⟩
  refine Own.front' (ys := [0]) ?_
  unfold Own
  unfold OwnV at h1
  rw [List.length_map] at h1
  exact h1
set_option maxHeartbeats 1000000 in
theorem impl_DeleteAt_ok (g o n cp at' : Nat) (v : List Int) (w : World) (hm : v.length = n) (hat : at' < n) (hl : v.length ≤ 1048576) (hg : g < w.heap.size) (hv : Cells w g o v) :
    Calls Tryz.prog 32 #[(Value.slice (some ⟨g, o, none⟩) n cp), .int .i64 at'] w (fun e w' => ∃ g2 c2, e = .returned (Value.slice (some ⟨g2, 0, none⟩) (n - 1) c2) ∧ Own w' w.heap.size g2 c2 (v.eraseIdx at') ∧ Below w.heap.size w w') := by
  have h1 : ¬ (at' : Int) < 0 := by omega
  have h2 : ¬ (n : Int) ≤ (at' : Int) := by omega
  have h3 : (at' : Int) < (n : Int) := by omega
  have e1 : IntKind.i64.wrap ((at' : Int) + 1) = (at' : Int) + 1 := IntWalk.i64_in _ (by omega)
  have Hv := Lib.hid hv; have Hm := Lib.hid hm
  have hln : n ≤ 1048576 := by omega
  clear hv hm hl
  go_enter Tryz.func32, Tryz.ntmps32
  go_wp2_with (at_builtin; refine wpList_clone rfl _ _ rfl g o n cp v Hm.out hg Hv.out rfl rfl (by rw [Hm.out]; omega) ?_)
  intro g1 c1 w1 ho1 hb1
  have D := Lib.hid (ints_Delete w.heap.size g1 c1 n at' v w1 Hm.out (by rw [Hm.out]; omega) hat ho1)
  have hg1 := ho1.base
  clear ho1
  go_wp2_with fail
  refine D.out.mono ?_
  rintro e w2 ⟨rfl, ho2, hgr⟩
  have hb2 := hb1.grown hgr hb1.size (by intro t ht; cases ht; exact hg1)
  clear D hgr
  go_wp2_with fail
  go_ret
  exact ⟨g1, c1, rfl, ho2, hb2⟩
theorem len_erase {v : List Int} {n k : Nat} (h : v.length = n) (hk : k < n) : (v.eraseIdx k).length = n - 1 := by rw [List.length_eraseIdx, if_pos (by omega), h]
/-- a pair of letters to be left out, or none -/
def PairD (w : World) (c : List (List Int)) (v : List Int) (e : Ending) (w' : World) : Prop :=
  ((∃ i j : Nat, e = .returned (.tuple #[.int .i64 i, .int .i64 j, .bool true]) ∧ i < j ∧ j < v.length ∧ imI c ((v.eraseIdx j).eraseIdx i) = imI c v) ∨ (e = .returned (.tuple #[.int .i64 (-1), .int .i64 (-1), .bool false]) ∧ NoPair c v)) ∧ Below w.heap.size w w'
set_option maxHeartbeats 2000000 in
theorem impl_DeletionPair_ok (gc oc n cc g o m cp : Nat) (c : List (List Int)) (v : List Int) (w : World) (hn : c.length = n) (hm : v.length = m) (hW : WordOk c v) (hgc : gc < w.heap.size) (hg : g < w.heap.size) (hr : Rows2 w gc oc c) (hv : Cells w g o v) :
    Calls Tryz.prog 31 #[(Value.slice (some ⟨gc, oc, none⟩) n cc), (Value.slice (some ⟨g, o, none⟩) m cp)] w (PairD w c v) := by
  subst hm; subst hn
  have hn4 := hW.isC.2.1
  have hcl := hW.isC.2.2.1
  have hl := hW.few
  have hIW := impl_IsWord_any gc oc _ cc g o _ cp c v w rfl rfl (by omega) (fun j hj => by have := hcl j hj; omega) (by omega) hr hv
  rw [hW.isWord] at hIW
  have Hi := Lib.hid hIW
  have KI := Lib.hid (fun (W : World) (hb : Below w.heap.size w W) => impl_image_any gc oc _ cc g o _ cp c v W rfl rfl hW.isC (by omega) hW.inr (Nat.lt_of_lt_of_le hgc hb.size) (Nat.lt_of_lt_of_le hg hb.size) (hr.below hb hgc) (hv.below hb hg))
  have KD := Lib.hid (fun (j : Nat) (hj : j < v.length) (W : World) (hb : Below w.heap.size w W) => impl_DeleteAt_ok g o _ cp j v W rfl hj (by omega) (Nat.lt_of_lt_of_le hg hb.size) (hv.below hb hg))
  have KE := Lib.hid (fun (i j : Nat) (hij : i < j) (hj : j < v.length) (W : World) (B g2 c2 : Nat) (ho : Own W B g2 c2 (v.eraseIdx j)) => impl_DeleteAt_ok g2 0 (v.length - 1) c2 i (v.eraseIdx j) W (len_erase rfl hj) (by omega) (by rw [len_erase rfl hj]; omega) ho.lt ho.cells)
  have KJ := Lib.hid (fun (i j : Nat) (hij : i < j) (hj : j < v.length) (W : World) (hb : Below w.heap.size w W) (B g2 c2 : Nat) (ho : Own W B g2 c2 ((v.eraseIdx j).eraseIdx i)) =>
    have hW2 := wordOk_erase (wordOk_erase hW j) i
    impl_image_any gc oc _ cc g2 0 (v.length - 1 - 1) c2 c ((v.eraseIdx j).eraseIdx i) W rfl (len_erase (len_erase rfl hj) (by omega)) hW.isC (by have := hW2.few; omega) hW2.inr (Nat.lt_of_lt_of_le hgc hb.size) ho.lt (hr.below hb hgc) ho.cells)
  have KQ := Lib.hid (fun (x : List Int) (W : World) (ga ca gb cb : Nat) (x1 : Cells W ga 0 (imI c x)) (x2 : Cells W gb 0 (imI c v)) => slices_Equal_any ga 0 c.length ca gb 0 c.length cb (imI c x) (imI c v) W (imI_length c x) (imI_length c v) (by rw [imI_length]; omega) (by rw [imI_length]; omega) x1 x2)
  have HL := Lib.hid (fun x => imI_length c x)
  obtain ⟨M, hM⟩ : ∃ M, v.length = M := ⟨_, rfl⟩
  have HM := Lib.hid hM
  clear hIW hW hr hv hcl
  rw [hM] at KI KD KE KJ Hi ⊢
  have hM15 : M ≤ 15 := by omega
  clear hM hl
  go_enter Tryz.func31, Tryz.ntmps31
  go_wp2_with fail
  refine Hi.out.mono ?_
  rintro e w1 ⟨rfl, hs1⟩
  have hb1 := below_still (Below.refl w.heap.size w) hs1
  clear hs1
  go_wp2_with fail
  refine (KI.out w1 hb1).mono ?_
  rintro e w2 ⟨gw, cw, rfl, how, hb2⟩
  rw [show (actW c v (onesL c.length)).length = c.length from HL.out v]
  have hB2 := hb1.trans (hb2.mono hb1.size)
  clear hb1 hb2
  go_wp2_with fail
  go_loopw [19] (fun kv wr => ∃ k : Nat, k ≤ M ∧ kv = .int .i64 k ∧ Hid (∀ i j : Nat, i < k → i < j → j < M → imI c ((v.eraseIdx j).eraseIdx i) ≠ imI c v) ∧ Below w2.heap.size w2 wr) (fun kv _ => M - (intOf kv).toNat)
  case atStart => exact ⟨0, Nat.zero_le _, rfl, Lib.hid (fun i j hi => absurd hi (by omega)), Below.refl _ _⟩
  case round =>
    obtain ⟨i, hi, rfl, hno, hbr⟩ := hrel
    rename World => wo
    by_cases hlt : i < M
    · go_wp2_with fail
      go_loopw [9] (fun kv wr => ∃ k : Nat, i < k ∧ k ≤ M ∧ kv = .int .i64 k ∧ Hid (∀ j : Nat, i < j → j < k → imI c ((v.eraseIdx j).eraseIdx i) ≠ imI c v) ∧ Below w2.heap.size w2 wr) (fun kv _ => M - (intOf kv).toNat)
      case atStart => exact ⟨i + 1, by omega, by omega, by go_num, Lib.hid (fun j hj hk => absurd hk (by omega)), hbr⟩
      case round =>
        clear hbr
        obtain ⟨j, hij, hj, rfl, hnj, hbr⟩ := hrel
        by_cases hlj : j < M
        · have hbw := hB2.trans (hbr.mono hB2.size)
          have D1 := Lib.hid (KD.out j hlj wr hbw)
          go_wp2_with fail
          refine D1.out.mono ?_
          rintro e w3 ⟨g3, c3, rfl, ho3, hb3⟩
          have hB3 := hbw.trans (hb3.mono hbw.size)
          have hR3 := hbr.trans (hb3.mono hbr.size)
          have D2 := Lib.hid (KE.out i j hij hlj w3 _ g3 c3 ho3)
          clear D1 hb3 ho3 hbr hbw
          go_wp2_with fail
          refine D2.out.mono ?_
          rintro e w4 ⟨g4, c4, rfl, ho4, hb4⟩
          have hB4 := hB3.trans (hb4.mono hB3.size)
          have hR4 := hR3.trans (hb4.mono hR3.size)
          have D3 := Lib.hid (KJ.out i j hij hlj w4 hB4 _ g4 c4 ho4)
          clear D2 hb4 ho4 hB3 hR3
          go_wp2_with fail
          refine D3.out.mono ?_
          rintro e w5 ⟨g5, c5, rfl, ho5, hb5⟩
          rw [show (actW c ((v.eraseIdx j).eraseIdx i) (onesL c.length)).length = c.length from HL.out _]
          have hB5 := hB4.trans (hb5.mono hB4.size)
          have hR5 := hR4.trans (hb5.mono hR4.size)
          have D4 := Lib.hid (KQ.out ((v.eraseIdx j).eraseIdx i) w5 g5 c5 gw cw ho5.cells (how.below hR5 how.lt).cells)
          clear D3 hb5 ho5 hB4 hR4
          by_cases he : imI c ((v.eraseIdx j).eraseIdx i) = imI c v
          · have D5 := D4.out
            rw [decide_eq_true he] at D5
            have D5 := Lib.hid D5; have He := Lib.hid he
            clear D4 he
            go_wp2_with fail
            refine D5.out.mono ?_
            rintro e w6 ⟨rfl, hs6⟩
            have hB6 := below_still hB5 hs6
            go_wp2_with fail
            go_ret3
            exact ⟨.inl ⟨i, j, rfl, hij, by rw [HM.out]; exact hlj, He.out⟩, hB6⟩
          · have D5 := D4.out
            rw [decide_eq_false he] at D5
            have D5 := Lib.hid D5; have He := Lib.hid he
            clear D4 he
            go_wp2_with fail
            refine D5.out.mono ?_
            rintro e w6 ⟨rfl, hs6⟩
            have hR6 := below_still hR5 hs6
            clear D5 hs6 hR5 hB5
            go_wp2_with fail
            go_roundw
            case rel => exact ⟨j + 1, by omega, by omega, by go_num, Lib.hid (fun t h1 h2 => by
              by_cases e : t = j
              · subst e; exact He.out
              · exact hnj.out t h1 (by omega)), hR6⟩
            case measure => simp [intOf]; omega
        · obtain rfl : j = M := by omega
          have Hno := Lib.hid (fun (a b : Nat) (ha : a < i + 1) (hab : a < b) (hb : b < j) => show imI c ((v.eraseIdx b).eraseIdx a) ≠ imI c v from by
            by_cases e : a = i
            · subst e; exact hnj.out b hab hb
            · exact hno.out a b (by omega) hab hb)
          clear hno hnj
          go_wp2_with fail
          go_roundw
          case rel => exact ⟨i + 1, by omega, by go_num, Hno, hbr⟩
          case measure => simp [intOf]; omega
    · obtain rfl : i = M := by omega
      have hbw := hB2.trans (hbr.mono hB2.size)
      go_wp2_with fail
      go_ret3
      exact ⟨.inr ⟨rfl, fun a b hab hb => hno.out a b (by rw [HM.out] at hb; omega) hab (by rw [← HM.out]; exact hb)⟩, hbw⟩
end Go.Proofs.YtkjglfafphffiaaGreat
