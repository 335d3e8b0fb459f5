/- slices.SortFunc over rows of the call's own: contract. Mirrored roots, the order of roots, transposed matrices: contracts. Transposed matrices: contracts. -/
import Derived.Test.YtnpechcnmchneaaGreatDoorG28
import Derived.Test.YtnpechcnmchneaaGreatDoorSlay
import Derived.Shelf.SlSortCmp.NoneTotal
import Derived.Test.YtnpechcnmchneaaGreatDoorG32
import Derived.Test.YtnpechcnmchneaaGreatDoorG08
import Derived.Deep.RegionWith
import Derived.Test.YtnpechcnmchneaaGreatDoorG11
namespace Go.Proofs.YtnpechcnmchneaaGreatDoor
set_option maxRecDepth 100000
open Go.RowKit Game
open Go.Sort (Holds putRow putCells mapBlock onCells grow heap_grow_old SWO PermIn SortedIn)

section
variable {α : Type} [Inhabited α] (enc : α → Value)
theorem heap_sortedE {w : World} {g n : Nat} {os : Array Obj} {cur : Array Value} {e : TypeId} {fr : Nat × Nat} (d : Array α) (hb : w.heap[g]? = some (.cells cur e fr)) :
    (sortWorld enc w g 0 n d os).heap[g]? = some (.cells (putCells enc 0 d cur) e fr) := by
  have hg : g < w.heap.size := (Array.getElem?_eq_some_iff.1 hb).1
  unfold sortWorld
  rw [heap_grow_old _ _ (by simpa using hg)]
  simp [putRow, mapBlock, Sort.ahead, Array.getElem?_modify, hb, onCells]
theorem heap_sorted_other {w : World} {g n k : Nat} {os : Array Obj} (d : Array α) (hk : k < w.heap.size) (hne : g ≠ k) :
    (sortWorld enc w g 0 n d os).heap[k]? = w.heap[k]? := by
  unfold sortWorld
  rw [heap_grow_old _ _ (by simpa using hk)]
  simp [putRow, mapBlock, Sort.ahead, Array.getElem?_modify, hne]
theorem grownBy_sortedE {w : World} {g n : Nat} {os : Array Obj} (d : Array α) : w.grownBy (sortWorld enc w g 0 n d os) (some g) :=
  ⟨rfl, rfl, rfl, by unfold sortWorld; simp, fun k hk hne => heap_sorted_other enc d hk (fun e => hne (by rw [e]))⟩
theorem take_putCellsE (cur : Array Value) (ts : List α) (h : ts.length ≤ cur.size) : (putCells enc 0 ts.toArray cur).toList.take ts.length = ts.map enc := by
  apply List.ext_getElem?
  intro j
  by_cases hj : j < ts.length
  · rw [List.getElem?_take_of_lt hj, Array.getElem?_toList]
    simp [putCells, hj, show j < cur.size by omega]
  · rw [List.getElem?_take_eq_none (by omega), List.getElem?_eq_none (by simp; omega)]
theorem holds_of_ownV {w : World} {B g cap : Nat} {E : TypeId} {ss : List α} (h : OwnV w B E g cap (ss.map enc)) : Holds enc w g 0 ss.toArray := by
  intro j hj
  have hj' : j < ss.length := by simpa using hj
  refine ⟨?_, h.frozen _⟩
  rw [Nat.zero_add, h.cell j (by simpa using hj')]
  simp [hj']
theorem ownV_sorted {w : World} {B g cap n : Nat} {E : TypeId} {os : Array Obj} {ss ts : List α} (h : OwnV w B E g cap (ss.map enc)) (hl : ts.length = ss.length) : OwnV (sortWorld enc w g 0 n ts.toArray os) B E g cap (ts.map enc) := by
  rcases h.2 with ⟨h', _⟩ | ⟨g', cap', cur, h', hb, hh, hn, hm, hs, htk⟩
  · simp at h'
  · simp only [Value.slice.injEq, Option.some.injEq, Addr.mk.injEq, List.length_map] at h'
    obtain ⟨⟨rfl, _⟩, _, rfl⟩ := h'
    refine ⟨by simp, .inr ⟨g, cap, _, by simp, hb, heap_sortedE enc _ hh, by simp at hn ⊢; omega, hm, by simp [putCells, hs], ?_⟩⟩
    rw [Nat.mul_one, List.length_map]
    refine take_putCellsE enc cur ts ?_
    simp at hn hs; omega
end

/-- what is asked of a comparison: in whatever world, at whatever two lists -/
def CmpOk (f : Nat) (cf : List Int → List Int → Int) : Prop :=
  ∀ (g1 o1 c1 g2 o2 c2 : Nat) (xs ys : List Int) (w : World), xs.length ≤ 1048576 → ys.length ≤ 1048576 → Cells w g1 o1 xs → Cells w g2 o2 ys →
    Calls Tryz.prog f #[(Value.slice (some ⟨g1, o1, none⟩) xs.length c1), (Value.slice (some ⟨g2, o2, none⟩) ys.length c2)] w fun e w' => e = .returned (.int .i64 (cf xs ys)) ∧ ∃ q os', w' = grow (w.drewN q) os'
theorem lays_grow {w : World} {v : Value} {e : Ending} {w' : World} (h : Lays w v e w') : e = .returned v ∧ ∃ q os', w' = grow (w.drewN q) os' := by
  obtain ⟨h1, o, q, rfl⟩ := h
  refine ⟨h1, q, #[o], ?_⟩
  rw [← Sort.alloc_eq_grow]
  rfl
theorem reads_grow {w : World} {v : Value} {e : Ending} {w' : World} (h : Reads w v e w') : e = .returned v ∧ ∃ q os', w' = grow (w.drewN q) os' := by
  obtain ⟨h1, q, rfl⟩ := h
  exact ⟨h1, q, #[], by simp⟩

/-- a comparison that tells all lists apart is a strict weak order -/
theorem swo_of {cf : List Int → List Int → Int} (anti : ∀ a b, cf b a = - cf a b) (zero : ∀ {a b}, cf a b = 0 → a = b) (tr : ∀ {a b d}, cf a b < 0 → cf b d < 0 → cf a d < 0) : SWO (ltOf cf) where
  irrefl x := by unfold ltOf; have := anti x x; simp; omega
  trans x y z h1 h2 := by unfold ltOf at *; simp at *; exact tr h1 h2
  ntrans x y z h1 h2 := by
    unfold ltOf at *
    simp at *
    rcases Int.lt_trichotomy (cf x z) 0 with h | h | h
    · have a1 := anti x y
      have a2 := anti y z
      rcases Int.lt_trichotomy (cf x y) 0 with g | g | g
      · omega
      · have := zero g; subst this; omega
      · rcases Int.lt_trichotomy (cf y z) 0 with k | k | k
        · omega
        · have := zero k; subst this; omega
        · have := tr (a := z) (b := y) (d := x) (by omega) (by omega)
          have a3 := anti x z
          omega
    · omega
    · omega
/-- the order by a comparison -/
def Total (cf : List Int → List Int → Int) : Prop := SWO (ltOf cf)

set_option maxHeartbeats 1000000 in
theorem sort_rows (f : Nat) (cf : List Int → List Int → Int) (hcf : CmpOk f cf) (hswo : SWO (ltOf cf)) (ef : ∀ args w, (callFunc f args).run Tryz.prog w = .ok (.enter f args) w) (B g cap n : Nat) (rs : List RowRef) (w : World) (hn : rs.length = n) (hl : rs.length ≤ 1048576) (hrl : ∀ r ∈ rs, r.2.2.length ≤ 1048576)
    (ho : OwnRows w B g cap rs) :
    Calls Tryz.prog 191 #[(Value.slice (some ⟨g, 0, none⟩) n cap), .func (.func f) #[] #[]] w fun e w' =>
      e = .returned (.tuple #[]) ∧ ∃ rs', rs'.Perm rs ∧ (contents rs').Pairwise (fun a b => ¬ cf b a < 0) ∧ OwnRows w' B g cap rs' ∧ w.grownBy w' (some g) := by
  subst hn
  cases hrs : rs with
  | nil =>
    have hcon := AnyF.slices_SortFunc_none { Tryz.sortRows with } (some ⟨g, 0, none⟩) cap (.func (.func f) #[] #[]) w
    change Calls Tryz.prog 191 _ _ _ at hcon
    refine hcon.mono ?_
    rintro e w' ⟨rfl, rfl⟩
    subst hrs
    exact ⟨rfl, [], List.Perm.refl _, List.Pairwise.nil, ho, World.grownBy.refl _ _⟩
  | cons r0 rest =>
    rw [← hrs]
    have hr0 : r0 ∈ rs := by rw [hrs]; simp
    letI : Inhabited {r : RowRef // r ∈ rs} := ⟨⟨r0, hr0⟩⟩
    let d : Array {r : RowRef // r ∈ rs} := rs.attach.toArray
    let enc : {r : RowRef // r ∈ rs} → Value := fun r => rowVal r.1
    let cf' : {r : RowRef // r ∈ rs} → {r : RowRef // r ∈ rs} → Int := fun a b => cf a.1.2.2 b.1.2.2
    have hds : d.size = rs.length := by simp [d]
    have hown : OwnV w B 28 g cap (rs.attach.map enc) := by
      have e : rs.attach.map enc = rs.map rowVal := by
        show rs.attach.map (fun r => rowVal r.1) = _
        have h := List.map_map (f := (Subtype.val : {r : RowRef // r ∈ rs} → RowRef)) (g := rowVal) (l := rs.attach)
        rw [List.attach_map_subtype_val] at h
        exact h.symm
      rw [e]; exact ho.1
    have hH : Holds enc w g 0 d := holds_of_ownV enc hown
    have hswo' : SWO (ltOf cf') := ⟨fun x => hswo.irrefl _, fun x y z h1 h2 => hswo.trans _ _ _ h1 h2, fun x y z h1 h2 => hswo.ntrans _ _ _ h1 h2⟩
    have hcmp : CmpLays1 Tryz.prog f #[] enc cf' g 0 d.size w := by
      intro m os dk hdk x y
      have hx := ho.2.1 x.1 x.2
      have hy := ho.2.1 y.1 y.2
      have hcx : Cells (sortWorld enc w g 0 m dk os) x.1.1 0 x.1.2.2 := by
        have h1 := hx.cells
        have hne : g ≠ x.1.1 := ho.1.ne hx.toV (by decide)
        intro j hj
        rw [← h1 j hj]
        unfold World.cell?
        simp only [heap_sorted_other enc dk hx.lt hne]
      have hcy : Cells (sortWorld enc w g 0 m dk os) y.1.1 0 y.1.2.2 := by
        have h1 := hy.cells
        have hne : g ≠ y.1.1 := ho.1.ne hy.toV (by decide)
        intro j hj
        rw [← h1 j hj]
        unfold World.cell?
        simp only [heap_sorted_other enc dk hy.lt hne]
      exact hcf x.1.1 0 x.1.2.1 y.1.1 0 y.1.2.1 x.1.2.2 y.1.2.2 _ (hrl _ x.2) (hrl _ y.2) hcx hcy
    have hcon := Any.slices_SortFunc Tryz.sortRows enc (fun _ => rfl) cf' hswo' f #[] g 0 cap d w ef hcmp hH ho.1.lt (by rw [hds]; omega)
    rw [hds] at hcon
    change Calls Tryz.prog 191 _ _ _ at hcon
    refine hcon.mono ?_
    rintro e w' ⟨rfl, d', k, os, hp, hs, rfl⟩
    have hp1 : d'.size = rs.length := by rw [hp.1, hds]
    have hpm : (d'.toList.map (fun x : {r : RowRef // r ∈ rs} => x.1)).Perm rs := by
      have h1 := hp.2.2
      have h2 : (d'.extract 0 rs.length).toList = d'.toList := by rw [← hp1]; simp
      have h3 : (d.extract 0 rs.length).toList = d.toList := by rw [← hds]; simp
      rw [h2, h3] at h1
      have h4 := h1.map (fun x : {r : RowRef // r ∈ rs} => x.1)
      have h5 : d.toList.map (fun x : {r : RowRef // r ∈ rs} => x.1) = rs := List.attach_map_subtype_val rs
      rw [h5] at h4
      exact h4
    refine ⟨rfl, d'.toList.map (·.1), hpm, ?_, ?_, grownBy_sortedE enc d'⟩
    · unfold contents
      rw [List.map_map, List.pairwise_map, List.pairwise_iff_getElem]
      intro i j hi hj hij
      have h1 := hs i j (Nat.zero_le _) hij (by rw [← hp1]; simpa using hj)
      have h2 : i < d'.size := by simpa using hi
      have h3 : j < d'.size := by simpa using hj
      rw [getElem!_pos d' i h2, getElem!_pos d' j h3] at h1
      unfold ltOf at h1
      simpa using h1
    · have hl' : d'.toList.length = rs.attach.length := by simp [hp.1, hds]
      have h1 := ownV_sorted (n := k) (os := os) enc hown hl'
      have e1 : d'.toList.map enc = (d'.toList.map (·.1)).map rowVal := by rw [List.map_map]; rfl
      rw [e1] at h1
      have hmem : ∀ r ∈ d'.toList.map (·.1), r ∈ rs := fun r hr => by
        obtain ⟨x, -, rfl⟩ := List.mem_map.1 hr
        exact x.2
      refine ⟨by simpa using h1, fun r hr => ?_, ?_⟩
      · have h2 := ho.2.1 r (hmem r hr)
        exact h2.grown (grownBy_sortedE enc d') (fun e => ho.1.ne h2.toV (by decide) (Option.some.inj e).symm)
      · exact (hpm.map (·.1)).nodup_iff.2 ho.2.2
end Go.Proofs.YtnpechcnmchneaaGreatDoor
namespace Go.Proofs.YtnpechcnmchneaaGreatDoor
set_option maxRecDepth 100000
open Go.RowKit Game

set_option maxHeartbeats 1000000 in
theorem impl_compareRoots_any (g1 o1 n1 c1 g2 o2 n2 c2 : Nat) (xs ys : List Int) (w : World) (hn1 : xs.length = n1) (hn2 : ys.length = n2) (hx : xs.length ≤ 1048576) (hy : ys.length ≤ 1048576)
    (hcx : Cells w g1 o1 xs) (hcy : Cells w g2 o2 ys) :
    Calls Tryz.prog 200 #[(Value.slice (some ⟨g1, o1, none⟩) n1 c1), (Value.slice (some ⟨g2, o2, none⟩) n2 c2)] w (Lays w (.int .i64 (rootCmp xs ys))) := by
  subst hn1; subst hn2
  have Ho : Hid (orL [cmpI (heightL xs) (heightL ys), sliceCmp ys xs] = rootCmp xs ys) := rfl
  go_enter Tryz.func200, Tryz.ntmps200
  go_wp2_with fail
  refine (impl_HeightOf_any g1 o1 _ c1 xs w rfl hx hcx).mono ?_
  rintro e w1 ⟨rfl, hs1⟩
  go_wp2_with fail
  refine (impl_HeightOf_any g2 o2 _ c2 ys w1 rfl hy (hcy.still hs1)).mono ?_
  rintro e w2 ⟨rfl, hs2⟩
  replace hs2 := still_trans hs1 hs2
  clear hs1
  generalize heightL xs = h1 at *
  generalize heightL ys = h2 at *
  go_wp2_with fail
  refine (cw_Compare h1 h2 w2).mono ?_
  rintro e w3 ⟨rfl, hs3⟩
  replace hs3 := still_trans hs2 hs3
  clear hs2
  go_wp2_with fail
  refine (slices_Compare_any g2 o2 ys.length c2 g1 o1 xs.length c1 ys xs w3 rfl rfl (by omega) (hcy.still hs3) (hcx.still hs3)).mono ?_
  rintro e w4 ⟨rfl, hs4⟩
  replace hs4 := still_trans hs3 hs4
  clear hs3
  generalize sliceCmp ys xs = z at *
  generalize cmpI h1 h2 = y at *
  have Hs4 := Lib.hid hs4
  clear hs4
  obtain ⟨w5, hw5⟩ : ∃ w5, w5 = w4.alloc (.cells #[.int .i64 y, .int .i64 z] 3) := ⟨_, rfl⟩
  have hc5 : Cells w5 w4.heap.size 0 [y, z] := by
    obtain ⟨q1, q2⟩ : w5.cell? ⟨w4.heap.size, 0, none⟩ = some (.int .i64 y) ∧ w5.cell? ⟨w4.heap.size, 1, none⟩ = some (.int .i64 z) := by
      have hh : w5.heap[w4.heap.size]? = some (.cells #[.int .i64 y, .int .i64 z] 3 (0, 0)) := by rw [hw5]; exact heap_alloc_new _ _
      constructor <;> simp [World.cell?, hh]
    intro j hj
    have : j = 0 ∨ j = 1 := by simp at hj; omega
    rcases this with rfl | rfl
    · exact q1
    · exact q2
  have hcall := cw_Or w4.heap.size 0 2 2 [y, z] w5 rfl (by simp) hc5
  rw [hw5, Ho.out] at hcall
  have Hcall := Lib.hid hcall
  clear hcall hc5 hw5
  go_wp2_with fail
  refine Hcall.out.mono ?_
  rintro e w6 ⟨rfl, hs6⟩
  go_wp2_with fail
  go_ret
  refine ⟨rfl, ?_⟩
  obtain ⟨m4, e4⟩ := Hs4.out
  obtain ⟨m6, e6⟩ := hs6
  refine ⟨.cells #[.int .i64 y, .int .i64 z] 3, m4 + m6, ?_⟩
  rw [e6, e4]
  show ((w.alloc _).drewN m4).drewN m6 = _
  rw [World.drewN_drewN]
theorem cmp_roots : CmpOk 200 rootCmp := fun g1 o1 c1 g2 o2 c2 xs ys w hx hy h1 h2 =>
  (impl_compareRoots_any g1 o1 _ c1 g2 o2 _ c2 xs ys w rfl rfl hx hy h1 h2).mono fun _ _ h => lays_grow h

theorem before_of {xs ys : List Int} (hl : xs.length = ys.length) : decide (rootCmp xs ys < 0) = if heightL xs = heightL ys then decide (0 < lexCmp xs ys) else decide (heightL xs < heightL ys) := by
  rw [rootCmp_def]
  by_cases h : heightL xs = heightL ys
  · rw [if_pos (by rw [h]; unfold cmpI; simp), if_pos h, sliceCmp_same hl.symm]
    have h2 := sliceCmp_anti xs ys
    rw [sliceCmp_same hl, sliceCmp_same hl.symm] at h2
    exact decide_eq_decide.2 (by omega)
  · rw [if_neg (by intro h2; exact h (cmpI_zero h2)), if_neg h]
    exact decide_eq_decide.2 cmpI_neg
set_option maxHeartbeats 2000000 in
theorem spec_l7Before_any (g1 o1 n1 c1 g2 o2 n2 c2 : Nat) (xs ys : List Int) (w : World) (hn1 : xs.length = n1) (hn2 : ys.length = n2) (hl : xs.length = ys.length) (hx : xs.length ≤ 1048576)
    (hcx : Cells w g1 o1 xs) (hcy : Cells w g2 o2 ys) :
    Calls Tryz.prog 166 #[(Value.slice (some ⟨g1, o1, none⟩) n1 c1), (Value.slice (some ⟨g2, o2, none⟩) n2 c2)] w (Reads w (.bool (decide (rootCmp xs ys < 0)))) := by
  subst hn1; subst hn2
  have hv := before_of hl
  have hl' : ys.length = xs.length := hl.symm
  have hy : ys.length ≤ 1048576 := by omega
  have Hl := Lib.hid hl'; clear hl' hl
  have Hv := Lib.hid hv; clear hv
  go_enter Tryz.func166, Tryz.ntmps166
  go_wp2_with fail
  refine (spec_HeightOf_any g1 o1 _ c1 xs w rfl hx hcx).mono ?_
  rintro e w1 ⟨rfl, m1, rfl⟩
  go_wp2_with fail
  refine (spec_HeightOf_any g2 o2 _ c2 ys (w.drewN m1) rfl hy hcy).mono ?_
  rintro e w2 ⟨rfl, m2, rfl⟩
  by_cases hh : heightL xs = heightL ys
  · have hv := Hv.out
    rw [if_pos hh] at hv
    have hb : (heightL xs != heightL ys) = false := by simp [hh]
    have Hv2 := Lib.hid hv; clear hv Hv
    generalize heightL xs = h1 at *
    generalize heightL ys = h2 at *
    clear hh
    go_wp2_with fail
    go_loopw [7] (fun i wr => ∃ k : Nat, k ≤ xs.length ∧ i = .int .i64 k ∧ Hid (lexCmp xs ys = lexCmp (xs.drop k) (ys.drop k)) ∧ ∃ n, wr = w.drewN n) (fun i _ => xs.length - (intOf i).toNat)
    case atStart => exact ⟨0, Nat.zero_le _, rfl, rfl, (by first | exact ⟨_, rfl⟩ | exact ⟨0, rfl⟩ | exact still2 _ _ _ | exact still3 _ _ _ _)⟩
    case round =>
      obtain ⟨k, hk, rfl, he, n, rfl⟩ := hrel
      by_cases hlt : k < xs.length
      · have hl2 : k < ys.length := by rw [Hl.out]; exact hlt
        have h1 := hcx k hlt
        have h2 := hcy k hl2
        have hd := lexCmp_drop hlt hl2
        have Hd := Lib.hid hd; clear hd
        go_wp2
        go_quiet (fail)
        go_wp2
        · have ht : (xs[k] != ys[k]) = true := by assumption
          go_quiet (fail)
          go_wp2
          go_ret
          refine ⟨ret_bool ?_, (by first | exact ⟨_, rfl⟩ | exact ⟨0, rfl⟩ | exact still2 _ _ _ | exact still3 _ _ _ _)⟩
          rw [Hv2.out, he.out, Hd.out]
          have hne : xs[k] ≠ ys[k] := by simpa using ht
          by_cases h : xs[k] < ys[k]
          · rw [if_pos h]; simp; omega
          · rw [if_neg h, if_pos (by omega)]; simp; omega
        · have ht : (xs[k] != ys[k]) = false := by assumption
          have hee : xs[k] = ys[k] := by simpa using ht
          go_roundw
          case rel => exact ⟨k + 1, by omega, by go_num, by show _ = _; rw [he.out, Hd.out, if_neg (by omega), if_neg (by omega)], (by first | exact ⟨_, rfl⟩ | exact ⟨0, rfl⟩ | exact still2 _ _ _ | exact still3 _ _ _ _)⟩
          case measure => simp [intOf]; omega
      · obtain rfl : k = xs.length := by omega
        go_wp2
        go_ret
        refine ⟨ret_bool ?_, (by first | exact ⟨_, rfl⟩ | exact ⟨0, rfl⟩ | exact still2 _ _ _ | exact still3 _ _ _ _)⟩
        rw [Hv2.out, he.out, List.drop_length]; rfl
  · have hv := Hv.out
    rw [if_neg hh] at hv
    have hb : (heightL xs != heightL ys) = true := by simp [hh]
    have Hv2 := Lib.hid hv; clear hv Hv
    generalize heightL xs = h1 at *
    generalize heightL ys = h2 at *
    clear hh
    go_wp2_with fail
    go_ret
    exact ⟨ret_bool (by rw [Hv2.out]), (by first | exact ⟨_, rfl⟩ | exact ⟨0, rfl⟩ | exact still2 _ _ _ | exact still3 _ _ _ _)⟩
end Go.Proofs.YtnpechcnmchneaaGreatDoor
namespace Go.Proofs.YtnpechcnmchneaaGreatDoor
set_option maxRecDepth 100000
open Go.RowKit Game

/-- new rows -/
def NewRows (w : World) (rows : List (List Int)) (e : Ending) (w' : World) : Prop :=
  ∃ g cap rs, e = .returned (Value.slice (some ⟨g, 0, none⟩) rows.length cap) ∧ contents rs = rows ∧ OwnRows w' w.heap.size g cap rs ∧ Below w.heap.size w w'
theorem NewRows.mk' {w w' : World} {rows : List (List Int)} {n : Nat} (g cap : Nat) (rs : List RowRef) (hl : rs.length = n) (hc : contents rs = rows) (ho : OwnRows w' w.heap.size g cap rs) (hb : Below w.heap.size w w') :
    NewRows w rows (.returned (Value.slice (some ⟨g, 0, none⟩) n cap)) w' := by
  subst hl; subst hc
  exact ⟨g, cap, rs, by rw [contents_length], rfl, ho, hb⟩
def transRow (c : List (List Int)) (i k : Nat) : List Int := (List.range k).map fun j => ent c j i
theorem transRow_succ (c : List (List Int)) (i k : Nat) : transRow c i (k + 1) = transRow c i k ++ [ent c k i] := by unfold transRow; rw [List.range_succ, List.map_append]; rfl
theorem transRow_length (c : List (List Int)) (i k : Nat) : (transRow c i k).length = k := by simp [transRow]
def transTo (c : List (List Int)) (k : Nat) : List (List Int) := (List.range k).map fun i => transRow c i c.length
theorem transTo_succ (c : List (List Int)) (k : Nat) : transTo c (k + 1) = transTo c k ++ [transRow c k c.length] := by unfold transTo; rw [List.range_succ, List.map_append]; rfl

set_option maxHeartbeats 2000000 in
theorem impl_TransposeCartan_any (gc oc n cc : Nat) (c : List (List Int)) (w : World) (hn : c.length = n) (hC : IsC c) (hgc : gc < w.heap.size) (hc : Rows2 w gc oc c) :
    Calls Tryz.prog 193 #[(Value.slice (some ⟨gc, oc, none⟩) n cc)] w (NewRows w (transL c)) := by
  subst hn
  have hn4 := hC.2.1
  have hcl : ∀ j, j < c.length → (c.getD j []).length = c.length := hC.2.2.1
  have Hcl := Lib.hid hcl; clear hcl
  have hcall := impl_IsCartan gc oc _ cc c w rfl (by omega) (fun j hj => by rw [Hcl.out j hj]; omega) hc
  rw [decide_eq_true hC] at hcall
  have Hcall := Lib.hid hcall
  clear hcall
  go_enter Tryz.func193, Tryz.ntmps193
  go_wp2_with fail
  refine Hcall.out.mono ?_
  rintro e w1 ⟨rfl, hs1⟩
  have hb1 := below_still (Below.refl w.heap.size w) hs1
  clear hs1 Hcall
  go_wp2
  go_loopw [3, 14] (fun ov kv wr => ∃ (k g cp : Nat) (rs : List RowRef), k ≤ c.length ∧ kv = .int .i64 k ∧ ov = (Value.slice (some ⟨g, 0, none⟩) k cp) ∧ Hid (rs.length = k) ∧ Hid (contents rs = transTo c k) ∧ OwnRows wr w.heap.size g cp rs ∧ Below w.heap.size w wr) (fun _ kv _ => c.length - (intOf kv).toNat)
  case atStart => exact ⟨0, _, 0, [], Nat.zero_le _, rfl, rfl, rfl, rfl, OwnRows.empty hb1.size, hb1.alloc hb1.size _⟩
  case round =>
    obtain ⟨k, g, cp, rs, hk, rfl, rfl, hrl, hcn, hO, hb⟩ := hrel
    obtain ⟨wo, rfl⟩ : ∃ wo : World, wo = wr := ⟨_, rfl⟩
    by_cases hlt : k < c.length
    · go_wp2
      go_loopw [5, 20] (fun ov jv wi => ∃ (j g2 cp2 : Nat), j ≤ c.length ∧ jv = .int .i64 j ∧ ov = (Value.slice (some ⟨g2, 0, none⟩) j cp2) ∧ Own wi wo.heap.size g2 cp2 (transRow c k j) ∧ Below wo.heap.size wo wi) (fun _ jv _ => c.length - (intOf jv).toNat)
      case atStart => exact ⟨0, wo.heap.size, 0, Nat.zero_le _, rfl, rfl, Own.empty (Nat.le_refl _), (Below.refl _ _).alloc (Nat.le_refl _) _⟩
      case round =>
        obtain ⟨j, g2, cp2, hj, rfl, rfl, ho, hbi⟩ := hrel
        by_cases hjl : j < c.length
        · obtain ⟨ga, oa, ca, q1, q2, q3, q4⟩ := hc j hjl
          have hB := hb.trans (hbi.mono hb.size)
          replace q1 := (hB.cell (p := ⟨gc, oc + j, none⟩) hgc).trans q1
          have e1 := q4.below hB q3 k (by rw [Hcl.out j hjl]; exact hlt)
          have hee : (c.getD j []).getD k 0 = ent c j k := rfl
          rw [hee] at e1
          have hts := transRow_succ c k j
          have htl := transRow_length c k j
          rw [Hcl.out j hjl] at q1
          generalize ent c j k = y at *
          have Hts := Lib.hid hts; have Htl := Lib.hid htl
          clear hts htl hee
          go_wp2_with (at_builtin; refine wpList_append_int_n (w := wr) rfl _ _ rfl wo.heap.size g2 cp2 j (transRow c k j) y Htl.out ho rfl rfl (by omega) ?_)
          intro g3 c3 w3 ho3 hg3 hor
          rw [← Hts.out] at ho3
          have hb3 : Below wo.heap.size wo w3 := hbi.grown hg3 hbi.size (by intro t ht; cases ht; exact ho.base)
          clear hor hg3
          go_wp2
          go_roundw
          case rel => exact ⟨j + 1, g3, c3, by omega, by go_num, rfl, ho3, hb3⟩
          case measure => simp [intOf]; omega
        · obtain rfl : j = c.length := by omega
          have hOi := hO.below hbi
          have hne : ∀ s ∈ rs, s.1 ≠ g2 := fun s hs e => by
            have h1 := (hO.2.1 s hs).lt
            have h2 := ho.base
            omega
          have ho' := ho.mono hb.size
          have hB := hb.trans (hbi.mono hb.size)
          have htl := transRow_length c k c.length
          have htt := transTo_succ c k
          have Htl := Lib.hid htl; have Htt := Lib.hid htt
          clear htl htt ho
          go_wp2_with (at_builtin; refine wpList_append_row rfl _ _ rfl w.heap.size g cp k wr.heap.size rs (g2, cp2, transRow c k c.length) _ hrl.out (by unfold rowVal; rw [Htl.out]) rfl hOi ho' hne rfl rfl (by omega) ?_)
          intro g5 c5 w5 hO5 hg5 hor5
          have hB5 : Below w.heap.size w w5 := hB.grown hg5 hB.size (by intro t ht; cases ht; exact hOi.base)
          clear hg5 hor5 hOi hB
          go_wp2
          go_roundw
          case rel =>
            refine ⟨k + 1, g5, c5, rs ++ [(g2, cp2, transRow c k c.length)], by omega, by go_num, rfl, ?_, ?_, hO5, hB5⟩
            · show _ = _
              rw [List.length_append, hrl.out]; rfl
            · show _ = _
              rw [contents_append, hcn.out, Htt.out]
          case measure => simp [intOf]; omega
    · obtain rfl : k = c.length := by omega
      go_wp2
      go_ret
      exact NewRows.mk' g cp rs hrl.out hcn.out hO hb

end Go.Proofs.YtnpechcnmchneaaGreatDoor
