/- slices.SortFunc over rows of the call's own: contract. Mirrored roots, the order of roots, transposed matrices: contracts. The reference's insertion into a list of roots: contract. -/
import Derived.Test.YtldcmhgpppeooaaGreatDoorG14
import Derived.Test.YtldcmhgpppeooaaGreatDoorSlay
import Derived.Shelf.SlSortCmp.NoneTotal
import Derived.Test.YtldcmhgpppeooaaGreatDoorG15
import Derived.Test.YtldcmhgpppeooaaGreatDoorG04
import Derived.Deep.RegionWith
namespace Go.Proofs.YtldcmhgpppeooaaGreatDoor
set_option maxRecDepth 100000
open Go.RowKit Game
open Go.Sort (Holds putRow putCells mapBlock onCells grow heap_grow_old SWO PermIn SortedIn)

section
variable {α : Type} [Inhabited α] (enc : α → Value)
theorem heap_sortedE {w : World} {g n : Nat} {os : Array Obj} {cur : Array Value} {e : TypeId} {fr : Nat × Nat} (d : Array α) (hb : w.heap[g]? = some (.cells cur e fr)) :
    (sortWorld enc w g 0 n d os).heap[g]? = some (.cells (putCells enc 0 d cur) e fr) := by
  have hg : g < w.heap.size := (Array.getElem?_eq_some_iff.1 hb).1
  unfold sortWorld
  rw [heap_grow_old _ _ (by simpa using hg)]
  simp [putRow, mapBlock, Sort.ahead, Array.getElem?_modify, hb, onCells]
theorem heap_sorted_other {w : World} {g n k : Nat} {os : Array Obj} (d : Array α) (hk : k < w.heap.size) (hne : g ≠ k) :
    (sortWorld enc w g 0 n d os).heap[k]? = w.heap[k]? := by
  unfold sortWorld
  rw [heap_grow_old _ _ (by simpa using hk)]
  simp [putRow, mapBlock, Sort.ahead, Array.getElem?_modify, hne]
theorem grownBy_sortedE {w : World} {g n : Nat} {os : Array Obj} (d : Array α) : w.grownBy (sortWorld enc w g 0 n d os) (some g) :=
  ⟨rfl, rfl, rfl, by unfold sortWorld; simp, fun k hk hne => heap_sorted_other enc d hk (fun e => hne (by rw [e]))⟩
theorem take_putCellsE (cur : Array Value) (ts : List α) (h : ts.length ≤ cur.size) : (putCells enc 0 ts.toArray cur).toList.take ts.length = ts.map enc := by
  apply List.ext_getElem?
  intro j
  by_cases hj : j < ts.length
  · rw [List.getElem?_take_of_lt hj, Array.getElem?_toList]
    simp [putCells, hj, show j < cur.size by omega]
  · rw [List.getElem?_take_eq_none (by omega), List.getElem?_eq_none (by simp; omega)]
theorem holds_of_ownV {w : World} {B g cap : Nat} {E : TypeId} {ss : List α} (h : OwnV w B E g cap (ss.map enc)) : Holds enc w g 0 ss.toArray := by
  intro j hj
  have hj' : j < ss.length := by simpa using hj
  refine ⟨?_, h.frozen _⟩
  rw [Nat.zero_add, h.cell j (by simpa using hj')]
  simp [hj']
theorem ownV_sorted {w : World} {B g cap n : Nat} {E : TypeId} {os : Array Obj} {ss ts : List α} (h : OwnV w B E g cap (ss.map enc)) (hl : ts.length = ss.length) : OwnV (sortWorld enc w g 0 n ts.toArray os) B E g cap (ts.map enc) := by
  rcases h.2 with ⟨h', _⟩ | ⟨g', cap', cur, h', hb, hh, hn, hm, hs, htk⟩
  · simp at h'
  · simp only [Value.slice.injEq, Option.some.injEq, Addr.mk.injEq, List.length_map] at h'
    obtain ⟨⟨rfl, _⟩, _, rfl⟩ := h'
    refine ⟨by simp, .inr ⟨g, cap, _, by simp, hb, heap_sortedE enc _ hh, by simp at hn ⊢; omega, hm, by simp [putCells, hs], ?_⟩⟩
    rw [Nat.mul_one, List.length_map]
    refine take_putCellsE enc cur ts ?_
    simp at hn hs; omega
end

/-- what is asked of a comparison: in whatever world, at whatever two lists -/
def CmpOk (f : Nat) (cf : List Int → List Int → Int) : Prop :=
  ∀ (g1 o1 c1 g2 o2 c2 : Nat) (xs ys : List Int) (w : World), xs.length ≤ 1048576 → ys.length ≤ 1048576 → Cells w g1 o1 xs → Cells w g2 o2 ys →
    Calls Tryz.prog f #[(Value.slice (some ⟨g1, o1, none⟩) xs.length c1), (Value.slice (some ⟨g2, o2, none⟩) ys.length c2)] w fun e w' => e = .returned (.int .i64 (cf xs ys)) ∧ ∃ q os', w' = grow (w.drewN q) os'
theorem lays_grow {w : World} {v : Value} {e : Ending} {w' : World} (h : Lays w v e w') : e = .returned v ∧ ∃ q os', w' = grow (w.drewN q) os' := by
  obtain ⟨h1, o, q, rfl⟩ := h
  refine ⟨h1, q, #[o], ?_⟩
  rw [← Sort.alloc_eq_grow]
  rfl
theorem reads_grow {w : World} {v : Value} {e : Ending} {w' : World} (h : Reads w v e w') : e = .returned v ∧ ∃ q os', w' = grow (w.drewN q) os' := by
  obtain ⟨h1, q, rfl⟩ := h
  exact ⟨h1, q, #[], by simp⟩

/-- a comparison that tells all lists apart is a strict weak order -/
theorem swo_of {cf : List Int → List Int → Int} (anti : ∀ a b, cf b a = - cf a b) (zero : ∀ {a b}, cf a b = 0 → a = b) (tr : ∀ {a b d}, cf a b < 0 → cf b d < 0 → cf a d < 0) : SWO (ltOf cf) where
  irrefl x := by unfold ltOf; have := anti x x; simp; omega
  trans x y z h1 h2 := by unfold ltOf at *; simp at *; exact tr h1 h2
  ntrans x y z h1 h2 := by
    unfold ltOf at *
    simp at *
    rcases Int.lt_trichotomy (cf x z) 0 with h | h | h
    · have a1 := anti x y
      have a2 := anti y z
      rcases Int.lt_trichotomy (cf x y) 0 with g | g | g
      · omega
      · have := zero g; subst this; omega
      · rcases Int.lt_trichotomy (cf y z) 0 with k | k | k
        · omega
        · have := zero k; subst this; omega
        · have := tr (a := z) (b := y) (d := x) (by omega) (by omega)
          have a3 := anti x z
          omega
    · omega
    · omega
/-- the order by a comparison -/
def Total (cf : List Int → List Int → Int) : Prop := SWO (ltOf cf)

set_option maxHeartbeats 1000000 in
theorem sort_rows (f : Nat) (cf : List Int → List Int → Int) (hcf : CmpOk f cf) (hswo : SWO (ltOf cf)) (ef : ∀ args w, (callFunc f args).run Tryz.prog w = .ok (.enter f args) w) (B g cap n : Nat) (rs : List RowRef) (w : World) (hn : rs.length = n) (hl : rs.length ≤ 1048576) (hrl : ∀ r ∈ rs, r.2.2.length ≤ 1048576)
    (ho : OwnRows w B g cap rs) :
    Calls Tryz.prog 119 #[(Value.slice (some ⟨g, 0, none⟩) n cap), .func (.func f) #[] #[]] w fun e w' =>
      e = .returned (.tuple #[]) ∧ ∃ rs', rs'.Perm rs ∧ (contents rs').Pairwise (fun a b => ¬ cf b a < 0) ∧ OwnRows w' B g cap rs' ∧ w.grownBy w' (some g) := by
  subst hn
  cases hrs : rs with
  | nil =>
    have hcon := AnyF.slices_SortFunc_none { Tryz.sortRows with } (some ⟨g, 0, none⟩) cap (.func (.func f) #[] #[]) w
    change Calls Tryz.prog 119 _ _ _ at hcon
    refine hcon.mono ?_
    rintro e w' ⟨rfl, rfl⟩
    subst hrs
    exact ⟨rfl, [], List.Perm.refl _, List.Pairwise.nil, ho, World.grownBy.refl _ _⟩
  | cons r0 rest =>
    rw [← hrs]
    have hr0 : r0 ∈ rs := by rw [hrs]; simp
    letI : Inhabited {r : RowRef // r ∈ rs} := ⟨⟨r0, hr0⟩⟩
    let d : Array {r : RowRef // r ∈ rs} := rs.attach.toArray
    let enc : {r : RowRef // r ∈ rs} → Value := fun r => rowVal r.1
    let cf' : {r : RowRef // r ∈ rs} → {r : RowRef // r ∈ rs} → Int := fun a b => cf a.1.2.2 b.1.2.2
    have hds : d.size = rs.length := by simp [d]
    have hown : OwnV w B 27 g cap (rs.attach.map enc) := by
      have e : rs.attach.map enc = rs.map rowVal := by
        show rs.attach.map (fun r => rowVal r.1) = _
        have h := List.map_map (f := (Subtype.val : {r : RowRef // r ∈ rs} → RowRef)) (g := rowVal) (l := rs.attach)
        rw [List.attach_map_subtype_val] at h
        exact h.symm
      rw [e]; exact ho.1
    have hH : Holds enc w g 0 d := holds_of_ownV enc hown
    have hswo' : SWO (ltOf cf') := ⟨fun x => hswo.irrefl _, fun x y z h1 h2 => hswo.trans _ _ _ h1 h2, fun x y z h1 h2 => hswo.ntrans _ _ _ h1 h2⟩
    have hcmp : CmpLays1 Tryz.prog f #[] enc cf' g 0 d.size w := by
      intro m os dk hdk x y
      have hx := ho.2.1 x.1 x.2
      have hy := ho.2.1 y.1 y.2
      have hcx : Cells (sortWorld enc w g 0 m dk os) x.1.1 0 x.1.2.2 := by
        have h1 := hx.cells
        have hne : g ≠ x.1.1 := ho.1.ne hx.toV (by decide)
        intro j hj
        rw [← h1 j hj]
        unfold World.cell?
        simp only [heap_sorted_other enc dk hx.lt hne]
      have hcy : Cells (sortWorld enc w g 0 m dk os) y.1.1 0 y.1.2.2 := by
        have h1 := hy.cells
        have hne : g ≠ y.1.1 := ho.1.ne hy.toV (by decide)
        intro j hj
        rw [← h1 j hj]
        unfold World.cell?
        simp only [heap_sorted_other enc dk hy.lt hne]
      exact hcf x.1.1 0 x.1.2.1 y.1.1 0 y.1.2.1 x.1.2.2 y.1.2.2 _ (hrl _ x.2) (hrl _ y.2) hcx hcy
    have hcon := Any.slices_SortFunc Tryz.sortRows enc (fun _ => rfl) cf' hswo' f #[] g 0 cap d w ef hcmp hH ho.1.lt (by rw [hds]; omega)
    rw [hds] at hcon
    change Calls Tryz.prog 119 _ _ _ at hcon
    refine hcon.mono ?_
    rintro e w' ⟨rfl, d', k, os, hp, hs, rfl⟩
    have hp1 : d'.size = rs.length := by rw [hp.1, hds]
    have hpm : (d'.toList.map (fun x : {r : RowRef // r ∈ rs} => x.1)).Perm rs := by
      have h1 := hp.2.2
      have h2 : (d'.extract 0 rs.length).toList = d'.toList := by rw [← hp1]; simp
      have h3 : (d.extract 0 rs.length).toList = d.toList := by rw [← hds]; simp
      rw [h2, h3] at h1
      have h4 := h1.map (fun x : {r : RowRef // r ∈ rs} => x.1)
      have h5 : d.toList.map (fun x : {r : RowRef // r ∈ rs} => x.1) = rs := List.attach_map_subtype_val rs
      rw [h5] at h4
      exact h4
    refine ⟨rfl, d'.toList.map (·.1), hpm, ?_, ?_, grownBy_sortedE enc d'⟩
    · unfold contents
      rw [List.map_map, List.pairwise_map, List.pairwise_iff_getElem]
      intro i j hi hj hij
      have h1 := hs i j (Nat.zero_le _) hij (by rw [← hp1]; simpa using hj)
      have h2 : i < d'.size := by simpa using hi
      have h3 : j < d'.size := by simpa using hj
      rw [getElem!_pos d' i h2, getElem!_pos d' j h3] at h1
      unfold ltOf at h1
      simpa using h1
    · have hl' : d'.toList.length = rs.attach.length := by simp [hp.1, hds]
      have h1 := ownV_sorted (n := k) (os := os) enc hown hl'
      have e1 : d'.toList.map enc = (d'.toList.map (·.1)).map rowVal := by rw [List.map_map]; rfl
      rw [e1] at h1
      have hmem : ∀ r ∈ d'.toList.map (·.1), r ∈ rs := fun r hr => by
        obtain ⟨x, -, rfl⟩ := List.mem_map.1 hr
        exact x.2
      refine ⟨by simpa using h1, fun r hr => ?_, ?_⟩
      · have h2 := ho.2.1 r (hmem r hr)
        exact h2.grown (grownBy_sortedE enc d') (fun e => ho.1.ne h2.toV (by decide) (Option.some.inj e).symm)
      · exact (hpm.map (·.1)).nodup_iff.2 ho.2.2
end Go.Proofs.YtldcmhgpppeooaaGreatDoor
namespace Go.Proofs.YtldcmhgpppeooaaGreatDoor
set_option maxRecDepth 100000
open Go.RowKit Game

theorem before_of {xs ys : List Int} (hl : xs.length = ys.length) : decide (rootCmp xs ys < 0) = if heightL xs = heightL ys then decide (0 < lexCmp xs ys) else decide (heightL xs < heightL ys) := by
  rw [rootCmp_def]
  by_cases h : heightL xs = heightL ys
  · rw [if_pos (by rw [h]; unfold cmpI; simp), if_pos h, sliceCmp_same hl.symm]
    have h2 := sliceCmp_anti xs ys
    rw [sliceCmp_same hl, sliceCmp_same hl.symm] at h2
    exact decide_eq_decide.2 (by omega)
  · rw [if_neg (by intro h2; exact h (cmpI_zero h2)), if_neg h]
    exact decide_eq_decide.2 cmpI_neg
set_option maxHeartbeats 2000000 in
theorem spec_l7Before_any (g1 o1 n1 c1 g2 o2 n2 c2 : Nat) (xs ys : List Int) (w : World) (hn1 : xs.length = n1) (hn2 : ys.length = n2) (hl : xs.length = ys.length) (hx : xs.length ≤ 1048576)
    (hcx : Cells w g1 o1 xs) (hcy : Cells w g2 o2 ys) :
    Calls Tryz.prog 171 #[(Value.slice (some ⟨g1, o1, none⟩) n1 c1), (Value.slice (some ⟨g2, o2, none⟩) n2 c2)] w (Reads w (.bool (decide (rootCmp xs ys < 0)))) := by
  subst hn1; subst hn2
  have hv := before_of hl
  have hl' : ys.length = xs.length := hl.symm
  have hy : ys.length ≤ 1048576 := by omega
  have Hl := Lib.hid hl'; clear hl' hl
  have Hv := Lib.hid hv; clear hv
  go_enter Tryz.func171, Tryz.ntmps171
  go_wp2_with fail
  refine (spec_HeightOf_any g1 o1 _ c1 xs w rfl hx hcx).mono ?_
  rintro e w1 ⟨rfl, m1, rfl⟩
  go_wp2_with fail
  refine (spec_HeightOf_any g2 o2 _ c2 ys (w.drewN m1) rfl hy hcy).mono ?_
  rintro e w2 ⟨rfl, m2, rfl⟩
  by_cases hh : heightL xs = heightL ys
  · have hv := Hv.out
    rw [if_pos hh] at hv
    have hb : (heightL xs != heightL ys) = false := by simp [hh]
    have Hv2 := Lib.hid hv; clear hv Hv
    generalize heightL xs = h1 at *
    generalize heightL ys = h2 at *
    clear hh
    go_wp2_with fail
    go_loopw [7] (fun i wr => ∃ k : Nat, k ≤ xs.length ∧ i = .int .i64 k ∧ Hid (lexCmp xs ys = lexCmp (xs.drop k) (ys.drop k)) ∧ ∃ n, wr = w.drewN n) (fun i _ => xs.length - (intOf i).toNat)
    case atStart => exact ⟨0, Nat.zero_le _, rfl, rfl, (by first | exact ⟨_, rfl⟩ | exact ⟨0, rfl⟩ | exact still2 _ _ _ | exact still3 _ _ _ _)⟩
    case round =>
      obtain ⟨k, hk, rfl, he, n, rfl⟩ := hrel
      by_cases hlt : k < xs.length
      · have hl2 : k < ys.length := by rw [Hl.out]; exact hlt
        have h1 := hcx k hlt
        have h2 := hcy k hl2
        have hd := lexCmp_drop hlt hl2
        have Hd := Lib.hid hd; clear hd
        go_wp2
        go_quiet (fail)
        go_wp2
        · have ht : (xs[k] != ys[k]) = true := by assumption
          go_quiet (fail)
          go_wp2
          go_ret
          refine ⟨ret_bool ?_, (by first | exact ⟨_, rfl⟩ | exact ⟨0, rfl⟩ | exact still2 _ _ _ | exact still3 _ _ _ _)⟩
          rw [Hv2.out, he.out, Hd.out]
          have hne : xs[k] ≠ ys[k] := by simpa using ht
          by_cases h : xs[k] < ys[k]
          · rw [if_pos h]; simp; omega
          · rw [if_neg h, if_pos (by omega)]; simp; omega
        · have ht : (xs[k] != ys[k]) = false := by assumption
          have hee : xs[k] = ys[k] := by simpa using ht
          go_roundw
          case rel => exact ⟨k + 1, by omega, by go_num, by show _ = _; rw [he.out, Hd.out, if_neg (by omega), if_neg (by omega)], (by first | exact ⟨_, rfl⟩ | exact ⟨0, rfl⟩ | exact still2 _ _ _ | exact still3 _ _ _ _)⟩
          case measure => simp [intOf]; omega
      · obtain rfl : k = xs.length := by omega
        go_wp2
        go_ret
        refine ⟨ret_bool ?_, (by first | exact ⟨_, rfl⟩ | exact ⟨0, rfl⟩ | exact still2 _ _ _ | exact still3 _ _ _ _)⟩
        rw [Hv2.out, he.out, List.drop_length]; rfl
  · have hv := Hv.out
    rw [if_neg hh] at hv
    have hb : (heightL xs != heightL ys) = true := by simp [hh]
    have Hv2 := Lib.hid hv; clear hv Hv
    generalize heightL xs = h1 at *
    generalize heightL ys = h2 at *
    clear hh
    go_wp2_with fail
    go_ret
    exact ⟨ret_bool (by rw [Hv2.out]), (by first | exact ⟨_, rfl⟩ | exact ⟨0, rfl⟩ | exact still2 _ _ _ | exact still3 _ _ _ _)⟩
end Go.Proofs.YtldcmhgpppeooaaGreatDoor
namespace Go.Proofs.YtldcmhgpppeooaaGreatDoor
set_option maxRecDepth 100000
open Go.RowKit Game

theorem putR_lt {x word : List Int} {l : List (List Int)} (h : rootCmp word x < 0) : putR (x :: l) word = word :: x :: l := by simp [putR, h]
theorem putR_ge {x word : List Int} {l : List (List Int)} (h : 0 ≤ rootCmp word x) : putR (x :: l) word = x :: putR l word := by simp only [putR]; rw [if_neg (by omega)]

set_option maxHeartbeats 4000000 in
theorem spec_l7Put_any (B0 g cap n g1 o1 n1 c1 : Nat) (rs : List RowRef) (word : List Int) (w : World) (hn : rs.length = n) (hn1 : word.length = n1) (hl : rs.length ≤ 1000000) (hwl : word.length ≤ 1048576)
    (hsame : ∀ r ∈ rs, r.2.2.length = word.length) (ho : OwnRows w B0 g cap rs) (hg1 : g1 < w.heap.size) (hc1 : Cells w g1 o1 word) :
    Calls Tryz.prog 142 #[(Value.slice (some ⟨g, 0, none⟩) n cap), (Value.slice (some ⟨g1, o1, none⟩) n1 c1)] w (GotPut w B0 (putR (contents rs) word)) := by
  subst hn; subst hn1
  have hB0 : B0 ≤ w.heap.size := by have := ho.base; have := ho.lt; omega
  have hg := ho.lt
  have Hsame := Lib.hid hsame; clear hsame
  go_enter Tryz.func142, Tryz.ntmps142
  go_wp2
  go_loopw [5, 6, 7] (fun ov pv iv wr => ∃ (i p g' c' : Nat) (acc : List RowRef) (pl : Bool), i ≤ rs.length ∧ iv = .int .i64 i ∧ pv = .bool pl ∧ ov = (Value.slice (some ⟨g', 0, none⟩) p c') ∧ Hid (acc.length = p) ∧ p ≤ i + 1 ∧ Hid (PutSt (fun l => putR l word) w.heap.size rs i acc pl) ∧ OwnRows wr B0 g' c' acc ∧ w.heap.size ≤ g' ∧ Below w.heap.size w wr) (fun _ _ iv _ => rs.length - (intOf iv).toNat)
  case atStart =>
    exact ⟨0, 0, w.heap.size, 0, [], false, Nat.zero_le _, rfl, rfl, rfl, rfl, by omega, PutSt.start, OwnRows.empty hB0, Nat.le_refl _, (Below.refl _ _).alloc (Nat.le_refl _) _⟩
  case round =>
    obtain ⟨i, p, g', c', acc, pl, hi, rfl, rfl, rfl, hp, hpi, hst, hO, hgn, hb⟩ := hrel
    by_cases hlt : i < rs.length
    · have hm : rs[i] ∈ rs := List.getElem_mem hlt
      have hoi := ho.2.1 _ hm
      have hneI := hst.out.ne ho.2.2 hlt hoi.lt
      have hxl := Hsame.out _ hm
      have hq : wr.cell? ⟨g, i, none⟩ = some (rowVal rs[i]) := by
        rw [hb.cell (p := ⟨g, i, none⟩) hg, ho.1.cell i (by simpa using hlt)]; simp
      have HS : ∀ (new : List RowRef) (pl' : Bool), (∀ s ∈ new, w.heap.size ≤ s.1) → acc.length + new.length ≤ i + 1 → (pl' = false → pl = false ∧ new = []) → (if pl then contents (rs.drop i) else putR (contents (rs.drop i)) word) = contents new ++ rs[i].2.2 :: (if pl' then contents (rs.drop (i + 1)) else putR (contents (rs.drop (i + 1))) word) → PutSt (fun l => putR l word) w.heap.size rs (i + 1) (acc ++ new ++ [rs[i]]) pl' :=
        fun new pl' h1 h2 h3 h4 => hst.out.step hlt new pl' h1 h2 h3 h4
      have HS' := Lib.hid HS
      have hcd := contents_drop rs hlt
      have Hcd := Lib.hid hcd
      have hlen := hst.out.lenF
      have Hlen := Lib.hid hlen
      clear HS hcd hlen
      generalize rs[i] = r at *
      obtain ⟨bi, ci, xi⟩ := r
      have hq' : wr.cell? ⟨g, i, none⟩ = some (Value.slice (some ⟨bi, 0, none⟩) xi.length ci) := hq
      have hoi' : Own wr B0 bi ci xi := hoi.below hb hoi.lt
      have hxl' : xi.length = word.length := hxl
      have hcW := hc1.below hb hg1
      have hcX := hoi'.cells
      have hcallG := spec_l7Before_any g1 o1 _ c1 bi 0 _ ci word xi wr rfl rfl hxl'.symm hwl hcW hcX
      have HneI := Lib.hid hneI
      have hbi : bi < w.heap.size := hoi.lt
      have hpl : p ≤ i + 1 := hpi
      have Ho := Lib.hid ho
      have Hst := Lib.hid hst
      clear hq hoi hm hneI ho hst hcW hcX hxl hxl'
      cases pl with
      | true =>
        clear hcallG
        clear Hlen
        have hs2 : ∃ n, wr = wr.drewN n := ⟨0, rfl⟩
        have hq9 : wr.cell? ⟨g, i, none⟩ = some (Value.slice (some ⟨bi, 0, none⟩) xi.length ci) := (cell_still hs2 _).trans hq'
        have hB9 := below_still hb hs2
        have hO9 := hO.still hs2
        have hoi9 := hoi'.still hs2
        have hgn9 := hgn
        clear hb hO hoi' hq' hs2
        have hne9 := HneI.out
        go_wp2_with (at_builtin; refine wpList_append_row rfl _ _ rfl B0 g' _ (p) wr.heap.size (acc) (bi, ci, xi) _ hp.out rfl rfl hO9 hoi9 hne9 rfl rfl (by omega) ?_)
        intro g5 c5 w5 hO5 hg5 hor5
        have hB5 : Below w.heap.size w w5 := hB9.grown hg5 hB9.size (by intro j hj; cases hj; exact hgn9)
        have hg5n : w.heap.size ≤ g5 := by
          rcases hor5 with h | h
          · omega
          · have := hB9.size; omega
        go_wp2
        go_roundw
        case rel =>
          refine ⟨i + 1, p + 1, g5, c5, acc ++ [(bi, ci, xi)], true, by omega, by go_num, by first | rfl | trivial, by first | rfl | trivial, ?_, by omega, ?_, hO5, hg5n, hB5⟩
          · show _ = _
            have := hp.out
            simp at this ⊢; omega
          · show PutSt _ _ _ _ _ _
            have := HS'.out [] true (by simp) (by rw [hp.out]; simpa using hpl) (by simp) (by simp only [if_true]; rw [Hcd.out]; rfl); simpa using this
        case measure => simp [intOf]; omega
      | false =>
        by_cases hv : rootCmp word xi < 0
        · rw [decide_eq_true hv] at hcallG
          have HG := Lib.hid hcallG; have Hv := Lib.hid hv; clear hv hcallG
          have hpi : p ≤ i := by have := Hlen.out rfl; have := hp.out; omega
          clear Hlen
          have HcallG := HG
          go_wp2_with fail
          refine HcallG.out.mono ?_
          rintro e w6 ⟨rfl, hs2⟩
          clear HcallG HG
          have hq9 : w6.cell? ⟨g, i, none⟩ = some (Value.slice (some ⟨bi, 0, none⟩) xi.length ci) := (cell_still hs2 _).trans hq'
          have hB9 := below_still hb hs2
          have hO9 := hO.still hs2
          have hoi9 := hoi'.still hs2
          have hgn9 := hgn
          clear hb hO hoi' hq' hs2
          go_wp2_with (at_builtin; refine wpList_clone (w := w6) rfl _ _ rfl g1 o1 _ c1 word rfl (Nat.lt_of_lt_of_le hg1 hB9.size) (hc1.below hB9 hg1) rfl rfl (by omega) ?_)
          intro g3 c3 w3 ho3 hb3
          have hB3 : Below w.heap.size w w3 := hB9.trans (hb3.mono hB9.size)
          have hO3 : OwnRows w3 B0 g' c' acc := hO9.below hb3
          have hne3 : ∀ s ∈ acc, s.1 ≠ g3 := fun s hs e => by
            have h1 := (hO9.2.1 s hs).lt
            have h2 := ho3.base
            omega
          have hg3 : w.heap.size ≤ g3 := by have := ho3.base; have := hB9.size; omega
          have ho3' : Own w3 B0 g3 c3 word := ho3.mono (by have := hB9.size; omega)
          have hoi3 : Own w3 B0 bi ci xi := hoi9.below hb3 hoi9.lt
          have hq3 : w3.cell? ⟨g, i, none⟩ = some (Value.slice (some ⟨bi, 0, none⟩) xi.length ci) := (hb3.cell (p := ⟨g, i, none⟩) (Nat.lt_of_lt_of_le hg hB9.size)).trans hq9
          clear hq9 hoi9 hO9 hB9 hb3
          go_wp2_with (at_builtin; refine wpList_append_row rfl _ _ rfl B0 g' c' p w3.heap.size acc (g3, c3, word) _ hp.out rfl rfl hO3 ho3' hne3 rfl rfl (by omega) ?_)
          intro g4 c4 w4 hO9 hg4 hor4
          have hB9 : Below w.heap.size w w4 := hB3.grown hg4 hB3.size (by intro j hj; cases hj; exact hgn)
          have hoi9 : Own w4 B0 bi ci xi := hoi3.grown hg4 (fun e => hO3.1.ne hoi3.toV (by decide) (Option.some.inj e).symm)
          have hgn9 : w.heap.size ≤ g4 := by
            rcases hor4 with h | h
            · omega
            · have := hB3.size; omega
          have hq9 : w4.cell? ⟨g, i, none⟩ = some (Value.slice (some ⟨bi, 0, none⟩) xi.length ci) := hg4.cell (a := ⟨g, i, none⟩) hq3 (by simp; omega)
          have hne9 : ∀ s ∈ acc ++ [(g3, c3, word)], s.1 ≠ bi := fun s hs => by
            rcases List.mem_append.1 hs with h | h
            · exact HneI.out s h
            · simp at h; subst h; show g3 ≠ bi; omega
          have hl9 : (acc ++ [(g3, c3, word)]).length = p + 1 := by rw [List.length_append, hp.out]; rfl
          have Hl9 := Lib.hid hl9
          clear hq3 hoi3 hO3 hB3 hg4 hor4 ho3 ho3' hne3 hl9
          go_wp2_with (at_builtin; refine wpList_append_row rfl _ _ rfl B0 g4 _ (p + 1) w4.heap.size (acc ++ [(g3, c3, word)]) (bi, ci, xi) _ Hl9.out rfl rfl hO9 hoi9 hne9 rfl rfl (by omega) ?_)
          intro g5 c5 w5 hO5 hg5 hor5
          have hB5 : Below w.heap.size w w5 := hB9.grown hg5 hB9.size (by intro j hj; cases hj; exact hgn9)
          have hg5n : w.heap.size ≤ g5 := by
            rcases hor5 with h | h
            · omega
            · have := hB9.size; omega
          go_wp2
          go_roundw
          case rel =>
            refine ⟨i + 1, p + 1 + 1, g5, c5, acc ++ [(g3, c3, word), (bi, ci, xi)], true, by omega, by go_num, by first | rfl | trivial, by first | rfl | trivial, ?_, by omega, ?_, hO5, hg5n, hB5⟩
            · show _ = _
              have := Hl9.out
              simp at this ⊢; omega
            · show PutSt _ _ _ _ _ _
              have := HS'.out [(g3, c3, word)] true (by intro s hs; simp at hs; subst hs; exact hg3) (by rw [hp.out]; simpa using hpi) (by intro e; simp at e) (by simp only [if_true]; rw [Hcd.out]; exact (putR_lt Hv.out)); simpa using this
          case measure => simp [intOf]; omega
        · rw [decide_eq_false hv] at hcallG
          have HG := Lib.hid hcallG; have Hv := Lib.hid hv; clear hv hcallG
          have hpi : p ≤ i := by have := Hlen.out rfl; have := hp.out; omega
          clear Hlen
          have HcallG := HG
          go_wp2_with fail
          refine HcallG.out.mono ?_
          rintro e w6 ⟨rfl, hs2⟩
          clear HcallG HG
          have hq9 : w6.cell? ⟨g, i, none⟩ = some (Value.slice (some ⟨bi, 0, none⟩) xi.length ci) := (cell_still hs2 _).trans hq'
          have hB9 := below_still hb hs2
          have hO9 := hO.still hs2
          have hoi9 := hoi'.still hs2
          have hgn9 := hgn
          clear hb hO hoi' hq' hs2
          have hne9 := HneI.out
          go_wp2_with (at_builtin; refine wpList_append_row rfl _ _ rfl B0 g' _ (p) w6.heap.size (acc) (bi, ci, xi) _ hp.out rfl rfl hO9 hoi9 hne9 rfl rfl (by omega) ?_)
          intro g5 c5 w5 hO5 hg5 hor5
          have hB5 : Below w.heap.size w w5 := hB9.grown hg5 hB9.size (by intro j hj; cases hj; exact hgn9)
          have hg5n : w.heap.size ≤ g5 := by
            rcases hor5 with h | h
            · omega
            · have := hB9.size; omega
          go_wp2
          go_roundw
          case rel =>
            refine ⟨i + 1, p + 1, g5, c5, acc ++ [(bi, ci, xi)], false, by omega, by go_num, by first | rfl | trivial, by first | rfl | trivial, ?_, by omega, ?_, hO5, hg5n, hB5⟩
            · show _ = _
              have := hp.out
              simp at this ⊢; omega
            · show PutSt _ _ _ _ _ _
              have := HS'.out [] false (by simp) (by rw [hp.out]; simpa using hpl) (by simp) (by rw [Hcd.out]; exact (putR_ge Hv.out)); simpa using this
          case measure => simp [intOf]; omega
    · obtain rfl : i = rs.length := by omega
      cases pl with
      | true =>
        go_wp2_with fail
        go_ret
        have hd := hst.out.done
        exact GotPut.mk' g' c' acc hp.out hd hO hgn hb
      | false =>
        go_wp2_with (at_builtin; refine wpList_clone (w := wr) rfl _ _ rfl g1 o1 _ c1 word rfl (Nat.lt_of_lt_of_le hg1 hb.size) (hc1.below hb hg1) rfl rfl (by omega) ?_)
        intro g3 c3 w3 ho3 hb3
        have hB3 : Below w.heap.size w w3 := hb.trans (hb3.mono hb.size)
        have hO3 : OwnRows w3 B0 g' c' acc := hO.below hb3
        have hne3 : ∀ s ∈ acc, s.1 ≠ g3 := fun s hs e => by
          have h1 := (hO.2.1 s hs).lt
          have h2 := ho3.base
          omega
        have ho3' : Own w3 B0 g3 c3 word := ho3.mono (by have := hb.size; omega)
        go_wp2_with (at_builtin; refine wpList_append_row rfl _ _ rfl B0 g' c' p w3.heap.size acc (g3, c3, word) _ hp.out rfl rfl hO3 ho3' hne3 rfl rfl (by omega) ?_)
        intro g4 c4 w4 hO4 hg4 hor4
        have hB4 : Below w.heap.size w w4 := hB3.grown hg4 hB3.size (by intro j hj; cases hj; exact hgn)
        have hg4n : w.heap.size ≤ g4 := by
          rcases hor4 with h | h
          · omega
          · have := hB3.size; omega
        go_wp2_with fail
        go_ret
        have hd := hst.out.last (g3, c3, word) rfl
        exact GotPut.mk' g4 c4 (acc ++ [(g3, c3, word)]) (by rw [List.length_append, hp.out]; rfl) hd hO4 hg4n hB4
end Go.Proofs.YtldcmhgpppeooaaGreatDoor
