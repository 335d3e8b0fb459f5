/- slices.SortFunc over rows of the call's own: contract. -/
import Derived.Test.YtldcmhgpppeooaaGreatDoorG13
import Derived.Test.YtldcmhgpppeooaaGreatDoorSlay
import Derived.Shelf.SlSortCmp.NoneTotal
namespace Go.Proofs.YtldcmhgpppeooaaGreatDoor
set_option maxRecDepth 100000
open Go.RowKit Game
open Go.Sort (Holds putRow putCells mapBlock onCells grow heap_grow_old SWO PermIn SortedIn)

section
variable {α : Type} [Inhabited α] (enc : α → Value)
theorem heap_sortedE {w : World} {g n : Nat} {os : Array Obj} {cur : Array Value} {e : TypeId} {fr : Nat × Nat} (d : Array α) (hb : w.heap[g]? = some (.cells cur e fr)) :
    (sortWorld enc w g 0 n d os).heap[g]? = some (.cells (putCells enc 0 d cur) e fr) := by
  have hg : g < w.heap.size := (Array.getElem?_eq_some_iff.1 hb).1
  unfold sortWorld
  rw [heap_grow_old _ _ (by simpa using hg)]
  simp [putRow, mapBlock, Sort.ahead, Array.getElem?_modify, hb, onCells]
theorem heap_sorted_other {w : World} {g n k : Nat} {os : Array Obj} (d : Array α) (hk : k < w.heap.size) (hne : g ≠ k) :
    (sortWorld enc w g 0 n d os).heap[k]? = w.heap[k]? := by
  unfold sortWorld
  rw [heap_grow_old _ _ (by simpa using hk)]
  simp [putRow, mapBlock, Sort.ahead, Array.getElem?_modify, hne]
theorem grownBy_sortedE {w : World} {g n : Nat} {os : Array Obj} (d : Array α) : w.grownBy (sortWorld enc w g 0 n d os) (some g) :=
  ⟨rfl, rfl, rfl, by unfold sortWorld; simp, fun k hk hne => heap_sorted_other enc d hk (fun e => hne (by rw [e]))⟩
theorem take_putCellsE (cur : Array Value) (ts : List α) (h : ts.length ≤ cur.size) : (putCells enc 0 ts.toArray cur).toList.take ts.length = ts.map enc := by
  apply List.ext_getElem?
  intro j
  by_cases hj : j < ts.length
  · rw [List.getElem?_take_of_lt hj, Array.getElem?_toList]
    simp [putCells, hj, show j < cur.size by omega]
  · rw [List.getElem?_take_eq_none (by omega), List.getElem?_eq_none (by simp; omega)]
theorem holds_of_ownV {w : World} {B g cap : Nat} {E : TypeId} {ss : List α} (h : OwnV w B E g cap (ss.map enc)) : Holds enc w g 0 ss.toArray := by
  intro j hj
  have hj' : j < ss.length := by simpa using hj
  refine ⟨?_, h.frozen _⟩
  rw [Nat.zero_add, h.cell j (by simpa using hj')]
  simp [hj']
theorem ownV_sorted {w : World} {B g cap n : Nat} {E : TypeId} {os : Array Obj} {ss ts : List α} (h : OwnV w B E g cap (ss.map enc)) (hl : ts.length = ss.length) : OwnV (sortWorld enc w g 0 n ts.toArray os) B E g cap (ts.map enc) := by
  rcases h.2 with ⟨h', _⟩ | ⟨g', cap', cur, h', hb, hh, hn, hm, hs, htk⟩
  · simp at h'
  · simp only [Value.slice.injEq, Option.some.injEq, Addr.mk.injEq, List.length_map] at h'
    obtain ⟨⟨rfl, _⟩, _, rfl⟩ := h'
    refine ⟨by simp, .inr ⟨g, cap, _, by simp, hb, heap_sortedE enc _ hh, by simp at hn ⊢; omega, hm, by simp [putCells, hs], ?_⟩⟩
    rw [Nat.mul_one, List.length_map]
    refine take_putCellsE enc cur ts ?_
    simp at hn hs; omega
end

/-- what is asked of a comparison: in whatever world, at whatever two lists -/
def CmpOk (f : Nat) (cf : List Int → List Int → Int) : Prop :=
  ∀ (g1 o1 c1 g2 o2 c2 : Nat) (xs ys : List Int) (w : World), xs.length ≤ 1048576 → ys.length ≤ 1048576 → Cells w g1 o1 xs → Cells w g2 o2 ys →
    Calls Tryz.prog f #[(Value.slice (some ⟨g1, o1, none⟩) xs.length c1), (Value.slice (some ⟨g2, o2, none⟩) ys.length c2)] w fun e w' => e = .returned (.int .i64 (cf xs ys)) ∧ ∃ q os', w' = grow (w.drewN q) os'
theorem lays_grow {w : World} {v : Value} {e : Ending} {w' : World} (h : Lays w v e w') : e = .returned v ∧ ∃ q os', w' = grow (w.drewN q) os' := by
  obtain ⟨h1, o, q, rfl⟩ := h
  refine ⟨h1, q, #[o], ?_⟩
  rw [← Sort.alloc_eq_grow]
  rfl
theorem reads_grow {w : World} {v : Value} {e : Ending} {w' : World} (h : Reads w v e w') : e = .returned v ∧ ∃ q os', w' = grow (w.drewN q) os' := by
  obtain ⟨h1, q, rfl⟩ := h
  exact ⟨h1, q, #[], by simp⟩

/-- a comparison that tells all lists apart is a strict weak order -/
theorem swo_of {cf : List Int → List Int → Int} (anti : ∀ a b, cf b a = - cf a b) (zero : ∀ {a b}, cf a b = 0 → a = b) (tr : ∀ {a b d}, cf a b < 0 → cf b d < 0 → cf a d < 0) : SWO (ltOf cf) where
  irrefl x := by unfold ltOf; have := anti x x; simp; omega
  trans x y z h1 h2 := by unfold ltOf at *; simp at *; exact tr h1 h2
  ntrans x y z h1 h2 := by
    unfold ltOf at *
    simp at *
    rcases Int.lt_trichotomy (cf x z) 0 with h | h | h
    · have a1 := anti x y
      have a2 := anti y z
      rcases Int.lt_trichotomy (cf x y) 0 with g | g | g
      · omega
      · have := zero g; subst this; omega
      · rcases Int.lt_trichotomy (cf y z) 0 with k | k | k
        · omega
        · have := zero k; subst this; omega
        · have := tr (a := z) (b := y) (d := x) (by omega) (by omega)
          have a3 := anti x z
          omega
    · omega
    · omega
/-- the order by a comparison -/
def Total (cf : List Int → List Int → Int) : Prop := SWO (ltOf cf)

set_option maxHeartbeats 1000000 in
theorem sort_rows (f : Nat) (cf : List Int → List Int → Int) (hcf : CmpOk f cf) (hswo : SWO (ltOf cf)) (ef : ∀ args w, (callFunc f args).run Tryz.prog w = .ok (.enter f args) w) (B g cap n : Nat) (rs : List RowRef) (w : World) (hn : rs.length = n) (hl : rs.length ≤ 1048576) (hrl : ∀ r ∈ rs, r.2.2.length ≤ 1048576)
    (ho : OwnRows w B g cap rs) :
    Calls Tryz.prog 119 #[(Value.slice (some ⟨g, 0, none⟩) n cap), .func (.func f) #[] #[]] w fun e w' =>
      e = .returned (.tuple #[]) ∧ ∃ rs', rs'.Perm rs ∧ (contents rs').Pairwise (fun a b => ¬ cf b a < 0) ∧ OwnRows w' B g cap rs' ∧ w.grownBy w' (some g) := by
  subst hn
  cases hrs : rs with
  | nil =>
    have hcon := AnyF.slices_SortFunc_none { Tryz.sortRows with } (some ⟨g, 0, none⟩) cap (.func (.func f) #[] #[]) w
    change Calls Tryz.prog 119 _ _ _ at hcon
    refine hcon.mono ?_
    rintro e w' ⟨rfl, rfl⟩
    subst hrs
    exact ⟨rfl, [], List.Perm.refl _, List.Pairwise.nil, ho, World.grownBy.refl _ _⟩
  | cons r0 rest =>
    rw [← hrs]
    have hr0 : r0 ∈ rs := by rw [hrs]; simp
    letI : Inhabited {r : RowRef // r ∈ rs} := ⟨⟨r0, hr0⟩⟩
    let d : Array {r : RowRef // r ∈ rs} := rs.attach.toArray
    let enc : {r : RowRef // r ∈ rs} → Value := fun r => rowVal r.1
    let cf' : {r : RowRef // r ∈ rs} → {r : RowRef // r ∈ rs} → Int := fun a b => cf a.1.2.2 b.1.2.2
    have hds : d.size = rs.length := by simp [d]
    have hown : OwnV w B 27 g cap (rs.attach.map enc) := by
      have e : rs.attach.map enc = rs.map rowVal := by
        show rs.attach.map (fun r => rowVal r.1) = _
        have h := List.map_map (f := (Subtype.val : {r : RowRef // r ∈ rs} → RowRef)) (g := rowVal) (l := rs.attach)
        rw [List.attach_map_subtype_val] at h
        exact h.symm
      rw [e]; exact ho.1
    have hH : Holds enc w g 0 d := holds_of_ownV enc hown
    have hswo' : SWO (ltOf cf') := ⟨fun x => hswo.irrefl _, fun x y z h1 h2 => hswo.trans _ _ _ h1 h2, fun x y z h1 h2 => hswo.ntrans _ _ _ h1 h2⟩
    have hcmp : CmpLays1 Tryz.prog f #[] enc cf' g 0 d.size w := by
      intro m os dk hdk x y
      have hx := ho.2.1 x.1 x.2
      have hy := ho.2.1 y.1 y.2
      have hcx : Cells (sortWorld enc w g 0 m dk os) x.1.1 0 x.1.2.2 := by
        have h1 := hx.cells
        have hne : g ≠ x.1.1 := ho.1.ne hx.toV (by decide)
        intro j hj
        rw [← h1 j hj]
        unfold World.cell?
        simp only [heap_sorted_other enc dk hx.lt hne]
      have hcy : Cells (sortWorld enc w g 0 m dk os) y.1.1 0 y.1.2.2 := by
        have h1 := hy.cells
        have hne : g ≠ y.1.1 := ho.1.ne hy.toV (by decide)
        intro j hj
        rw [← h1 j hj]
        unfold World.cell?
        simp only [heap_sorted_other enc dk hy.lt hne]
      exact hcf x.1.1 0 x.1.2.1 y.1.1 0 y.1.2.1 x.1.2.2 y.1.2.2 _ (hrl _ x.2) (hrl _ y.2) hcx hcy
    have hcon := Any.slices_SortFunc Tryz.sortRows enc (fun _ => rfl) cf' hswo' f #[] g 0 cap d w ef hcmp hH ho.1.lt (by rw [hds]; omega)
    rw [hds] at hcon
    change Calls Tryz.prog 119 _ _ _ at hcon
    refine hcon.mono ?_
    rintro e w' ⟨rfl, d', k, os, hp, hs, rfl⟩
    have hp1 : d'.size = rs.length := by rw [hp.1, hds]
    have hpm : (d'.toList.map (fun x : {r : RowRef // r ∈ rs} => x.1)).Perm rs := by
      have h1 := hp.2.2
      have h2 : (d'.extract 0 rs.length).toList = d'.toList := by rw [← hp1]; simp
      have h3 : (d.extract 0 rs.length).toList = d.toList := by rw [← hds]; simp
      rw [h2, h3] at h1
      have h4 := h1.map (fun x : {r : RowRef // r ∈ rs} => x.1)
      have h5 : d.toList.map (fun x : {r : RowRef // r ∈ rs} => x.1) = rs := List.attach_map_subtype_val rs
      rw [h5] at h4
      exact h4
    refine ⟨rfl, d'.toList.map (·.1), hpm, ?_, ?_, grownBy_sortedE enc d'⟩
    · unfold contents
      rw [List.map_map, List.pairwise_map, List.pairwise_iff_getElem]
      intro i j hi hj hij
      have h1 := hs i j (Nat.zero_le _) hij (by rw [← hp1]; simpa using hj)
      have h2 : i < d'.size := by simpa using hi
      have h3 : j < d'.size := by simpa using hj
      rw [getElem!_pos d' i h2, getElem!_pos d' j h3] at h1
      unfold ltOf at h1
      simpa using h1
    · have hl' : d'.toList.length = rs.attach.length := by simp [hp.1, hds]
      have h1 := ownV_sorted (n := k) (os := os) enc hown hl'
      have e1 : d'.toList.map enc = (d'.toList.map (·.1)).map rowVal := by rw [List.map_map]; rfl
      rw [e1] at h1
      have hmem : ∀ r ∈ d'.toList.map (·.1), r ∈ rs := fun r hr => by
        obtain ⟨x, -, rfl⟩ := List.mem_map.1 hr
        exact x.2
      refine ⟨by simpa using h1, fun r hr => ?_, ?_⟩
      · have h2 := ho.2.1 r (hmem r hr)
        exact h2.grown (grownBy_sortedE enc d') (fun e => ho.1.ne h2.toV (by decide) (Option.some.inj e).symm)
      · exact (hpm.map (·.1)).nodup_iff.2 ho.2.2
end Go.Proofs.YtldcmhgpppeooaaGreatDoor
