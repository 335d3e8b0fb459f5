/- slices.SortFunc over rows of the call's own: contract. Dominant weights above any weight, of both: contracts. Dominant weights above any weight, by the program: contracts. -/
import Derived.Test.YtmjneokgnnbekaaGreatDoorG16
import Derived.Test.YtmjneokgnnbekaaGreatDoorSlay
import Derived.Shelf.SlSortCmp.NoneTotal
import Derived.Test.YtmjneokgnnbekaaGreatDoorG17
import Derived.Test.YtmjneokgnnbekaaGreatDoorG18
import Derived.Test.YtmjneokgnnbekaaGreatDoorG19
import Derived.Deep.LoopGhost
namespace Go.Proofs.YtmjneokgnnbekaaGreatDoor
set_option maxRecDepth 100000
open Go.RowKit Game
open Go.Sort (Holds putRow putCells mapBlock onCells grow heap_grow_old SWO PermIn SortedIn)

section
variable {α : Type} [Inhabited α] (enc : α → Value)
theorem heap_sortedE {w : World} {g n : Nat} {os : Array Obj} {cur : Array Value} {e : TypeId} {fr : Nat × Nat} (d : Array α) (hb : w.heap[g]? = some (.cells cur e fr)) :
    (sortWorld enc w g 0 n d os).heap[g]? = some (.cells (putCells enc 0 d cur) e fr) := by
  have hg : g < w.heap.size := (Array.getElem?_eq_some_iff.1 hb).1
  unfold sortWorld
  rw [heap_grow_old _ _ (by simpa using hg)]
  simp [putRow, mapBlock, Sort.ahead, Array.getElem?_modify, hb, onCells]
theorem heap_sorted_other {w : World} {g n k : Nat} {os : Array Obj} (d : Array α) (hk : k < w.heap.size) (hne : g ≠ k) :
    (sortWorld enc w g 0 n d os).heap[k]? = w.heap[k]? := by
  unfold sortWorld
  rw [heap_grow_old _ _ (by simpa using hk)]
  simp [putRow, mapBlock, Sort.ahead, Array.getElem?_modify, hne]
theorem grownBy_sortedE {w : World} {g n : Nat} {os : Array Obj} (d : Array α) : w.grownBy (sortWorld enc w g 0 n d os) (some g) :=
  ⟨rfl, rfl, rfl, by unfold sortWorld; simp, fun k hk hne => heap_sorted_other enc d hk (fun e => hne (by rw [e]))⟩
theorem take_putCellsE (cur : Array Value) (ts : List α) (h : ts.length ≤ cur.size) : (putCells enc 0 ts.toArray cur).toList.take ts.length = ts.map enc := by
  apply List.ext_getElem?
  intro j
  by_cases hj : j < ts.length
  · rw [List.getElem?_take_of_lt hj, Array.getElem?_toList]
    simp [putCells, hj, show j < cur.size by omega]
  · rw [List.getElem?_take_eq_none (by omega), List.getElem?_eq_none (by simp; omega)]
theorem holds_of_ownV {w : World} {B g cap : Nat} {E : TypeId} {ss : List α} (h : OwnV w B E g cap (ss.map enc)) : Holds enc w g 0 ss.toArray := by
  intro j hj
  have hj' : j < ss.length := by simpa using hj
  refine ⟨?_, h.frozen _⟩
  rw [Nat.zero_add, h.cell j (by simpa using hj')]
  simp [hj']
theorem ownV_sorted {w : World} {B g cap n : Nat} {E : TypeId} {os : Array Obj} {ss ts : List α} (h : OwnV w B E g cap (ss.map enc)) (hl : ts.length = ss.length) : OwnV (sortWorld enc w g 0 n ts.toArray os) B E g cap (ts.map enc) := by
  rcases h.2 with ⟨h', _⟩ | ⟨g', cap', cur, h', hb, hh, hn, hm, hs, htk⟩
  · simp at h'
  · simp only [Value.slice.injEq, Option.some.injEq, Addr.mk.injEq, List.length_map] at h'
    obtain ⟨⟨rfl, _⟩, _, rfl⟩ := h'
    refine ⟨by simp, .inr ⟨g, cap, _, by simp, hb, heap_sortedE enc _ hh, by simp at hn ⊢; omega, hm, by simp [putCells, hs], ?_⟩⟩
    rw [Nat.mul_one, List.length_map]
    refine take_putCellsE enc cur ts ?_
    simp at hn hs; omega
end

/-- what is asked of a comparison: in whatever world, at whatever two lists -/
def CmpOk (f : Nat) (cf : List Int → List Int → Int) : Prop :=
  ∀ (g1 o1 c1 g2 o2 c2 : Nat) (xs ys : List Int) (w : World), xs.length ≤ 1048576 → ys.length ≤ 1048576 → Cells w g1 o1 xs → Cells w g2 o2 ys →
    Calls Tryz.prog f #[(Value.slice (some ⟨g1, o1, none⟩) xs.length c1), (Value.slice (some ⟨g2, o2, none⟩) ys.length c2)] w fun e w' => e = .returned (.int .i64 (cf xs ys)) ∧ ∃ q os', w' = grow (w.drewN q) os'
theorem lays_grow {w : World} {v : Value} {e : Ending} {w' : World} (h : Lays w v e w') : e = .returned v ∧ ∃ q os', w' = grow (w.drewN q) os' := by
  obtain ⟨h1, o, q, rfl⟩ := h
  refine ⟨h1, q, #[o], ?_⟩
  rw [← Sort.alloc_eq_grow]
  rfl
theorem reads_grow {w : World} {v : Value} {e : Ending} {w' : World} (h : Reads w v e w') : e = .returned v ∧ ∃ q os', w' = grow (w.drewN q) os' := by
  obtain ⟨h1, q, rfl⟩ := h
  exact ⟨h1, q, #[], by simp⟩

/-- a comparison that tells all lists apart is a strict weak order -/
theorem swo_of {cf : List Int → List Int → Int} (anti : ∀ a b, cf b a = - cf a b) (zero : ∀ {a b}, cf a b = 0 → a = b) (tr : ∀ {a b d}, cf a b < 0 → cf b d < 0 → cf a d < 0) : SWO (ltOf cf) where
  irrefl x := by unfold ltOf; have := anti x x; simp; omega
  trans x y z h1 h2 := by unfold ltOf at *; simp at *; exact tr h1 h2
  ntrans x y z h1 h2 := by
    unfold ltOf at *
    simp at *
    rcases Int.lt_trichotomy (cf x z) 0 with h | h | h
    · have a1 := anti x y
      have a2 := anti y z
      rcases Int.lt_trichotomy (cf x y) 0 with g | g | g
      · omega
      · have := zero g; subst this; omega
      · rcases Int.lt_trichotomy (cf y z) 0 with k | k | k
        · omega
        · have := zero k; subst this; omega
        · have := tr (a := z) (b := y) (d := x) (by omega) (by omega)
          have a3 := anti x z
          omega
    · omega
    · omega
/-- the order by a comparison -/
def Total (cf : List Int → List Int → Int) : Prop := SWO (ltOf cf)

set_option maxHeartbeats 1000000 in
theorem sort_rows (f : Nat) (cf : List Int → List Int → Int) (hcf : CmpOk f cf) (hswo : SWO (ltOf cf)) (ef : ∀ args w, (callFunc f args).run Tryz.prog w = .ok (.enter f args) w) (B g cap n : Nat) (rs : List RowRef) (w : World) (hn : rs.length = n) (hl : rs.length ≤ 1048576) (hrl : ∀ r ∈ rs, r.2.2.length ≤ 1048576)
    (ho : OwnRows w B g cap rs) :
    Calls Tryz.prog 68 #[(Value.slice (some ⟨g, 0, none⟩) n cap), .func (.func f) #[] #[]] w fun e w' =>
      e = .returned (.tuple #[]) ∧ ∃ rs', rs'.Perm rs ∧ (contents rs').Pairwise (fun a b => ¬ cf b a < 0) ∧ OwnRows w' B g cap rs' ∧ w.grownBy w' (some g) := by
  subst hn
  cases hrs : rs with
  | nil =>
    have hcon := AnyF.slices_SortFunc_none { Tryz.sortRows with } (some ⟨g, 0, none⟩) cap (.func (.func f) #[] #[]) w
    change Calls Tryz.prog 68 _ _ _ at hcon
    refine hcon.mono ?_
    rintro e w' ⟨rfl, rfl⟩
    subst hrs
    exact ⟨rfl, [], List.Perm.refl _, List.Pairwise.nil, ho, World.grownBy.refl _ _⟩
  | cons r0 rest =>
    rw [← hrs]
    have hr0 : r0 ∈ rs := by rw [hrs]; simp
    letI : Inhabited {r : RowRef // r ∈ rs} := ⟨⟨r0, hr0⟩⟩
    let d : Array {r : RowRef // r ∈ rs} := rs.attach.toArray
    let enc : {r : RowRef // r ∈ rs} → Value := fun r => rowVal r.1
    let cf' : {r : RowRef // r ∈ rs} → {r : RowRef // r ∈ rs} → Int := fun a b => cf a.1.2.2 b.1.2.2
    have hds : d.size = rs.length := by simp [d]
    have hown : OwnV w B 23 g cap (rs.attach.map enc) := by
      have e : rs.attach.map enc = rs.map rowVal := by
        show rs.attach.map (fun r => rowVal r.1) = _
        have h := List.map_map (f := (Subtype.val : {r : RowRef // r ∈ rs} → RowRef)) (g := rowVal) (l := rs.attach)
        rw [List.attach_map_subtype_val] at h
        exact h.symm
      rw [e]; exact ho.1
    have hH : Holds enc w g 0 d := holds_of_ownV enc hown
    have hswo' : SWO (ltOf cf') := ⟨fun x => hswo.irrefl _, fun x y z h1 h2 => hswo.trans _ _ _ h1 h2, fun x y z h1 h2 => hswo.ntrans _ _ _ h1 h2⟩
    have hcmp : CmpLays1 Tryz.prog f #[] enc cf' g 0 d.size w := by
      intro m os dk hdk x y
      have hx := ho.2.1 x.1 x.2
      have hy := ho.2.1 y.1 y.2
      have hcx : Cells (sortWorld enc w g 0 m dk os) x.1.1 0 x.1.2.2 := by
        have h1 := hx.cells
        have hne : g ≠ x.1.1 := ho.1.ne hx.toV (by decide)
        intro j hj
        rw [← h1 j hj]
        unfold World.cell?
        simp only [heap_sorted_other enc dk hx.lt hne]
      have hcy : Cells (sortWorld enc w g 0 m dk os) y.1.1 0 y.1.2.2 := by
        have h1 := hy.cells
        have hne : g ≠ y.1.1 := ho.1.ne hy.toV (by decide)
        intro j hj
        rw [← h1 j hj]
        unfold World.cell?
        simp only [heap_sorted_other enc dk hy.lt hne]
      exact hcf x.1.1 0 x.1.2.1 y.1.1 0 y.1.2.1 x.1.2.2 y.1.2.2 _ (hrl _ x.2) (hrl _ y.2) hcx hcy
    have hcon := Any.slices_SortFunc Tryz.sortRows enc (fun _ => rfl) cf' hswo' f #[] g 0 cap d w ef hcmp hH ho.1.lt (by rw [hds]; omega)
    rw [hds] at hcon
    change Calls Tryz.prog 68 _ _ _ at hcon
    refine hcon.mono ?_
    rintro e w' ⟨rfl, d', k, os, hp, hs, rfl⟩
    have hp1 : d'.size = rs.length := by rw [hp.1, hds]
    have hpm : (d'.toList.map (fun x : {r : RowRef // r ∈ rs} => x.1)).Perm rs := by
      have h1 := hp.2.2
      have h2 : (d'.extract 0 rs.length).toList = d'.toList := by rw [← hp1]; simp
      have h3 : (d.extract 0 rs.length).toList = d.toList := by rw [← hds]; simp
      rw [h2, h3] at h1
      have h4 := h1.map (fun x : {r : RowRef // r ∈ rs} => x.1)
      have h5 : d.toList.map (fun x : {r : RowRef // r ∈ rs} => x.1) = rs := List.attach_map_subtype_val rs
      rw [h5] at h4
      exact h4
    refine ⟨rfl, d'.toList.map (·.1), hpm, ?_, ?_, grownBy_sortedE enc d'⟩
    · unfold contents
      rw [List.map_map, List.pairwise_map, List.pairwise_iff_getElem]
      intro i j hi hj hij
      have h1 := hs i j (Nat.zero_le _) hij (by rw [← hp1]; simpa using hj)
      have h2 : i < d'.size := by simpa using hi
      have h3 : j < d'.size := by simpa using hj
      rw [getElem!_pos d' i h2, getElem!_pos d' j h3] at h1
      unfold ltOf at h1
      simpa using h1
    · have hl' : d'.toList.length = rs.attach.length := by simp [hp.1, hds]
      have h1 := ownV_sorted (n := k) (os := os) enc hown hl'
      have e1 : d'.toList.map enc = (d'.toList.map (·.1)).map rowVal := by rw [List.map_map]; rfl
      rw [e1] at h1
      have hmem : ∀ r ∈ d'.toList.map (·.1), r ∈ rs := fun r hr => by
        obtain ⟨x, -, rfl⟩ := List.mem_map.1 hr
        exact x.2
      refine ⟨by simpa using h1, fun r hr => ?_, ?_⟩
      · have h2 := ho.2.1 r (hmem r hr)
        exact h2.grown (grownBy_sortedE enc d') (fun e => ho.1.ne h2.toV (by decide) (Option.some.inj e).symm)
      · exact (hpm.map (·.1)).nodup_iff.2 ho.2.2
end Go.Proofs.YtmjneokgnnbekaaGreatDoor
namespace Go.Proofs.YtmjneokgnnbekaaGreatDoor
set_option maxRecDepth 100000
open Go.RowKit Game
open Go.Sort (SWO)

/-- the answer to a weight: the dominant one, and the letters on the way -/
def GotTop (w : World) (c : List (List Int)) (v : List Int) (e : Ending) (w' : World) : Prop :=
  ∃ g1 c1 g2 c2, e = .returned (.tuple #[(Value.slice (some ⟨g1, 0, none⟩) c.length c1), (Value.slice (some ⟨g2, 0, none⟩) ((topW c v).length) c2), .bool true]) ∧ Own w' w.heap.size g1 c1 (topX c v) ∧ Own w' w.heap.size g2 c2 (intsOf (topW c v)) ∧ Below w.heap.size w w'
/-- .. and to what is no weight or in no finite type -/
def GotNone (w : World) (e : Ending) (w' : World) : Prop :=
  ∃ g1 g2, e = .returned (.tuple #[(Value.slice (some ⟨g1, 0, none⟩) 0 0), (Value.slice (some ⟨g2, 0, none⟩) 0 0), .bool false]) ∧ Below w.heap.size w w'
theorem Game.DomW.wt {c : List (List Int)} {v : List Int} (h : DomW c v) : wtOk c v := ⟨h.hC, h.len, h.small⟩
theorem Game.DomW.of {c : List (List Int)} {v : List Int} (h1 : wtOk c v) (h2 : finB c = true) : DomW c v := ⟨h1.1, h2, h1.2.1, h1.2.2⟩

/-- raising, under way: x is reached, the letters p are read -/
structure TopSt (c : List (List Int)) (v x : List Int) (p : List Nat) : Prop where
  orb : OrbP c v x
  top : (topG c (30 - p.length) x).1 = topX c v
  word : p ++ (topG c (30 - p.length) x).2 = topW c v
theorem TopSt.start {c : List (List Int)} {v : List Int} (hD : DomW c v) : TopSt c v v [] := ⟨OrbP.self hD.len, rfl, rfl⟩
theorem TopSt.len {c : List (List Int)} {v x : List Int} {p : List Nat} (h : TopSt c v x p) (hD : DomW c v) : p.length ≤ 24 := by
  have h1 := (topOk hD).2
  rw [← h.word, List.length_append] at h1
  omega
theorem TopSt.none {c : List (List Int)} {v x : List Int} {p : List Nat} (h : TopSt c v x p) (hn : firstNeg x = none) : x = topX c v ∧ p = topW c v := by
  have e := topG_none (c := c) (f := 30 - p.length) hn
  have h1 := h.top
  have h2 := h.word
  rw [e] at h1 h2
  exact ⟨h1, by simpa using h2⟩
theorem TopSt.some {c : List (List Int)} {v x : List Int} {p : List Nat} {i : Nat} (h : TopSt c v x p) (hD : DomW c v) (hn : firstNeg x = some i) : i < c.length ∧ TopSt c v (refl c i x) (p ++ [i]) ∧ p.length < 24 := by
  have hi : i < c.length := by rw [← h.orb.1]; exact (firstNeg_lt hn).1
  have hl := h.len hD
  have h1 := h.top
  have h2 := h.word
  rw [show 30 - p.length = (29 - p.length) + 1 by omega, topG_some hn] at h1 h2
  have e : 30 - (p ++ [i]).length = 29 - p.length := by rw [List.length_append, List.length_singleton]; omega
  have h3 : TopSt c v (refl c i x) (p ++ [i]) := ⟨h.orb.refl hD hi, by rw [e]; exact h1, by rw [e, List.append_assoc]; exact h2⟩
  have h4 := h3.len hD
  rw [List.length_append, List.length_singleton] at h4
  exact ⟨hi, h3, by omega⟩
theorem intsOf_snoc (p : List Nat) (i : Nat) : intsOf p ++ [(i : Int)] = intsOf (p ++ [i]) := by simp [intsOf]

set_option maxHeartbeats 4000000 in
theorem spec_DominantOf_top (gc oc n cc g o m cv : Nat) (c : List (List Int)) (v : List Int) (w : World) (hn : c.length = n) (hm : v.length = m) (hD : DomW c v) (hgc : gc < w.heap.size) (hg : g < w.heap.size) (hr : Rows2 w gc oc c) (hv : Cells w g o v) :
    Calls Tryz.prog 12 #[(Value.slice (some ⟨gc, oc, none⟩) n cc), (Value.slice (some ⟨g, o, none⟩) m cv)] w (GotTop w c v) := by
  subst hn; subst hm
  have hn4 := hD.hC.2.1
  have hvn := hD.len
  have hrl : ∀ j, j < c.length → (c.getD j []).length ≤ 1048576 := fun j hj => by rw [hD.hC.2.2.1 j hj]; omega
  have hcall := spec_IsWeight_any gc oc _ cc g o _ cv c v w rfl rfl (by omega) (by omega) hrl hr hv
  rw [decide_eq_true hD.wt] at hcall
  have Hcall := Lib.hid hcall
  have hv4 : v.length ≤ 4 := by omega
  clear hcall hvn
  go_enter Tryz.func12, Tryz.ntmps12
  go_wp2_with fail
  refine Hcall.out.mono ?_
  rintro e w1 ⟨rfl, hs1⟩
  have hb1 := below_still (Below.refl w.heap.size w) hs1
  clear hs1 Hcall
  have hcall := spec_IsFinite_any gc oc _ cc c w1 rfl (by omega) hrl (Nat.lt_of_lt_of_le hgc hb1.size) (hr.below hb1 hgc)
  rw [hD.fin] at hcall
  have Hcall := Lib.hid hcall
  clear hcall
  go_wp2_with fail
  refine Hcall.out.mono ?_
  rintro e w2 ⟨rfl, hb2'⟩
  have hb2 := hb1.trans (hb2'.mono hb1.size)
  clear Hcall hb1 hb2'
  go_wp2_with (at_builtin; refine wpList_clone (w := w2) rfl _ _ rfl g o _ cv v rfl (Nat.lt_of_lt_of_le hg hb2.size) (hv.below hb2 hg) rfl rfl (by omega) ?_)
  intro g3 c3 w3 ho3 hb3'
  have hb3 := hb2.trans (hb3'.mono hb2.size)
  have ho3' : Own w3 w.heap.size g3 c3 v := ho3.mono hb2.size
  clear ho3 hb3' hb2
  go_wp2_with fail
  have hb4 : Below w.heap.size w (w3.alloc (.cells #[] 3)) := hb3.alloc hb3.size _
  have ho4 : Own (w3.alloc (.cells #[] 3)) w.heap.size g3 c3 v := ho3'.alloc _
  have hp4 : Own (w3.alloc (.cells #[] 3)) w.heap.size w3.heap.size 0 (intsOf []) := Own.empty (w := w3) hb3.size
  have hne : g3 ≠ w3.heap.size := by have := ho3'.lt; omega
  have hvn := hD.len
  rw [hvn]
  clear hv4 hvn
  go_loopw [7, 8, 9] (fun xv wv nv wr => ∃ (gx cx gw cw : Nat) (x : List Int) (p : List Nat), xv = (Value.slice (some ⟨gx, 0, none⟩) c.length cx) ∧ wv = (Value.slice (some ⟨gw, 0, none⟩) p.length cw) ∧ nv = .int .i64 p.length ∧ Hid (TopSt c v x p) ∧ gx ≠ gw ∧ Own wr w.heap.size gx cx x ∧ Own wr w.heap.size gw cw (intsOf p) ∧ Below w.heap.size w wr) (fun _ _ nv _ => 30 - (intOf nv).toNat)
  case atStart => exact ⟨g3, c3, w3.heap.size, 0, v, [], rfl, rfl, rfl, TopSt.start hD, hne, ho4, hp4, hb4⟩
  case round =>
    clear ho4 hp4 hb4 hne ho3' hb3
    obtain ⟨gx, cx, gw, cw, x, p, rfl, rfl, rfl, hst, hne, hox, hop, hb⟩ := hrel
    have hl24 := hst.out.len hD
    have hxl := hst.out.orb.1
    have d30 : decide ((p.length : Int) < 30) = true := decide_eq_true (by omega)
    have Hxl := Lib.hid hxl
    have hx4 : x.length ≤ 4 := by rw [hxl]; exact hn4
    clear hxl
    obtain ⟨wo, rfl⟩ : ∃ wo : World, wo = wr := ⟨_, rfl⟩
    go_wp2_with fail
    go_loopw [10] (fun iv wi => ∃ t : Nat, t ≤ c.length ∧ iv = .int .i64 t ∧ Hid (∀ j, j < t → 0 ≤ x.getD j 0) ∧ ∃ q, wi = wo.drewN q) (fun iv _ => c.length - (intOf iv).toNat)
    case atStart => exact ⟨0, Nat.zero_le _, rfl, fun j hj => absurd hj (by omega), (by first | exact ⟨_, rfl⟩ | exact ⟨0, rfl⟩ | exact still2 _ _ _ | exact still3 _ _ _ _)⟩
    case round =>
      obtain ⟨t, ht, rfl, hall, q, rfl⟩ := hrel
      by_cases hlt : t < c.length
      · have q1 := hox.cells t (by rw [Hxl.out]; exact hlt)
        rw [Nat.zero_add] at q1
        by_cases h0 : 0 ≤ x.getD t 0
        · have Hall : Hid (∀ j, j < t + 1 → 0 ≤ x.getD j 0) := Lib.hid (fun j hj => by
            by_cases e : j = t
            · subst e; exact h0
            · exact hall.out j (by omega))
          have d0 : decide (0 ≤ x.getD t 0) = true := decide_eq_true h0
          generalize x.getD t 0 = y at *
          go_wp2_with fail
          go_roundw
          case rel => exact ⟨t + 1, by omega, by go_num, Hall.out, (by first | exact ⟨_, rfl⟩ | exact ⟨0, rfl⟩ | exact still2 _ _ _ | exact still3 _ _ _ _)⟩
          case measure => simp [intOf]; omega
        · have hfn := firstNeg_of (v := x) (i := t) (by rw [Hxl.out]; exact hlt) (by omega) hall.out
          obtain ⟨-, hst2, hp24⟩ := hst.out.some hD hfn
          have d0 : decide (0 ≤ x.getD t 0) = false := decide_eq_false h0
          have Hst2 := Lib.hid hst2
          have hne2 : ((t : Int) == (c.length : Int)) = false := by rw [beq_eq_false_iff_ne]; omega
          have hbq := below_still hb ⟨q, rfl⟩
          have hoxq := hox.still ⟨q, rfl⟩
          have hopq := hop.still ⟨q, rfl⟩
          have hcall := spec_l6Reflect_any gc oc c.length cc gx 0 c.length cx t c x (wo.drewN q) rfl Hxl.out (by rw [Hxl.out]; exact Nat.le_refl _) hn4 (fun j hj => hD.hC.2.2.1 j hj) (by rw [Hxl.out]; exact hlt) (Nat.lt_of_lt_of_le hgc hbq.size) hoxq.lt (hr.below hbq hgc) hoxq.cells
          have Hcall := Lib.hid hcall
          have Hrl : Hid ((refl c t x).length = c.length) := Lib.hid (by rw [refl_length]; exact Hxl.out)
          generalize refl c t x = x2 at *
          generalize x.getD t 0 = y at *
          clear hcall hfn hst2 h0 hst hall
          go_wp2_with fail
          refine Hcall.out.mono ?_
          rintro e w4 ⟨g4, c4, rfl, ho4, hb4'⟩
          rw [Hrl.out]
          have hb4 := hbq.trans (hb4'.mono hbq.size)
          have hop4 := hopq.below hb4' hopq.lt
          have ho44 := ho4.mono hbq.size
          have hn4w : g4 ≠ gw := by have h1 := ho4.base; have h2 := hopq.lt; omega
          clear Hcall hb4' hbq hoxq hopq hox hop hb ho4
          go_wp2_with (at_builtin; refine wpList_append_int_n (w := w4) rfl _ _ rfl w.heap.size gw cw p.length (intsOf p) (t : Int) (intsOf_length p) hop4 rfl rfl (by omega) ?_)
          intro g5 c5 w5 ho5 hg5 hor5
          rw [intsOf_snoc] at ho5
          have hb5 : Below w.heap.size w w5 := hb4.grown hg5 hb4.size (by intro j hj; cases hj; exact hop4.base)
          have ho45 := ho44.grown hg5 (by intro e; cases e; exact hn4w rfl)
          have h45 : g4 ≠ g5 := fun e => by
            rcases hor5 with h | h
            · exact hn4w (e.trans h)
            · have := ho44.lt; omega
          have Hpl : Hid ((p ++ [t]).length = p.length + 1) := Lib.hid (by rw [List.length_append]; rfl)
          clear hg5 hor5 hop4 ho44 hb4 hn4w
          go_wp2_with fail
          go_roundw
          case rel => exact ⟨g4, c4, g5, c5, x2, p ++ [t], rfl, by rw [Hpl.out], by rw [Hpl.out]; go_num, Hst2.out, h45, ho45, ho5, hb5⟩
          case measure => simp [intOf]; omega
      · obtain rfl : t = c.length := by omega
        have hfn : firstNeg x = none := firstNeg_nil fun j hj => hall.out j (by rw [← Hxl.out]; exact hj)
        obtain ⟨e1, e2⟩ := hst.out.none hfn
        have Hop := Lib.hid (hop.still ⟨q, rfl⟩); have Hox := Lib.hid (hox.still ⟨q, rfl⟩); have Hb := Lib.hid (below_still hb ⟨q, rfl⟩)
        have HF : Hid (GotTop w c v (.returned (.tuple #[(Value.slice (some ⟨gx, 0, none⟩) c.length cx), (Value.slice (some ⟨gw, 0, none⟩) p.length cw), .bool true])) (wo.drewN q)) := Lib.hid ⟨gx, cx, gw, cw, by rw [e2], by rw [← e1]; exact Hox.out, by rw [← e2]; exact Hop.out, Hb.out⟩
        clear e1 e2 hfn hop hox hb Hop Hox Hb hall hst
        go_wp2_with fail
        go_ret3
        exact HF.out

set_option maxHeartbeats 4000000 in
theorem spec_DominantOf_none (gc oc n cc g o m cv : Nat) (c : List (List Int)) (v : List Int) (w : World) (hn : c.length = n) (hm : v.length = m) (hx : c.length ≤ 1048576) (hvx : v.length ≤ 1048576) (hrl : ∀ j, j < c.length → (c.getD j []).length ≤ 1048576)
    (hno : ¬ (wtOk c v ∧ finB c = true)) (hgc : gc < w.heap.size) (hr : Rows2 w gc oc c) (hv : Cells w g o v) :
    Calls Tryz.prog 12 #[(Value.slice (some ⟨gc, oc, none⟩) n cc), (Value.slice (some ⟨g, o, none⟩) m cv)] w (GotNone w) := by
  subst hn; subst hm
  have hcall := spec_IsWeight_any gc oc _ cc g o _ cv c v w rfl rfl hx hvx hrl hr hv
  by_cases hW : wtOk c v
  · have hF : finB c = false := by
      cases h : finB c with
      | true => exact absurd ⟨hW, h⟩ hno
      | false => rfl
    rw [decide_eq_true hW] at hcall
    have Hcall := Lib.hid hcall
    have HF := Lib.hid hF
    clear hcall hno hW hF
    go_enter Tryz.func12, Tryz.ntmps12
    go_wp2_with fail
    refine Hcall.out.mono ?_
    rintro e w1 ⟨rfl, hs1⟩
    have hb1 := below_still (Below.refl w.heap.size w) hs1
    clear hs1 Hcall
    have hcall := spec_IsFinite_any gc oc _ cc c w1 rfl hx hrl (Nat.lt_of_lt_of_le hgc hb1.size) (hr.below hb1 hgc)
    rw [HF.out] at hcall
    have Hcall := Lib.hid hcall
    clear hcall
    go_wp2_with fail
    refine Hcall.out.mono ?_
    rintro e w2 ⟨rfl, hb2'⟩
    have hb2 := hb1.trans (hb2'.mono hb1.size)
    clear Hcall hb1 hb2'
    go_wp2_with fail
    go_ret3
    exact ⟨_, _, rfl, (hb2.alloc hb2.size _).alloc (by simp; have := hb2.size; omega) _⟩
  · rw [decide_eq_false hW] at hcall
    have Hcall := Lib.hid hcall
    clear hcall hno hW
    go_enter Tryz.func12, Tryz.ntmps12
    go_wp2_with fail
    refine Hcall.out.mono ?_
    rintro e w1 ⟨rfl, hs1⟩
    have hb1 := below_still (Below.refl w.heap.size w) hs1
    clear hs1 Hcall
    go_wp2_with fail
    go_ret3
    exact ⟨_, _, rfl, (hb1.alloc hb1.size _).alloc (by simp; have := hb1.size; omega) _⟩
end Go.Proofs.YtmjneokgnnbekaaGreatDoor
namespace Go.Proofs.YtmjneokgnnbekaaGreatDoor
set_option maxRecDepth 100000
open Go.RowKit Game
open Go.Sort (SWO)

theorem intsOf_append' (a b : List Nat) : intsOf (a ++ b) = intsOf a ++ intsOf b := by simp [intsOf]
theorem topG_act {c : List (List Int)} : ∀ (f : Nat) (v : List Int), (∀ i ∈ (topG c f v).2, i < c.length) → actW c (intsOf (topG c f v).2.reverse) v = (topG c f v).1
  | 0, v, _ => rfl
  | f + 1, v, h => by
    cases hn : firstNeg v with
    | none => rw [topG_none hn]; rfl
    | some i =>
      rw [topG_some hn] at h ⊢
      have ih := topG_act f (refl c i v) (fun j hj => h j (List.mem_cons_of_mem _ hj))
      simp only [List.reverse_cons]
      rw [intsOf_append', actW_append]
      exact ih

set_option maxHeartbeats 2000000 in
theorem impl_normal_top (gc oc n cc g2 o2 n2 c2 : Nat) (c : List (List Int)) (v : List Int) (w : World) (hn : c.length = n) (hn2 : v.length = n2) (hD : DomW c v) (hgc : gc < w.heap.size) (hg2 : g2 < w.heap.size) (hr : Rows2 w gc oc c) (hc2 : Cells w g2 o2 v) :
    Calls Tryz.prog 63 #[(Value.slice (some ⟨gc, oc, none⟩) n cc), (Value.slice (some ⟨g2, o2, none⟩) n2 c2)] w (GotInts w (intsOf (topW c v))) := by
  subst hn; subst hn2
  have hC := hD.hC
  have hn4 := hC.2.1
  have hvn := hD.len
  have Hvn := Lib.hid hvn
  rw [hvn]
  clear hvn
  go_enter Tryz.func63, Tryz.ntmps63
  go_wp2_with (at_builtin; refine wpList_clone rfl _ _ rfl g2 o2 c.length c2 v Hvn.out hg2 hc2 rfl rfl (by rw [Hvn.out]; omega) ?_)
  intro gv cv w1 ho1 hb1
  go_wp2
  go_loopg [5, 6] 30 (fun gk s _ wr => ∃ (g' c' : Nat) (x : List Int) (p : List Nat), gk + p.length = 30 ∧ s = (Value.slice (some ⟨g', 0, none⟩) p.length c') ∧ Hid (TopSt c v x p) ∧ Own wr w.heap.size gv cv x ∧ Own wr w.heap.size g' c' (intsOf p) ∧ gv ≠ g' ∧ Below w.heap.size w wr)
  case atStart =>
    exact ⟨w1.heap.size, 0, v, [], rfl, rfl, TopSt.start hD, ho1.alloc _, Own.empty (w := w1) hb1.size, by have := ho1.lt; omega, hb1.alloc hb1.size _⟩
  case round =>
    obtain ⟨g', c', x, p, hgk, rfl, hst, hou, hop, hne, hb⟩ := hrel
    have hxl := hst.out.orb.1
    have hl24 := hst.out.len hD
    have hfd := impl_firstDescent_any gv 0 c.length cv x wr hxl (by rw [hxl]; omega) hou.cells
    have Hxl := Lib.hid hxl
    clear hxl
    cases hfn : firstNeg x with
    | none =>
      have hI : firstNegI x = -1 := by unfold firstNegI; rw [hfn]
      rw [hI] at hfd
      obtain ⟨-, e2⟩ := hst.out.none hfn
      have Hfd := Lib.hid hfd; have He2 := Lib.hid e2
      clear hfd hI hfn e2
      go_wp2_with fail
      refine Hfd.out.mono ?_
      rintro e w2 ⟨rfl, m2, rfl⟩
      go_wp2_with fail
      go_ret
      rw [← He2.out]
      exact GotInts.mk' g' c' (intsOf_length p) (hop.drewN m2) (below_drewN hb m2)
    | some i =>
      have hI : firstNegI x = i := by unfold firstNegI; rw [hfn]
      rw [hI] at hfd
      obtain ⟨hi, hst2, hp24⟩ := hst.out.some hD hfn
      have hiI : ¬ ((i : Int) < 0) := by omega
      have Hfd := Lib.hid hfd; have Hst2 := Lib.hid hst2
      clear hfd hI hfn hst2 hst
      go_wp2_with fail
      refine Hfd.out.mono ?_
      rintro e w2 ⟨rfl, m2, rfl⟩
      go_wp2_with (at_builtin; refine wpList_append_int_n (w := wr.drewN m2) rfl _ _ rfl w.heap.size g' c' p.length (intsOf p) (i : Int) (intsOf_length p) (hop.drewN m2) rfl rfl (by omega) ?_)
      intro g3 c3 w3 ho3 hg3 hor
      rw [intsOf_snoc] at ho3
      have hb3 : Below w.heap.size w w3 := (below_drewN hb m2).grown hg3 hb.size (by intro j hj; cases hj; exact hop.base)
      have hou3 : Own w3 w.heap.size gv cv x := (hou.drewN m2).grown hg3 (by intro e; cases e; exact hne rfl)
      have hne3 : gv ≠ g3 := by
        rcases hor with h | h
        · rw [h]; exact hne
        · have h1 := hou.lt
          have h2 : wr.heap.size < g3 := h
          omega
      have hcall := impl_reflected_any w gc oc _ cc gv cv i c.length c x w3 rfl Hxl.out Hxl.out hn4 hC.2.2.1 hi hgc hr hb3 hou3
      have Hcall := Lib.hid hcall; clear hcall
      have Hpl : Hid ((p ++ [i]).length = p.length + 1) := Lib.hid (by rw [List.length_append]; rfl)
      go_wp2_with fail
      refine Hcall.out.mono ?_
      rintro e w4 ⟨rfl, ho4, hg4⟩
      go_wp2_with fail
      go_roundg (29 - p.length)
      case measure => omega
      case rel => exact ⟨g3, c3, refl c i x, p ++ [i], by rw [Hpl.out]; omega, by rw [Hpl.out], Hst2.out, ho4, ho3.grown hg4 (by intro e; cases e; exact hne3 rfl), hne3, hb3.grown hg4 hb3.size (by intro j hj; cases hj; exact hou.base)⟩

set_option maxHeartbeats 2000000 in
theorem impl_raised_top (gc oc n cc g o m cv : Nat) (c : List (List Int)) (v : List Int) (w : World) (hn : c.length = n) (hm : v.length = m) (hD : DomW c v) (hgc : gc < w.heap.size) (hg : g < w.heap.size) (hr : Rows2 w gc oc c) (hv : Cells w g o v) :
    Calls Tryz.prog 43 #[(Value.slice (some ⟨gc, oc, none⟩) n cc), (Value.slice (some ⟨g, o, none⟩) m cv)] w (fun e w' => ∃ g1 c1 g2 c2, e = .returned (.tuple #[(Value.slice (some ⟨g1, 0, none⟩) c.length c1), (Value.slice (some ⟨g2, 0, none⟩) ((topW c v).length) c2)]) ∧ Own w' w.heap.size g1 c1 (topX c v) ∧ Own w' w.heap.size g2 c2 (intsOf (topW c v)) ∧ Below w.heap.size w w') := by
  subst hn; subst hm
  obtain ⟨hT, hT24⟩ := topOk hD
  have hTl : ∀ i ∈ topW c v, i < c.length := hT.lt
  have hact : actW c (intsOf (topW c v).reverse) v = topX c v := topG_act 30 v hT.lt
  have hrev : (intsOf (topW c v)).reverse = intsOf (topW c v).reverse := by simp [intsOf]
  have hil : (intsOf (topW c v)).length = (topW c v).length := intsOf_length _
  have hirl : (intsOf (topW c v).reverse).length = (topW c v).length := by rw [intsOf_length, List.length_reverse]
  have hin : ∀ k, k < (intsOf (topW c v).reverse).length → 0 ≤ (intsOf (topW c v).reverse).getD k 0 ∧ (intsOf (topW c v).reverse).getD k 0 < c.length := fun k hk => by
    rw [hirl] at hk
    have hk' : k < (topW c v).reverse.length := by rw [List.length_reverse]; exact hk
    rw [intsOf_getD _ k hk']
    have hm := hTl ((topW c v).reverse.getD k 0) (by simp [List.getD, show k < (topW c v).length from hk])
    omega
  have hxl : (topX c v).length = c.length := hT.end_.1
  have hvl := hD.len
  have hcall := impl_normal_top gc oc _ cc g o _ cv c v w rfl rfl hD hgc hg hr hv
  have Hcall := Lib.hid hcall
  have Hact := Lib.hid hact; have Hrev := Lib.hid hrev; have Hil := Lib.hid hil; have Hirl := Lib.hid hirl; have Hin := Lib.hid hin; have Hxl := Lib.hid hxl; have Hvl := Lib.hid hvl
  clear hcall hact hrev hil hirl hin hxl hvl hT hTl
  go_enter Tryz.func43, Tryz.ntmps43
  go_wp2_with fail
  refine Hcall.out.mono ?_
  rintro e w1 ⟨g1, c1, rfl, ho1, hb1⟩
  rw [Hil.out]
  clear Hcall
  have hcall := impl_ReverseWord_any g1 0 _ c1 (intsOf (topW c v)) w1 Hil.out (by rw [Hil.out]; omega) ho1.lt ho1.cells
  have Hcall := Lib.hid hcall
  clear hcall
  go_wp2_with fail
  refine Hcall.out.mono ?_
  rintro e w2 ⟨g2, c2, rfl, ho2, hb2⟩
  rw [Hrev.out] at ho2
  rw [Hrev.out, Hirl.out]
  have hB2 := hb1.trans (hb2.mono hb1.size)
  clear Hcall
  have hcall := impl_acted_any gc oc _ cc g2 0 _ c2 g o _ cv c (intsOf (topW c v).reverse) v w2 rfl Hirl.out rfl hD.hC hD.len (by rw [Hirl.out]; omega) Hin.out (Nat.lt_of_lt_of_le hgc hB2.size) ho2.lt (Nat.lt_of_lt_of_le hg hB2.size) (hr.below hB2 hgc) ho2.cells (hv.below hB2 hg)
  rw [Hact.out] at hcall
  have Hcall := Lib.hid hcall
  clear hcall hb1 hb2
  go_wp2_with fail
  refine Hcall.out.mono ?_
  rintro e w3 ⟨g3, c3, rfl, ho3, hb3⟩
  rw [Hxl.out]
  have hB3 := hB2.trans (hb3.mono hB2.size)
  have ho3' : Own w3 w.heap.size g3 c3 (topX c v) := ho3.mono hB2.size
  clear Hcall ho3
  have hcall := impl_normal_top gc oc _ cc g o _ cv c v w3 rfl rfl hD (Nat.lt_of_lt_of_le hgc hB3.size) (Nat.lt_of_lt_of_le hg hB3.size) (hr.below hB3 hgc) (hv.below hB3 hg)
  have Hcall := Lib.hid hcall
  clear hcall hb3
  go_wp2_with fail
  refine Hcall.out.mono ?_
  rintro e w4 ⟨g4, c4, rfl, ho4, hb4⟩
  rw [Hil.out]
  have hB4 := hB3.trans (hb4.mono hB3.size)
  have ho5 := ho3'.below hb4 ho3'.lt
  have ho44 := ho4.mono hB3.size
  clear Hcall
  go_wp2_with fail
  go_ret2
  exact ⟨g3, c3, g4, c4, rfl, ho5, ho44, hB4⟩

set_option maxHeartbeats 4000000 in
theorem impl_DominantOf_top (gc oc n cc g o m cv : Nat) (c : List (List Int)) (v : List Int) (w : World) (hn : c.length = n) (hm : v.length = m) (hD : DomW c v) (hgc : gc < w.heap.size) (hg : g < w.heap.size) (hr : Rows2 w gc oc c) (hv : Cells w g o v) :
    Calls Tryz.prog 20 #[(Value.slice (some ⟨gc, oc, none⟩) n cc), (Value.slice (some ⟨g, o, none⟩) m cv)] w (GotTop w c v) := by
  subst hn; subst hm
  have hn4 := hD.hC.2.1
  have hv4 : v.length ≤ 4 := by have := hD.len; omega
  have hrl : ∀ j, j < c.length → (c.getD j []).length ≤ 1048576 := fun j hj => by rw [hD.hC.2.2.1 j hj]; omega
  have hcall := impl_IsWeight_any gc oc _ cc g o _ cv c v w rfl rfl (by omega) (by omega) hrl hr hv
  rw [decide_eq_true hD.wt] at hcall
  have Hcall := Lib.hid hcall
  clear hcall
  go_enter Tryz.func20, Tryz.ntmps20
  go_wp2_with fail
  refine Hcall.out.mono ?_
  rintro e w1 ⟨rfl, hs1⟩
  have hb1 := below_still (Below.refl w.heap.size w) hs1
  clear hs1 Hcall
  have hcall := impl_IsFinite_any gc oc _ cc c w1 rfl (by omega) hrl (Nat.lt_of_lt_of_le hgc hb1.size) (hr.below hb1 hgc)
  rw [hD.fin] at hcall
  have Hcall := Lib.hid hcall
  clear hcall
  go_wp2_with fail
  refine Hcall.out.mono ?_
  rintro e w2 ⟨rfl, hb2'⟩
  have hb2 := hb1.trans (hb2'.mono hb1.size)
  clear Hcall hb1 hb2'
  have hcall := impl_raised_top gc oc _ cc g o _ cv c v w2 rfl rfl hD (Nat.lt_of_lt_of_le hgc hb2.size) (Nat.lt_of_lt_of_le hg hb2.size) (hr.below hb2 hgc) (hv.below hb2 hg)
  have Hcall := Lib.hid hcall
  clear hcall
  go_wp2_with fail
  refine Hcall.out.mono ?_
  rintro e w3 ⟨g3, c3, g4, c4, rfl, ho3, ho4, hb3⟩
  clear Hcall
  go_wp2_with fail
  go_ret3
  exact ⟨g3, c3, g4, c4, rfl, ho3.mono hb2.size, ho4.mono hb2.size, hb2.trans (hb3.mono hb2.size)⟩

set_option maxHeartbeats 4000000 in
theorem impl_DominantOf_none (gc oc n cc g o m cv : Nat) (c : List (List Int)) (v : List Int) (w : World) (hn : c.length = n) (hm : v.length = m) (hx : c.length ≤ 1048576) (hvx : v.length ≤ 1048576) (hrl : ∀ j, j < c.length → (c.getD j []).length ≤ 1048576)
    (hno : ¬ (wtOk c v ∧ finB c = true)) (hgc : gc < w.heap.size) (hr : Rows2 w gc oc c) (hv : Cells w g o v) :
    Calls Tryz.prog 20 #[(Value.slice (some ⟨gc, oc, none⟩) n cc), (Value.slice (some ⟨g, o, none⟩) m cv)] w (GotNone w) := by
  subst hn; subst hm
  have hcall := impl_IsWeight_any gc oc _ cc g o _ cv c v w rfl rfl hx hvx hrl hr hv
  by_cases hW : wtOk c v
  · have hF : finB c = false := by
      cases h : finB c with
      | true => exact absurd ⟨hW, h⟩ hno
      | false => rfl
    rw [decide_eq_true hW] at hcall
    have Hcall := Lib.hid hcall
    have HF := Lib.hid hF
    clear hcall hno hW hF
    go_enter Tryz.func20, Tryz.ntmps20
    go_wp2_with fail
    refine Hcall.out.mono ?_
    rintro e w1 ⟨rfl, hs1⟩
    have hb1 := below_still (Below.refl w.heap.size w) hs1
    clear hs1 Hcall
    have hcall := impl_IsFinite_any gc oc _ cc c w1 rfl hx hrl (Nat.lt_of_lt_of_le hgc hb1.size) (hr.below hb1 hgc)
    rw [HF.out] at hcall
    have Hcall := Lib.hid hcall
    clear hcall
    go_wp2_with fail
    refine Hcall.out.mono ?_
    rintro e w2 ⟨rfl, hb2'⟩
    have hb2 := hb1.trans (hb2'.mono hb1.size)
    clear Hcall hb1 hb2'
    go_wp2_with fail
    go_ret3
    exact ⟨_, _, rfl, (hb2.alloc hb2.size _).alloc (by simp; have := hb2.size; omega) _⟩
  · rw [decide_eq_false hW] at hcall
    have Hcall := Lib.hid hcall
    clear hcall hno hW
    go_enter Tryz.func20, Tryz.ntmps20
    go_wp2_with fail
    refine Hcall.out.mono ?_
    rintro e w1 ⟨rfl, hs1⟩
    have hb1 := below_still (Below.refl w.heap.size w) hs1
    clear hs1 Hcall
    go_wp2_with fail
    go_ret3
    exact ⟨_, _, rfl, (hb1.alloc hb1.size _).alloc (by simp; have := hb1.size; omega) _⟩
end Go.Proofs.YtmjneokgnnbekaaGreatDoor
