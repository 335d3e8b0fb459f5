/- slices.SortFunc over pairs of the call's own, by their roots: contract. -/
import Derived.Test.YtnpechcnmchneaaGreatDoorG36
import Derived.Test.YtnpechcnmchneaaGreatDoorSlap
import Derived.Test.YtnpechcnmchneaaGreatDoorG34
namespace Go.Proofs.YtnpechcnmchneaaGreatDoor
set_option maxRecDepth 100000
open Go.RowKit Game
open Go.Sort (Holds putRow putCells mapBlock onCells grow heap_grow_old SWO PermIn SortedIn flatK HoldsK)

theorem grow_two (w : World) (a b : Obj) (q : Nat) (os' : Array Obj) : grow (((w.alloc a).alloc b).drewN q) os' = grow (w.drewN q) (#[a] ++ #[b] ++ os') := by
  have e1 : ((w.alloc a).alloc b).drewN q = ((w.drewN q).alloc a).alloc b := rfl
  rw [e1, Sort.alloc_eq_grow, Sort.alloc_eq_grow, Sort.grow_grow, Sort.grow_grow, Array.append_assoc]

set_option maxRecDepth 100000 in
set_option maxHeartbeats 1000000 in
theorem cmp_pairs (ga ca ka gb cb kb : Nat) (va vb : Value) (xs ys : List Int) (w : World) (hx : xs.length ≤ 1048576) (hy : ys.length ≤ 1048576) (hka : xs.length = ka) (hkb : ys.length = kb) (hga : ga < w.heap.size) (hgb : gb < w.heap.size) (h1 : Cells w ga 0 xs) (h2 : Cells w gb 0 ys)
    (oa ob : Option Addr) (la lb cca ccb : Nat) (hva : va = .slice oa la cca) (hvb : vb = .slice ob lb ccb) :
    Calls Tryz.prog 199 #[.agg #[(Value.slice (some ⟨ga, 0, none⟩) ka ca), va], .agg #[(Value.slice (some ⟨gb, 0, none⟩) kb cb), vb]] w fun e w' => e = .returned (.int .i64 (rootCmp xs ys)) ∧ ∃ q os', w' = grow (w.drewN q) os' := by
  subst hka; subst hkb; subst hva; subst hvb
  have hb1 : Below w.heap.size w ((w.alloc (.cells #[(Value.slice (some ⟨ga, 0, none⟩) xs.length ca), .slice oa la cca] 136)).alloc (.cells #[(Value.slice (some ⟨gb, 0, none⟩) ys.length cb), .slice ob lb ccb] 136)) := (by repeat (first | with_reducible exact Below.refl _ _ | with_reducible assumption | with_reducible refine below_drewN ?_ _ | with_reducible refine Below.drew ?_ | (with_reducible refine Below.alloc ?_ ?_ _; rotate_left; · first | (simp; done) | (simp; omega) | exact Below.size (by assumption) | (have hsz := Below.size (by assumption : Below _ _ _); simp at hsz ⊢; omega)) | (with_reducible refine Below.setCell ?_ ?_ _; rotate_left; · first | (simp; done) | (simp; omega))))
  have hcall := cmp_roots ga 0 ca gb 0 cb xs ys _ hx hy (h1.below hb1 hga) (h2.below hb1 hgb)
  have Hcall := Lib.hid hcall
  generalize rootCmp xs ys = z at *
  clear hcall hb1 h1 h2
  go_enter Tryz.func199, Tryz.ntmps199
  go_wp2_with fail
  refine Hcall.out.mono ?_
  rintro e w1 ⟨rfl, q, os', rfl⟩
  go_wp2_with fail
  go_ret
  exact ⟨rfl, q, _, grow_two _ _ _ _ _⟩

theorem flat_pairs {α : Type} [Inhabited α] (val : α → PairRef) (d : Array α) : flatK (fun a => pair2 (val a)) 2 d = (flatQ (d.toList.map val)).toArray := by
  have hl : (flatQ (d.toList.map val)).length = d.size * 2 := by rw [flatQ_length]; simp
  refine Sort.ext_get! (by simp [hl]) fun t ht => ?_
  have ht' : t < d.size * 2 := by simpa using ht
  rw [Sort.get_flatK _ _ _ t ht']
  have hj : t / 2 < d.size := by omega
  have hj2 : t / 2 < (d.toList.map val).length := by simpa using hj
  obtain ⟨h0, h1⟩ := flatQ_at hj2
  have hg : ((flatQ (d.toList.map val)).toArray)[t]! = (flatQ (d.toList.map val))[t]! := by
    rw [getElem!_pos _ t (by simpa [hl] using ht'), getElem!_pos _ t (by rw [hl]; exact ht')]
    simp
  have hd : d[t / 2]! = d[t / 2] := getElem!_pos d _ hj
  have he : (d.toList.map val)[t / 2] = val d[t / 2] := by simp
  rw [hg, hd]
  rw [he] at h0 h1
  rcases Nat.mod_two_eq_zero_or_one t with hm | hm
  · have e : t / 2 * 2 = t := by omega
    rw [e] at h0
    rw [hm, List.getElem!_of_getElem? h0]
    rfl
  · have e : t / 2 * 2 + 1 = t := by omega
    rw [e] at h1
    rw [hm, List.getElem!_of_getElem? h1]
    rfl

theorem ownK_sorted {w : World} {B g cap n m k : Nat} {E : TypeId} {os : Array Obj} {cs ds : List Value} (h : OwnK w B E k g cap m cs) (hl : ds.length = cs.length) : OwnK (sortWorld id w g 0 n ds.toArray os) B E k g cap m ds := by
  have hlen := h.1
  rcases h.2 with ⟨h', _⟩ | ⟨g', cap', cur, h', hb, hh, hn, hm, hs, htk⟩
  · simp at h'
  · simp only [Value.slice.injEq, Option.some.injEq, Addr.mk.injEq] at h'
    obtain ⟨⟨rfl, _⟩, _, rfl⟩ := h'
    refine ⟨by rw [hl]; exact hlen, .inr ⟨g, cap, _, rfl, hb, heap_sortedE id _ hh, hn, hm, by simp [putCells, hs], ?_⟩⟩
    have e : m * k = ds.length := by rw [hl]; exact hlen.symm
    rw [e]
    have h2 := take_putCellsE id cur ds (by rw [← e, hs]; exact Nat.mul_le_mul_right _ hn)
    rw [h2, List.map_id]
theorem holdsK_pairs {α : Type} [Inhabited α] (val : α → PairRef) (d : Array α) {w : World} {B g cap : Nat} (h : OwnPairsP w B g cap (d.toList.map val)) : HoldsK (fun a => pair2 (val a)) 2 w g 0 d := by
  unfold HoldsK
  rw [flat_pairs]
  intro j hj
  have hj' : j < (flatQ (d.toList.map val)).length := by simpa using hj
  refine ⟨?_, OwnK.frozen h _⟩
  rw [Nat.zero_add, OwnK.cell h j hj']
  simp [hj']

set_option maxHeartbeats 1000000 in
theorem sort_pairs (hswo : SWO (ltOf rootCmp)) (ef : ∀ args w, (callFunc 199 args).run Tryz.prog w = .ok (.enter 199 args) w) (B g cap n : Nat) (ps : List PairRef) (w : World) (hn : ps.length = n) (hl : ps.length ≤ 1048576) (hne0 : ps ≠ [])
    (ho : OwnPairsP w B g cap ps) (hrows : ∀ p ∈ ps, Own w B p.1.1 p.1.2.1 p.1.2.2 ∧ p.1.2.2.length ≤ 1048576 ∧ g ≠ p.1.1) :
    Calls Tryz.prog 198 #[(Value.slice (some ⟨g, 0, none⟩) n cap), .func (.func 199) #[] #[]] w fun e w' =>
      e = .returned (.tuple #[]) ∧ ∃ ps' : List PairRef, ps'.Perm ps ∧ (rootsQ ps').Pairwise (fun a b => ¬ rootCmp b a < 0) ∧ OwnPairsP w' B g cap ps' ∧ w.grownBy w' (some g) := by
  subst hn
  obtain ⟨p0, hp0⟩ : ∃ p, p ∈ ps := by cases ps with | nil => exact absurd rfl hne0 | cons a b => exact ⟨a, by simp⟩
  letI : Inhabited {p : PairRef // p ∈ ps} := ⟨⟨p0, hp0⟩⟩
  let d : Array {p : PairRef // p ∈ ps} := ps.attach.toArray
  let val : {p : PairRef // p ∈ ps} → PairRef := fun p => p.1
  let cf : {p : PairRef // p ∈ ps} → {p : PairRef // p ∈ ps} → Int := fun a b => rootCmp a.1.1.2.2 b.1.1.2.2
  have hds : d.size = ps.length := by simp [d]
  have hdl : d.toList.map val = ps := List.attach_map_subtype_val ps
  have ho' : OwnPairsP w B g cap (d.toList.map val) := by rw [hdl]; exact ho
  have hH := holdsK_pairs val d ho'
  have hswo' : SWO (ltOf cf) := ⟨fun x => hswo.irrefl _, fun x y z h1 h2 => hswo.trans _ _ _ h1 h2, fun x y z h1 h2 => hswo.ntrans _ _ _ h1 h2⟩
  have hsw : ∀ (m : Nat) (os : Array Obj) (dk : Array {p : PairRef // p ∈ ps}), sortWorldK (fun a => pair2 (val a)) 2 w g 0 m dk os = sortWorld id w g 0 m (flatK (fun a => pair2 (val a)) 2 dk) os := fun _ _ _ => rfl
  have hcmp : CmpLays Tryz.prog 199 #[] (fun a => pair2 (val a)) 2 cf g 0 d.size w := by
    intro m os dk hdk x y
    obtain ⟨hx, hxl, hxg⟩ := hrows x.1 x.2
    obtain ⟨hy, hyl, hyg⟩ := hrows y.1 y.2
    rw [hsw]
    have hcx : Cells (sortWorld id w g 0 m (flatK (fun a => pair2 (val a)) 2 dk) os) x.1.1.1 0 x.1.1.2.2 := by
      have h1 := hx.cells
      intro j hj
      rw [← h1 j hj]
      unfold World.cell?
      simp only [heap_sorted_other id _ hx.lt hxg]
    have hcy : Cells (sortWorld id w g 0 m (flatK (fun a => pair2 (val a)) 2 dk) os) y.1.1.1 0 y.1.1.2.2 := by
      have h1 := hy.cells
      intro j hj
      rw [← h1 j hj]
      unfold World.cell?
      simp only [heap_sorted_other id _ hy.lt hyg]
    have hsz := (grownBy_sortedE (w := w) (g := g) (n := m) (os := os) id (flatK (fun a => pair2 (val a)) 2 dk)).size
    exact cmp_pairs x.1.1.1 x.1.1.2.1 _ y.1.1.1 y.1.1.2.1 _ _ _ x.1.1.2.2 y.1.1.2.2 _ hxl hyl rfl rfl (Nat.lt_of_lt_of_le hx.lt hsz) (Nat.lt_of_lt_of_le hy.lt hsz) hcx hcy _ _ _ _ _ _ rfl rfl
  have hcon := AnyQ.slices_SortFunc Tryz.sortPairs 2 Tryz.isAgg136 Tryz.sizeOf136 (fun a => pair2 (val a)) (fun _ => rfl) (fun x v hv => by simp [pair2] at hv; rcases hv with rfl | rfl <;> rfl) cf hswo' 199 #[] g 0 cap d w ef hcmp hH (OwnK.lt ho) (by rw [hds]; omega)
  rw [hds] at hcon
  change Calls Tryz.prog 198 _ _ _ at hcon
  refine hcon.mono ?_
  rintro e w' ⟨rfl, d', k, os, hp, hs, rfl⟩
  have hp1 : d'.size = ps.length := by rw [hp.1, hds]
  have hpm : (d'.toList.map val).Perm ps := by
    have h1 := hp.2.2
    have h2 : (d'.extract 0 ps.length).toList = d'.toList := by rw [← hp1]; simp
    have h3 : (d.extract 0 ps.length).toList = d.toList := by rw [← hds]; simp
    rw [h2, h3] at h1
    have h4 := h1.map val
    rw [hdl] at h4
    exact h4
  refine ⟨rfl, d'.toList.map val, hpm, ?_, ?_, ?_⟩
  · unfold rootsQ
    rw [List.map_map, List.pairwise_map, List.pairwise_iff_getElem]
    intro i j hi hj hij
    have h1 := hs i j (Nat.zero_le _) hij (by rw [← hp1]; simpa using hj)
    have h2 : i < d'.size := by simpa using hi
    have h3 : j < d'.size := by simpa using hj
    rw [getElem!_pos d' i h2, getElem!_pos d' j h3] at h1
    unfold ltOf at h1
    simpa using h1
  · rw [hsw, flat_pairs]
    have hll : (d'.toList.map val).length = ps.length := hpm.length_eq
    have h1 := ownK_sorted (n := k) (os := os) (ds := flatQ (d'.toList.map val)) ho (by rw [flatQ_length, flatQ_length, hll])
    unfold OwnPairsP
    rw [hll]
    exact h1
  · rw [hsw]
    exact grownBy_sortedE id _
end Go.Proofs.YtnpechcnmchneaaGreatDoor
