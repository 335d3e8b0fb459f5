/- Reflections of weights: contracts. -/
import Derived.Test.YtjhoimdfmcjkbaaGreatDoorG04
import Derived.Test.YtjhoimdfmcjkbaaGreatDoorG05
import Derived.StillTailTactics
namespace Go.Proofs.YtjhoimdfmcjkbaaGreatDoor
set_option maxRecDepth 100000
open Go.RowKit

/-- a number of a reflected weight -/
def reflAt (c : List (List Int)) (i : Nat) (v : List Int) (k : Nat) : Int := wrap64 (v.getD k 0 - wrap64 (v.getD i 0 * ent c k i))
def refl (c : List (List Int)) (i : Nat) (v : List Int) : List Int := (List.range v.length).map (reflAt c i v)
/-- the first k reflected -/
def reflTo (c : List (List Int)) (i : Nat) (v : List Int) (k : Nat) : List Int := (List.range k).map (reflAt c i v) ++ v.drop k
theorem refl_length (c : List (List Int)) (i : Nat) (v : List Int) : (refl c i v).length = v.length := by simp [refl]
theorem reflTo_length {c : List (List Int)} {i : Nat} {v : List Int} {k : Nat} (hk : k ≤ v.length) : (reflTo c i v k).length = v.length := by simp [reflTo]; omega
theorem reflTo_at {c : List (List Int)} {i : Nat} {v : List Int} {k : Nat} (_hk : k < v.length) : (reflTo c i v k).getD k 0 = v.getD k 0 := by
  simp [reflTo, List.getD, List.getElem?_append_right]
theorem reflTo_succ {c : List (List Int)} {i : Nat} {v : List Int} {k : Nat} (hk : k < v.length) : (reflTo c i v k).set k (reflAt c i v k) = reflTo c i v (k + 1) := by
  unfold reflTo
  rw [List.set_append_right _ _ (by simp)]
  have e : v.drop k = v[k] :: v.drop (k + 1) := List.drop_eq_getElem_cons hk
  rw [List.length_map, List.length_range, Nat.sub_self, e, List.set_cons_zero, List.range_succ, List.map_append, List.append_assoc]
  rfl
theorem reflTo_zero (c : List (List Int)) (i : Nat) (v : List Int) : reflTo c i v 0 = v := by simp [reflTo]
theorem reflTo_all (c : List (List Int)) (i : Nat) (v : List Int) : reflTo c i v v.length = refl c i v := by simp [reflTo, refl]

set_option maxHeartbeats 2000000 in
theorem impl_reflected_any (w0 : World) (gc oc n cc g cap i m : Nat) (c : List (List Int)) (v : List Int) (w : World) (hn : c.length = n) (hm : v.length = m) (hv : v.length = c.length) (hsm : c.length ≤ 4) (hrl : ∀ j, j < c.length → (c.getD j []).length = c.length)
    (hi : i < c.length) (hgc : gc < w0.heap.size) (hr : Rows2 w0 gc oc c) (hb : Below w0.heap.size w0 w) (hown : Own w w0.heap.size g cap v) :
    Calls Tryz.prog 68 #[(Value.slice (some ⟨gc, oc, none⟩) n cc), .int .i64 i, (Value.slice (some ⟨g, 0, none⟩) m cap)] w (fun e w' => e = .returned (.tuple #[]) ∧ Own w' w0.heap.size g cap (refl c i v) ∧ w.grownBy w' (some g)) := by
  subst hn; subst hm
  have hiv : i < v.length := by omega
  have hvi := hown.cell i hiv
  generalize hx : v.getD i 0 = x at hvi
  have Hx := Lib.hid hx; clear hx
  have hvl : v.length ≤ 4 := by omega
  have Hv := Lib.hid hv; clear hv
  go_enter Tryz.func68, Tryz.ntmps68
  go_wp2
  go_loopw [14] (fun k wr => ∃ t : Nat, t ≤ v.length ∧ k = .int .i64 t ∧ Own wr w0.heap.size g cap (reflTo c i v t) ∧ w.grownBy wr (some g)) (fun k _ => v.length - (intOf k).toNat)
  case atStart => exact ⟨0, Nat.zero_le _, rfl, by rw [reflTo_zero]; exact hown, World.grownBy.refl _ _⟩
  case round =>
    obtain ⟨t, ht, rfl, ho, hgr⟩ := hrel
    by_cases hlt : t < v.length
    · have htc : t < c.length := by have := Hv.out; omega
      have hl := reflTo_length (c := c) (i := i) ht
      have hb2 : Below w0.heap.size w0 wr := hb.grown hgr hb.size (by intro j hj; cases hj; exact hown.base)
      obtain ⟨ga, oa, ca, q1, q2, q3, q4⟩ := hr.below hb2 hgc t htc
      have hrt := hrl t htc
      have e2 := q4 i (by rw [hrt]; exact hi)
      have f1 := ho.cell t (by rw [hl]; exact hlt)
      rw [reflTo_at hlt] at f1
      have f2 := ho.frozen t
      rw [hrt] at q1
      have he : reflAt c i v t = wrap64 (v.getD t 0 - wrap64 (x * ent c t i)) := by rw [← Hx.out]; rfl
      have hee : (c.getD t []).getD i 0 = ent c t i := rfl
      rw [hee] at e2
      generalize ent c t i = y at *
      generalize v.getD t 0 = z at *
      have hgr2 : w.grownBy wr.drew (some g) := grown_drew hgr
      have ho2 : Own wr.drew w0.heap.size g cap (reflTo c i v t) := ho.drew
      have f2' : wr.drew.frozen? ⟨g, t, none⟩ = false := f2
      have f1' : wr.drew.cell? ⟨g, t, none⟩ = some (.int .i64 z) := f1
      clear hgr hrt hee
      go_wp2
      set_option maxRecDepth 10000 in go_still_tail 14, (by kernel_rfl)
      change wpList _ _ _ _ _ wr.drew
      generalize wr.drew = w2 at *
      go_wp2
      go_roundw
      case rel =>
        have hs := ho2.set t (reflAt c i v t)
        rw [reflTo_succ hlt, he] at hs
        exact ⟨t + 1, by omega, by go_num, hs.1, World.grownBy.trans' hgr2 hs.2⟩
      case measure => simp [intOf]; omega
    · obtain rfl : t = v.length := by omega
      go_wp2
      go_end0
      rw [reflTo_all] at ho
      exact ⟨rfl, ho, hgr⟩


def reflOk (c : List (List Int)) (i : Int) (v : List Int) : Prop := IsC c ∧ v.length = c.length ∧ 0 ≤ i ∧ i < c.length
instance (c : List (List Int)) (i : Int) (v : List Int) : Decidable (reflOk c i v) := by unfold reflOk; infer_instance
def reflW (c : List (List Int)) (i : Int) (v : List Int) : List Int := if reflOk c i v then refl c i.toNat v else v
theorem reflW_length (c : List (List Int)) (i : Int) (v : List Int) : (reflW c i v).length = v.length := by unfold reflW; split <;> simp [refl_length]

theorem impl_isPoint_any (gc oc n cc : Nat) (i : Int) (w : World) : Calls Tryz.prog 66 #[(Value.slice (some ⟨gc, oc, none⟩) n cc), .int .i64 i] w (Reads w (.bool (decide (0 ≤ i) && decide (i < n)))) := by
  by_cases h : 0 ≤ i
  · have h' : decide (0 ≤ i) = true := decide_eq_true h
    rw [h']
    go_enter Tryz.func66, Tryz.ntmps66
    go_wp2
    go_ret
    exact ⟨rfl, 0, rfl⟩
  · have h' : decide (0 ≤ i) = false := decide_eq_false h
    rw [h']
    go_enter Tryz.func66, Tryz.ntmps66
    go_wp2
    go_ret
    exact ⟨rfl, 0, rfl⟩

theorem refl_succ_to {c : List (List Int)} {i : Nat} {v : List Int} {k : Nat} : (List.range (k + 1)).map (reflAt c i v) = (List.range k).map (reflAt c i v) ++ [reflAt c i v k] := by
  rw [List.range_succ, List.map_append]; rfl

attribute [local go_sem ↓] Go.wp_at_zero Go.wp_at_succ
set_option maxHeartbeats 2000000 in
theorem spec_l6Reflect_any (gc oc n cc g o m cv i : Nat) (c : List (List Int)) (v : List Int) (w : World) (hn : c.length = n) (hm : v.length = m) (hvl : v.length ≤ c.length) (hx : c.length ≤ 4)
    (hrl : ∀ j, j < c.length → (c.getD j []).length = c.length) (hi : i < v.length) (hgc : gc < w.heap.size) (hg : g < w.heap.size) (hr : Rows2 w gc oc c) (hv : Cells w g o v) :
    Calls Tryz.prog 56 #[(Value.slice (some ⟨gc, oc, none⟩) n cc), .int .i64 i, (Value.slice (some ⟨g, o, none⟩) m cv)] w (GotInts w (refl c i v)) := by
  subst hn; subst hm
  go_enter Tryz.func56, Tryz.ntmps56
  go_wp2
  go_loopw [7, 8] (fun s k wr => ∃ t g' c' : Nat, t ≤ v.length ∧ k = .int .i64 t ∧ s = (Value.slice (some ⟨g', 0, none⟩) t c') ∧ Own wr w.heap.size g' c' ((List.range t).map (reflAt c i v)) ∧ Below w.heap.size w wr) (fun _ k _ => v.length - (intOf k).toNat)
  case atStart => exact ⟨0, _, _, Nat.zero_le _, rfl, rfl, Own.empty (Nat.le_refl _), (Below.refl _ _).alloc (Nat.le_refl _) _⟩
  case round =>
    obtain ⟨t, g', c', ht, rfl, rfl, ho, hb⟩ := hrel
    by_cases hlt : t < v.length
    · have htc : t < c.length := by omega
      obtain ⟨ga, oa, ca, q1, q2, q3, q4⟩ := hr t htc
      replace q1 := (hb.cell (p := ⟨gc, oc + t, none⟩) hgc).trans q1
      replace q4 := q4.below hb q3
      have hrt := hrl t htc
      have hic : i < c.length := by omega
      have e2 := q4 i (by rw [hrt]; exact hic)
      have e3 := hv.below hb hg t hlt
      have e4 := hv.below hb hg i hi
      rw [hrt] at q1
      have he : reflAt c i v t = IntKind.i64.wrap (v.getD t 0 - IntKind.i64.wrap (v.getD i 0 * ent c t i)) := by unfold reflAt; simp only [wrap64, IntKind.wrap_i64]
      have hee : (c.getD t []).getD i 0 = ent c t i := rfl
      rw [hee] at e2
      generalize ent c t i = y at *
      generalize v.getD t 0 = z at *
      generalize v.getD i 0 = x at *
      have Hvl := Lib.hid hvl; clear hvl hrt hee
      go_wp2
      have hBg := ho.base
      have ne1 : some gc ≠ some g' := by intro e; cases e; omega
      have ne2 : some ga ≠ some g' := by intro e; cases e; omega
      have ne3 : some g ≠ some g' := by intro e; cases e; omega
      have hl2 : ((List.range t).map (reflAt c i v)).length = t := by simp
      generalize hys : (List.range t).map (reflAt c i v) = ys at ho hl2
      have Hys := Lib.hid hys; clear hys
      go_region_held3 (fun W => W.cell? ⟨gc, oc + t, none⟩ = some (.slice (some ⟨ga, oa, none⟩) c.length ca) ∧ W.cell? ⟨ga, oa + i, none⟩ = some (.int .i64 y) ∧ W.cell? ⟨g, o + t, none⟩ = some (.int .i64 z) ∧ W.cell? ⟨g, o + i, none⟩ = some (.int .i64 x))
        (first | go_keep | exact ⟨hg3.cell (a := ⟨gc, oc + t, none⟩) q1 ne1, hg3.cell (a := ⟨ga, oa + i, none⟩) e2 ne2, hg3.cell (a := ⟨g, o + t, none⟩) e3 ne3, hg3.cell (a := ⟨g, o + i, none⟩) e4 ne3⟩)
        ((refine step_append_int (w := wr.drew) (by rfl) _ _ (by rfl) w.heap.size g' c' t wr.heap.size ys (IntKind.i64.wrap (z - IntKind.i64.wrap (x * y))) _ hl2 (by rfl) (by rfl) ho.drew (by rfl) (by rfl) (by omega) ?_; intro g3 c3 w3 ho3 hg3 hor))
      go_wp2
      go_roundw
      case rel =>
        rw [← he, ← Hys.out, ← refl_succ_to] at ho3
        exact ⟨t + 1, g3, c3, by omega, by go_num, rfl, ho3, (Below.drew hb).grown hg3 hb.size (by intro j hj; cases hj; exact ho.base)⟩
      case measure => simp [intOf]; omega
    · obtain rfl : t = v.length := by omega
      go_wp2
      go_ret
      exact GotInts.mk' g' c' (refl_length _ _ _) ho hb


end Go.Proofs.YtjhoimdfmcjkbaaGreatDoor
