/- Reflections of weights: contracts. Values of the call's own in an interval of blocks: integers, rows, weights with counts; the laws' helpers over them. Arguments opened at a parameter: integers, rows, weights with counts, one integer. Plain law: how words, weights, roots and matrices are written. The reference's FormatInt, FormatWeight, FormatRoots, FormatCartan, FormatWord: contracts. Slices of strings of the call's own. -/
import Derived.Test.YtdedkfbiookofaaGreatDoorM02
import Derived.StillTailTactics
import Derived.Test.YtdedkfbiookofaaGreatDoorM01
import Derived.Deep.Slices
import Derived.Deep.Fields
import Derived.ChangeSame
import Derived.Lib.Join
import Derived.Lib.ItoaLen
import Derived.Laws.Concat
import Derived.Laws.BytesString
namespace Go.Proofs.YtdedkfbiookofaaGreatDoor
set_option maxRecDepth 100000
open Go.RowKit
/-- a number of a reflected weight -/
def reflAt (c : List (List Int)) (i : Nat) (v : List Int) (k : Nat) : Int := wrap64 (v.getD k 0 - wrap64 (v.getD i 0 * ent c k i))
def refl (c : List (List Int)) (i : Nat) (v : List Int) : List Int := (List.range v.length).map (reflAt c i v)
/-- the first k reflected -/
def reflTo (c : List (List Int)) (i : Nat) (v : List Int) (k : Nat) : List Int := (List.range k).map (reflAt c i v) ++ v.drop k
theorem refl_length (c : List (List Int)) (i : Nat) (v : List Int) : (refl c i v).length = v.length := by simp [refl]
theorem reflTo_length {c : List (List Int)} {i : Nat} {v : List Int} {k : Nat} (hk : k ≤ v.length) : (reflTo c i v k).length = v.length := by simp [reflTo]; omega
theorem reflTo_at {c : List (List Int)} {i : Nat} {v : List Int} {k : Nat} (_hk : k < v.length) : (reflTo c i v k).getD k 0 = v.getD k 0 := by
  simp [reflTo, List.getD, List.getElem?_append_right]
theorem reflTo_succ {c : List (List Int)} {i : Nat} {v : List Int} {k : Nat} (hk : k < v.length) : (reflTo c i v k).set k (reflAt c i v k) = reflTo c i v (k + 1) := by
  unfold reflTo
  rw [List.set_append_right _ _ (by simp)]
  have e : v.drop k = v[k] :: v.drop (k + 1) := List.drop_eq_getElem_cons hk
  rw [List.length_map, List.length_range, Nat.sub_self, e, List.set_cons_zero, List.range_succ, List.map_append, List.append_assoc]
  rfl
theorem reflTo_zero (c : List (List Int)) (i : Nat) (v : List Int) : reflTo c i v 0 = v := by simp [reflTo]
theorem reflTo_all (c : List (List Int)) (i : Nat) (v : List Int) : reflTo c i v v.length = refl c i v := by simp [reflTo, refl]
set_option maxHeartbeats 2000000 in
theorem impl_reflected_any (w0 : World) (gc oc n cc g cap i m : Nat) (c : List (List Int)) (v : List Int) (w : World) (hn : c.length = n) (hm : v.length = m) (hv : v.length = c.length) (hsm : c.length ≤ 4) (hrl : ∀ j, j < c.length → (c.getD j []).length = c.length)
    (hi : i < c.length) (hgc : gc < w0.heap.size) (hr : Rows2 w0 gc oc c) (hb : Below w0.heap.size w0 w) (hown : Own w w0.heap.size g cap v) :
    Calls Tryz.prog 143 #[(Value.slice (some ⟨gc, oc, none⟩) n cc), .int .i64 i, (Value.slice (some ⟨g, 0, none⟩) m cap)] w (fun e w' => e = .returned (.tuple #[]) ∧ Own w' w0.heap.size g cap (refl c i v) ∧ w.grownBy w' (some g)) := by
  subst hn; subst hm
  have hiv : i < v.length := by omega
  have hvi := hown.cell i hiv
  generalize hx : v.getD i 0 = x at hvi
  have Hx := Lib.hid hx; clear hx
  have hvl : v.length ≤ 4 := by omega
  have Hv := Lib.hid hv; clear hv
  go_enter Tryz.func143, Tryz.ntmps143
  go_wp2
  go_loopw [14] (fun k wr => ∃ t : Nat, t ≤ v.length ∧ k = .int .i64 t ∧ Own wr w0.heap.size g cap (reflTo c i v t) ∧ w.grownBy wr (some g)) (fun k _ => v.length - (intOf k).toNat)
  case atStart => exact ⟨0, Nat.zero_le _, rfl, by rw [reflTo_zero]; exact hown, World.grownBy.refl _ _⟩
  case round =>
    obtain ⟨t, ht, rfl, ho, hgr⟩ := hrel
    by_cases hlt : t < v.length
    · have htc : t < c.length := by have := Hv.out; omega
      have hl := reflTo_length (c := c) (i := i) ht
      have hb2 : Below w0.heap.size w0 wr := hb.grown hgr hb.size (by intro j hj; cases hj; exact hown.base)
      obtain ⟨ga, oa, ca, q1, q2, q3, q4⟩ := hr.below hb2 hgc t htc
      have hrt := hrl t htc
      have e2 := q4 i (by rw [hrt]; exact hi)
      have f1 := ho.cell t (by rw [hl]; exact hlt)
      rw [reflTo_at hlt] at f1
      have f2 := ho.frozen t
      rw [hrt] at q1
      have he : reflAt c i v t = wrap64 (v.getD t 0 - wrap64 (x * ent c t i)) := by rw [← Hx.out]; rfl
      have hee : (c.getD t []).getD i 0 = ent c t i := rfl
      rw [hee] at e2
      generalize ent c t i = y at *
      generalize v.getD t 0 = z at *
      have hgr2 : w.grownBy wr.drew (some g) := grown_drew hgr
      have ho2 : Own wr.drew w0.heap.size g cap (reflTo c i v t) := ho.drew
      have f2' : wr.drew.frozen? ⟨g, t, none⟩ = false := f2
      have f1' : wr.drew.cell? ⟨g, t, none⟩ = some (.int .i64 z) := f1
      clear hgr hrt hee
      go_wp2
      set_option maxRecDepth 10000 in go_still_tail 14, (by kernel_rfl)
      change wpList _ _ _ _ _ wr.drew
      generalize wr.drew = w2 at *
      go_wp2
      go_roundw
      case rel =>
        have hs := ho2.set t (reflAt c i v t)
        rw [reflTo_succ hlt, he] at hs
        exact ⟨t + 1, by omega, by go_num, hs.1, World.grownBy.trans' hgr2 hs.2⟩
      case measure => simp [intOf]; omega
    · obtain rfl : t = v.length := by omega
      go_wp2
      go_end0
      rw [reflTo_all] at ho
      exact ⟨rfl, ho, hgr⟩
theorem impl_isPoint_any (gc oc n cc : Nat) (i : Int) (w : World) : Calls Tryz.prog 130 #[(Value.slice (some ⟨gc, oc, none⟩) n cc), .int .i64 i] w (Reads w (.bool (decide (0 ≤ i) && decide (i < n)))) := by
  by_cases h : 0 ≤ i
  · have h' : decide (0 ≤ i) = true := decide_eq_true h
    rw [h']
    go_enter Tryz.func130, Tryz.ntmps130
    go_wp2
    go_ret
    exact ⟨rfl, 0, rfl⟩
  · have h' : decide (0 ≤ i) = false := decide_eq_false h
    rw [h']
    go_enter Tryz.func130, Tryz.ntmps130
    go_wp2
    go_ret
    exact ⟨rfl, 0, rfl⟩
theorem refl_succ_to {c : List (List Int)} {i : Nat} {v : List Int} {k : Nat} : (List.range (k + 1)).map (reflAt c i v) = (List.range k).map (reflAt c i v) ++ [reflAt c i v k] := by
  rw [List.range_succ, List.map_append]; rfl
attribute [local go_sem ↓] Go.wp_at_zero Go.wp_at_succ
set_option maxHeartbeats 2000000 in
theorem spec_l6Reflect_any (gc oc n cc g o m cv i : Nat) (c : List (List Int)) (v : List Int) (w : World) (hn : c.length = n) (hm : v.length = m) (hvl : v.length ≤ c.length) (hx : c.length ≤ 4)
    (hrl : ∀ j, j < c.length → (c.getD j []).length = c.length) (hi : i < v.length) (hgc : gc < w.heap.size) (hg : g < w.heap.size) (hr : Rows2 w gc oc c) (hv : Cells w g o v) :
    Calls Tryz.prog 132 #[(Value.slice (some ⟨gc, oc, none⟩) n cc), .int .i64 i, (Value.slice (some ⟨g, o, none⟩) m cv)] w (GotInts w (refl c i v)) := by
  subst hn; subst hm
  go_enter Tryz.func132, Tryz.ntmps132
  go_wp2
  go_loopw [7, 8] (fun s k wr => ∃ t g' c' : Nat, t ≤ v.length ∧ k = .int .i64 t ∧ s = (Value.slice (some ⟨g', 0, none⟩) t c') ∧ Own wr w.heap.size g' c' ((List.range t).map (reflAt c i v)) ∧ Below w.heap.size w wr) (fun _ k _ => v.length - (intOf k).toNat)
  case atStart => exact ⟨0, _, _, Nat.zero_le _, rfl, rfl, Own.empty (Nat.le_refl _), (Below.refl _ _).alloc (Nat.le_refl _) _⟩
  case round =>
    obtain ⟨t, g', c', ht, rfl, rfl, ho, hb⟩ := hrel
    by_cases hlt : t < v.length
    · have htc : t < c.length := by omega
      obtain ⟨ga, oa, ca, q1, q2, q3, q4⟩ := hr t htc
      replace q1 := (hb.cell (p := ⟨gc, oc + t, none⟩) hgc).trans q1
      replace q4 := q4.below hb q3
      have hrt := hrl t htc
      have hic : i < c.length := by omega
      have e2 := q4 i (by rw [hrt]; exact hic)
      have e3 := hv.below hb hg t hlt
      have e4 := hv.below hb hg i hi
      rw [hrt] at q1
      have he : reflAt c i v t = IntKind.i64.wrap (v.getD t 0 - IntKind.i64.wrap (v.getD i 0 * ent c t i)) := by unfold reflAt; simp only [wrap64, IntKind.wrap_i64]
      have hee : (c.getD t []).getD i 0 = ent c t i := rfl
      rw [hee] at e2
      generalize ent c t i = y at *
      generalize v.getD t 0 = z at *
      generalize v.getD i 0 = x at *
      have Hvl := Lib.hid hvl; clear hvl hrt hee
      go_wp2
      have hBg := ho.base
      have ne1 : some gc ≠ some g' := by intro e; cases e; omega
      have ne2 : some ga ≠ some g' := by intro e; cases e; omega
      have ne3 : some g ≠ some g' := by intro e; cases e; omega
      have hl2 : ((List.range t).map (reflAt c i v)).length = t := by simp
      generalize hys : (List.range t).map (reflAt c i v) = ys at ho hl2
      have Hys := Lib.hid hys; clear hys
      go_region_held3 (fun W => W.cell? ⟨gc, oc + t, none⟩ = some (.slice (some ⟨ga, oa, none⟩) c.length ca) ∧ W.cell? ⟨ga, oa + i, none⟩ = some (.int .i64 y) ∧ W.cell? ⟨g, o + t, none⟩ = some (.int .i64 z) ∧ W.cell? ⟨g, o + i, none⟩ = some (.int .i64 x))
        (first | go_keep | exact ⟨hg3.cell (a := ⟨gc, oc + t, none⟩) q1 ne1, hg3.cell (a := ⟨ga, oa + i, none⟩) e2 ne2, hg3.cell (a := ⟨g, o + t, none⟩) e3 ne3, hg3.cell (a := ⟨g, o + i, none⟩) e4 ne3⟩)
        ((refine step_append_int (w := wr.drew) (by rfl) _ _ (by rfl) w.heap.size g' c' t wr.heap.size ys (IntKind.i64.wrap (z - IntKind.i64.wrap (x * y))) _ hl2 (by rfl) (by rfl) ho.drew (by rfl) (by rfl) (by omega) ?_; intro g3 c3 w3 ho3 hg3 hor))
      go_wp2
      go_roundw
      case rel =>
        rw [← he, ← Hys.out, ← refl_succ_to] at ho3
        exact ⟨t + 1, g3, c3, by omega, by go_num, rfl, ho3, (Below.drew hb).grown hg3 hb.size (by intro j hj; cases hj; exact ho.base)⟩
      case measure => simp [intOf]; omega
    · obtain rfl : t = v.length := by omega
      go_wp2
      go_ret
      exact GotInts.mk' g' c' (refl_length _ _ _) ho hb
end Go.Proofs.YtdedkfbiookofaaGreatDoor
namespace Go.Proofs.YtdedkfbiookofaaGreatDoor
set_option maxRecDepth 100000
open Go.RowKit
def rowsFew (rows : List (List Int)) : Prop := rows.length ≤ 1048576 ∧ (∀ j, j < rows.length → (rows.getD j []).length ≤ 1048576) ∧ sumLen rows rows.length ≤ 1048576
theorem szLL_few {rows : List (List Int)} {left : Int} (hl : left ≤ 1048576) (h : 0 ≤ szLL rows left) : rowsFew rows ∧ szLL rows left ≤ 1048576 := by
  unfold szLL at *
  split at h
  · omega
  · rename_i hh
    rw [if_neg hh]
    refine ⟨⟨by omega, fun j hj => ?_, by omega⟩, by omega⟩
    have h1 := sumLen_succ rows j hj
    have h2 := sumLen_mono rows (k := j + 1) (n := rows.length) hj
    omega
/-- what changes lies between two block numbers -/
structure Only (B E : Nat) (w w' : World) : Prop where
  os : w'.os = w.os
  tape : w'.tape = w.tape
  output : w'.output = w.output
  size : w.heap.size ≤ w'.heap.size
  block : ∀ k, k < w.heap.size → (k < B ∨ E ≤ k) → w'.heap[k]? = w.heap[k]?
theorem Only.of_grown {B E g : Nat} {w w' : World} (h : w.grownBy w' (some g)) (hB : B ≤ g) (hE : g < E) : Only B E w w' :=
  ⟨h.os, h.tape, h.output, h.size, fun k hk hd => h.block k hk (by intro e; cases e; omega)⟩
theorem Own.same {w w' : World} {B g cap : Nat} {xs : List Int} (h : Own w B g cap xs) (hs : w'.heap[g]? = w.heap[g]?) : Own w' B g cap xs := by
  refine ⟨h.1, ?_⟩
  rcases h.2 with ⟨h', _⟩ | ⟨g', cap', cur, h', hbb, hh, r⟩
  · simp at h'
  · refine .inr ⟨g', cap', cur, h', hbb, ?_, r⟩
    simp only [Value.slice.injEq, Option.some.injEq, Addr.mk.injEq] at h'
    obtain ⟨⟨rfl, _⟩, _⟩ := h'
    rw [hs]; exact hh
theorem OwnV.same {w w' : World} {B g cap : Nat} {E : TypeId} {vs : List Value} (h : OwnV w B E g cap vs) (hs : w'.heap[g]? = w.heap[g]?) : OwnV w' B E g cap vs := by
  refine ⟨h.1, ?_⟩
  rcases h.2 with ⟨h', _⟩ | ⟨g', cap', cur, h', hbb, hh, r⟩
  · simp at h'
  · refine .inr ⟨g', cap', cur, h', hbb, ?_, r⟩
    simp only [Value.slice.injEq, Option.some.injEq, Addr.mk.injEq] at h'
    obtain ⟨⟨rfl, _⟩, _⟩ := h'
    rw [hs]; exact hh
def HeldI (w : World) (B E g cap : Nat) (xs : List Int) : Prop := Own w B g cap xs ∧ g < E
def HeldR (w : World) (B E g cap : Nat) (rows : List (List Int)) : Prop := ∃ rs, contents rs = rows ∧ OwnRows w B g cap rs ∧ g < E ∧ ∀ r ∈ rs, r.1 < E
section
variable {w w' : World} {B E b B2 E2 g cap : Nat} {xs : List Int} {rows : List (List Int)} {l : List Wt}
theorem HeldI.lt (h : HeldI w B E g cap xs) : g < w.heap.size := h.1.lt
theorem HeldI.cells (h : HeldI w B E g cap xs) : Cells w g 0 xs := h.1.cells
theorem HeldI.capLe (h : HeldI w B E g cap xs) : xs.length ≤ cap := h.1.capLe
theorem HeldI.below (h : HeldI w B E g cap xs) (hb : Below b w w') (hE : E ≤ b) : HeldI w' B E g cap xs := ⟨h.1.same (hb.block _ (by have := h.2; omega)), h.2⟩
theorem HeldI.only (h : HeldI w B E g cap xs) (hb : Only B2 E2 w w') (hd : E ≤ B2 ∨ E2 ≤ B) : HeldI w' B E g cap xs := ⟨h.1.same (hb.block _ h.1.lt (by have := h.2; have := h.1.base; omega)), h.2⟩
theorem HeldR.lt (h : HeldR w B E g cap rows) : g < w.heap.size := by obtain ⟨rs, -, h, -⟩ := h; exact h.lt
theorem HeldR.rows2 (h : HeldR w B E g cap rows) : Rows2 w g 0 rows := by obtain ⟨rs, rfl, h, -⟩ := h; exact h.rows2
theorem Inner.same {rs : List RowRef} (h : Inner w B rs) (hs : ∀ r ∈ rs, w'.heap[r.1]? = w.heap[r.1]?) : Inner w' B rs := ⟨fun r hr => (h.1 r hr).same (hs r hr), h.2⟩
theorem HeldR.below (h : HeldR w B E g cap rows) (hb : Below b w w') (hE : E ≤ b) : HeldR w' B E g cap rows := by
  obtain ⟨rs, hc, ho, h1, h2⟩ := h
  exact ⟨rs, hc, ⟨ho.1.same (hb.block _ (by omega)), ho.2.same (fun r hr => hb.block _ (by have := h2 r hr; omega))⟩, h1, h2⟩
theorem HeldR.only (h : HeldR w B E g cap rows) (hb : Only B2 E2 w w') (hd : E ≤ B2 ∨ E2 ≤ B) : HeldR w' B E g cap rows := by
  obtain ⟨rs, hc, ho, h1, h2⟩ := h
  exact ⟨rs, hc, ⟨ho.1.same (hb.block _ ho.1.lt (by have := ho.1.base; omega)), ho.2.same (fun r hr => hb.block _ (ho.2.1 r hr).lt (by have := h2 r hr; have := (ho.2.1 r hr).base; omega))⟩, h1, h2⟩
end
theorem toIntS_h (a : Option Addr) (c : Nat) (xs : List Int) (w : World) (hx : xs.length ≤ 1048576) (ha : ArgInts w a xs) :
    Calls Tryz.prog 38 #[.slice a xs.length c] w (fun e w' => ∃ g cap, e = .returned (Value.slice (some ⟨g, 0, none⟩) xs.length cap) ∧ HeldI w' w.heap.size w'.heap.size g cap xs ∧ Below w.heap.size w w') :=
  (toIntS_any a c xs w (by omega) ha).mono fun _ _ ⟨g, cap, he, ho, hb⟩ => ⟨g, cap, he, ⟨ho, ho.lt⟩, hb⟩
theorem toIntSS_h (a : Option Addr) (c : Nat) (rows : List (List Int)) (w : World) (hx : rowsFew rows) (ha : ArgRows w a rows) :
    Calls Tryz.prog 37 #[.slice a rows.length c] w (fun e w' => ∃ g cap, e = .returned (Value.slice (some ⟨g, 0, none⟩) rows.length cap) ∧ HeldR w' w.heap.size w'.heap.size g cap rows ∧ Below w.heap.size w w') :=
  (toIntSS_any a _ c rows w rfl hx.1 (fun j hj => by have := hx.2.1 j hj; omega) ha).mono fun _ _ ⟨g, cap, rs, he, hc, ho, hb⟩ => ⟨g, cap, he, ⟨rs, hc, ho, ho.lt, fun r hr => (ho.2.1 r hr).lt⟩, hb⟩
theorem eqIntS_h {B E B2 E2 g cap g2 cap2 : Nat} {xs : List Int} {w : World} (hx : xs.length ≤ 1048576) (h1 : HeldI w B E g cap xs) (h2 : HeldI w B2 E2 g2 cap2 xs) :
    Calls Tryz.prog 41 #[(Value.slice (some ⟨g, 0, none⟩) xs.length cap), (Value.slice (some ⟨g2, 0, none⟩) xs.length cap2)] w (Gives w (.bool true)) :=
  (eqIntS_same g 0 _ cap g2 0 _ cap2 xs w rfl rfl (by omega) h1.cells h2.cells).mono fun _ _ ⟨he, m, hm⟩ => ⟨he, by subst hm; exact below_drewN' w m⟩
theorem eqIntSS_h {B E B2 E2 g cap g2 cap2 : Nat} {rows : List (List Int)} {w : World} (hx : rowsFew rows) (h1 : HeldR w B E g cap rows) (h2 : HeldR w B2 E2 g2 cap2 rows) :
    Calls Tryz.prog 40 #[(Value.slice (some ⟨g, 0, none⟩) rows.length cap), (Value.slice (some ⟨g2, 0, none⟩) rows.length cap2)] w (Gives w (.bool true)) :=
  (eqIntSS_same g 0 _ cap g2 0 _ cap2 rows w rfl rfl hx.1 (fun j hj => by have := hx.2.1 j hj; omega) h1.rows2 h2.rows2).mono fun _ _ ⟨he, m, hm⟩ => ⟨he, by subst hm; exact below_drewN' w m⟩
theorem szIntSS_h (a : Option Addr) (c : Nat) (rows : List (List Int)) (left : Int) (w : World) (hl : 0 ≤ left ∧ left ≤ 1048576) (hn : rows.length ≤ maxLen) (hrl : ∀ j, j < rows.length → (rows.getD j []).length ≤ maxLen) (ha : ArgRows w a rows) :
    Calls Tryz.prog 35 #[.slice a rows.length c, .int .i64 left] w (fun e w' => ∃ L : Int, e = .returned (.int .i64 L) ∧ (0 ≤ L → rowsFew rows ∧ L ≤ 1048576) ∧ Below w.heap.size w w') := by
  have hm : maxLen ≤ 9223372036854775807 := by decide +kernel
  exact (szIntSS_any a _ c rows left w rfl hl (by omega) (fun j hj => by have := hrl j hj; omega) ha).mono fun _ _ ⟨he, m, hw⟩ => ⟨_, he, fun h => szLL_few hl.2 h, by subst hw; exact below_drewN' w m⟩
end Go.Proofs.YtdedkfbiookofaaGreatDoor
namespace Go.Proofs.YtdedkfbiookofaaGreatDoor
set_option maxRecDepth 100000
set_option maxRecDepth 20000
open Go.Joins Go.ChangeShapes Go.WideShapes Go.RowKit Go.Deep
section
variable {H : Type} {enc : TypeId × Value → H} {w : World} {base b0 : Nat} {r : Reach} {v : Value} {d : DataW H} {p : List MemPlace}
theorem argInts_at (hv : Value.okWide Tryz.prog w r b0 25 v) (h : DataW.Trod enc Tryz.prog w base (fun _ => true) true 25 v d p) :
    ∃ a c, ∃ xs : List Int, v = .slice a xs.length c ∧ Hid (ArgInts w a xs) ∧ xs.length ≤ maxLen := by
  obtain ⟨a, l, c, rfl⟩ := okWide_slice Tryz.underlying25 hv
  obtain ⟨fuel, hf⟩ := h
  obtain ⟨a', c', xs, he, h1, h2, -⟩ := argInts_open hf
  exact ⟨a', c', xs, he, h1, h2⟩
theorem argRows_at (hv : Value.okWide Tryz.prog w r b0 24 v) (h : DataW.Trod enc Tryz.prog w base (fun _ => true) true 24 v d p) :
    ∃ a c, ∃ xs : List (List Int), v = .slice a xs.length c ∧ Hid (ArgRows w a xs) ∧ xs.length ≤ maxLen ∧ Hid (∀ j, j < xs.length → (xs.getD j []).length ≤ maxLen) := by
  obtain ⟨a, l, c, rfl⟩ := okWide_slice Tryz.underlying24 hv
  obtain ⟨fuel, hf⟩ := h
  obtain ⟨a', c', xs, he, h1, h2, h3, -⟩ := argRows_open hf
  exact ⟨a', c', xs, he, h1, h2, h3⟩
end
end Go.Proofs.YtdedkfbiookofaaGreatDoor
namespace Go.Proofs.YtdedkfbiookofaaGreatDoor
set_option maxRecDepth 100000
open Go.Lib (join decDigits itoa)
theorem u8_int (x : Int) (h0 : 0 ≤ x) (h1 : x < 256) : ((UInt8.ofNat x.toNat).toNat : Int) = x := by
  rw [UInt8.toNat_ofNat']
  omega
def digSt (N m : Nat) (out : List UInt8) : Prop := (m = 0 ∧ out = decDigits N) ∨ (0 < m ∧ decDigits N = decDigits m ++ out)
theorem decDigits_big {m : Nat} (h : 10 ≤ m) : decDigits m = decDigits (m / 10) ++ [UInt8.ofNat (48 + m % 10)] := by
  conv => lhs; rw [decDigits]
  rw [dif_neg (by omega)]
theorem digSt_start {N : Nat} (h : 0 < N) : digSt N N [] := .inr ⟨h, by simp⟩
theorem digSt_step {N m : Nat} {out : List UInt8} (h : digSt N m out) (hm : 0 < m) : digSt N (m / 10) (UInt8.ofNat (48 + m % 10) :: out) := by
  rcases h with ⟨h, -⟩ | ⟨-, h⟩
  · omega
  · by_cases h10 : m < 10
    · refine .inl ⟨by omega, ?_⟩
      rw [h, Lib.decDigits_one h10, Nat.mod_eq_of_lt h10]
      rfl
    · refine .inr ⟨by omega, ?_⟩
      rw [h, decDigits_big (by omega)]
      simp
theorem digSt_end {N : Nat} {out : List UInt8} (h : digSt N 0 out) : out = decDigits N := by
  rcases h with ⟨-, h⟩ | ⟨h, -⟩
  · exact h
  · omega
theorem digSt_len {N m : Nat} {out : List UInt8} (hN : N < 18446744073709551616) (h : digSt N m out) : out.length ≤ 20 := by
  have hl : (decDigits N).length ≤ 20 := by rw [Lib.decDigits_length]; exact Lib.nDigits_le20 N hN
  rcases h with ⟨-, h⟩ | ⟨-, h⟩
  · rw [h]; exact hl
  · rw [h, List.length_append] at hl; omega
def itoas (v : List Int) : List (List UInt8) := v.map itoa
def I64s (v : List Int) : Prop := ∀ x ∈ v, (Lit.int .i64 x).wf = true
theorem wf_bounds {x : Int} (h : (Lit.int .i64 x).wf = true) : -9223372036854775808 ≤ x ∧ x ≤ 9223372036854775807 := by
  simp [Lit.wf, IntKind.min, IntKind.max, IntKind.signed, IntKind.bits] at h
  omega
theorem itoas_lens {v : List Int} (h : I64s v) : Lib.lens (itoas v) ≤ 21 * v.length := by
  induction v with
  | nil => simp [itoas, Lib.lens]
  | cons x v ih =>
    have h1 := wf_bounds (h x (by simp))
    have h2 := Lib.itoa_length_le x h1.1 h1.2
    have h3 := ih fun y hy => h y (by simp [hy])
    simp only [itoas, Lib.lens, List.map_cons, List.sum_cons, List.length_cons] at h3 ⊢
    omega
def InW (w : List Int) : Prop := ∀ i ∈ w, 0 ≤ i ∧ i < 4
instance (w : List Int) : Decidable (InW w) := by unfold InW; infer_instance
def digs (w : List Int) : List UInt8 := w.map fun i => UInt8.ofNat (49 + i.toNat)
def wordL (w : List Int) : List UInt8 := if w.length = 0 then [101] else if InW w then digs w else []
theorem digs_take {v : List Int} {k : Nat} (hk : k < v.length) : digs (v.take (k + 1)) = digs (v.take k) ++ [UInt8.ofNat (49 + (v.getD k 0).toNat)] := by
  unfold digs
  rw [List.take_succ_eq_append_getElem hk, List.map_append]
  congr 1
  simp [List.getD, hk]
theorem itoa_letter {i : Int} (h0 : 0 ≤ i) (h1 : i < 4) : itoa (i + 1) = [UInt8.ofNat (49 + i.toNat)] := by
  have : i = 0 ∨ i = 1 ∨ i = 2 ∨ i = 3 := by omega
  rcases this with rfl | rfl | rfl | rfl
  all_goals
    unfold itoa
    rw [if_neg (by omega), Lib.decDigits_one (by decide)]
    rfl
theorem inW_of_take {w : List Int} (h : ∀ j, j < w.length → 0 ≤ w.getD j 0 ∧ w.getD j 0 < 4) : InW w := by
  intro i hi
  obtain ⟨j, hj, rfl⟩ := List.mem_iff_getElem.1 hi
  have := h j hj
  simpa [List.getD, hj] using this
theorem not_inW {w : List Int} {j : Nat} (hj : j < w.length) (h : ¬ (0 ≤ w.getD j 0 ∧ w.getD j 0 < 4)) : ¬ InW w := by
  intro hw
  apply h
  apply hw
  simp [List.getD, hj]
end Go.Proofs.YtdedkfbiookofaaGreatDoor
namespace Go.Proofs.YtdedkfbiookofaaGreatDoor
set_option maxRecDepth 100000
open Go.RowKit
open Go.Lib (join decDigits itoa)
set_option maxRecDepth 100000
theorem convB1 (w : World) (a : Addr) (x : Int) (hc : w.cell? a = some (.int .u8 x)) :
    (convert 22 9 (.slice (some a) 1 1)).run Tryz.prog w = .ok (.string ⟨#[UInt8.ofNat x.toNat]⟩) w := by
  have h := run_convert_bytes_string (P := Tryz.prog) w 22 9 5 (some a) 1 1 Tryz.underlying22 Tryz.underlying5 Tryz.underlying9
  rw [h]
  have hl := run_loadCells_list (P := Tryz.prog) w a [.int .u8 x] (fun j v hj => by
    have hj0 : j = 0 := by have := (List.getElem?_eq_some_iff.1 hj).1; simp at this; exact this
    subst hj0
    simp at hj
    subst hj
    simpa [Addr.add] using hc)
  rw [run_bytesToString w a 1 1 [x] (by simpa using hl)]
  simp [ByteArray.push]
set_option maxHeartbeats 1000000 in
theorem spec_FormatInt_any (n : Int) (w : World) (hw : (Lit.int .i64 n).wf = true) : Calls Tryz.prog 110 #[.int .i64 n] w (Gives w (.string ⟨(itoa n).toArray⟩)) := by
  have hbn := wf_bounds hw
  by_cases h0 : n = 0
  · subst h0
    have e : itoa 0 = [48] := by unfold itoa; rw [if_neg (by omega)]; exact Lib.decDigits_one (by decide)
    rw [e]
    go_enter Tryz.func110, Tryz.ntmps110
    go_wp2
    go_ret
    exact ⟨rfl, Below.refl _ _⟩
  have hN : 0 < n.natAbs := by omega
  have hS : ∀ b, (n < 0 ↔ b = true) → itoa n = if b then 45 :: decDigits n.natAbs else decDigits n.natAbs := by
    intro b hb
    unfold itoa
    by_cases h : n < 0
    · rw [if_pos h, if_pos (hb.1 h)]
    · rw [if_neg h, if_neg (fun e => h (hb.2 e))]
      congr 1
      omega
  generalize hR : itoa n = R at *
  go_enter Tryz.func110, Tryz.ntmps110
  go_wp2
  go_loopw [0, 3] (fun nv ov wr => ∃ (m : Int) (out : List UInt8), nv = .int .i64 m ∧ ov = .string ⟨out.toArray⟩ ∧ digSt n.natAbs m.natAbs out ∧ m.natAbs ≤ n.natAbs ∧ Below w.heap.size w wr) (fun nv _ _ => (intOf nv).natAbs)
  case atStart => exact ⟨n, [], rfl, rfl, digSt_start hN, Nat.le_refl _, Below.refl _ _⟩
  case round =>
    obtain ⟨m, out, rfl, rfl, hst, hm, hb⟩ := hrel
    by_cases hz : m = 0
    · subst hz
      have hout := digSt_end hst
      subst hout
      have hl := digSt_len (N := n.natAbs) (by omega) hst
      clear hst
      by_cases hneg : n < 0
      · have hR2 : R = 45 :: decDigits n.natAbs := hS true (by simp [hneg])
        subst hR2
        have hadd := run_string_add_sum (P := Tryz.prog) wr ⟨#[45]⟩ ⟨(decDigits n.natAbs).toArray⟩ (by simp [ByteArray.size]; omega)
        have ee : (⟨#[45]⟩ : ByteArray) ++ ⟨(decDigits n.natAbs).toArray⟩ = ⟨(45 :: decDigits n.natAbs).toArray⟩ := ByteArray.mk_append_mk [45] _
        rw [ee] at hadd
        clear hS hl
        go_wp2
        go_ret
        exact ⟨rfl, hb⟩
      · have hR2 : R = decDigits n.natAbs := hS false (by simp [hneg])
        subst hR2
        clear hS hl
        go_wp2
        go_ret
        exact ⟨rfl, hb⟩
    · have hl := digSt_len (N := n.natAbs) (by omega) hst
      have hst' := digSt_step hst (by omega)
      obtain ⟨k, hk⟩ : ∃ k : Nat, k = m.natAbs % 10 := ⟨_, rfl⟩
      have hk10 : k < 10 := by omega
      rw [← hk] at hst'
      have htd : (m.tdiv 10).natAbs = m.natAbs / 10 := Int.natAbs_tdiv m 10
      have htm : (m.tmod 10).natAbs = k := by rw [Int.natAbs_tmod]; exact hk.symm
      rw [← htd] at hst'
      have hbyte : UInt8.ofNat (48 + (k : Int)).toNat = UInt8.ofNat (48 + k) := by congr 1
      have hcv := convB1 (wr.alloc (.cells #[.int .u8 (48 + (k : Int))] 5)) ⟨wr.heap.size, 0, none⟩ (48 + k) (World.cell?_alloc_at _ _ _ _ rfl)
      rw [hbyte] at hcv
      clear hbyte
      have hadd := run_string_add_sum (P := Tryz.prog) (wr.alloc (.cells #[.int .u8 (48 + (k : Int))] 5)) ⟨#[UInt8.ofNat (48 + k)]⟩ ⟨out.toArray⟩ (by simp [ByteArray.size]; omega)
      have ee : (⟨#[UInt8.ofNat (48 + k)]⟩ : ByteArray) ++ ⟨out.toArray⟩ = ⟨(UInt8.ofNat (48 + k) :: out).toArray⟩ := ByteArray.mk_append_mk [UInt8.ofNat (48 + k)] _
      rw [ee] at hadd
      have e2 : wrap64 (48 + (k : Int)) = 48 + k := IntWalk.wrap64_in _ ⟨by omega, by omega⟩
      have e3 : (48 + (k : Int)) % 256 = 48 + k := by omega
      have e4 : wrap64 (m.tdiv 10) = m.tdiv 10 := IntWalk.wrap64_in _ ⟨by omega, by omega⟩
      have E4 := Lib.hid e4
      clear e4
      have hb' : Below w.heap.size w (wr.alloc (.cells #[.int .u8 (48 + (k : Int))] 5)) := hb.alloc hb.size _
      generalize UInt8.ofNat (48 + k) = bt at *
      have Hst := Lib.hid hst'; have Hm := Lib.hid (show (m.tdiv 10).natAbs ≤ n.natAbs ∧ (m.tdiv 10).natAbs < m.natAbs by omega)
      clear hS hl hst' hst ee hm
      by_cases hd : m.tmod 10 < 0
      · have ht : m.tmod 10 = -(k : Int) := by omega
        have e1 : wrap64 (-(-(k : Int))) = k := by rw [Int.neg_neg]; exact IntWalk.wrap64_in _ ⟨by omega, by omega⟩
        rw [ht] at hd
        clear htd htm hk
        go_wp2
        go_roundw
        case rel => exact ⟨m.tdiv 10, _, by rw [E4.out], rfl, Hst.out, Hm.out.1, hb'⟩
        case measure => rw [E4.out]; exact Hm.out.2
      · have ht : m.tmod 10 = (k : Int) := by omega
        rw [ht] at hd
        clear htd htm hk
        go_wp2
        go_roundw
        case rel => exact ⟨m.tdiv 10, _, by rw [E4.out], rfl, Hst.out, Hm.out.1, hb'⟩
        case measure => rw [E4.out]; exact Hm.out.2
theorem addS (W : World) (x y z : List UInt8) (hz : x ++ y = z) (h : z.length ≤ 9223372036854775807) : (Op.stringOp .add ⟨x.toArray⟩ ⟨y.toArray⟩).run Tryz.prog W = .ok (.string ⟨z.toArray⟩) W := by
  subst hz
  rw [List.length_append] at h
  rw [run_string_add_sum W _ _ (by simp [ByteArray.size]; omega), ByteArray.mk_append_mk]
theorem inRange_true {x : Int} (h : 0 ≤ x ∧ x < 4) : (decide (0 ≤ x) && decide (x ≤ 3)) = true := by simp; omega
theorem inRange_false {x : Int} (h : ¬ (0 ≤ x ∧ x < 4)) : (decide (0 ≤ x) && decide (x ≤ 3)) = false := by simp; omega
theorem wf_small {x : Int} (h : -1000 ≤ x ∧ x ≤ 1000) : (Lit.int .i64 x).wf = true := by
  simp [Lit.wf, IntKind.min, IntKind.max, IntKind.signed, IntKind.bits]; omega
set_option maxHeartbeats 1000000 in
theorem spec_FormatWord_any (g o n cp : Nat) (l : List Int) (w : World) (hn : l.length = n) (hl : l.length ≤ 1099511627776) (hg : g < w.heap.size) (hc : Cells w g o l) :
    Calls Tryz.prog 70 #[(Value.slice (some ⟨g, o, none⟩) n cp)] w (Gives w (.string ⟨(wordL l).toArray⟩)) := by
  subst hn
  generalize hR : wordL l = R
  have HR := Lib.hid hR
  clear hR
  go_enter Tryz.func70, Tryz.ntmps70
  go_wp2
  go_loopw [3, 4] (fun sv iv wr => ∃ k : Nat, k ≤ l.length ∧ iv = .int .i64 k ∧ sv = .string ⟨(digs (l.take k)).toArray⟩ ∧ (∀ j, j < k → 0 ≤ l.getD j 0 ∧ l.getD j 0 < 4) ∧ Below w.heap.size w wr) (fun _ iv _ => l.length - (intOf iv).toNat)
  case atStart => exact ⟨0, Nat.zero_le _, rfl, rfl, by omega, Below.refl _ _⟩
  case round =>
    obtain ⟨k, hk, rfl, rfl, hin, hb⟩ := hrel
    by_cases hlt : k < l.length
    · have q1 := (hb.cell (p := ⟨g, o + k, none⟩) hg).trans (hc k hlt)
      have hin1 := spec_l1In (l.getD k 0) 0 3 wr
      by_cases hx : 0 ≤ l.getD k 0 ∧ l.getD k 0 < 4
      · have hd : (decide (0 ≤ l.getD k 0) && decide (l.getD k 0 ≤ 3)) = true := inRange_true hx
        rw [hd] at hin1
        have hcall := fun W => spec_FormatInt_any (l.getD k 0 + 1) W (wf_small ⟨by omega, by omega⟩)
        have Hcall := Lib.hid hcall
        have Hin1 := Lib.hid hin1
        have HS := Lib.hid (digs_take hlt)
        have Hl : Hid ((digs (l.take k)).length ≤ 1099511627776) := Lib.hid (by unfold digs; rw [List.length_map, List.length_take]; omega)
        have Hnext : Hid (∀ j, j < k + 1 → 0 ≤ l.getD j 0 ∧ l.getD j 0 < 4) := Lib.hid fun j hj => by
          by_cases e : j = k
          · subst e; exact hx
          · exact hin j (by omega)
        rw [itoa_letter hx.1 hx.2] at Hcall
        have ew : wrap64 (l.getD k 0 + 1) = l.getD k 0 + 1 := IntWalk.wrap64_in _ ⟨by omega, by omega⟩
        generalize UInt8.ofNat (49 + (l.getD k 0).toNat) = bt at Hcall HS
        generalize digs (l.take k) = S1 at *
        generalize l.getD k 0 = x at *
        clear hcall hin1 hd hin hx
        go_wp2_with fail
        refine Hin1.out.mono ?_
        rintro e w1 ⟨rfl, m1, rfl⟩
        go_wp2_with fail
        refine (Hcall.out _).mono ?_
        rintro e w2 ⟨rfl, hb2⟩
        have hB := hb.trans ((below_drewN' wr m1).mono hb.size)
        have hB := hB.trans (hb2.mono hB.size)
        have e2 := addS w2 S1 [bt] _ rfl (by have := Hl.out; simp only [List.length_append, List.length_cons, List.length_nil]; omega)
        go_wp2_with fail
        go_roundw
        case rel => exact ⟨k + 1, by omega, by go_num, by rw [HS.out], Hnext.out, hB⟩
        case measure => simp [intOf]; omega
      · have hd : (decide (0 ≤ l.getD k 0) && decide (l.getD k 0 ≤ 3)) = false := inRange_false hx
        rw [hd] at hin1
        have hR : R = [] := by rw [← HR.out]; unfold wordL; rw [if_neg (by omega), if_neg (not_inW hlt hx)]
        subst hR
        have Hin1 := Lib.hid hin1
        generalize l.getD k 0 = x at q1 Hin1
        clear hin1 hd hin hx HR
        go_wp2_with fail
        refine Hin1.out.mono ?_
        rintro e w1 ⟨rfl, m1, rfl⟩
        go_wp2
        go_ret
        exact ⟨rfl, hb.trans ((below_drewN' wr m1).mono hb.size)⟩
    · obtain rfl : k = l.length := by omega
      rw [List.take_length] at *
      by_cases hz : l.length = 0
      · have e : R = [101] := by rw [← HR.out]; unfold wordL; rw [if_pos hz]
        have e2 : digs l = [] := by rw [List.length_eq_zero_iff.1 hz]; rfl
        subst e
        rw [e2] at *
        clear HR hin
        go_wp2
        go_ret
        exact ⟨rfl, hb⟩
      · have e : R = digs l := by rw [← HR.out]; unfold wordL; rw [if_neg hz, if_pos (inW_of_take hin)]
        have e2 : ¬ digs l = [] := by
          intro h
          have := congrArg List.length h
          unfold digs at this
          rw [List.length_map] at this
          exact hz this
        subst e
        have e3 : (digs l).isEmpty = false := by simpa using e2
        clear HR hin
        go_wp2
        go_ret
        exact ⟨rfl, hb⟩
end Go.Proofs.YtdedkfbiookofaaGreatDoor
namespace Go.Proofs.YtdedkfbiookofaaGreatDoor
set_option maxRecDepth 100000
open Go.RowKit
theorem infoStr : (Tryz.prog.info? 9).map (fun i => (i.zero, i.size, i.bytes)) = some (some (.string ⟨#[]⟩), 1, 16) := by kernel_rfl
def OwnStrs (w : World) (B g cap : Nat) (xs : List ByteArray) : Prop := OwnK w B 9 1 g cap xs.length (xs.map Value.string)
section
variable {w w' : World} {B g cap : Nat} {xs : List ByteArray}
theorem OwnStrs.empty (hB : B ≤ w.heap.size) : OwnStrs (w.alloc (.cells #[] 9)) B w.heap.size 0 [] := World.ownsRow_lit w #[] 0 hB (by decide) rfl
theorem OwnStrs.one (x : ByteArray) (hB : B ≤ w.heap.size) : OwnStrs (w.alloc (.cells #[.string x] 9)) B w.heap.size 1 [x] := World.ownsRow_lit w #[.string x] 1 hB (by decide) rfl
theorem OwnStrs.cell (h : OwnStrs w B g cap xs) : ∀ (j : Nat) x, xs[j]? = some x → w.cell? ⟨g, 0 + j, none⟩ = some (.string x) := by
  intro j x hx
  have hj : j < xs.length := (List.getElem?_eq_some_iff.1 hx).1
  rw [Nat.zero_add, OwnK.cell h j (by rw [List.length_map]; exact hj)]
  have : xs[j] = x := by rw [List.getElem?_eq_getElem hj] at hx; exact Option.some.inj hx
  simp [this]
theorem OwnStrs.capLe (h : OwnStrs w B g cap xs) : xs.length ≤ cap := by obtain ⟨cur, -, h2, -⟩ := OwnK.row h; exact h2
theorem wpList_append_str {ops : Array Oper} {rest : List Oper} {o : Oper} {a : Act} {Q : Exit → Act → World → Prop} (hgd : o.guard = none) (s x : Operand)
    (ho : o.op = .call { callee := .builtin .append, args := #[s, x], argTypes := #[75, 75] })
    (B g cap n H : Nat) (xs : List ByteArray) (z : ByteArray) (w W : World) (hn : xs.length = n) (hW : W = w.alloc (.cells #[.string z] 9)) (hH : w.heap.size = H) (hown : OwnStrs w B g cap xs)
    (hs : a.eval s = (Value.slice (some ⟨g, 0, none⟩) n cap)) (hx : a.eval x = (Value.slice (some ⟨H, 0, none⟩) 1 1)) (hlen : n + 1 ≤ 1048576)
    (h : ∀ g' cap' w', OwnStrs w' B g' cap' (xs ++ [z]) → w.grownBy w' (some g) → (g' = g ∨ w.heap.size < g') → wpList Tryz.prog ops Q rest (a.put o.dst (Value.slice (some ⟨g', 0, none⟩) (n + 1) cap')) w') :
    wpList Tryz.prog ops Q (o :: rest) a W := by
  subst hn; subst hW; subst hH
  have hnew := OwnStrs.one (w := w) (B := w.heap.size) z (Nat.le_refl _)
  refine wpList_append_K infoStr Tryz.underlying75 rfl (by decide) (by decide) hgd s x ho B g cap xs.length (xs.map Value.string) (OwnK.alloc hown _) w.heap.size 0 1 1 [.string z] rfl ?_ ?_ hs hx hlen ?_
  · intro j u hu
    have hj : j = 0 := by have := (List.getElem?_eq_some_iff.1 hu).1; simp at this; exact this
    subst hj
    have := hnew.cell 0 z rfl
    rw [this]
    simpa using hu
  · intro u hu
    simp at hu
    subst hu
    rfl
  · intro g' cap' w' h2 h3 h4
    refine h g' cap' w' ?_ ⟨h3.os, h3.tape, h3.output, Nat.le_trans (by simp) h3.size, fun k hk hne => (h3.block k (by simp; omega) hne).trans (Below.heap_alloc _ _ _ hk)⟩ (h4.imp id (by simp; omega))
    unfold OwnStrs
    rw [List.map_append, List.length_append]
    exact h2
end
end Go.Proofs.YtdedkfbiookofaaGreatDoor
