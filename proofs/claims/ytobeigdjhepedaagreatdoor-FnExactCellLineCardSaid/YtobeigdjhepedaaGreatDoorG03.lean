/- Reflections of weights: contracts. IsSymmetric: contracts. toWeighted(S), eqWeighted(S): contracts. eqWeighted(S): contracts for equal values. An argument that is a list of weights with counts, opened. Values of the call's own in an interval of blocks: integers, rows, weights with counts; the laws' helpers over them. -/
import Derived.Test.YtobeigdjhepedaaGreatDoorG02
import Derived.StillTailTactics
import Derived.Test.YtobeigdjhepedaaGreatDoorG01
import Derived.Deep.Slices
import Derived.Deep.Fields
import Derived.ChangeSame
namespace Go.Proofs.YtobeigdjhepedaaGreatDoor
set_option maxRecDepth 100000
open Go.RowKit

/-- a number of a reflected weight -/
def reflAt (c : List (List Int)) (i : Nat) (v : List Int) (k : Nat) : Int := wrap64 (v.getD k 0 - wrap64 (v.getD i 0 * ent c k i))
def refl (c : List (List Int)) (i : Nat) (v : List Int) : List Int := (List.range v.length).map (reflAt c i v)
/-- the first k reflected -/
def reflTo (c : List (List Int)) (i : Nat) (v : List Int) (k : Nat) : List Int := (List.range k).map (reflAt c i v) ++ v.drop k
theorem refl_length (c : List (List Int)) (i : Nat) (v : List Int) : (refl c i v).length = v.length := by simp [refl]
theorem reflTo_length {c : List (List Int)} {i : Nat} {v : List Int} {k : Nat} (hk : k ≤ v.length) : (reflTo c i v k).length = v.length := by simp [reflTo]; omega
theorem reflTo_at {c : List (List Int)} {i : Nat} {v : List Int} {k : Nat} (_hk : k < v.length) : (reflTo c i v k).getD k 0 = v.getD k 0 := by
  simp [reflTo, List.getD, List.getElem?_append_right]
theorem reflTo_succ {c : List (List Int)} {i : Nat} {v : List Int} {k : Nat} (hk : k < v.length) : (reflTo c i v k).set k (reflAt c i v k) = reflTo c i v (k + 1) := by
  unfold reflTo
  rw [List.set_append_right _ _ (by simp)]
  have e : v.drop k = v[k] :: v.drop (k + 1) := List.drop_eq_getElem_cons hk
  rw [List.length_map, List.length_range, Nat.sub_self, e, List.set_cons_zero, List.range_succ, List.map_append, List.append_assoc]
  rfl
theorem reflTo_zero (c : List (List Int)) (i : Nat) (v : List Int) : reflTo c i v 0 = v := by simp [reflTo]
theorem reflTo_all (c : List (List Int)) (i : Nat) (v : List Int) : reflTo c i v v.length = refl c i v := by simp [reflTo, refl]

set_option maxHeartbeats 2000000 in
theorem impl_reflected_any (w0 : World) (gc oc n cc g cap i m : Nat) (c : List (List Int)) (v : List Int) (w : World) (hn : c.length = n) (hm : v.length = m) (hv : v.length = c.length) (hsm : c.length ≤ 4) (hrl : ∀ j, j < c.length → (c.getD j []).length = c.length)
    (hi : i < c.length) (hgc : gc < w0.heap.size) (hr : Rows2 w0 gc oc c) (hb : Below w0.heap.size w0 w) (hown : Own w w0.heap.size g cap v) :
    Calls Tryz.prog 108 #[(Value.slice (some ⟨gc, oc, none⟩) n cc), .int .i64 i, (Value.slice (some ⟨g, 0, none⟩) m cap)] w (fun e w' => e = .returned (.tuple #[]) ∧ Own w' w0.heap.size g cap (refl c i v) ∧ w.grownBy w' (some g)) := by
  subst hn; subst hm
  have hiv : i < v.length := by omega
  have hvi := hown.cell i hiv
  generalize hx : v.getD i 0 = x at hvi
  have Hx := Lib.hid hx; clear hx
  have hvl : v.length ≤ 4 := by omega
  have Hv := Lib.hid hv; clear hv
  go_enter Tryz.func108, Tryz.ntmps108
  go_wp2
  go_loopw [14] (fun k wr => ∃ t : Nat, t ≤ v.length ∧ k = .int .i64 t ∧ Own wr w0.heap.size g cap (reflTo c i v t) ∧ w.grownBy wr (some g)) (fun k _ => v.length - (intOf k).toNat)
  case atStart => exact ⟨0, Nat.zero_le _, rfl, by rw [reflTo_zero]; exact hown, World.grownBy.refl _ _⟩
  case round =>
    obtain ⟨t, ht, rfl, ho, hgr⟩ := hrel
    by_cases hlt : t < v.length
    · have htc : t < c.length := by have := Hv.out; omega
      have hl := reflTo_length (c := c) (i := i) ht
      have hb2 : Below w0.heap.size w0 wr := hb.grown hgr hb.size (by intro j hj; cases hj; exact hown.base)
      obtain ⟨ga, oa, ca, q1, q2, q3, q4⟩ := hr.below hb2 hgc t htc
      have hrt := hrl t htc
      have e2 := q4 i (by rw [hrt]; exact hi)
      have f1 := ho.cell t (by rw [hl]; exact hlt)
      rw [reflTo_at hlt] at f1
      have f2 := ho.frozen t
      rw [hrt] at q1
      have he : reflAt c i v t = wrap64 (v.getD t 0 - wrap64 (x * ent c t i)) := by rw [← Hx.out]; rfl
      have hee : (c.getD t []).getD i 0 = ent c t i := rfl
      rw [hee] at e2
      generalize ent c t i = y at *
      generalize v.getD t 0 = z at *
      have hgr2 : w.grownBy wr.drew (some g) := grown_drew hgr
      have ho2 : Own wr.drew w0.heap.size g cap (reflTo c i v t) := ho.drew
      have f2' : wr.drew.frozen? ⟨g, t, none⟩ = false := f2
      have f1' : wr.drew.cell? ⟨g, t, none⟩ = some (.int .i64 z) := f1
      clear hgr hrt hee
      go_wp2
      set_option maxRecDepth 10000 in go_still_tail 14, (by kernel_rfl)
      change wpList _ _ _ _ _ wr.drew
      generalize wr.drew = w2 at *
      go_wp2
      go_roundw
      case rel =>
        have hs := ho2.set t (reflAt c i v t)
        rw [reflTo_succ hlt, he] at hs
        exact ⟨t + 1, by omega, by go_num, hs.1, World.grownBy.trans' hgr2 hs.2⟩
      case measure => simp [intOf]; omega
    · obtain rfl : t = v.length := by omega
      go_wp2
      go_end0
      rw [reflTo_all] at ho
      exact ⟨rfl, ho, hgr⟩


def reflOk (c : List (List Int)) (i : Int) (v : List Int) : Prop := IsC c ∧ v.length = c.length ∧ 0 ≤ i ∧ i < c.length
instance (c : List (List Int)) (i : Int) (v : List Int) : Decidable (reflOk c i v) := by unfold reflOk; infer_instance
def reflW (c : List (List Int)) (i : Int) (v : List Int) : List Int := if reflOk c i v then refl c i.toNat v else v
theorem reflW_length (c : List (List Int)) (i : Int) (v : List Int) : (reflW c i v).length = v.length := by unfold reflW; split <;> simp [refl_length]

theorem impl_isPoint_any (gc oc n cc : Nat) (i : Int) (w : World) : Calls Tryz.prog 104 #[(Value.slice (some ⟨gc, oc, none⟩) n cc), .int .i64 i] w (Reads w (.bool (decide (0 ≤ i) && decide (i < n)))) := by
  by_cases h : 0 ≤ i
  · have h' : decide (0 ≤ i) = true := decide_eq_true h
    rw [h']
    go_enter Tryz.func104, Tryz.ntmps104
    go_wp2
    go_ret
    exact ⟨rfl, 0, rfl⟩
  · have h' : decide (0 ≤ i) = false := decide_eq_false h
    rw [h']
    go_enter Tryz.func104, Tryz.ntmps104
    go_wp2
    go_ret
    exact ⟨rfl, 0, rfl⟩

theorem refl_succ_to {c : List (List Int)} {i : Nat} {v : List Int} {k : Nat} : (List.range (k + 1)).map (reflAt c i v) = (List.range k).map (reflAt c i v) ++ [reflAt c i v k] := by
  rw [List.range_succ, List.map_append]; rfl

attribute [local go_sem ↓] Go.wp_at_zero Go.wp_at_succ
set_option maxHeartbeats 2000000 in
theorem spec_l6Reflect_any (gc oc n cc g o m cv i : Nat) (c : List (List Int)) (v : List Int) (w : World) (hn : c.length = n) (hm : v.length = m) (hvl : v.length ≤ c.length) (hx : c.length ≤ 4)
    (hrl : ∀ j, j < c.length → (c.getD j []).length = c.length) (hi : i < v.length) (hgc : gc < w.heap.size) (hg : g < w.heap.size) (hr : Rows2 w gc oc c) (hv : Cells w g o v) :
    Calls Tryz.prog 97 #[(Value.slice (some ⟨gc, oc, none⟩) n cc), .int .i64 i, (Value.slice (some ⟨g, o, none⟩) m cv)] w (GotInts w (refl c i v)) := by
  subst hn; subst hm
  go_enter Tryz.func97, Tryz.ntmps97
  go_wp2
  go_loopw [7, 8] (fun s k wr => ∃ t g' c' : Nat, t ≤ v.length ∧ k = .int .i64 t ∧ s = (Value.slice (some ⟨g', 0, none⟩) t c') ∧ Own wr w.heap.size g' c' ((List.range t).map (reflAt c i v)) ∧ Below w.heap.size w wr) (fun _ k _ => v.length - (intOf k).toNat)
  case atStart => exact ⟨0, _, _, Nat.zero_le _, rfl, rfl, Own.empty (Nat.le_refl _), (Below.refl _ _).alloc (Nat.le_refl _) _⟩
  case round =>
    obtain ⟨t, g', c', ht, rfl, rfl, ho, hb⟩ := hrel
    by_cases hlt : t < v.length
    · have htc : t < c.length := by omega
      obtain ⟨ga, oa, ca, q1, q2, q3, q4⟩ := hr t htc
      replace q1 := (hb.cell (p := ⟨gc, oc + t, none⟩) hgc).trans q1
      replace q4 := q4.below hb q3
      have hrt := hrl t htc
      have hic : i < c.length := by omega
      have e2 := q4 i (by rw [hrt]; exact hic)
      have e3 := hv.below hb hg t hlt
      have e4 := hv.below hb hg i hi
      rw [hrt] at q1
      have he : reflAt c i v t = IntKind.i64.wrap (v.getD t 0 - IntKind.i64.wrap (v.getD i 0 * ent c t i)) := by unfold reflAt; simp only [wrap64, IntKind.wrap_i64]
      have hee : (c.getD t []).getD i 0 = ent c t i := rfl
      rw [hee] at e2
      generalize ent c t i = y at *
      generalize v.getD t 0 = z at *
      generalize v.getD i 0 = x at *
      have Hvl := Lib.hid hvl; clear hvl hrt hee
      go_wp2
      have hBg := ho.base
      have ne1 : some gc ≠ some g' := by intro e; cases e; omega
      have ne2 : some ga ≠ some g' := by intro e; cases e; omega
      have ne3 : some g ≠ some g' := by intro e; cases e; omega
      have hl2 : ((List.range t).map (reflAt c i v)).length = t := by simp
      generalize hys : (List.range t).map (reflAt c i v) = ys at ho hl2
      have Hys := Lib.hid hys; clear hys
      go_region_held3 (fun W => W.cell? ⟨gc, oc + t, none⟩ = some (.slice (some ⟨ga, oa, none⟩) c.length ca) ∧ W.cell? ⟨ga, oa + i, none⟩ = some (.int .i64 y) ∧ W.cell? ⟨g, o + t, none⟩ = some (.int .i64 z) ∧ W.cell? ⟨g, o + i, none⟩ = some (.int .i64 x))
        (first | go_keep | exact ⟨hg3.cell (a := ⟨gc, oc + t, none⟩) q1 ne1, hg3.cell (a := ⟨ga, oa + i, none⟩) e2 ne2, hg3.cell (a := ⟨g, o + t, none⟩) e3 ne3, hg3.cell (a := ⟨g, o + i, none⟩) e4 ne3⟩)
        ((refine step_append_int (w := wr.drew) (by rfl) _ _ (by rfl) w.heap.size g' c' t wr.heap.size ys (IntKind.i64.wrap (z - IntKind.i64.wrap (x * y))) _ hl2 (by rfl) (by rfl) ho.drew (by rfl) (by rfl) (by omega) ?_; intro g3 c3 w3 ho3 hg3 hor))
      go_wp2
      go_roundw
      case rel =>
        rw [← he, ← Hys.out, ← refl_succ_to] at ho3
        exact ⟨t + 1, g3, c3, by omega, by go_num, rfl, ho3, (Below.drew hb).grown hg3 hb.size (by intro j hj; cases hj; exact ho.base)⟩
      case measure => simp [intOf]; omega
    · obtain rfl : t = v.length := by omega
      go_wp2
      go_ret
      exact GotInts.mk' g' c' (refl_length _ _ _) ho hb


end Go.Proofs.YtobeigdjhepedaaGreatDoor
namespace Go.Proofs.YtobeigdjhepedaaGreatDoor
set_option maxRecDepth 100000
open Go.RowKit

def rowSym (c : List (List Int)) (l : List Wt) (j k : Nat) : Prop := ∀ i, i < k → countIn l (reflW c (i : Int) (wOf l j)) = ctOf l j
def symAll (c : List (List Int)) (l : List Wt) : Prop := IsC c ∧ ∀ j, j < l.length → rowSym c l j c.length
instance (c : List (List Int)) (l : List Wt) (j k : Nat) : Decidable (rowSym c l j k) := by unfold rowSym; infer_instance
instance (c : List (List Int)) (l : List Wt) : Decidable (symAll c l) := by unfold symAll; infer_instance
def symB (c : List (List Int)) (l : List Wt) : Bool := decide (symAll c l)
theorem symB_true {c : List (List Int)} {l : List Wt} (h : symAll c l) : symB c l = true := decide_eq_true h
theorem symB_false {c : List (List Int)} {l : List Wt} (h : ¬ symAll c l) : symB c l = false := decide_eq_false h
attribute [local go_sem ↓] Go.wp_at_zero Go.wp_at_succ
def symTo (c : List (List Int)) (l : List Wt) (i : Nat) : Prop := ∀ j, j < l.length → rowSym c l j i
theorem symTo_step {c : List (List Int)} {l : List Wt} {i : Nat} (h : symTo c l i) (h2 : ∀ j, j < l.length → countIn l (reflW c (i : Int) (wOf l j)) = ctOf l j) : symTo c l (i + 1) := by
  intro j hj t ht
  by_cases e : t = i
  · subst e; exact h2 j hj
  · exact h j hj t (by omega)

end Go.Proofs.YtobeigdjhepedaaGreatDoor
namespace Go.Proofs.YtobeigdjhepedaaGreatDoor
set_option maxRecDepth 100000
open Go.RowKit

theorem three_blocks (w : World) (o0 o1 o2 : Obj) : (((w.alloc o0).alloc o1).alloc o2).heap[w.heap.size]? = some o0 ∧ (((w.alloc o0).alloc o1).alloc o2).heap[w.heap.size + 1]? = some o1 ∧ (((w.alloc o0).alloc o1).alloc o2).heap[w.heap.size + 1 + 1]? = some o2 := by
  have e : (((w.alloc o0).alloc o1).alloc o2).heap = ((w.heap.push o0).push o1).push o2 := rfl
  rw [e]
  refine ⟨?_, ?_, ?_⟩
  · rw [Array.getElem?_push, if_neg (by simp; omega), Array.getElem?_push, if_neg (by simp), Array.getElem?_push, if_pos rfl]
  · rw [Array.getElem?_push, if_neg (by simp), Array.getElem?_push, if_pos (by simp)]
  · rw [Array.getElem?_push, if_pos (by simp)]

theorem inner_setNe {w : World} {B : Nat} {rs : List RowRef} (h : Inner w B rs) (p : Addr) (v : Value) (hp : ∀ r ∈ rs, r.1 ≠ p.block) : Inner (w.setCell p v) B rs :=
  ⟨fun r hr => (h.1 r hr).setNe p v (hp r hr), h.2⟩

end Go.Proofs.YtobeigdjhepedaaGreatDoor
namespace Go.Proofs.YtobeigdjhepedaaGreatDoor
set_option maxRecDepth 100000
open Go.RowKit

attribute [local go_sem ↓] Go.wp_at_zero Go.wp_at_succ
end Go.Proofs.YtobeigdjhepedaaGreatDoor
namespace Go.Proofs.YtobeigdjhepedaaGreatDoor
set_option maxRecDepth 100000
open Go.Joins Go.ChangeShapes Go.WideShapes Go.RowKit Go.Deep

theorem list_of_all {α : Type} (d : α) (n : Nat) (Q : Nat → α → Prop) (h : ∀ i, i < n → ∃ p, Q i p) : ∃ l : List α, l.length = n ∧ ∀ i, i < n → Q i (l.getD i d) := by
  induction n with
  | zero => exact ⟨[], rfl, by omega⟩
  | succ n ih =>
    obtain ⟨l, hl, hq⟩ := ih (fun i hi => h i (by omega))
    obtain ⟨p, hp⟩ := h n (by omega)
    refine ⟨l ++ [p], by simp [hl], fun i hi => ?_⟩
    by_cases e : i = n
    · subst e; simpa [List.getD, hl] using hp
    · have := hq i (by omega)
      have hi' : i < l.length := by omega
      simpa [List.getD, List.getElem?_append_left hi'] using this

section
variable {H : Type} {enc : TypeId × Value → H} {w : World} {base : Nat}
end
end Go.Proofs.YtobeigdjhepedaaGreatDoor
namespace Go.Proofs.YtobeigdjhepedaaGreatDoor
set_option maxRecDepth 100000
open Go.RowKit

def rowsFew (rows : List (List Int)) : Prop := rows.length ≤ 1048576 ∧ (∀ j, j < rows.length → (rows.getD j []).length ≤ 1048576) ∧ sumLen rows rows.length ≤ 1048576
theorem szLL_few {rows : List (List Int)} {left : Int} (hl : left ≤ 1048576) (h : 0 ≤ szLL rows left) : rowsFew rows ∧ szLL rows left ≤ 1048576 := by
  unfold szLL at *
  split at h
  · omega
  · rename_i hh
    rw [if_neg hh]
    refine ⟨⟨by omega, fun j hj => ?_, by omega⟩, by omega⟩
    have h1 := sumLen_succ rows j hj
    have h2 := sumLen_mono rows (k := j + 1) (n := rows.length) hj
    omega

/-- what changes lies between two block numbers -/
structure Only (B E : Nat) (w w' : World) : Prop where
  os : w'.os = w.os
  tape : w'.tape = w.tape
  output : w'.output = w.output
  size : w.heap.size ≤ w'.heap.size
  block : ∀ k, k < w.heap.size → (k < B ∨ E ≤ k) → w'.heap[k]? = w.heap[k]?
theorem Only.refl (B E : Nat) (w : World) : Only B E w w := ⟨rfl, rfl, rfl, Nat.le_refl _, fun _ _ _ => rfl⟩
theorem Only.trans {B E : Nat} {a b c : World} (h : Only B E a b) (k : Only B E b c) : Only B E a c :=
  ⟨k.os.trans h.os, k.tape.trans h.tape, k.output.trans h.output, Nat.le_trans h.size k.size, fun i hi hd => (k.block i (Nat.lt_of_lt_of_le hi h.size) hd).trans (h.block i hi hd)⟩
theorem Only.of_grown {B E g : Nat} {w w' : World} (h : w.grownBy w' (some g)) (hB : B ≤ g) (hE : g < E) : Only B E w w' :=
  ⟨h.os, h.tape, h.output, h.size, fun k hk hd => h.block k hk (by intro e; cases e; omega)⟩
theorem Only.drewN {B E : Nat} {w w' : World} (h : Only B E w w') (n : Nat) : Only B E w (w'.drewN n) := ⟨h.os, h.tape, h.output, h.size, h.block⟩
theorem Below.only {b B E : Nat} {w w1 w2 : World} (h : Below b w w1) (k : Only B E w1 w2) (hB : b ≤ B) (hb : b ≤ w.heap.size) : Below b w w2 :=
  ⟨k.os.trans h.os, k.tape.trans h.tape, k.output.trans h.output, Nat.le_trans h.size k.size, fun i hi => (k.block i (by have := h.size; omega) (.inl (by omega))).trans (h.block i hi)⟩

theorem Own.same {w w' : World} {B g cap : Nat} {xs : List Int} (h : Own w B g cap xs) (hs : w'.heap[g]? = w.heap[g]?) : Own w' B g cap xs := by
  refine ⟨h.1, ?_⟩
  rcases h.2 with ⟨h', _⟩ | ⟨g', cap', cur, h', hbb, hh, r⟩
  · simp at h'
  · refine .inr ⟨g', cap', cur, h', hbb, ?_, r⟩
    simp only [Value.slice.injEq, Option.some.injEq, Addr.mk.injEq] at h'
    obtain ⟨⟨rfl, _⟩, _⟩ := h'
    rw [hs]; exact hh
theorem OwnK.same {w w' : World} {B g cap n k : Nat} {E : TypeId} {cs : List Value} (h : OwnK w B E k g cap n cs) (hs : w'.heap[g]? = w.heap[g]?) : OwnK w' B E k g cap n cs := by
  refine ⟨h.1, ?_⟩
  rcases h.2 with ⟨h', _⟩ | ⟨g', cap', cur, h', hbb, hh, r⟩
  · simp at h'
  · refine .inr ⟨g', cap', cur, h', hbb, ?_, r⟩
    simp only [Value.slice.injEq, Option.some.injEq, Addr.mk.injEq] at h'
    obtain ⟨⟨rfl, _⟩, _⟩ := h'
    rw [hs]; exact hh
theorem OwnV.same {w w' : World} {B g cap : Nat} {E : TypeId} {vs : List Value} (h : OwnV w B E g cap vs) (hs : w'.heap[g]? = w.heap[g]?) : OwnV w' B E g cap vs := by
  refine ⟨h.1, ?_⟩
  rcases h.2 with ⟨h', _⟩ | ⟨g', cap', cur, h', hbb, hh, r⟩
  · simp at h'
  · refine .inr ⟨g', cap', cur, h', hbb, ?_, r⟩
    simp only [Value.slice.injEq, Option.some.injEq, Addr.mk.injEq] at h'
    obtain ⟨⟨rfl, _⟩, _⟩ := h'
    rw [hs]; exact hh

def HeldI (w : World) (B E g cap : Nat) (xs : List Int) : Prop := Own w B g cap xs ∧ g < E
def HeldR (w : World) (B E g cap : Nat) (rows : List (List Int)) : Prop := ∃ rs, contents rs = rows ∧ OwnRows w B g cap rs ∧ g < E ∧ ∀ r ∈ rs, r.1 < E
section
variable {w w' : World} {B E b B2 E2 g cap : Nat} {xs : List Int} {rows : List (List Int)} {l : List Wt}
theorem HeldI.lt (h : HeldI w B E g cap xs) : g < w.heap.size := h.1.lt
theorem HeldI.cells (h : HeldI w B E g cap xs) : Cells w g 0 xs := h.1.cells
theorem HeldI.capLe (h : HeldI w B E g cap xs) : xs.length ≤ cap := h.1.capLe
theorem HeldI.base (h : HeldI w B E g cap xs) : B ≤ g := h.1.base
theorem HeldI.below (h : HeldI w B E g cap xs) (hb : Below b w w') (hE : E ≤ b) : HeldI w' B E g cap xs := ⟨h.1.same (hb.block _ (by have := h.2; omega)), h.2⟩
theorem HeldI.only (h : HeldI w B E g cap xs) (hb : Only B2 E2 w w') (hd : E ≤ B2 ∨ E2 ≤ B) : HeldI w' B E g cap xs := ⟨h.1.same (hb.block _ h.1.lt (by have := h.2; have := h.1.base; omega)), h.2⟩
theorem HeldR.lt (h : HeldR w B E g cap rows) : g < w.heap.size := by obtain ⟨rs, -, h, -⟩ := h; exact h.lt
theorem HeldR.rows2 (h : HeldR w B E g cap rows) : Rows2 w g 0 rows := by obtain ⟨rs, rfl, h, -⟩ := h; exact h.rows2
theorem HeldR.capLe (h : HeldR w B E g cap rows) : rows.length ≤ cap := by obtain ⟨rs, rfl, h, -⟩ := h; have := h.capLe; simpa [contents] using this
theorem HeldR.base (h : HeldR w B E g cap rows) : B ≤ g := by obtain ⟨rs, -, h, -⟩ := h; exact h.base
theorem Inner.same {rs : List RowRef} (h : Inner w B rs) (hs : ∀ r ∈ rs, w'.heap[r.1]? = w.heap[r.1]?) : Inner w' B rs := ⟨fun r hr => (h.1 r hr).same (hs r hr), h.2⟩
theorem HeldR.below (h : HeldR w B E g cap rows) (hb : Below b w w') (hE : E ≤ b) : HeldR w' B E g cap rows := by
  obtain ⟨rs, hc, ho, h1, h2⟩ := h
  exact ⟨rs, hc, ⟨ho.1.same (hb.block _ (by omega)), ho.2.same (fun r hr => hb.block _ (by have := h2 r hr; omega))⟩, h1, h2⟩
theorem HeldR.only (h : HeldR w B E g cap rows) (hb : Only B2 E2 w w') (hd : E ≤ B2 ∨ E2 ≤ B) : HeldR w' B E g cap rows := by
  obtain ⟨rs, hc, ho, h1, h2⟩ := h
  exact ⟨rs, hc, ⟨ho.1.same (hb.block _ ho.1.lt (by have := ho.1.base; omega)), ho.2.same (fun r hr => hb.block _ (ho.2.1 r hr).lt (by have := h2 r hr; have := (ho.2.1 r hr).base; omega))⟩, h1, h2⟩
end

theorem toIntS_h (a : Option Addr) (c : Nat) (xs : List Int) (w : World) (hx : xs.length ≤ 1048576) (ha : ArgInts w a xs) :
    Calls Tryz.prog 11 #[.slice a xs.length c] w (fun e w' => ∃ g cap, e = .returned (Value.slice (some ⟨g, 0, none⟩) xs.length cap) ∧ HeldI w' w.heap.size w'.heap.size g cap xs ∧ Below w.heap.size w w') :=
  (toIntS_any a c xs w (by omega) ha).mono fun _ _ ⟨g, cap, he, ho, hb⟩ => ⟨g, cap, he, ⟨ho, ho.lt⟩, hb⟩
theorem toIntSS_h (a : Option Addr) (c : Nat) (rows : List (List Int)) (w : World) (hx : rowsFew rows) (ha : ArgRows w a rows) :
    Calls Tryz.prog 7 #[.slice a rows.length c] w (fun e w' => ∃ g cap, e = .returned (Value.slice (some ⟨g, 0, none⟩) rows.length cap) ∧ HeldR w' w.heap.size w'.heap.size g cap rows ∧ Below w.heap.size w w') :=
  (toIntSS_any a _ c rows w rfl hx.1 (fun j hj => by have := hx.2.1 j hj; omega) ha).mono fun _ _ ⟨g, cap, rs, he, hc, ho, hb⟩ => ⟨g, cap, he, ⟨rs, hc, ho, ho.lt, fun r hr => (ho.2.1 r hr).lt⟩, hb⟩
theorem eqIntS_h {B E B2 E2 g cap g2 cap2 : Nat} {xs : List Int} {w : World} (hx : xs.length ≤ 1048576) (h1 : HeldI w B E g cap xs) (h2 : HeldI w B2 E2 g2 cap2 xs) :
    Calls Tryz.prog 13 #[(Value.slice (some ⟨g, 0, none⟩) xs.length cap), (Value.slice (some ⟨g2, 0, none⟩) xs.length cap2)] w (Gives w (.bool true)) :=
  (eqIntS_same g 0 _ cap g2 0 _ cap2 xs w rfl rfl (by omega) h1.cells h2.cells).mono fun _ _ ⟨he, m, hm⟩ => ⟨he, by subst hm; exact below_drewN' w m⟩
theorem eqIntSS_h {B E B2 E2 g cap g2 cap2 : Nat} {rows : List (List Int)} {w : World} (hx : rowsFew rows) (h1 : HeldR w B E g cap rows) (h2 : HeldR w B2 E2 g2 cap2 rows) :
    Calls Tryz.prog 9 #[(Value.slice (some ⟨g, 0, none⟩) rows.length cap), (Value.slice (some ⟨g2, 0, none⟩) rows.length cap2)] w (Gives w (.bool true)) :=
  (eqIntSS_same g 0 _ cap g2 0 _ cap2 rows w rfl rfl hx.1 (fun j hj => by have := hx.2.1 j hj; omega) h1.rows2 h2.rows2).mono fun _ _ ⟨he, m, hm⟩ => ⟨he, by subst hm; exact below_drewN' w m⟩
theorem szIntSS_h (a : Option Addr) (c : Nat) (rows : List (List Int)) (left : Int) (w : World) (hl : 0 ≤ left ∧ left ≤ 1048576) (hn : rows.length ≤ maxLen) (hrl : ∀ j, j < rows.length → (rows.getD j []).length ≤ maxLen) (ha : ArgRows w a rows) :
    Calls Tryz.prog 5 #[.slice a rows.length c, .int .i64 left] w (fun e w' => ∃ L : Int, e = .returned (.int .i64 L) ∧ (0 ≤ L → rowsFew rows ∧ L ≤ 1048576) ∧ Below w.heap.size w w') := by
  have hm : maxLen ≤ 9223372036854775807 := by decide +kernel
  exact (szIntSS_any a _ c rows left w rfl hl (by omega) (fun j hj => by have := hrl j hj; omega) ha).mono fun _ _ ⟨he, m, hw⟩ => ⟨_, he, fun h => szLL_few hl.2 h, by subst hw; exact below_drewN' w m⟩
end Go.Proofs.YtobeigdjhepedaaGreatDoor
