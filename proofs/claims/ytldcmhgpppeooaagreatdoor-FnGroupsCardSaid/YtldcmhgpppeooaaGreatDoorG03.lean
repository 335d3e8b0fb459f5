/- Reflections of weights: contracts. IsSymmetric: contracts. toWeighted(S), eqWeighted(S): contracts. eqWeighted(S): contracts for equal values. An argument that is a list of weights with counts, opened. Values of the call's own in an interval of blocks: integers, rows, weights with counts; the laws' helpers over them. The laws' draws: cursors over the bytes of any code; what is drawn is small. append of a row to rows of the call's own. -/
import Derived.Test.YtldcmhgpppeooaaGreatDoorG02
import Derived.StillTailTactics
import Derived.Test.YtldcmhgpppeooaaGreatDoorG01
import Derived.Deep.Slices
import Derived.Deep.Fields
import Derived.ChangeSame
import Derived.Laws.BitsLemmas
namespace Go.Proofs.YtldcmhgpppeooaaGreatDoor
set_option maxRecDepth 100000
open Go.RowKit

/-- a number of a reflected weight -/
def reflAt (c : List (List Int)) (i : Nat) (v : List Int) (k : Nat) : Int := wrap64 (v.getD k 0 - wrap64 (v.getD i 0 * ent c k i))
def refl (c : List (List Int)) (i : Nat) (v : List Int) : List Int := (List.range v.length).map (reflAt c i v)
/-- the first k reflected -/
def reflTo (c : List (List Int)) (i : Nat) (v : List Int) (k : Nat) : List Int := (List.range k).map (reflAt c i v) ++ v.drop k
theorem refl_length (c : List (List Int)) (i : Nat) (v : List Int) : (refl c i v).length = v.length := by simp [refl]
theorem reflTo_length {c : List (List Int)} {i : Nat} {v : List Int} {k : Nat} (hk : k ≤ v.length) : (reflTo c i v k).length = v.length := by simp [reflTo]; omega
theorem reflTo_at {c : List (List Int)} {i : Nat} {v : List Int} {k : Nat} (_hk : k < v.length) : (reflTo c i v k).getD k 0 = v.getD k 0 := by
  simp [reflTo, List.getD, List.getElem?_append_right]
theorem reflTo_succ {c : List (List Int)} {i : Nat} {v : List Int} {k : Nat} (hk : k < v.length) : (reflTo c i v k).set k (reflAt c i v k) = reflTo c i v (k + 1) := by
  unfold reflTo
  rw [List.set_append_right _ _ (by simp)]
  have e : v.drop k = v[k] :: v.drop (k + 1) := List.drop_eq_getElem_cons hk
  rw [List.length_map, List.length_range, Nat.sub_self, e, List.set_cons_zero, List.range_succ, List.map_append, List.append_assoc]
  rfl
theorem reflTo_zero (c : List (List Int)) (i : Nat) (v : List Int) : reflTo c i v 0 = v := by simp [reflTo]
theorem reflTo_all (c : List (List Int)) (i : Nat) (v : List Int) : reflTo c i v v.length = refl c i v := by simp [reflTo, refl]

set_option maxHeartbeats 2000000 in
theorem impl_reflected_any (w0 : World) (gc oc n cc g cap i m : Nat) (c : List (List Int)) (v : List Int) (w : World) (hn : c.length = n) (hm : v.length = m) (hv : v.length = c.length) (hsm : c.length ≤ 4) (hrl : ∀ j, j < c.length → (c.getD j []).length = c.length)
    (hi : i < c.length) (hgc : gc < w0.heap.size) (hr : Rows2 w0 gc oc c) (hb : Below w0.heap.size w0 w) (hown : Own w w0.heap.size g cap v) :
    Calls Tryz.prog 117 #[(Value.slice (some ⟨gc, oc, none⟩) n cc), .int .i64 i, (Value.slice (some ⟨g, 0, none⟩) m cap)] w (fun e w' => e = .returned (.tuple #[]) ∧ Own w' w0.heap.size g cap (refl c i v) ∧ w.grownBy w' (some g)) := by
  subst hn; subst hm
  have hiv : i < v.length := by omega
  have hvi := hown.cell i hiv
  generalize hx : v.getD i 0 = x at hvi
  have Hx := Lib.hid hx; clear hx
  have hvl : v.length ≤ 4 := by omega
  have Hv := Lib.hid hv; clear hv
  go_enter Tryz.func117, Tryz.ntmps117
  go_wp2
  go_loopw [14] (fun k wr => ∃ t : Nat, t ≤ v.length ∧ k = .int .i64 t ∧ Own wr w0.heap.size g cap (reflTo c i v t) ∧ w.grownBy wr (some g)) (fun k _ => v.length - (intOf k).toNat)
  case atStart => exact ⟨0, Nat.zero_le _, rfl, by rw [reflTo_zero]; exact hown, World.grownBy.refl _ _⟩
  case round =>
    obtain ⟨t, ht, rfl, ho, hgr⟩ := hrel
    by_cases hlt : t < v.length
    · have htc : t < c.length := by have := Hv.out; omega
      have hl := reflTo_length (c := c) (i := i) ht
      have hb2 : Below w0.heap.size w0 wr := hb.grown hgr hb.size (by intro j hj; cases hj; exact hown.base)
      obtain ⟨ga, oa, ca, q1, q2, q3, q4⟩ := hr.below hb2 hgc t htc
      have hrt := hrl t htc
      have e2 := q4 i (by rw [hrt]; exact hi)
      have f1 := ho.cell t (by rw [hl]; exact hlt)
      rw [reflTo_at hlt] at f1
      have f2 := ho.frozen t
      rw [hrt] at q1
      have he : reflAt c i v t = wrap64 (v.getD t 0 - wrap64 (x * ent c t i)) := by rw [← Hx.out]; rfl
      have hee : (c.getD t []).getD i 0 = ent c t i := rfl
      rw [hee] at e2
      generalize ent c t i = y at *
      generalize v.getD t 0 = z at *
      have hgr2 : w.grownBy wr.drew (some g) := grown_drew hgr
      have ho2 : Own wr.drew w0.heap.size g cap (reflTo c i v t) := ho.drew
      have f2' : wr.drew.frozen? ⟨g, t, none⟩ = false := f2
      have f1' : wr.drew.cell? ⟨g, t, none⟩ = some (.int .i64 z) := f1
      clear hgr hrt hee
      go_wp2
      set_option maxRecDepth 10000 in go_still_tail 14, (by kernel_rfl)
      change wpList _ _ _ _ _ wr.drew
      generalize wr.drew = w2 at *
      go_wp2
      go_roundw
      case rel =>
        have hs := ho2.set t (reflAt c i v t)
        rw [reflTo_succ hlt, he] at hs
        exact ⟨t + 1, by omega, by go_num, hs.1, World.grownBy.trans' hgr2 hs.2⟩
      case measure => simp [intOf]; omega
    · obtain rfl : t = v.length := by omega
      go_wp2
      go_end0
      rw [reflTo_all] at ho
      exact ⟨rfl, ho, hgr⟩


def reflOk (c : List (List Int)) (i : Int) (v : List Int) : Prop := IsC c ∧ v.length = c.length ∧ 0 ≤ i ∧ i < c.length
instance (c : List (List Int)) (i : Int) (v : List Int) : Decidable (reflOk c i v) := by unfold reflOk; infer_instance
def reflW (c : List (List Int)) (i : Int) (v : List Int) : List Int := if reflOk c i v then refl c i.toNat v else v
theorem reflW_length (c : List (List Int)) (i : Int) (v : List Int) : (reflW c i v).length = v.length := by unfold reflW; split <;> simp [refl_length]

theorem impl_isPoint_any (gc oc n cc : Nat) (i : Int) (w : World) : Calls Tryz.prog 99 #[(Value.slice (some ⟨gc, oc, none⟩) n cc), .int .i64 i] w (Reads w (.bool (decide (0 ≤ i) && decide (i < n)))) := by
  by_cases h : 0 ≤ i
  · have h' : decide (0 ≤ i) = true := decide_eq_true h
    rw [h']
    go_enter Tryz.func99, Tryz.ntmps99
    go_wp2
    go_ret
    exact ⟨rfl, 0, rfl⟩
  · have h' : decide (0 ≤ i) = false := decide_eq_false h
    rw [h']
    go_enter Tryz.func99, Tryz.ntmps99
    go_wp2
    go_ret
    exact ⟨rfl, 0, rfl⟩

theorem refl_succ_to {c : List (List Int)} {i : Nat} {v : List Int} {k : Nat} : (List.range (k + 1)).map (reflAt c i v) = (List.range k).map (reflAt c i v) ++ [reflAt c i v k] := by
  rw [List.range_succ, List.map_append]; rfl

attribute [local go_sem ↓] Go.wp_at_zero Go.wp_at_succ
set_option maxHeartbeats 2000000 in
theorem spec_l6Reflect_any (gc oc n cc g o m cv i : Nat) (c : List (List Int)) (v : List Int) (w : World) (hn : c.length = n) (hm : v.length = m) (hvl : v.length ≤ c.length) (hx : c.length ≤ 4)
    (hrl : ∀ j, j < c.length → (c.getD j []).length = c.length) (hi : i < v.length) (hgc : gc < w.heap.size) (hg : g < w.heap.size) (hr : Rows2 w gc oc c) (hv : Cells w g o v) :
    Calls Tryz.prog 107 #[(Value.slice (some ⟨gc, oc, none⟩) n cc), .int .i64 i, (Value.slice (some ⟨g, o, none⟩) m cv)] w (GotInts w (refl c i v)) := by
  subst hn; subst hm
  go_enter Tryz.func107, Tryz.ntmps107
  go_wp2
  go_loopw [7, 8] (fun s k wr => ∃ t g' c' : Nat, t ≤ v.length ∧ k = .int .i64 t ∧ s = (Value.slice (some ⟨g', 0, none⟩) t c') ∧ Own wr w.heap.size g' c' ((List.range t).map (reflAt c i v)) ∧ Below w.heap.size w wr) (fun _ k _ => v.length - (intOf k).toNat)
  case atStart => exact ⟨0, _, _, Nat.zero_le _, rfl, rfl, Own.empty (Nat.le_refl _), (Below.refl _ _).alloc (Nat.le_refl _) _⟩
  case round =>
    obtain ⟨t, g', c', ht, rfl, rfl, ho, hb⟩ := hrel
    by_cases hlt : t < v.length
    · have htc : t < c.length := by omega
      obtain ⟨ga, oa, ca, q1, q2, q3, q4⟩ := hr t htc
      replace q1 := (hb.cell (p := ⟨gc, oc + t, none⟩) hgc).trans q1
      replace q4 := q4.below hb q3
      have hrt := hrl t htc
      have hic : i < c.length := by omega
      have e2 := q4 i (by rw [hrt]; exact hic)
      have e3 := hv.below hb hg t hlt
      have e4 := hv.below hb hg i hi
      rw [hrt] at q1
      have he : reflAt c i v t = IntKind.i64.wrap (v.getD t 0 - IntKind.i64.wrap (v.getD i 0 * ent c t i)) := by unfold reflAt; simp only [wrap64, IntKind.wrap_i64]
      have hee : (c.getD t []).getD i 0 = ent c t i := rfl
      rw [hee] at e2
      generalize ent c t i = y at *
      generalize v.getD t 0 = z at *
      generalize v.getD i 0 = x at *
      have Hvl := Lib.hid hvl; clear hvl hrt hee
      go_wp2
      have hBg := ho.base
      have ne1 : some gc ≠ some g' := by intro e; cases e; omega
      have ne2 : some ga ≠ some g' := by intro e; cases e; omega
      have ne3 : some g ≠ some g' := by intro e; cases e; omega
      have hl2 : ((List.range t).map (reflAt c i v)).length = t := by simp
      generalize hys : (List.range t).map (reflAt c i v) = ys at ho hl2
      have Hys := Lib.hid hys; clear hys
      go_region_held3 (fun W => W.cell? ⟨gc, oc + t, none⟩ = some (.slice (some ⟨ga, oa, none⟩) c.length ca) ∧ W.cell? ⟨ga, oa + i, none⟩ = some (.int .i64 y) ∧ W.cell? ⟨g, o + t, none⟩ = some (.int .i64 z) ∧ W.cell? ⟨g, o + i, none⟩ = some (.int .i64 x))
        (first | go_keep | exact ⟨hg3.cell (a := ⟨gc, oc + t, none⟩) q1 ne1, hg3.cell (a := ⟨ga, oa + i, none⟩) e2 ne2, hg3.cell (a := ⟨g, o + t, none⟩) e3 ne3, hg3.cell (a := ⟨g, o + i, none⟩) e4 ne3⟩)
        ((refine step_append_int (w := wr.drew) (by rfl) _ _ (by rfl) w.heap.size g' c' t wr.heap.size ys (IntKind.i64.wrap (z - IntKind.i64.wrap (x * y))) _ hl2 (by rfl) (by rfl) ho.drew (by rfl) (by rfl) (by omega) ?_; intro g3 c3 w3 ho3 hg3 hor))
      go_wp2
      go_roundw
      case rel =>
        rw [← he, ← Hys.out, ← refl_succ_to] at ho3
        exact ⟨t + 1, g3, c3, by omega, by go_num, rfl, ho3, (Below.drew hb).grown hg3 hb.size (by intro j hj; cases hj; exact ho.base)⟩
      case measure => simp [intOf]; omega
    · obtain rfl : t = v.length := by omega
      go_wp2
      go_ret
      exact GotInts.mk' g' c' (refl_length _ _ _) ho hb


end Go.Proofs.YtldcmhgpppeooaaGreatDoor
namespace Go.Proofs.YtldcmhgpppeooaaGreatDoor
set_option maxRecDepth 100000
open Go.RowKit

def rowSym (c : List (List Int)) (l : List Wt) (j k : Nat) : Prop := ∀ i, i < k → countIn l (reflW c (i : Int) (wOf l j)) = ctOf l j
def symAll (c : List (List Int)) (l : List Wt) : Prop := IsC c ∧ ∀ j, j < l.length → rowSym c l j c.length
instance (c : List (List Int)) (l : List Wt) (j k : Nat) : Decidable (rowSym c l j k) := by unfold rowSym; infer_instance
instance (c : List (List Int)) (l : List Wt) : Decidable (symAll c l) := by unfold symAll; infer_instance
def symB (c : List (List Int)) (l : List Wt) : Bool := decide (symAll c l)
theorem symB_true {c : List (List Int)} {l : List Wt} (h : symAll c l) : symB c l = true := decide_eq_true h
theorem symB_false {c : List (List Int)} {l : List Wt} (h : ¬ symAll c l) : symB c l = false := decide_eq_false h
attribute [local go_sem ↓] Go.wp_at_zero Go.wp_at_succ
def symTo (c : List (List Int)) (l : List Wt) (i : Nat) : Prop := ∀ j, j < l.length → rowSym c l j i
theorem symTo_step {c : List (List Int)} {l : List Wt} {i : Nat} (h : symTo c l i) (h2 : ∀ j, j < l.length → countIn l (reflW c (i : Int) (wOf l j)) = ctOf l j) : symTo c l (i + 1) := by
  intro j hj t ht
  by_cases e : t = i
  · subst e; exact h2 j hj
  · exact h j hj t (by omega)

end Go.Proofs.YtldcmhgpppeooaaGreatDoor
namespace Go.Proofs.YtldcmhgpppeooaaGreatDoor
set_option maxRecDepth 100000
open Go.RowKit

theorem three_blocks (w : World) (o0 o1 o2 : Obj) : (((w.alloc o0).alloc o1).alloc o2).heap[w.heap.size]? = some o0 ∧ (((w.alloc o0).alloc o1).alloc o2).heap[w.heap.size + 1]? = some o1 ∧ (((w.alloc o0).alloc o1).alloc o2).heap[w.heap.size + 1 + 1]? = some o2 := by
  have e : (((w.alloc o0).alloc o1).alloc o2).heap = ((w.heap.push o0).push o1).push o2 := rfl
  rw [e]
  refine ⟨?_, ?_, ?_⟩
  · rw [Array.getElem?_push, if_neg (by simp; omega), Array.getElem?_push, if_neg (by simp), Array.getElem?_push, if_pos rfl]
  · rw [Array.getElem?_push, if_neg (by simp), Array.getElem?_push, if_pos (by simp)]
  · rw [Array.getElem?_push, if_pos (by simp)]

theorem inner_setNe {w : World} {B : Nat} {rs : List RowRef} (h : Inner w B rs) (p : Addr) (v : Value) (hp : ∀ r ∈ rs, r.1 ≠ p.block) : Inner (w.setCell p v) B rs :=
  ⟨fun r hr => (h.1 r hr).setNe p v (hp r hr), h.2⟩

end Go.Proofs.YtldcmhgpppeooaaGreatDoor
namespace Go.Proofs.YtldcmhgpppeooaaGreatDoor
set_option maxRecDepth 100000
open Go.RowKit

attribute [local go_sem ↓] Go.wp_at_zero Go.wp_at_succ
end Go.Proofs.YtldcmhgpppeooaaGreatDoor
namespace Go.Proofs.YtldcmhgpppeooaaGreatDoor
set_option maxRecDepth 100000
open Go.Joins Go.ChangeShapes Go.WideShapes Go.RowKit Go.Deep

theorem list_of_all {α : Type} (d : α) (n : Nat) (Q : Nat → α → Prop) (h : ∀ i, i < n → ∃ p, Q i p) : ∃ l : List α, l.length = n ∧ ∀ i, i < n → Q i (l.getD i d) := by
  induction n with
  | zero => exact ⟨[], rfl, by omega⟩
  | succ n ih =>
    obtain ⟨l, hl, hq⟩ := ih (fun i hi => h i (by omega))
    obtain ⟨p, hp⟩ := h n (by omega)
    refine ⟨l ++ [p], by simp [hl], fun i hi => ?_⟩
    by_cases e : i = n
    · subst e; simpa [List.getD, hl] using hp
    · have := hq i (by omega)
      have hi' : i < l.length := by omega
      simpa [List.getD, List.getElem?_append_left hi'] using this

section
variable {H : Type} {enc : TypeId × Value → H} {w : World} {base : Nat}
end
end Go.Proofs.YtldcmhgpppeooaaGreatDoor
namespace Go.Proofs.YtldcmhgpppeooaaGreatDoor
set_option maxRecDepth 100000
open Go.RowKit

def rowsFew (rows : List (List Int)) : Prop := rows.length ≤ 1048576 ∧ (∀ j, j < rows.length → (rows.getD j []).length ≤ 1048576) ∧ sumLen rows rows.length ≤ 1048576
theorem szLL_few {rows : List (List Int)} {left : Int} (hl : left ≤ 1048576) (h : 0 ≤ szLL rows left) : rowsFew rows ∧ szLL rows left ≤ 1048576 := by
  unfold szLL at *
  split at h
  · omega
  · rename_i hh
    rw [if_neg hh]
    refine ⟨⟨by omega, fun j hj => ?_, by omega⟩, by omega⟩
    have h1 := sumLen_succ rows j hj
    have h2 := sumLen_mono rows (k := j + 1) (n := rows.length) hj
    omega

/-- what changes lies between two block numbers -/
structure Only (B E : Nat) (w w' : World) : Prop where
  os : w'.os = w.os
  tape : w'.tape = w.tape
  output : w'.output = w.output
  size : w.heap.size ≤ w'.heap.size
  block : ∀ k, k < w.heap.size → (k < B ∨ E ≤ k) → w'.heap[k]? = w.heap[k]?
theorem Only.refl (B E : Nat) (w : World) : Only B E w w := ⟨rfl, rfl, rfl, Nat.le_refl _, fun _ _ _ => rfl⟩
theorem Only.trans {B E : Nat} {a b c : World} (h : Only B E a b) (k : Only B E b c) : Only B E a c :=
  ⟨k.os.trans h.os, k.tape.trans h.tape, k.output.trans h.output, Nat.le_trans h.size k.size, fun i hi hd => (k.block i (Nat.lt_of_lt_of_le hi h.size) hd).trans (h.block i hi hd)⟩
theorem Only.of_grown {B E g : Nat} {w w' : World} (h : w.grownBy w' (some g)) (hB : B ≤ g) (hE : g < E) : Only B E w w' :=
  ⟨h.os, h.tape, h.output, h.size, fun k hk hd => h.block k hk (by intro e; cases e; omega)⟩
theorem Only.drewN {B E : Nat} {w w' : World} (h : Only B E w w') (n : Nat) : Only B E w (w'.drewN n) := ⟨h.os, h.tape, h.output, h.size, h.block⟩
theorem Below.only {b B E : Nat} {w w1 w2 : World} (h : Below b w w1) (k : Only B E w1 w2) (hB : b ≤ B) (hb : b ≤ w.heap.size) : Below b w w2 :=
  ⟨k.os.trans h.os, k.tape.trans h.tape, k.output.trans h.output, Nat.le_trans h.size k.size, fun i hi => (k.block i (by have := h.size; omega) (.inl (by omega))).trans (h.block i hi)⟩

theorem Own.same {w w' : World} {B g cap : Nat} {xs : List Int} (h : Own w B g cap xs) (hs : w'.heap[g]? = w.heap[g]?) : Own w' B g cap xs := by
  refine ⟨h.1, ?_⟩
  rcases h.2 with ⟨h', _⟩ | ⟨g', cap', cur, h', hbb, hh, r⟩
  · simp at h'
  · refine .inr ⟨g', cap', cur, h', hbb, ?_, r⟩
    simp only [Value.slice.injEq, Option.some.injEq, Addr.mk.injEq] at h'
    obtain ⟨⟨rfl, _⟩, _⟩ := h'
    rw [hs]; exact hh
theorem OwnK.same {w w' : World} {B g cap n k : Nat} {E : TypeId} {cs : List Value} (h : OwnK w B E k g cap n cs) (hs : w'.heap[g]? = w.heap[g]?) : OwnK w' B E k g cap n cs := by
  refine ⟨h.1, ?_⟩
  rcases h.2 with ⟨h', _⟩ | ⟨g', cap', cur, h', hbb, hh, r⟩
  · simp at h'
  · refine .inr ⟨g', cap', cur, h', hbb, ?_, r⟩
    simp only [Value.slice.injEq, Option.some.injEq, Addr.mk.injEq] at h'
    obtain ⟨⟨rfl, _⟩, _⟩ := h'
    rw [hs]; exact hh
theorem OwnV.same {w w' : World} {B g cap : Nat} {E : TypeId} {vs : List Value} (h : OwnV w B E g cap vs) (hs : w'.heap[g]? = w.heap[g]?) : OwnV w' B E g cap vs := by
  refine ⟨h.1, ?_⟩
  rcases h.2 with ⟨h', _⟩ | ⟨g', cap', cur, h', hbb, hh, r⟩
  · simp at h'
  · refine .inr ⟨g', cap', cur, h', hbb, ?_, r⟩
    simp only [Value.slice.injEq, Option.some.injEq, Addr.mk.injEq] at h'
    obtain ⟨⟨rfl, _⟩, _⟩ := h'
    rw [hs]; exact hh

def HeldI (w : World) (B E g cap : Nat) (xs : List Int) : Prop := Own w B g cap xs ∧ g < E
def HeldR (w : World) (B E g cap : Nat) (rows : List (List Int)) : Prop := ∃ rs, contents rs = rows ∧ OwnRows w B g cap rs ∧ g < E ∧ ∀ r ∈ rs, r.1 < E
section
variable {w w' : World} {B E b B2 E2 g cap : Nat} {xs : List Int} {rows : List (List Int)} {l : List Wt}
theorem HeldI.lt (h : HeldI w B E g cap xs) : g < w.heap.size := h.1.lt
theorem HeldI.cells (h : HeldI w B E g cap xs) : Cells w g 0 xs := h.1.cells
theorem HeldI.capLe (h : HeldI w B E g cap xs) : xs.length ≤ cap := h.1.capLe
theorem HeldI.base (h : HeldI w B E g cap xs) : B ≤ g := h.1.base
theorem HeldI.below (h : HeldI w B E g cap xs) (hb : Below b w w') (hE : E ≤ b) : HeldI w' B E g cap xs := ⟨h.1.same (hb.block _ (by have := h.2; omega)), h.2⟩
theorem HeldI.only (h : HeldI w B E g cap xs) (hb : Only B2 E2 w w') (hd : E ≤ B2 ∨ E2 ≤ B) : HeldI w' B E g cap xs := ⟨h.1.same (hb.block _ h.1.lt (by have := h.2; have := h.1.base; omega)), h.2⟩
theorem HeldR.lt (h : HeldR w B E g cap rows) : g < w.heap.size := by obtain ⟨rs, -, h, -⟩ := h; exact h.lt
theorem HeldR.rows2 (h : HeldR w B E g cap rows) : Rows2 w g 0 rows := by obtain ⟨rs, rfl, h, -⟩ := h; exact h.rows2
theorem HeldR.capLe (h : HeldR w B E g cap rows) : rows.length ≤ cap := by obtain ⟨rs, rfl, h, -⟩ := h; have := h.capLe; simpa [contents] using this
theorem HeldR.base (h : HeldR w B E g cap rows) : B ≤ g := by obtain ⟨rs, -, h, -⟩ := h; exact h.base
theorem Inner.same {rs : List RowRef} (h : Inner w B rs) (hs : ∀ r ∈ rs, w'.heap[r.1]? = w.heap[r.1]?) : Inner w' B rs := ⟨fun r hr => (h.1 r hr).same (hs r hr), h.2⟩
theorem HeldR.below (h : HeldR w B E g cap rows) (hb : Below b w w') (hE : E ≤ b) : HeldR w' B E g cap rows := by
  obtain ⟨rs, hc, ho, h1, h2⟩ := h
  exact ⟨rs, hc, ⟨ho.1.same (hb.block _ (by omega)), ho.2.same (fun r hr => hb.block _ (by have := h2 r hr; omega))⟩, h1, h2⟩
theorem HeldR.only (h : HeldR w B E g cap rows) (hb : Only B2 E2 w w') (hd : E ≤ B2 ∨ E2 ≤ B) : HeldR w' B E g cap rows := by
  obtain ⟨rs, hc, ho, h1, h2⟩ := h
  exact ⟨rs, hc, ⟨ho.1.same (hb.block _ ho.1.lt (by have := ho.1.base; omega)), ho.2.same (fun r hr => hb.block _ (ho.2.1 r hr).lt (by have := h2 r hr; have := (ho.2.1 r hr).base; omega))⟩, h1, h2⟩
end

end Go.Proofs.YtldcmhgpppeooaaGreatDoor
namespace Go.Proofs.YtldcmhgpppeooaaGreatDoor
set_option maxRecDepth 100000
open Go.RowKit

theorem and255 (x : Int) : 0 ≤ bits .and .i64 x 255 ∧ bits .and .i64 x 255 < 256 := by
  have h : (BitVec.ofInt 64 255).toNat = 255 := by decide
  have h2 := Nat.and_le_right (n := (BitVec.ofInt 64 x).toNat) (m := 255)
  have e : bits .and .i64 x 255 = IntKind.i64.wrap (((BitVec.ofInt 64 x).toNat &&& 255 : Nat) : Int) := by
    show IntKind.i64.wrap (((BitVec.ofInt 64 x &&& BitVec.ofInt 64 255).toNat : Nat) : Int) = _
    rw [BitVec.toNat_and, h]
  rw [e]
  generalize (BitVec.ofInt 64 x).toNat &&& 255 = m at *
  rw [IntWalk.i64_in _ (by omega)]
  omega

/-- the bytes of a code that lies below block B -/
def CodeV (w : World) (B : Nat) (a : Option Addr) (n : Nat) : Prop :=
  n = 0 ∨ ∃ g o, a = some ⟨g, o, none⟩ ∧ g < B ∧ g < w.heap.size ∧ ∀ j, j < n → ∃ x : Int, (0 ≤ x ∧ x < 256) ∧ w.cell? ⟨g, o + j, none⟩ = some (.int .u8 x)
theorem CodeV.only {w w' : World} {B p E : Nat} {a : Option Addr} {n : Nat} (h : CodeV w B a n) (k : Only p E w w') (hp : B ≤ p) : CodeV w' B a n := by
  rcases h with h | ⟨g, o, e, h1, h2, h3⟩
  · exact .inl h
  · refine .inr ⟨g, o, e, h1, Nat.lt_of_lt_of_le h2 k.size, fun j hj => ?_⟩
    obtain ⟨x, hx, hc⟩ := h3 j hj
    exact ⟨x, hx, (World.cell?_of_block (k.block g h2 (.inl (by omega)))).trans hc⟩
theorem CodeV.below {w w' : World} {B : Nat} {a : Option Addr} {n : Nat} (h : CodeV w B a n) (k : Below B w w') : CodeV w' B a n := by
  rcases h with h | ⟨g, o, e, h1, h2, h3⟩
  · exact .inl h
  · refine .inr ⟨g, o, e, h1, Nat.lt_of_lt_of_le h2 k.size, fun j hj => ?_⟩
    obtain ⟨x, hx, hc⟩ := h3 j hj
    exact ⟨x, hx, (World.cell?_of_block (k.block g h1)).trans hc⟩

/-- a cursor -/
def Cur (w : World) (p : Nat) (a : Option Addr) (n c : Nat) : Prop := ∃ i h : Int, (0 ≤ i ∧ i ≤ n) ∧ w.heap[p]? = some (.cells #[.slice a n c, .int .i64 i, .int .i64 h] 86 (0, 0))
theorem three {W : World} {b : Nat} {v0 v1 v2 : Value} {t : TypeId} (h : W.heap[b]? = some (.cells #[v0, v1, v2] t (0, 0))) :
    W.cell? ⟨b, 0, none⟩ = some v0 ∧ W.cell? ⟨b, 1, none⟩ = some v1 ∧ W.cell? ⟨b, 2, none⟩ = some v2 := by
  refine ⟨?_, ?_, ?_⟩ <;> (rw [cell_of_cells h]; rfl)
theorem only_setC (w : World) (p k : Nat) (u : Value) : Only p (p + 1) w (w.setCell ⟨p, k, none⟩ u) :=
  ⟨rfl, rfl, rfl, by simp [World.setCell], fun j _ hd => Below.heap_setCell _ _ _ _ (by show j ≠ p; omega)⟩

theorem Only.of_below {w w' : World} (p E : Nat) (h : Below w.heap.size w w') : Only p E w w' := ⟨h.os, h.tape, h.output, h.size, fun k hk _ => h.block k hk⟩
/-- a byte is drawn -/
def DrewI (w : World) (B p : Nat) (a : Option Addr) (n c : Nat) (m : Int) (e : Ending) (w' : World) : Prop :=
  ∃ x : Int, (0 ≤ x ∧ x < m) ∧ e = .returned (.int .i64 x) ∧ Cur w' p a n c ∧ CodeV w' B a n ∧ Only p (p + 1) w w'

set_option maxHeartbeats 1000000 in
theorem spec_l1Byte_any (B p : Nat) (a : Option Addr) (n c : Nat) (w : World) (hn : n ≤ 1048576) (hc : CodeV w B a n) (hp : B ≤ p) (hcur : Cur w p a n c) :
    Calls Tryz.prog 113 #[.pointer (some ⟨p, 0, none⟩)] w (DrewI w B p a n c 256) := by
  obtain ⟨i, h, hi, hblk⟩ := hcur
  obtain ⟨z0, z1, z2⟩ := three hblk
  have f1 := free_of_cells hblk 1
  have f2 := free_of_cells hblk 2
  have HB0 := Lib.hid hblk; have HC0 := Lib.hid hc
  clear hblk hc
  go_enter Tryz.func113, Tryz.ntmps113
  go_wp2_with fail
  generalize wrap64 (wrap64 (h * 6364136223846793005) + 1442695040888963407) = h2 at *
  have B1 : (w.setCell ⟨p, 2, none⟩ (.int .i64 h2)).heap[p]? = some (.cells #[.slice a n c, .int .i64 i, .int .i64 h2] 86 (0, 0)) := by rw [heap_setCell_same w p 2 _ _ (.int .i64 h2) HB0.out]; rfl
  have O1 := only_setC w p 2 (.int .i64 h2)
  have C1 := HC0.out.only O1 hp
  generalize w.setCell ⟨p, 2, none⟩ (.int .i64 h2) = w1 at *
  clear z0 z1 z2 f1 f2 HB0 HC0
  obtain ⟨z0, z1, z2⟩ := three B1
  have f1 := free_of_cells B1 1
  have HB1 := Lib.hid B1; have HC1 := Lib.hid C1
  clear B1 C1
  go_quiet (fail)
  go_wp2_with fail
  have hx0 := and255 (bits BinOp.xor IntKind.i64 (h2 / 8589934592) (h2 / 35184372088832))
  generalize bits BinOp.and IntKind.i64 (bits BinOp.xor IntKind.i64 (h2 / 8589934592) (h2 / 35184372088832)) 255 = x0 at *
  obtain ⟨k, rfl⟩ : ∃ k : Nat, i = k := ⟨i.toNat, by omega⟩
  by_cases hk : k < n
  · obtain ⟨g, o, rfl, hgB, hgs, hcell⟩ := HC1.out.resolve_left (by omega)
    obtain ⟨y, hy, hyc⟩ := hcell k hk
    have e1 : IntKind.i64.wrap ((k : Int) + 1) = (k : Int) + 1 := IntWalk.i64_in _ (by omega)
    have hkI : (k : Int) < (n : Int) := by omega
    clear hcell
    go_quiet (fail)
    go_wp2_with fail
    go_quiet (fail)
    go_wp2_with fail
    go_ret
    refine ⟨_, and255 (x0 + y), rfl, ⟨(k : Int) + 1, h2, ⟨by omega, by omega⟩, ?_⟩, ?_, ?_⟩
    · exact (heap_setCell_same (w1.drewN _) p 1 _ _ (.int .i64 ((k : Int) + 1)) HB1.out).trans rfl
    · exact (HC1.out.only (Only.drewN (Only.refl p (p + 1) w1) _) hp).only (only_setC _ p 1 _) hp
    · exact (Only.drewN O1 _).trans (only_setC _ p 1 _)
  · have hkI : ¬ (k : Int) < (n : Int) := by omega
    go_quiet (fail)
    go_wp2_with fail
    go_ret
    exact ⟨x0, hx0, rfl, ⟨k, h2, hi, HB1.out⟩, HC1.out.only (Only.drewN (Only.refl p (p + 1) w1) _) hp, Only.drewN O1 _⟩

set_option maxHeartbeats 1000000 in
theorem spec_l1Below_any (B p : Nat) (a : Option Addr) (n c : Nat) (m : Int) (w : World) (hm : 1 ≤ m ∧ m ≤ 256) (hn : n ≤ 1048576) (hc : CodeV w B a n) (hp : B ≤ p) (hcur : Cur w p a n c) :
    Calls Tryz.prog 56 #[.pointer (some ⟨p, 0, none⟩), .int .i64 m] w (DrewI w B p a n c m) := by
  have h1 := Lib.hid (spec_l1Byte_any B p a n c w hn hc hp hcur)
  have d1 : decide (m ≤ 0) = false := by simp; omega
  have d2 : decide (m ≤ 256) = true := by simp; omega
  have d3 : (m == 0) = false := by simp; omega
  have d4 : m ≠ 0 := by omega
  clear hc hcur
  go_enter Tryz.func56, Tryz.ntmps56
  go_wp2_with fail
  refine h1.out.mono ?_
  rintro e w1 ⟨x, hx, rfl, hcur, hc, hO⟩
  have hr : 0 ≤ x % m ∧ x % m < m := ⟨Int.emod_nonneg _ (by omega), Int.emod_lt_of_pos _ (by omega)⟩
  go_wp2_with fail
  go_ret
  exact ⟨_, hr, rfl, hcur, hc, hO⟩

set_option maxHeartbeats 1000000 in
theorem spec_l1New_any (a : Option Addr) (n c : Nat) (w : World) (hn : n ≤ 1048576) (hc : CodeV w w.heap.size a n) :
    Calls Tryz.prog 54 #[.slice a n c] w fun e w' => ∃ p, w.heap.size ≤ p ∧ e = .returned (.pointer (some ⟨p, 0, none⟩)) ∧ Cur w' p a n c ∧ Below w.heap.size w w' := by
  have hc' := Lib.hid hc
  clear hc
  go_enter Tryz.func54, Tryz.ntmps54
  go_wp2
  go_loopw [3, 4] (fun hv iv wr => ∃ (k : Nat) (h : Int), k ≤ n ∧ iv = .int .i64 k ∧ hv = .int .i64 h ∧ ∃ q, wr = w.drewN q) (fun _ iv _ => n - (intOf iv).toNat)
  case atStart => exact ⟨0, _, Nat.zero_le _, rfl, rfl, (by first | exact ⟨_, rfl⟩ | exact ⟨0, rfl⟩ | exact still2 _ _ _ | exact still3 _ _ _ _)⟩
  case round =>
    obtain ⟨k, h, hk, rfl, rfl, q, rfl⟩ := hrel
    by_cases hlt : k < n
    · obtain ⟨g, o, rfl, hgB, hgs, hcell⟩ := hc'.out.resolve_left (by omega)
      obtain ⟨y, hy, hyc⟩ := hcell k hlt
      have hend : ∀ W, W = (w.drewN q).alloc (.cells #[.slice (some ⟨g, o, none⟩) n c, .int .i64 0, .int .i64 h] 86) → ∃ p, w.heap.size ≤ p ∧ Ending.returned (.pointer (some ⟨w.heap.size, 0, none⟩)) = Ending.returned (.pointer (some ⟨p, 0, none⟩)) ∧ Cur W p (some ⟨g, o, none⟩) n c ∧ Below w.heap.size w W := by
        rintro W rfl
        exact ⟨w.heap.size, Nat.le_refl _, rfl, ⟨0, h, ⟨by omega, by omega⟩, heap_alloc_new (w.drewN q) _⟩, (below_drewN (Below.refl _ w) q).alloc (Nat.le_refl _) _⟩
      by_cases h4 : k < 4000
      · go_wp2_with fail
        go_roundw
        case rel => exact ⟨k + 1, _, by omega, by go_num, rfl, (by first | exact ⟨_, rfl⟩ | exact ⟨0, rfl⟩ | exact still2 _ _ _ | exact still3 _ _ _ _)⟩
        case measure => simp [intOf]; omega
      · go_wp2_with fail
        go_ret
        exact hend _ rfl
    · obtain rfl : k = n := by omega
      have hend : ∀ W, W = (w.drewN q).alloc (.cells #[.slice a k c, .int .i64 0, .int .i64 h] 86) → ∃ p, w.heap.size ≤ p ∧ Ending.returned (.pointer (some ⟨w.heap.size, 0, none⟩)) = Ending.returned (.pointer (some ⟨p, 0, none⟩)) ∧ Cur W p a k c ∧ Below w.heap.size w W := by
        rintro W rfl
        exact ⟨w.heap.size, Nat.le_refl _, rfl, ⟨0, h, ⟨by omega, by omega⟩, heap_alloc_new (w.drewN q) _⟩, (below_drewN (Below.refl _ w) q).alloc (Nat.le_refl _) _⟩
      go_wp2_with fail
      go_ret
      exact hend _ rfl

/-! ### lists that are drawn -/
theorem all_snoc {P : Int → Prop} {xs : List Int} {y : Int} (h : ∀ z ∈ xs, P z) (hy : P y) : ∀ z ∈ xs ++ [y], P z := fun z hz => by
  rcases List.mem_append.1 hz with q | q
  · exact h z q
  · rw [List.mem_singleton] at q; subst q; exact hy
/-- a list is drawn: at most m numbers below b -/
def DrewL (w : World) (B p : Nat) (a : Option Addr) (n c : Nat) (m : Nat) (b : Int) (e : Ending) (w' : World) : Prop :=
  ∃ (xs : List Int) (g cap : Nat), (xs.length ≤ m ∧ ∀ x ∈ xs, 0 ≤ x ∧ x < b) ∧ e = .returned (Value.slice (some ⟨g, 0, none⟩) xs.length cap) ∧ Own w' w.heap.size g cap xs ∧ Cur w' p a n c ∧ CodeV w' B a n ∧ Only p (p + 1) w w'
theorem Own.only {w w' : World} {B p E g cap : Nat} {xs : List Int} (h : Own w B g cap xs) (k : Only p E w w') (hd : g < p ∨ E ≤ g) : Own w' B g cap xs := h.same (k.block g h.lt hd)
theorem Cur.only {w w' : World} {p B E : Nat} {a : Option Addr} {n c : Nat} (h : Cur w p a n c) (k : Only B E w w') (hd : p < B ∨ E ≤ p) : Cur w' p a n c := by
  obtain ⟨i, x, hi, hb⟩ := h
  exact ⟨i, x, hi, (k.block p (lt_of_block hb) hd).trans hb⟩
theorem Cur.lt {w : World} {p : Nat} {a : Option Addr} {n c : Nat} (h : Cur w p a n c) : p < w.heap.size := by obtain ⟨i, x, hi, hb⟩ := h; exact lt_of_block hb
theorem only_grown {w w' : World} {p g : Nat} (h : w.grownBy w' (some g)) (hg : w.heap.size ≤ g) : Only p (p + 1) w w' :=
  ⟨h.os, h.tape, h.output, h.size, fun k hk _ => h.block k hk (by intro e; cases e; omega)⟩

end Go.Proofs.YtldcmhgpppeooaaGreatDoor
namespace Go.Proofs.YtldcmhgpppeooaaGreatDoor
set_option maxRecDepth 100000
open Go.RowKit

theorem rowCell (r : RowRef) : (rowVal r).oneCell' = true := rfl
theorem OwnV.new {w : World} {B : Nat} {E : TypeId} (v : Value) (_hv : v.oneCell' = true) (hB : B ≤ w.heap.size) : OwnV (w.alloc (.cells #[v] E)) B E w.heap.size 1 [v] :=
  World.ownsRow_lit w #[v] 1 hB (by decide) rfl

theorem run_append_row {w : World} {B g cap : Nat} {vs : List Value} (hown : OwnV w B 27 g cap vs) (v : Value) (hv : v.oneCell' = true) (hlen : vs.length + 1 ≤ 1048576) (ty : TypeId) :
    ∃ g' cap' w', (Builtin.append_ #[24, 24] ty #[(Value.slice (some ⟨g, 0, none⟩) vs.length cap), (Value.slice (some ⟨w.heap.size, 0, none⟩) 1 1)]).run Tryz.prog (w.alloc (.cells #[v] 27)) = .ok (Value.slice (some ⟨g', 0, none⟩) (vs.length + 1) cap') w' ∧
      OwnV w' B 27 g' cap' (vs ++ [v]) ∧ w.grownBy w' (some g) ∧ (g' = g ∨ w.heap.size < g') := by
  obtain ⟨i0, hi, hz0, hz1, hz2⟩ := info_parts infoRow
  have hBg := hown.base
  have hlt := hown.lt
  have hown' : OwnV (w.alloc (.cells #[v] 27)) B 27 g cap vs := hown.alloc _
  have hcell : (w.alloc (.cells #[v] 27)).cell? ⟨w.heap.size, 0, none⟩ = some v := (OwnV.new (B := w.heap.size) v hv (Nat.le_refl _)).cell 0 (by simp)
  have hnews : ∀ j u, ([v] : List Value)[j]? = some u → (w.alloc (.cells #[v] 27)).cell? ((⟨w.heap.size, 0, none⟩ : Addr).add j) = some u := by
    intro j u hu
    have hj : j = 0 := by have := (List.getElem?_eq_some_iff.1 hu).1; simp at this; exact this
    subst hj
    simp at hu; subst hu
    rw [Addr.add_lit]; exact hcell
  have h1 : ∀ u ∈ ([v] : List Value), u.oneCell' = true := by simp [hv]
  have hl : ([v] : List Value).length = 1 * i0.size := by simp [hz1]
  obtain ⟨v', w', hr, ho, hg, -⟩ := run_append_own (P := Tryz.prog) (w.alloc (.cells #[v] 27)) B 24 ty 27 i0 (.slice none 0 0) 1 24 Tryz.underlying24 hi hz0 hz1 hz2 rfl (by decide) _ vs.length _ hown' ⟨w.heap.size, 0, none⟩ 1 1
    [v] (by simp) hnews h1 (by unfold maxLen; omega) (by omega) (by simp; omega)
  have hgr : w.grownBy w' (some g) := ⟨hg.os, hg.tape, hg.output, Nat.le_trans (by simp) hg.size, fun k hk hne => (hg.block k (by simp; omega) hne).trans (Below.heap_alloc _ _ _ hk)⟩
  have fin : ∀ g' cap', v' = (Value.slice (some ⟨g', 0, none⟩) (vs.length + 1) cap') → (g' = g ∨ w.heap.size < g') → ∃ g' cap' w', (Builtin.append_ #[24, 24] ty #[(Value.slice (some ⟨g, 0, none⟩) vs.length cap), (Value.slice (some ⟨w.heap.size, 0, none⟩) 1 1)]).run Tryz.prog (w.alloc (.cells #[v] 27)) = .ok (Value.slice (some ⟨g', 0, none⟩) (vs.length + 1) cap') w' ∧
      OwnV w' B 27 g' cap' (vs ++ [v]) ∧ w.grownBy w' (some g) ∧ (g' = g ∨ w.heap.size < g') := by
    intro g' cap' hv' hor
    subst hv'
    refine ⟨g', cap', w', hr, ?_, hgr, hor⟩
    unfold OwnV
    rw [List.length_append]
    exact ho
  by_cases hroom : vs.length + 1 ≤ cap
  · rcases hown'.2 with ⟨h', _⟩ | ⟨g1, cap1, cur, hv', hb, hh, hn, hm, hs, htk⟩
    · simp at h'
    simp only [Value.slice.injEq, Option.some.injEq, Addr.mk.injEq, and_true, true_and] at hv'
    obtain ⟨rfl, rfl⟩ := hv'
    have hr2 := run_append_room (P := Tryz.prog) (w.alloc (.cells #[v] 27)) 24 ty 27 i0 Tryz.underlying24 hi g vs.length cap cur hh ⟨w.heap.size, 0, none⟩ 1 1 [v] hl hnews h1 hroom (by rw [hz1] at *; simp; omega)
    rw [hr2] at hr
    simp only [Result.ok.injEq] at hr
    exact fin g cap hr.1.symm (.inl rfl)
  · have hr2 := run_append_grow (P := Tryz.prog) (w.alloc (.cells #[v] 27)) 24 ty 27 i0 (.slice none 0 0) Tryz.underlying24 hi hz0 ⟨g, 0, none⟩ vs.length cap vs (by simp [hz1]) (World.ownsRow.cells hown' rfl) ⟨w.heap.size, 0, none⟩ 1 1 _ hl hnews (by omega) (by omega) (growslice_fits (by omega) (by rw [hz2]; omega))
    rw [hr2] at hr
    simp only [Result.ok.injEq] at hr
    exact fin _ _ hr.1.symm (.inr (by simp))

theorem OwnRows.push {w w' : World} {B g cap g' cap' : Nat} {rs : List RowRef} {r : RowRef} (h : OwnRows w B g cap rs) (hr : Own w B r.1 r.2.1 r.2.2) (hne : ∀ s ∈ rs, s.1 ≠ r.1)
    (ho : OwnV w' B 27 g' cap' (rs.map rowVal ++ [rowVal r])) (hg : w.grownBy w' (some g)) : OwnRows w' B g' cap' (rs ++ [r]) := by
  refine ⟨by rw [List.map_append]; exact ho, ?_⟩
  have hg1 : ∀ s ∈ rs, some s.1 ≠ some g := fun s hs e => h.1.ne (h.2.1 s hs).toV (by decide) (Option.some.inj e).symm
  have hg2 : some r.1 ≠ some g := fun e => h.1.ne hr.toV (by decide) (Option.some.inj e).symm
  exact (Inner.append (w := w') (r := r) ⟨fun s hs => (h.2.1 s hs).grown hg (hg1 s hs), h.2.2⟩ (hr.grown hg hg2) hne)

/-- 'append(out, row)' -/
theorem wpList_append_row {w : World} {ops : Array Oper} {rest : List Oper} {o : Oper} {a : Act} {Q : Exit → Act → World → Prop} (hgd : o.guard = none) (s x : Operand)
    (ho : o.op = .call { callee := .builtin .append, args := #[s, x], argTypes := #[24, 24] })
    (B g cap n H : Nat) (rs : List RowRef) (r : RowRef) (W : World) (hn : rs.length = n) (hW : W = w.alloc (.cells #[rowVal r] 27)) (hH : w.heap.size = H) (hown : OwnRows w B g cap rs) (hr : Own w B r.1 r.2.1 r.2.2) (hne : ∀ s ∈ rs, s.1 ≠ r.1)
    (hs : a.eval s = (Value.slice (some ⟨g, 0, none⟩) n cap)) (hx : a.eval x = (Value.slice (some ⟨H, 0, none⟩) 1 1)) (hlen : n + 1 ≤ 1048576)
    (h : ∀ g' cap' w', OwnRows w' B g' cap' (rs ++ [r]) → w.grownBy w' (some g) → (g' = g ∨ w.heap.size < g') → wpList Tryz.prog ops Q rest (a.put o.dst (Value.slice (some ⟨g', 0, none⟩) (n + 1) cap')) w') :
    wpList Tryz.prog ops Q (o :: rest) a W := by
  subst hn; subst hW; subst hH
  have hl : (rs.map rowVal).length = rs.length := by simp
  obtain ⟨g', cap', w', hrun, h2, h3, h4⟩ := run_append_row hown.1 (rowVal r) rfl (by rw [hl]; exact hlen) o.type
  rw [hl] at hrun
  refine wpList_plain hgd fun K hK => ?_
  unfold Oper.wp execOp
  simp only [ho, resolve, invoke, builtin, Sem.run_bind, Sem.run_pure, Result.andThen_ok, List.map_toArray, List.map_cons, List.map_nil, hs, hx, hrun]
  exact hK _ _ (h g' cap' w' (hown.push hr hne h2 h3) h3 h4)
theorem OwnRows.empty {w : World} {B : Nat} (hB : B ≤ w.heap.size) : OwnRows (w.alloc (.cells #[] 27)) B w.heap.size 0 [] :=
  ⟨World.ownsRow_lit w #[] 0 hB (by decide) rfl, ⟨by simp, by simp⟩⟩
end Go.Proofs.YtldcmhgpppeooaaGreatDoor
