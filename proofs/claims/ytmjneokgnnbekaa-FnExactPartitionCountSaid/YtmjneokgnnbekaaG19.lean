/- In how many ways a vector is a sum of roots. Plain law. Mirrored roots: contracts. slices.SortFunc over rows of the call's own: contract. -/
import Derived.Test.YtmjneokgnnbekaaG18
import Derived.Test.YtmjneokgnnbekaaG10
import Derived.Test.YtmjneokgnnbekaaG11
import Derived.Deep.RegionWith
import Derived.Test.YtmjneokgnnbekaaG09
import Derived.Shelf.SlSortCmp.Whole1
import Derived.Shelf.SlSortCmp.NoneTotal
namespace Go.Proofs.Ytmjneokgnnbekaa
set_option maxRecDepth 100000
set_option linter.unusedSimpArgs false
open Go.RowKit

def negB (r : List Int) : Bool := r.any fun x => decide (x < 0)
def subL (x p : List Int) : List Int := (List.range x.length).map fun j => x.getD j 0 - p.getD j 0
theorem subL_length (x p : List Int) : (subL x p).length = x.length := by simp [subL]
theorem subL_getD {x p : List Int} {j : Nat} (hj : j < x.length) : (subL x p).getD j 0 = x.getD j 0 - p.getD j 0 := by simp [subL, List.getD, hj]
def wLoop (F : List Int → Int) (p : List Int) : Nat → List Int → Int → Int
  | 0, _, acc => acc
  | f + 1, x, acc => if negB x = true then acc else wLoop F p f (subL x p) (wrap64 (acc + F x))
def ways : List (List Int) → List Int → Int
  | [], r => if heightL r = 0 then 1 else 0
  | p :: ps, r => wLoop (ways ps) p 14 r 0
/-- numbers from 0 to 12 -/
def Sm12 (n : Nat) (r : List Int) : Prop := r.length = n ∧ ∀ j, j < n → 0 ≤ r.getD j 0 ∧ r.getD j 0 ≤ 12
/-- a root: numbers from 0 to 12, one of them at least 1 -/
def Rt12 (n : Nat) (p : List Int) : Prop := Sm12 n p ∧ ∃ j, j < n ∧ 1 ≤ p.getD j 0
theorem negB_false {n : Nat} {r : List Int} (h : Sm12 n r) : negB r = false := by
  unfold negB
  rw [List.any_eq_false]
  intro x hx
  obtain ⟨j, hj, rfl⟩ := List.mem_iff_getElem.1 hx
  have := h.2 j (by rw [← h.1]; exact hj)
  simp [List.getD, hj] at this ⊢
  omega
theorem nonneg_of {r : List Int} (h : negB r = false) : ∀ j, j < r.length → 0 ≤ r.getD j 0 := by
  intro j hj
  unfold negB at h
  rw [List.any_eq_false] at h
  have := h r[j] (List.getElem_mem hj)
  simp [List.getD, hj] at this ⊢
  omega
theorem negB_true {r : List Int} {j : Nat} (hj : j < r.length) (h : r.getD j 0 < 0) : negB r = true := by
  unfold negB
  rw [List.any_eq_true]
  exact ⟨r[j], List.getElem_mem hj, by simpa [List.getD, hj] using h⟩
theorem neg_first (r : List Int) : (firstNeg r).isNone = !negB r := by
  cases hf : firstNeg r with
  | none =>
    have h := firstNeg_none hf
    have : negB r = false := by
      unfold negB
      rw [List.any_eq_false]
      intro x hx
      obtain ⟨j, hj, rfl⟩ := List.mem_iff_getElem.1 hx
      have := h j hj
      simp [List.getD, hj] at this ⊢
      omega
    rw [this]; rfl
  | some i =>
    obtain ⟨h1, h2, -⟩ := firstNeg_lt hf
    rw [negB_true h1 h2]; rfl
/-- the loop's state: after t rounds -/
structure WSt (n : Nat) (p r x : List Int) (t : Nat) : Prop where
  len : x.length = n
  eq : ∀ j, j < n → x.getD j 0 = r.getD j 0 - (t : Int) * p.getD j 0
theorem WSt.start {n : Nat} {p r : List Int} (hr : r.length = n) : WSt n p r r 0 := ⟨hr, fun j _ => by simp⟩
theorem WSt.next {n : Nat} {p r x : List Int} {t : Nat} (h : WSt n p r x t) : WSt n p r (subL x p) (t + 1) :=
  ⟨by rw [subL_length]; exact h.len, fun j hj => by
    rw [subL_getD (by rw [h.len]; exact hj), h.eq j hj]
    simp only [Int.natCast_add, Int.add_mul]
    omega⟩
theorem WSt.lt {n : Nat} {p r x : List Int} {t : Nat} (h : WSt n p r x t) (hr : Sm12 n r) (hp : Rt12 n p) (hx : negB x = false) : t ≤ 12 := by
  obtain ⟨j, hj, h1⟩ := hp.2
  have h2 := nonneg_of hx j (by rw [h.len]; exact hj)
  rw [h.eq j hj] at h2
  have h3 := (hr.2 j hj).2
  have h4 : (t : Int) * 1 ≤ (t : Int) * p.getD j 0 := Int.mul_le_mul_of_nonneg_left h1 (by omega)
  omega
theorem WSt.sm {n : Nat} {p r x : List Int} {t : Nat} (h : WSt n p r x t) (hr : Sm12 n r) (hp : Rt12 n p) (hx : negB x = false) : Sm12 n x :=
  ⟨h.len, fun j hj => ⟨nonneg_of hx j (by rw [h.len]; exact hj), by
    rw [h.eq j hj]
    have h1 := (hr.2 j hj).2
    have h2 := Int.mul_nonneg (show (0 : Int) ≤ (t : Int) by omega) (hp.1.2 j hj).1
    omega⟩⟩
theorem wLoop_end {F : List Int → Int} {p x : List Int} {f : Nat} {acc : Int} (h : negB x = true) : wLoop F p f x acc = acc := by
  cases f with
  | zero => rfl
  | succ f => unfold wLoop; rw [if_pos h]
theorem wLoop_go {F : List Int → Int} {p x : List Int} {f : Nat} {acc : Int} (h : negB x = false) : wLoop F p (f + 1) x acc = wLoop F p f (subL x p) (wrap64 (acc + F x)) := by
  conv => lhs; unfold wLoop
  rw [if_neg (by rw [h]; decide)]
theorem zero_of {n : Nat} {r : List Int} (h : Sm12 n r) (hz : ∀ j, j < n → r.getD j 0 = 0) : ∀ k, k ≤ n → sumUp r k = 0
  | 0, _ => rfl
  | k + 1, hk => by
    show wrap64 (sumUp r k + r.getD k 0) = 0
    rw [zero_of h hz k (by omega), hz k (by omega)]
    exact IntWalk.wrap64_in _ ⟨by omega, by omega⟩
theorem sum_pos {n : Nat} {r : List Int} (h : Sm12 n r) (h4 : n ≤ 4) : ∀ k, k ≤ n → (∀ j, j < k → r.getD j 0 ≤ sumUp r k) ∧ 0 ≤ sumUp r k ∧ sumUp r k ≤ 12 * k
  | 0, _ => ⟨fun j hj => absurd hj (by omega), by simp [sumUp], by simp [sumUp]⟩
  | k + 1, hk => by
    obtain ⟨h1, h2, h3⟩ := sum_pos h h4 k (by omega)
    have h5 := h.2 k (by omega)
    have e : sumUp r (k + 1) = sumUp r k + r.getD k 0 := IntWalk.wrap64_in _ ⟨by omega, by omega⟩
    rw [e]
    refine ⟨fun j hj => ?_, by omega, by omega⟩
    by_cases ej : j = k
    · subst ej; omega
    · have := h1 j (by omega); omega
theorem height_zero {n : Nat} {r : List Int} (h : Sm12 n r) (h4 : n ≤ 4) : heightL r = 0 ↔ ∀ j, j < n → r.getD j 0 = 0 := by
  unfold heightL
  rw [h.1]
  constructor
  · intro h0 j hj
    have := (sum_pos h h4 n (Nat.le_refl _)).1 j hj
    have := (h.2 j hj).1
    omega
  · intro hz
    exact zero_of h hz n (Nat.le_refl _)
theorem ways_zero {n : Nat} : ∀ {ps : List (List Int)} {r : List Int}, n ≤ 4 → Sm12 n r → (∀ p ∈ ps, Rt12 n p) → heightL r = 0 → ways ps r = 1
  | [], r, _, _, _, h0 => by unfold ways; rw [if_pos h0]
  | p :: ps, r, h4, hr, hp, h0 => by
    unfold ways
    rw [wLoop_go (negB_false hr), ways_zero h4 hr (fun q hq => hp q (List.mem_cons_of_mem _ hq)) h0]
    obtain ⟨hp1, j, hj, h1⟩ := hp p (by simp)
    have hz := (height_zero hr h4).1 h0 j hj
    rw [wLoop_end (negB_true (j := j) (by rw [subL_length, hr.1]; exact hj) (by rw [subL_getD (by rw [hr.1]; exact hj), hz]; omega))]
    exact IntWalk.wrap64_in _ ⟨by omega, by omega⟩
theorem ways_drop {L : List (List Int)} {k : Nat} (hk : k < L.length) (r : List Int) : ways (L.drop k) r = wLoop (ways (L.drop (k + 1))) (L.getD k []) 14 r 0 := by
  rw [List.drop_eq_getElem_cons hk]
  simp [ways, List.getD, hk]
theorem ways_end {L : List (List Int)} (r : List Int) : ways (L.drop L.length) r = if heightL r = 0 then 1 else 0 := by
  rw [List.drop_length]; rfl
theorem sign_nonneg {r : List Int} (h : negB r = false) : 0 ≤ signL r := by
  have hd : dnB r = false := h
  unfold signL
  rw [hd]
  cases upB r <;> decide
end Go.Proofs.Ytmjneokgnnbekaa
namespace Go.Proofs.Ytmjneokgnnbekaa
set_option maxRecDepth 100000
open Go.RowKit Game

set_option maxHeartbeats 2000000 in
theorem impl_mirrored_any (gc oc n cc i g o m cp : Nat) (c : List (List Int)) (r : List Int) (w : World) (hn : c.length = n) (hm : r.length = m) (hi : i < c.length) (hir : i < r.length) (hl : r.length ≤ (c.getD i []).length) (hx : (c.getD i []).length ≤ 1048576) (hgc : gc < w.heap.size) (hg : g < w.heap.size) (hc : Rows2 w gc oc c) (hr : Cells w g o r) :
    Calls Try.prog 117 #[(Value.slice (some ⟨gc, oc, none⟩) n cc), .int .i64 i, (Value.slice (some ⟨g, o, none⟩) m cp)] w (GotInts w (mirL c i r)) := by
  subst hn; subst hm
  have hrl : r.length ≤ 1048576 := by omega
  have he : mirL c i r = r.set i (wrap64 (r.getD i 0 - pairL (c.getD i []) r)) := rfl
  obtain ⟨ga, oa, ca, q1, q2, q3, q4⟩ := hc i hi
  generalize c.getD i [] = a at *
  have He := Lib.hid he; clear he
  go_enter Try.func117, Try.ntmps117
  go_wp2_with (at_builtin; refine wpList_clone rfl _ _ rfl g o _ cp r rfl hg hr rfl rfl (by omega) ?_)
  intro g3 c3 w3 ho3 hb3
  have q1' := (hb3.cell (p := ⟨gc, oc + i, none⟩) hgc).trans q1
  have hcall := fun W (hW : ∃ q, W = w3.drewN q) => impl_pairing_any ga oa _ ca g o _ cp a r W rfl rfl hl hx ((q4.below hb3 q3).still hW) ((hr.below hb3 hg).still hW)
  have hc1 := ho3.cell i hir
  have hf1 := ho3.frozen i
  have Hcall := Lib.hid hcall
  generalize pairL a r = p at *
  generalize r.getD i 0 = x at *
  clear hcall hr hc
  have HS : Hid (∀ W, (∃ q, W = w3.drewN q) → GotInts w (mirL c i r) (.returned (Value.slice (some ⟨g3, 0, none⟩) r.length c3)) (W.setCell ⟨g3, i, none⟩ (.int .i64 (wrap64 (x - p))))) := fun W hW => by
    have ho := ho3.still hW
    have hb := below_still hb3 hW
    have hs := ho.set i (wrap64 (x - p))
    rw [← He.out] at hs
    exact GotInts.mk' g3 c3 (mirL_length _ _ _) hs.1 (hb.grown hs.2 hb.size (by intro k hk; cases hk; exact ho.base))
  go_wp2
  go_region_with (go_at_call 124; refine (Hcall.out _ ⟨_, rfl⟩).mono ?_; rintro e w4 ⟨rfl, q, rfl⟩)
  all_goals
    go_wp2
    go_ret
    rw [show IntKind.i64.wrap (x - p) = wrap64 (x - p) by simp only [wrap64, IntKind.wrap_i64]]
    refine HS.out _ ?_
    exact (by first | exact ⟨_, rfl⟩ | exact ⟨0, rfl⟩ | exact still2 _ _ _ | exact still3 _ _ _ _)

set_option maxHeartbeats 2000000 in
theorem spec_l7Reflect_any (gc oc n cc i g o m cp : Nat) (c : List (List Int)) (r : List Int) (w : World) (hn : c.length = n) (hm : r.length = m) (hi : i < c.length) (hir : i < r.length) (hl : r.length ≤ (c.getD i []).length) (hx : (c.getD i []).length ≤ 1048576) (hgc : gc < w.heap.size) (hg : g < w.heap.size) (hc : Rows2 w gc oc c) (hr : Cells w g o r) :
    Calls Try.prog 93 #[(Value.slice (some ⟨gc, oc, none⟩) n cc), .int .i64 i, (Value.slice (some ⟨g, o, none⟩) m cp)] w (GotInts w (mirL c i r)) := by
  subst hn; subst hm
  have hrl : r.length ≤ 1048576 := by omega
  have he : mirL c i r = r.set i (wrap64 (r.getD i 0 - dotTo (c.getD i []) r r.length)) := rfl
  obtain ⟨ga, oa, ca, q1, q2, q3, q4⟩ := hc i hi
  generalize c.getD i [] = a at *
  have He := Lib.hid he; clear he
  go_enter Try.func93, Try.ntmps93
  go_wp2_with (at_builtin; refine wpList_clone rfl _ _ rfl g o _ cp r rfl hg hr rfl rfl (by omega) ?_)
  intro g3 c3 w3 ho3 hb3
  have q1' := (hb3.cell (p := ⟨gc, oc + i, none⟩) hgc).trans q1
  have hr3 := hr.below hb3 hg
  have hq3 := q4.below hb3 q3
  go_wp2
  go_loopw [8, 9] (fun s kv wr => ∃ t q : Nat, t ≤ r.length ∧ kv = .int .i64 t ∧ s = .int .i64 (dotTo a r t) ∧ wr = w3.drewN q) (fun _ kv _ => r.length - (intOf kv).toNat)
  case atStart => exact ⟨0, 0, Nat.zero_le _, rfl, rfl, rfl⟩
  case round =>
    obtain ⟨t, q, ht, rfl, rfl, rfl⟩ := hrel
    by_cases hlt : t < r.length
    · have e1 := hq3 t (by omega)
      have e2 := hr3 t hlt
      have hta : t < a.length := by omega
      have hd : dotTo a r (t + 1) = wrap64 (dotTo a r t + wrap64 (a.getD t 0 * r.getD t 0)) := rfl
      generalize a.getD t 0 = x at *
      generalize r.getD t 0 = y at *
      have Hd := Lib.hid hd; clear hd
      generalize dotTo a r t = z at *
      go_wp2
      go_quiet (fail)
      go_wp2
      go_roundw
      case rel => exact ⟨t + 1, _, by omega, by go_num, by rw [Hd.out], rfl⟩
      case measure => simp [intOf]; omega
    · obtain rfl : t = r.length := by omega
      have e2 := hr3 i hir
      have hc1 := ho3.cell i hir
      have hf1 := ho3.frozen i
      generalize dotTo a r r.length = p at *
      generalize r.getD i 0 = x at *
      have HS : Hid (∀ W, (∃ q, W = w3.drewN q) → GotInts w (mirL c i r) (.returned (Value.slice (some ⟨g3, 0, none⟩) r.length c3)) (W.setCell ⟨g3, i, none⟩ (.int .i64 (wrap64 (x - p))))) := fun W hW => by
        have ho := ho3.still hW
        have hb := below_still hb3 hW
        have hs := ho.set i (wrap64 (x - p))
        rw [← He.out] at hs
        exact GotInts.mk' g3 c3 (mirL_length _ _ _) hs.1 (hb.grown hs.2 hb.size (by intro k hk; cases hk; exact ho.base))
      go_wp2
      go_ret
      refine HS.out _ ?_
      exact (by first | exact ⟨_, rfl⟩ | exact ⟨0, rfl⟩ | exact still2 _ _ _ | exact still3 _ _ _ _)

end Go.Proofs.Ytmjneokgnnbekaa
namespace Go.Proofs.Ytmjneokgnnbekaa
set_option maxRecDepth 100000
open Go.RowKit Game
open Go.Sort (Holds putRow putCells mapBlock onCells grow heap_grow_old SWO PermIn SortedIn)

section
variable {α : Type} [Inhabited α] (enc : α → Value)
theorem heap_sortedE {w : World} {g n : Nat} {os : Array Obj} {cur : Array Value} {e : TypeId} {fr : Nat × Nat} (d : Array α) (hb : w.heap[g]? = some (.cells cur e fr)) :
    (sortWorld enc w g 0 n d os).heap[g]? = some (.cells (putCells enc 0 d cur) e fr) := by
  have hg : g < w.heap.size := (Array.getElem?_eq_some_iff.1 hb).1
  unfold sortWorld
  rw [heap_grow_old _ _ (by simpa using hg)]
  simp [putRow, mapBlock, Sort.ahead, Array.getElem?_modify, hb, onCells]
theorem heap_sorted_other {w : World} {g n k : Nat} {os : Array Obj} (d : Array α) (hk : k < w.heap.size) (hne : g ≠ k) :
    (sortWorld enc w g 0 n d os).heap[k]? = w.heap[k]? := by
  unfold sortWorld
  rw [heap_grow_old _ _ (by simpa using hk)]
  simp [putRow, mapBlock, Sort.ahead, Array.getElem?_modify, hne]
theorem grownBy_sortedE {w : World} {g n : Nat} {os : Array Obj} (d : Array α) : w.grownBy (sortWorld enc w g 0 n d os) (some g) :=
  ⟨rfl, rfl, rfl, by unfold sortWorld; simp, fun k hk hne => heap_sorted_other enc d hk (fun e => hne (by rw [e]))⟩
theorem take_putCellsE (cur : Array Value) (ts : List α) (h : ts.length ≤ cur.size) : (putCells enc 0 ts.toArray cur).toList.take ts.length = ts.map enc := by
  apply List.ext_getElem?
  intro j
  by_cases hj : j < ts.length
  · rw [List.getElem?_take_of_lt hj, Array.getElem?_toList]
    simp [putCells, hj, show j < cur.size by omega]
  · rw [List.getElem?_take_eq_none (by omega), List.getElem?_eq_none (by simp; omega)]
theorem holds_of_ownV {w : World} {B g cap : Nat} {E : TypeId} {ss : List α} (h : OwnV w B E g cap (ss.map enc)) : Holds enc w g 0 ss.toArray := by
  intro j hj
  have hj' : j < ss.length := by simpa using hj
  refine ⟨?_, h.frozen _⟩
  rw [Nat.zero_add, h.cell j (by simpa using hj')]
  simp [hj']
theorem ownV_sorted {w : World} {B g cap n : Nat} {E : TypeId} {os : Array Obj} {ss ts : List α} (h : OwnV w B E g cap (ss.map enc)) (hl : ts.length = ss.length) : OwnV (sortWorld enc w g 0 n ts.toArray os) B E g cap (ts.map enc) := by
  rcases h.2 with ⟨h', _⟩ | ⟨g', cap', cur, h', hb, hh, hn, hm, hs, htk⟩
  · simp at h'
  · simp only [Value.slice.injEq, Option.some.injEq, Addr.mk.injEq, List.length_map] at h'
    obtain ⟨⟨rfl, _⟩, _, rfl⟩ := h'
    refine ⟨by simp, .inr ⟨g, cap, _, by simp, hb, heap_sortedE enc _ hh, by simp at hn ⊢; omega, hm, by simp [putCells, hs], ?_⟩⟩
    rw [Nat.mul_one, List.length_map]
    refine take_putCellsE enc cur ts ?_
    simp at hn hs; omega
end

/-- what is asked of a comparison: in whatever world, at whatever two lists -/
def CmpOk (f : Nat) (cf : List Int → List Int → Int) : Prop :=
  ∀ (g1 o1 c1 g2 o2 c2 : Nat) (xs ys : List Int) (w : World), xs.length ≤ 1048576 → ys.length ≤ 1048576 → Cells w g1 o1 xs → Cells w g2 o2 ys →
    Calls Try.prog f #[(Value.slice (some ⟨g1, o1, none⟩) xs.length c1), (Value.slice (some ⟨g2, o2, none⟩) ys.length c2)] w fun e w' => e = .returned (.int .i64 (cf xs ys)) ∧ ∃ q os', w' = grow (w.drewN q) os'
theorem lays_grow {w : World} {v : Value} {e : Ending} {w' : World} (h : Lays w v e w') : e = .returned v ∧ ∃ q os', w' = grow (w.drewN q) os' := by
  obtain ⟨h1, o, q, rfl⟩ := h
  refine ⟨h1, q, #[o], ?_⟩
  rw [← Sort.alloc_eq_grow]
  rfl
theorem reads_grow {w : World} {v : Value} {e : Ending} {w' : World} (h : Reads w v e w') : e = .returned v ∧ ∃ q os', w' = grow (w.drewN q) os' := by
  obtain ⟨h1, q, rfl⟩ := h
  exact ⟨h1, q, #[], by simp⟩

/-- a comparison that tells all lists apart is a strict weak order -/
theorem swo_of {cf : List Int → List Int → Int} (anti : ∀ a b, cf b a = - cf a b) (zero : ∀ {a b}, cf a b = 0 → a = b) (tr : ∀ {a b d}, cf a b < 0 → cf b d < 0 → cf a d < 0) : SWO (ltOf cf) where
  irrefl x := by unfold ltOf; have := anti x x; simp; omega
  trans x y z h1 h2 := by unfold ltOf at *; simp at *; exact tr h1 h2
  ntrans x y z h1 h2 := by
    unfold ltOf at *
    simp at *
    rcases Int.lt_trichotomy (cf x z) 0 with h | h | h
    · have a1 := anti x y
      have a2 := anti y z
      rcases Int.lt_trichotomy (cf x y) 0 with g | g | g
      · omega
      · have := zero g; subst this; omega
      · rcases Int.lt_trichotomy (cf y z) 0 with k | k | k
        · omega
        · have := zero k; subst this; omega
        · have := tr (a := z) (b := y) (d := x) (by omega) (by omega)
          have a3 := anti x z
          omega
    · omega
    · omega
/-- the order by a comparison -/
def Total (cf : List Int → List Int → Int) : Prop := SWO (ltOf cf)

end Go.Proofs.Ytmjneokgnnbekaa
