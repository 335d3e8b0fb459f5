/- Small matrices: bounds under elimination; rows exchanged and replaced in memory; the reference's l17Rank: contract. The matrix of what an element moves: its entries are small. Plain law. -/
import Derived.Test.YtjhoimdfmcjkbaaGreatDoorG21
import Derived.Test.YtjhoimdfmcjkbaaGreatDoorG05
import Derived.Test.YtjhoimdfmcjkbaaGreatDoorG08
import Derived.Test.YtjhoimdfmcjkbaaGreatDoorG11
import Derived.Test.YtjhoimdfmcjkbaaGreatDoorG18
import Derived.Test.YtjhoimdfmcjkbaaGreatDoorG20
namespace Go.Proofs.YtjhoimdfmcjkbaaGreatDoor
set_option maxRecDepth 100000
open Go.RowKit

def BndM (b : Nat) (M : Mx) : Prop := ∀ i j, (enM M i j).natAbs ≤ b
def bdN : Nat → Nat | 0 => 13 | 1 => 338 | 2 => 228488 | _ => 104413532288
theorem BndM.mono {b b' : Nat} {M : Mx} (h : BndM b M) (hb : b ≤ b') : BndM b' M := fun i j => Nat.le_trans (h i j) hb
theorem BndM.swap {b : Nat} {M : Mx} (h : BndM b M) {x y : Nat} (hx : x < M.length) (hy : y < M.length) : BndM b (swapM M x y) := fun i j => by
  unfold enM
  rw [swapM_at hx hy]
  split
  · exact h x j
  · split
    · exact h y j
    · exact h i j
theorem two_small {b : Nat} {x y z t : Int} (hx : x.natAbs ≤ b) (hy : y.natAbs ≤ b) (hz : z.natAbs ≤ b) (ht : t.natAbs ≤ b) : (x * y).natAbs ≤ b * b ∧ (z * t).natAbs ≤ b * b ∧ (x * y - z * t).natAbs ≤ b * b + b * b := by
  have h1 : (x * y).natAbs ≤ b * b := by rw [Int.natAbs_mul]; exact Nat.mul_le_mul hx hy
  have h2 : (z * t).natAbs ≤ b * b := by rw [Int.natAbs_mul]; exact Nat.mul_le_mul hz ht
  exact ⟨h1, h2, by omega⟩
theorem bdN_le (r : Nat) (h : r ≤ 2) : bdN r ≤ 228488 ∧ bdN r * bdN r + bdN r * bdN r ≤ bdN (r + 1) := by
  have : r = 0 ∨ r = 1 ∨ r = 2 := by omega
  rcases this with rfl | rfl | rfl <;> decide
theorem bdN_up (r : Nat) : bdN r ≤ bdN (r + 1) := by
  match r with
  | 0 => decide
  | 1 => decide
  | 2 => decide
  | _ + 3 => exact Nat.le_refl _
theorem getD_out {l : List Int} {j : Nat} (h : l.length ≤ j) : l.getD j 0 = 0 := by simp [List.getD, List.getElem?_eq_none h]
theorem BndM.elimS {M : Mx} {r col k : Nat} (h4 : M.length ≤ 4) (h : BndM (bdN r) M) : BndM (bdN (r + 1)) (elim rowS M r col k) := fun i j => by
  have hup := bdN_up r
  by_cases hi : i < M.length
  · have e : enM (elim rowS M r col k) i j = ((elim rowS M r col k).getD i []).getD j 0 := rfl
    rw [e, elim_at hi]
    split
    · rename_i hc
      obtain ⟨h1, h2⟩ := bdN_le r (by omega)
      by_cases hj : j < M.length
      · unfold rowS
        rw [getD_rangeM hj]
        have := (two_small (h i j) (h r col) (h i col) (h r j)).2.2
        omega
      · rw [getD_out (by simp [rowS]; omega)]; simp
    · exact Nat.le_trans (h i j) hup
  · have e : enM (elim rowS M r col k) i j = 0 := by
      unfold enM
      have : (elim rowS M r col k).getD i [] = [] := by simp [List.getD, List.getElem?_eq_none (show (elim rowS M r col k).length ≤ i by rw [elim_length]; omega)]
      rw [this]; rfl
    rw [e]; simp
theorem BndM.elimI {M : Mx} {r col k : Nat} (h4 : M.length ≤ 4) (h : BndM (bdN r) M) : BndM (bdN (r + 1)) (elim rowI M r col k) := fun i j => by
  have hup := bdN_up r
  by_cases hi : i < M.length
  · have e : enM (elim rowI M r col k) i j = ((elim rowI M r col k).getD i []).getD j 0 := rfl
    rw [e, elim_at hi]
    split
    · rename_i hc
      obtain ⟨h1, h2⟩ := bdN_le r (by omega)
      unfold rowI
      split
      · exact Nat.le_trans (h i j) hup
      · by_cases hj : j < M.length
        · rw [getD_rangeM hj]
          have := (two_small (h r col) (h i j) (h i col) (h r j)).2.2
          omega
        · rw [getD_out (by simp; omega)]; simp
    · exact Nat.le_trans (h i j) hup
  · have e : enM (elim rowI M r col k) i j = 0 := by
      unfold enM
      have : (elim rowI M r col k).getD i [] = [] := by simp [List.getD, List.getElem?_eq_none (show (elim rowI M r col k).length ≤ i by rw [elim_length]; omega)]
      rw [this]; rfl
    rw [e]; simp

/-! ### rows in memory -/
theorem nodup_swap {α : Type} {L : List α} (h : L.Nodup) {a b : Nat} (ha : a < L.length) (hb : b < L.length) : ((L.set a L[b]).set b L[a]).Nodup := by
  have hne : ∀ i j (hi : i < L.length) (hj : j < L.length), i ≠ j → L[i] ≠ L[j] := fun i j hi hj hij => by
    have hp := List.pairwise_iff_getElem.1 h
    rcases Nat.lt_or_gt_of_ne hij with g | g
    · exact hp i j hi hj g
    · exact fun e => hp j i hj hi g e.symm
  refine List.pairwise_iff_getElem.2 fun i j hi hj hij => ?_
  simp only [List.length_set] at hi hj
  simp only [List.getElem_set]
  by_cases h1 : b = i
  · rw [if_pos h1, if_neg (show ¬ b = j by omega)]
    by_cases h2 : a = j
    · rw [if_pos h2]; exact hne _ _ ha hb (by omega)
    · rw [if_neg h2]; exact hne _ _ ha hj h2
  · rw [if_neg h1]
    by_cases h3 : a = i
    · rw [if_pos h3]
      by_cases h2 : b = j
      · rw [if_pos h2]; exact hne _ _ hb ha (by omega)
      · rw [if_neg h2, if_neg (show ¬ a = j by omega)]; exact hne _ _ hb hj h2
    · rw [if_neg h3]
      by_cases h2 : b = j
      · rw [if_pos h2]; exact hne _ _ hi ha (Ne.symm h3)
      · rw [if_neg h2]
        by_cases h4 : a = j
        · rw [if_pos h4]; exact hne _ _ hi hb (Ne.symm h1)
        · rw [if_neg h4]; exact hne _ _ hi hj (by omega)
/-- two rows exchanged -/
def swR (rs : List RowRef) (a b : Nat) (ha : a < rs.length) (hb : b < rs.length) : List RowRef := (rs.set a rs[b]).set b rs[a]
theorem swR_length (rs : List RowRef) (a b : Nat) (ha : a < rs.length) (hb : b < rs.length) : (swR rs a b ha hb).length = rs.length := by simp [swR]
theorem swR_contents (rs : List RowRef) (a b : Nat) (ha : a < rs.length) (hb : b < rs.length) : contents (swR rs a b ha hb) = swapM (contents rs) a b := by
  unfold swR swapM contents
  rw [List.map_set, List.map_set]
  simp [List.getD, ha, hb]
theorem swR_at (rs : List RowRef) (a b : Nat) (ha : a < rs.length) (hb : b < rs.length) : (swR rs a b ha hb)[b]? = some rs[a] := by simp [swR, hb]
theorem OwnRows.swap {w : World} {B g cap : Nat} {rs : List RowRef} (h : OwnRows w B g cap rs) {a b : Nat} (ha : a < rs.length) (hb : b < rs.length) :
    OwnRows ((w.setCell ⟨g, a, none⟩ (rowVal rs[b])).setCell ⟨g, b, none⟩ (rowVal rs[a])) B g cap (swR rs a b ha hb) ∧ w.grownBy ((w.setCell ⟨g, a, none⟩ (rowVal rs[b])).setCell ⟨g, b, none⟩ (rowVal rs[a])) (some g) := by
  have s1 := h.1.set a (rowVal rs[b])
  have s2 := s1.1.set b (rowVal rs[a])
  have hgr := World.grownBy.trans' s1.2 s2.2
  have hrow : ∀ r ∈ rs, Own ((w.setCell ⟨g, a, none⟩ (rowVal rs[b])).setCell ⟨g, b, none⟩ (rowVal rs[a])) B r.1 r.2.1 r.2.2 := fun r hr =>
    (h.2.1 r hr).grown hgr (fun e => h.1.ne (h.2.1 r hr).toV (by decide) (Option.some.inj e).symm)
  refine ⟨⟨?_, fun r hr => ?_, ?_⟩, hgr⟩
  · have e : (swR rs a b ha hb).map rowVal = ((rs.map rowVal).set a (rowVal rs[b])).set b (rowVal rs[a]) := by unfold swR; rw [List.map_set, List.map_set]
    rw [e]; exact s2.1
  · unfold swR at hr
    rcases List.mem_or_eq_of_mem_set hr with q | q
    · rcases List.mem_or_eq_of_mem_set q with q | q
      · exact hrow r q
      · rw [q]; exact hrow _ (List.getElem_mem hb)
    · rw [q]; exact hrow _ (List.getElem_mem ha)
  · have e : (swR rs a b ha hb).map (·.1) = ((rs.map (·.1)).set a ((rs.map (·.1))[b]'(by simpa using hb))).set b ((rs.map (·.1))[a]'(by simpa using ha)) := by unfold swR; rw [List.map_set, List.map_set]; simp
    rw [e]
    exact nodup_swap h.2.2 (by simpa using ha) (by simpa using hb)
/-- a row replaced by a new one -/
theorem OwnRows.put {w : World} {B g cap : Nat} {rs : List RowRef} (h : OwnRows w B g cap rs) {i : Nat} (_hi : i < rs.length) {r : RowRef} (hr : Own w B r.1 r.2.1 r.2.2) (hn : ∀ s ∈ rs, s.1 ≠ r.1) :
    OwnRows (w.setCell ⟨g, i, none⟩ (rowVal r)) B g cap (rs.set i r) ∧ w.grownBy (w.setCell ⟨g, i, none⟩ (rowVal r)) (some g) := by
  have s1 := h.1.set i (rowVal r)
  have hk : ∀ s : RowRef, Own w B s.1 s.2.1 s.2.2 → Own (w.setCell ⟨g, i, none⟩ (rowVal r)) B s.1 s.2.1 s.2.2 := fun s hs => hs.grown s1.2 (fun e => h.1.ne hs.toV (by decide) (Option.some.inj e).symm)
  refine ⟨⟨by rw [List.map_set]; exact s1.1, fun s hs => ?_, ?_⟩, s1.2⟩
  · rcases List.mem_or_eq_of_mem_set hs with q | q
    · exact hk s (h.2.1 s q)
    · rw [q]; exact hk r hr
  · rw [List.map_set]
    have hp := List.pairwise_iff_getElem.1 h.2.2
    refine List.pairwise_iff_getElem.2 fun x y hx hy hxy => ?_
    simp only [List.length_set] at hx hy
    have hx' : x < rs.length := by simpa using hx
    have hy' : y < rs.length := by simpa using hy
    simp only [List.getElem_set, List.getElem_map]
    by_cases h1 : i = x
    · rw [if_pos h1, if_neg (show ¬ i = y by omega)]
      exact fun e => hn _ (List.getElem_mem hy') e.symm
    · rw [if_neg h1]
      by_cases h2 : i = y
      · rw [if_pos h2]; exact hn _ (List.getElem_mem hx')
      · rw [if_neg h2]
        have := hp x y hx hy hxy
        simpa using this
theorem OwnRows.grownR {w w' : World} {B g cap k : Nat} {rs : List RowRef} (h : OwnRows w B g cap rs) (hg : w.grownBy w' (some k)) (h1 : g ≠ k) (h2 : ∀ r ∈ rs, r.1 ≠ k) : OwnRows w' B g cap rs :=
  ⟨h.1.grown hg (by intro e; cases e; exact h1 rfl), fun r hr => (h.2.1 r hr).grown hg (by intro e; cases e; exact h2 r hr rfl), h.2.2⟩
theorem OwnRows.rowAt {w : World} {B g cap n : Nat} {rs : List RowRef} (h : OwnRows w B g cap rs) {M : Mx} (hc : contents rs = M) (hq : SqM M) (hn : M.length = n) {i : Nat} (hi : i < n) :
    ∃ gi ci, rs[i]? = some (gi, ci, M.getD i []) ∧ w.cell? ⟨g, i, none⟩ = some (Value.slice (some ⟨gi, 0, none⟩) n ci) ∧ Own w B gi ci (M.getD i []) ∧ (∀ j, j < n → w.cell? ⟨gi, j, none⟩ = some (.int .i64 (enM M i j))) := by
  have hl : rs.length = n := by rw [← hn, ← hc, contents_length]
  have hi' : i < rs.length := by omega
  have e : M.getD i [] = rs[i].2.2 := by rw [← hc]; simp [contents, List.getD, hi']
  have hlen : (M.getD i []).length = n := by rw [hq i (by omega), hn]
  have ho := h.2.1 _ (List.getElem_mem hi')
  refine ⟨rs[i].1, rs[i].2.1, by rw [e]; simp [hi'], ?_, by rw [e]; exact ho, fun j hj => ?_⟩
  · rw [h.1.cell i (by simpa using hi')]
    have hlen' : rs[i].2.2.length = n := by rw [← e]; exact hlen
    simp [rowVal, hlen']
  · have := ho.cell j (by rw [← e, hlen]; exact hj)
    rw [this]
    unfold enM
    rw [e]
end Go.Proofs.YtjhoimdfmcjkbaaGreatDoor
namespace Go.Proofs.YtjhoimdfmcjkbaaGreatDoor
set_option maxRecDepth 100000
open Go.RowKit

theorem negV_negV (r : List Int) : negV (negV r) = r := by
  unfold negV
  rw [List.map_map]
  exact (List.map_congr_left (fun x _ => by simp)).trans (List.map_id r)
theorem negV_at (r : List Int) (j : Nat) : (negV r).getD j 0 = -(r.getD j 0) := by
  unfold negV
  by_cases h : j < r.length <;> simp [List.getD, h]
/-- a root or its negative -/
def RtIn (S : List (List Int)) (r : List Int) : Prop := r ∈ S ∨ negV r ∈ S
theorem rootsOkS_parts {c S : List (List Int)} (h : rootsOkS c S = true) : (∀ r ∈ S, (∀ x ∈ r, 0 ≤ x ∧ x ≤ 12) ∧ ∀ i, i < c.length → rootAt c S r i = true) ∧ ∀ i, i < c.length → simpL c.length i ∈ S := by
  unfold rootsOkS at h
  simp only [Bool.and_eq_true, List.all_eq_true, List.mem_range, decide_eq_true_eq, List.contains_iff_mem] at h
  exact ⟨fun r hr => ⟨(h.1 r hr).1, (h.1 r hr).2⟩, h.2⟩
theorem RtIn.step {c S : List (List Int)} (h : rootsOkS c S = true) {r : List Int} (hr : RtIn S r) {i : Nat} (hi : i < c.length) : RtIn S (mirL c i r) := by
  obtain ⟨h1, -⟩ := rootsOkS_parts h
  rcases hr with hr | hr
  · have := (h1 r hr).2 i hi
    unfold rootAt at this
    split at this
    · simp only [Bool.and_eq_true, decide_eq_true_eq] at this
      exact .inr (by rw [this.1, negV_negV]; exact hr)
    · simp only [Bool.and_eq_true, List.contains_iff_mem] at this
      exact .inl this.1
  · have := (h1 _ hr).2 i hi
    unfold rootAt at this
    rw [negV_negV] at this
    split at this
    · simp only [Bool.and_eq_true, decide_eq_true_eq] at this
      exact .inl (by rw [this.2]; exact hr)
    · simp only [Bool.and_eq_true, List.contains_iff_mem] at this
      exact .inr this.2
theorem RtIn.act {c S : List (List Int)} (h : rootsOkS c S = true) {i : Nat} (hi : i < c.length) : ∀ (l : List Int), (∀ x ∈ l, 0 ≤ x ∧ x < (c.length : Int)) → RtIn S (actR c l (simpL c.length i))
  | [], _ => .inl ((rootsOkS_parts h).2 i hi)
  | x :: l, hl => by
    have hx := hl x (List.mem_cons_self ..)
    exact (RtIn.act h hi l (fun y hy => hl y (List.mem_cons_of_mem _ hy))).step h (by omega)
theorem RtIn.small {c S : List (List Int)} (h : rootsOkS c S = true) {r : List Int} (hr : RtIn S r) (j : Nat) : (r.getD j 0).natAbs ≤ 12 := by
  obtain ⟨h1, -⟩ := rootsOkS_parts h
  have key : ∀ s ∈ S, (s.getD j 0).natAbs ≤ 12 := fun s hs => by
    by_cases hj : j < s.length
    · have := (h1 s hs).1 s[j] (List.getElem_mem hj)
      have e : s.getD j 0 = s[j] := by simp [List.getD, hj]
      rw [e]; omega
    · simp [List.getD, hj]
  rcases hr with hr | hr
  · exact key r hr
  · have := key _ hr
    rw [negV_at] at this
    omega

def fixRow (c : List (List Int)) (l : List Int) (i : Nat) : List Int := (List.range c.length).map fun k => (actR c l (simpL c.length i)).getD k 0 - (simpL c.length i).getD k 0
def fixM (c : List (List Int)) (l : List Int) : Mx := (List.range c.length).map fun i => fixRow c l i
theorem fixRow_length (c : List (List Int)) (l : List Int) (i : Nat) : (fixRow c l i).length = c.length := by simp [fixRow]
theorem fixM_length (c : List (List Int)) (l : List Int) : (fixM c l).length = c.length := by simp [fixM]
theorem fixM_at {c : List (List Int)} {l : List Int} {i : Nat} (hi : i < c.length) : (fixM c l).getD i [] = fixRow c l i := by simp [fixM, List.getD, hi]
theorem fixM_sq (c : List (List Int)) (l : List Int) : SqM (fixM c l) := fun i hi => by
  rw [fixM_length] at hi ⊢
  rw [fixM_at hi, fixRow_length]
theorem simpL_small (n i k : Nat) : ((simpL n i).getD k 0).natAbs ≤ 1 := by
  unfold simpL
  by_cases h : k < n
  · simp only [List.getD, List.getElem?_set, List.getElem?_replicate, List.length_replicate]
    by_cases e : i = k
    · subst e; simp [h]
    · simp [e, h]
  · simp [List.getD, h]
theorem fix_terms {c : List (List Int)} {l : List Int} (hC : IsC c) (hf : finB c = true) (hl : ∀ x ∈ l, 0 ≤ x ∧ x < (c.length : Int)) {i : Nat} (hi : i < c.length) (k : Nat) :
    ((actR c l (simpL c.length i)).getD k 0).natAbs ≤ 12 ∧ ((simpL c.length i).getD k 0).natAbs ≤ 1 :=
  ⟨(RtIn.act (rt_fin hC hf) hi l hl).small (rt_fin hC hf) k, simpL_small _ _ _⟩
theorem fixM_bnd {c : List (List Int)} {l : List Int} (hC : IsC c) (hf : finB c = true) (hl : ∀ x ∈ l, 0 ≤ x ∧ x < (c.length : Int)) : BndM (bdN 0) (fixM c l) := fun i j => by
  show _ ≤ 13
  by_cases hi : i < c.length
  · have e : enM (fixM c l) i j = ((fixM c l).getD i []).getD j 0 := rfl
    rw [e, fixM_at hi]
    by_cases hj : j < c.length
    · unfold fixRow
      rw [getD_rangeM hj]
      obtain ⟨h1, h2⟩ := fix_terms hC hf hl hi j
      omega
    · rw [getD_out (by rw [fixRow_length]; omega)]; simp
  · have e : enM (fixM c l) i j = 0 := by
      unfold enM
      have : (fixM c l).getD i [] = [] := by simp [List.getD, List.getElem?_eq_none (show (fixM c l).length ≤ i by rw [fixM_length]; omega)]
      rw [this]; rfl
    rw [e]; simp
theorem fixRow_put {c : List (List Int)} {l : List Int} {i : Nat} (hi : i < c.length) : (actR c l (simpL c.length i)).set i ((actR c l (simpL c.length i)).getD i 0 - 1) = fixRow c l i := by
  have hlen : (actR c l (simpL c.length i)).length = c.length := by rw [actR_length, simpL_length]
  apply List.ext_getElem (by rw [List.length_set, hlen, fixRow_length])
  intro k h1 h2
  rw [List.length_set, hlen] at h1
  rw [List.getElem_set]
  simp only [fixRow, List.getElem_map, List.getElem_range]
  have es : (simpL c.length i).getD k 0 = if i = k then 1 else 0 := by
    unfold simpL
    simp only [List.getD, List.getElem?_set, List.getElem?_replicate, List.length_replicate]
    by_cases e : i = k
    · subst e; simp [hi]
    · simp [e, h1]
  rw [es]
  by_cases e : i = k
  · subst e; rw [if_pos rfl, if_pos rfl]
  · rw [if_neg e, if_neg e]
    simp [List.getD, hlen, h1]
theorem rankGo_le (row : Mx → Nat → Nat → Nat → List Int) : ∀ (f col r : Nat) (M : Mx), rankGo row f col r M ≤ r + f
  | 0, _, _, _ => Nat.le_refl _
  | f + 1, col, r, M => by
    unfold rankGo
    split
    · have := rankGo_le row f (col + 1) r M; omega
    · have := rankGo_le row f (col + 1) (r + 1) (elim row (swapM M (pivM M r col) r) r col M.length); omega
theorem rankS_le (M : Mx) : rankS M ≤ M.length := by have := rankGo_le rowS M.length 0 0 M; unfold rankS; omega
/-- FixedRank and AbsoluteLength -/
def absN (c : List (List Int)) (l : List Int) : Nat := rankS (fixM c l)
theorem absN_le (c : List (List Int)) (l : List Int) : absN c l ≤ c.length := by have := rankS_le (fixM c l); rw [fixM_length] at this; exact this
def fixA (c : List (List Int)) (l : List Int) : Int := if isWordB c l = true ∧ finB c = true then (c.length : Int) - absN c l else -1
def absA (c : List (List Int)) (l : List Int) : Int := if isWordB c l = true ∧ finB c = true then absN c l else -1
end Go.Proofs.YtjhoimdfmcjkbaaGreatDoor
