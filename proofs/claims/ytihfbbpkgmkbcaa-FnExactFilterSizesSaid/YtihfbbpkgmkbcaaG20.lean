/- Demazure steps: what a step puts. Plain law. -/
import Derived.Test.YtihfbbpkgmkbcaaG19
import Derived.Test.YtihfbbpkgmkbcaaCart
namespace Go.Proofs.Ytihfbbpkgmkbcaa
set_option maxRecDepth 100000
open Game

/-- a weight of n small numbers with a small count -/
def okW (n : Nat) (x : Wt) : Prop := x.1.length = n ∧ (-1000 ≤ x.2 ∧ x.2 ≤ 1000) ∧ ∀ j, j < x.1.length → -20 ≤ x.1.getD j 0 ∧ x.1.getD j 0 ≤ 20
def goodL (n : Nat) (l : List Wt) : Prop := l.length ≤ 200 ∧ ∀ j, j < l.length → okW n (l.getD j ([], 0))
instance (n : Nat) (x : Wt) : Decidable (okW n x) := by unfold okW; infer_instance
instance (n : Nat) (l : List Wt) : Decidable (goodL n l) := by unfold goodL; infer_instance
theorem good_no {n : Nat} {l : List Wt} {k : Nat} (hk : k < l.length) (h : ¬ okW n (l.getD k ([], 0))) : decide (goodL n l) = false := decide_eq_false fun h2 => h (h2.2 k hk)
theorem goodL.mem {n : Nat} {l : List Wt} (h : goodL n l) {x : Wt} (hx : x ∈ l) : okW n x := by
  obtain ⟨j, hj, rfl⟩ := List.mem_iff_getElem.1 hx
  have := h.2 j hj
  simpa [List.getD, hj] using this
/-- a weight and a multiple of another one -/
def shiftL (v r : List Int) (k : Int) : List Int := (List.range v.length).map fun j => v.getD j 0 + k * r.getD j 0
theorem shiftL_length (v r : List Int) (k : Int) : (shiftL v r k).length = v.length := by simp [shiftL]
theorem shiftL_getD (v r : List Int) (k : Int) {j : Nat} (hj : j < v.length) : (shiftL v r k).getD j 0 = v.getD j 0 + k * r.getD j 0 := by simp [shiftL, List.getD, hj]
/-- what a step puts at a weight: going down, going up -/
def downT (r : List Int) (_i : Nat) (x : Wt) (n : Nat) : List Wt := (List.range n).map fun (m : Nat) => (shiftL x.1 r (-(m : Int)), x.2)
def upT (r : List Int) (x : Wt) (n : Nat) : List Wt := (List.range n).map fun (m : Nat) => (shiftL x.1 r ((m : Int) + 1), -x.2)
def nDown (i : Nat) (x : Wt) : Nat := (x.1.getD i 0 + 1).toNat
def nUp (i : Nat) (x : Wt) : Nat := (-(x.1.getD i 0) - 1).toNat
def demT (r : List Int) (i : Nat) (x : Wt) : List Wt := downT r i x (nDown i x) ++ upT r x (nUp i x)
theorem downT_succ (r : List Int) (i : Nat) (x : Wt) (n : Nat) : downT r i x (n + 1) = downT r i x n ++ [(shiftL x.1 r (-(n : Int)), x.2)] := by simp [downT, List.range_succ]
theorem upT_succ (r : List Int) (x : Wt) (n : Nat) : upT r x (n + 1) = upT r x n ++ [(shiftL x.1 r ((n : Int) + 1), -x.2)] := by simp [upT, List.range_succ]
theorem demT_up (r : List Int) {i : Nat} {x : Wt} (h : x.1.getD i 0 < 0) : demT r i x = upT r x (nUp i x) := by
  unfold demT
  have : nDown i x = 0 := by unfold nDown; omega
  rw [this]; rfl
theorem demT_down (r : List Int) {i : Nat} {x : Wt} (h : 0 ≤ x.1.getD i 0) : demT r i x = downT r i x (nDown i x) := by
  unfold demT
  have : nUp i x = 0 := by unfold nUp; omega
  rw [this]; simp [upT]
theorem demT_length {r : List Int} {i n : Nat} {x : Wt} (h : okW n x) : (demT r i x).length ≤ 21 := by
  have hi : -20 ≤ x.1.getD i 0 ∧ x.1.getD i 0 ≤ 20 := by
    by_cases hj : i < x.1.length
    · exact h.2.2 i hj
    · have : x.1.getD i 0 = 0 := by simp [List.getD, hj]
      omega
  unfold demT
  simp only [List.length_append, downT, upT, List.length_map, List.length_range, nDown, nUp]
  omega
theorem demT_len {r : List Int} {i n : Nat} {x : Wt} (h : okW n x) : LenW n (demT r i x) := fun y hy => by
  rcases List.mem_append.1 hy with hy | hy
  · obtain ⟨m, -, rfl⟩ := List.mem_map.1 hy
    show (shiftL _ _ _).length = n
    rw [shiftL_length]; exact h.1
  · obtain ⟨m, -, rfl⟩ := List.mem_map.1 hy
    show (shiftL _ _ _).length = n
    rw [shiftL_length]; exact h.1
theorem demT_ct {r : List Int} {i n : Nat} {x : Wt} (h : okW n x) : CtW 1000 (demT r i x) := fun y hy => by
  have hc := h.2.1
  rcases List.mem_append.1 hy with hy | hy
  · obtain ⟨m, -, rfl⟩ := List.mem_map.1 hy
    exact hc
  · obtain ⟨m, -, rfl⟩ := List.mem_map.1 hy
    show -1000 ≤ -x.2 ∧ -x.2 ≤ 1000
    omega
/-- all that a step puts -/
def demP (r : List Int) (i : Nat) (l : List Wt) : List Wt := l.flatMap (demT r i)
structure PutOk (n : Nat) (N : Nat) (l : List Wt) : Prop where
  few : l.length ≤ N
  len : LenW n l
  ct : CtW 1000 l
theorem demP_ok {r : List Int} {i n : Nat} : ∀ {l : List Wt}, (∀ x ∈ l, okW n x) → PutOk n (l.length * 21) (demP r i l)
  | [], _ => ⟨by simp [demP], by intro x hx; simp [demP] at hx, by intro x hx; simp [demP] at hx⟩
  | x :: l, h => by
    have ih := demP_ok (r := r) (i := i) (l := l) fun y hy => h y (by simp [hy])
    have hx := h x (by simp)
    have h1 := demT_length (r := r) (i := i) hx
    have e : demP r i (x :: l) = demT r i x ++ demP r i l := rfl
    rw [e]
    refine ⟨by rw [List.length_append]; have := ih.few; simp; omega, fun y hy => ?_, fun y hy => ?_⟩
    · rcases List.mem_append.1 hy with hy | hy
      · exact demT_len hx y hy
      · exact ih.len y hy
    · rcases List.mem_append.1 hy with hy | hy
      · exact demT_ct hx y hy
      · exact ih.ct y hy
theorem PutOk.app {n N M : Nat} {a b : List Wt} (h : PutOk n N a) (h2 : PutOk n M b) : PutOk n (N + M) (a ++ b) :=
  ⟨by rw [List.length_append]; have := h.few; have := h2.few; omega, fun y hy => by
    rcases List.mem_append.1 hy with hy | hy
    · exact h.len y hy
    · exact h2.len y hy, fun y hy => by
    rcases List.mem_append.1 hy with hy | hy
    · exact h.ct y hy
    · exact h2.ct y hy⟩
/-- what has been put up to there, with the bounds that the next put wants -/
theorem PutOk.canW {n N : Nat} {l : List Wt} (h : PutOk n N l) (hN : N ≤ 5000) : LenW n (canW l) ∧ Desc (canW l) ∧ CtW 1000000000000000000 (canW l) ∧ (canW l).length ≤ 5000 := by
  have h2 := ctW_canW (K := 1000) (by omega) h.ct
  have h1 := h.few
  have h3 := canW_length l
  exact ⟨lenW_canW h.len, canW_desc l, h2.mono (by omega), by omega⟩
theorem demP_take_succ {r : List Int} {i : Nat} {l : List Wt} {k : Nat} (hk : k < l.length) : demP r i (l.take (k + 1)) = demP r i (l.take k) ++ demT r i (l.getD k ([], 0)) := by
  have e : l.take (k + 1) = l.take k ++ [l[k]] := List.take_succ_eq_append_getElem hk
  have e2 : l.getD k ([], 0) = l[k] := by simp [List.getD, hk]
  rw [e, e2]
  unfold demP
  rw [List.flatMap_append, List.flatMap_cons, List.flatMap_nil, List.append_nil]
/-- the other way about: from the lowest -/
def riseT (r : List Int) (i : Nat) (x : Wt) (n : Nat) : List Wt := (List.range n).map fun (m : Nat) => (shiftL x.1 r (-(x.1.getD i 0) + (m : Int)), x.2)
theorem riseT_succ (r : List Int) (i : Nat) (x : Wt) (n : Nat) : riseT r i x (n + 1) = riseT r i x n ++ [(shiftL x.1 r (-(x.1.getD i 0) + (n : Int)), x.2)] := by simp [riseT, List.range_succ]
def demU (r : List Int) (i : Nat) (x : Wt) : List Wt := riseT r i x (nDown i x) ++ upT r x (nUp i x)
theorem demU_up (r : List Int) {i : Nat} {x : Wt} (h : x.1.getD i 0 < 0) : demU r i x = upT r x (nUp i x) := by
  unfold demU
  have : nDown i x = 0 := by unfold nDown; omega
  rw [this]; rfl
theorem demU_down (r : List Int) {i : Nat} {x : Wt} (h : 0 ≤ x.1.getD i 0) : demU r i x = riseT r i x (nDown i x) := by
  unfold demU
  have : nUp i x = 0 := by unfold nUp; omega
  rw [this]; simp [upT]
theorem rise_down (r : List Int) (i : Nat) (x : Wt) : (riseT r i x (nDown i x)).Perm (downT r i x (nDown i x)) := by
  have e : riseT r i x (nDown i x) = (downT r i x (nDown i x)).reverse := by
    apply List.ext_getElem (by simp [riseT, downT])
    intro t h1 h2
    have ht : t < nDown i x := by simpa [riseT] using h1
    rw [List.getElem_reverse]
    simp only [riseT, downT, List.getElem_map, List.getElem_range, List.length_map, List.length_range]
    have e2 : -(x.1.getD i 0) + (t : Int) = -((nDown i x - 1 - t : Nat) : Int) := by
      unfold nDown at ht ⊢
      omega
    rw [e2]
  rw [e]
  exact List.reverse_perm _
theorem demU_perm (r : List Int) (i : Nat) (x : Wt) : (demU r i x).Perm (demT r i x) := (rise_down r i x).append_right _
def demQ (r : List Int) (i : Nat) (l : List Wt) : List Wt := l.flatMap (demU r i)
theorem demQ_perm (r : List Int) (i : Nat) : ∀ l : List Wt, (demQ r i l).Perm (demP r i l)
  | [] => List.Perm.refl _
  | x :: l => (demU_perm r i x).append (demQ_perm r i l)
theorem canW_perm {l m : List Wt} (h : l.Perm m) : canW l = canW m := ((can_canW l).perm h).uniq (can_canW m)
theorem demQ_take_succ {r : List Int} {i : Nat} {l : List Wt} {k : Nat} (hk : k < l.length) : demQ r i (l.take (k + 1)) = demQ r i (l.take k) ++ demU r i (l.getD k ([], 0)) := by
  have e : l.take (k + 1) = l.take k ++ [l[k]] := List.take_succ_eq_append_getElem hk
  have e2 : l.getD k ([], 0) = l[k] := by simp [List.getD, hk]
  rw [e, e2]
  unfold demQ
  rw [List.flatMap_append, List.flatMap_cons, List.flatMap_nil, List.append_nil]
theorem PutOk.perm {n N : Nat} {l m : List Wt} (h : PutOk n N l) (hp : m.Perm l) : PutOk n N m :=
  ⟨by rw [hp.length_eq]; exact h.few, fun x hx => h.len x (hp.mem_iff.1 hx), fun x hx => h.ct x (hp.mem_iff.1 hx)⟩
/-- a column -/
def colL (c : List (List Int)) (i : Nat) : List Int := (List.range c.length).map fun k => (c.getD k []).getD i 0
theorem colL_length (c : List (List Int)) (i : Nat) : (colL c i).length = c.length := by simp [colL]
theorem colL_getD (c : List (List Int)) (i : Nat) {k : Nat} (hk : k < c.length) : (colL c i).getD k 0 = (c.getD k []).getD i 0 := by simp [colL, List.getD, hk]
/-- a step -/
def demOk (c : List (List Int)) (i : Int) (l : List Wt) : Prop := IsC c ∧ (0 ≤ i ∧ i < c.length) ∧ goodL c.length l
instance (c : List (List Int)) (i : Int) (l : List Wt) : Decidable (demOk c i l) := by unfold demOk; infer_instance
def demB (c : List (List Int)) (i : Int) (l : List Wt) : Bool := decide (demOk c i l)
def demL (c : List (List Int)) (i : Int) (l : List Wt) : List Wt := if demOk c i l then canW (demP (colL c i.toNat) i.toNat l) else []
theorem demL_yes {c : List (List Int)} {i : Int} {l : List Wt} (h : demOk c i l) : demL c i l = canW (demP (colL c i.toNat) i.toNat l) ∧ demB c i l = true := ⟨if_pos h, decide_eq_true h⟩
theorem demL_no {c : List (List Int)} {i : Int} {l : List Wt} (h : ¬ demOk c i l) : demL c i l = [] ∧ demB c i l = false := ⟨if_neg h, decide_eq_false h⟩
end Go.Proofs.Ytihfbbpkgmkbcaa
