/- append of one integer inside a region that draws its order (for go_region_held3). Reflections of weights: contracts. IsSymmetric: contracts. -/
import Derived.Test.YtihfbbpkgmkbcaaBase
import Derived.Deep.RegionHeld3
import Derived.Deep.DrawnRows
import Derived.Test.YtihfbbpkgmkbcaaG06
import Derived.StillTailTactics
import Derived.Test.YtihfbbpkgmkbcaaArg
namespace Go.Proofs.Ytihfbbpkgmkbcaa
set_option maxRecDepth 100000
open Go.RowKit

theorem step_append_int {ops : Array Oper} {w : World} {o : Oper} {a : Act} {K : Act → World → Prop} {Q : Exit → Act → World → Prop} {E : Prop} (hgd : o.guard = none) (s x : Operand)
    (ho : o.op = .call { callee := .builtin .append, args := #[s, x], argTypes := #[35, 35] })
    (B g cap n H : Nat) (xs : List Int) (z : Int) (W : World) (hn : xs.length = n) (hW : W = w.alloc (.cells #[.int .i64 z] 3)) (hH : w.heap.size = H) (hown : Own w B g cap xs) (hs : a.eval s = (Value.slice (some ⟨g, 0, none⟩) n cap)) (hx : a.eval x = (Value.slice (some ⟨H, 0, none⟩) 1 1)) (hlen : n + 1 ≤ 1099511627776)
    (h : ∀ g' cap' w', Own w' B g' cap' (xs ++ [z]) → w.grownBy w' (some g) → (g' = g ∨ w.heap.size < g') → K (a.put o.dst (Value.slice (some ⟨g', 0, none⟩) (n + 1) cap')) w') :
    if Region.wanted o (yielded ops a.tmps) = true then Oper.wp Try.prog o a W K Q else E := by
  subst hn; subst hH; subst hW
  have hw : Region.wanted o (yielded ops a.tmps) = true := by simp [Region.wanted, hgd]
  rw [if_pos hw]
  obtain ⟨g', cap', w', hr, h1, h2, h3⟩ := run_append_ints (hown.alloc (.cells #[.int .i64 z] 3)) (Own.new (B := w.heap.size) z (Nat.le_refl _)).cells (c2 := 1) hlen o.type
  have hgr : w.grownBy w' (some g) := ⟨h2.os, h2.tape, h2.output, Nat.le_trans (by simp) h2.size, fun k hk hne => (h2.block k (by simp; omega) hne).trans (Below.heap_alloc _ _ _ hk)⟩
  have hx' : a.eval x = (Value.slice (some ⟨w.heap.size, 0, none⟩) ([z].length) 1) := hx
  unfold Oper.wp execOp
  simp only [ho, resolve, invoke, builtin, Sem.run_bind, Sem.run_pure, Result.andThen_ok, List.map_toArray, List.map_cons, List.map_nil, hs, hx', hr]
  exact h g' cap' w' h1 hgr (h3.imp id (by simp; omega))
end Go.Proofs.Ytihfbbpkgmkbcaa
namespace Go.Proofs.Ytihfbbpkgmkbcaa
set_option maxRecDepth 100000
open Go.RowKit

/-- a number of a reflected weight -/
def reflAt (c : List (List Int)) (i : Nat) (v : List Int) (k : Nat) : Int := wrap64 (v.getD k 0 - wrap64 (v.getD i 0 * ent c k i))
def refl (c : List (List Int)) (i : Nat) (v : List Int) : List Int := (List.range v.length).map (reflAt c i v)
/-- the first k reflected -/
def reflTo (c : List (List Int)) (i : Nat) (v : List Int) (k : Nat) : List Int := (List.range k).map (reflAt c i v) ++ v.drop k
theorem refl_length (c : List (List Int)) (i : Nat) (v : List Int) : (refl c i v).length = v.length := by simp [refl]
theorem reflTo_length {c : List (List Int)} {i : Nat} {v : List Int} {k : Nat} (hk : k ≤ v.length) : (reflTo c i v k).length = v.length := by simp [reflTo]; omega
theorem reflTo_at {c : List (List Int)} {i : Nat} {v : List Int} {k : Nat} (_hk : k < v.length) : (reflTo c i v k).getD k 0 = v.getD k 0 := by
  simp [reflTo, List.getD, List.getElem?_append_right]
theorem reflTo_succ {c : List (List Int)} {i : Nat} {v : List Int} {k : Nat} (hk : k < v.length) : (reflTo c i v k).set k (reflAt c i v k) = reflTo c i v (k + 1) := by
  unfold reflTo
  rw [List.set_append_right _ _ (by simp)]
  have e : v.drop k = v[k] :: v.drop (k + 1) := List.drop_eq_getElem_cons hk
  rw [List.length_map, List.length_range, Nat.sub_self, e, List.set_cons_zero, List.range_succ, List.map_append, List.append_assoc]
  rfl
theorem reflTo_zero (c : List (List Int)) (i : Nat) (v : List Int) : reflTo c i v 0 = v := by simp [reflTo]
theorem reflTo_all (c : List (List Int)) (i : Nat) (v : List Int) : reflTo c i v v.length = refl c i v := by simp [reflTo, refl]

def reflOk (c : List (List Int)) (i : Int) (v : List Int) : Prop := IsC c ∧ v.length = c.length ∧ 0 ≤ i ∧ i < c.length
instance (c : List (List Int)) (i : Int) (v : List Int) : Decidable (reflOk c i v) := by unfold reflOk; infer_instance
def reflW (c : List (List Int)) (i : Int) (v : List Int) : List Int := if reflOk c i v then refl c i.toNat v else v
theorem reflW_length (c : List (List Int)) (i : Int) (v : List Int) : (reflW c i v).length = v.length := by unfold reflW; split <;> simp [refl_length]

theorem impl_isPoint_any (gc oc n cc : Nat) (i : Int) (w : World) : Calls Try.prog 34 #[(Value.slice (some ⟨gc, oc, none⟩) n cc), .int .i64 i] w (Reads w (.bool (decide (0 ≤ i) && decide (i < n)))) := by
  by_cases h : 0 ≤ i
  · have h' : decide (0 ≤ i) = true := decide_eq_true h
    rw [h']
    go_enter Try.func34, Try.ntmps34
    go_wp2
    go_ret
    exact ⟨rfl, 0, rfl⟩
  · have h' : decide (0 ≤ i) = false := decide_eq_false h
    rw [h']
    go_enter Try.func34, Try.ntmps34
    go_wp2
    go_ret
    exact ⟨rfl, 0, rfl⟩

theorem refl_succ_to {c : List (List Int)} {i : Nat} {v : List Int} {k : Nat} : (List.range (k + 1)).map (reflAt c i v) = (List.range k).map (reflAt c i v) ++ [reflAt c i v k] := by
  rw [List.range_succ, List.map_append]; rfl

attribute [local go_sem ↓] Go.wp_at_zero Go.wp_at_succ
end Go.Proofs.Ytihfbbpkgmkbcaa
namespace Go.Proofs.Ytihfbbpkgmkbcaa
set_option maxRecDepth 100000
open Go.RowKit

def rowSym (c : List (List Int)) (l : List Wt) (j k : Nat) : Prop := ∀ i, i < k → countIn l (reflW c (i : Int) (wOf l j)) = ctOf l j
def symAll (c : List (List Int)) (l : List Wt) : Prop := IsC c ∧ ∀ j, j < l.length → rowSym c l j c.length
instance (c : List (List Int)) (l : List Wt) (j k : Nat) : Decidable (rowSym c l j k) := by unfold rowSym; infer_instance
instance (c : List (List Int)) (l : List Wt) : Decidable (symAll c l) := by unfold symAll; infer_instance
def symB (c : List (List Int)) (l : List Wt) : Bool := decide (symAll c l)
theorem symB_true {c : List (List Int)} {l : List Wt} (h : symAll c l) : symB c l = true := decide_eq_true h
theorem symB_false {c : List (List Int)} {l : List Wt} (h : ¬ symAll c l) : symB c l = false := decide_eq_false h
attribute [local go_sem ↓] Go.wp_at_zero Go.wp_at_succ
def symTo (c : List (List Int)) (l : List Wt) (i : Nat) : Prop := ∀ j, j < l.length → rowSym c l j i
theorem symTo_step {c : List (List Int)} {l : List Wt} {i : Nat} (h : symTo c l i) (h2 : ∀ j, j < l.length → countIn l (reflW c (i : Int) (wOf l j)) = ctOf l j) : symTo c l (i + 1) := by
  intro j hj t ht
  by_cases e : t = i
  · subst e; exact h2 j hj
  · exact h j hj t (by omega)

end Go.Proofs.Ytihfbbpkgmkbcaa
