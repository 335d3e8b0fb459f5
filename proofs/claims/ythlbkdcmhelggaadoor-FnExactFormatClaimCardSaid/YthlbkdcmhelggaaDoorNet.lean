/- Networks: l1In, l33Fine, isNetwork: contracts. -/
import Derived.Test.YthlbkdcmhelggaaDoorBase
namespace Go.Proofs.YthlbkdcmhelggaaDoor
open Go.RowKit

/-- the letters of a network on n elements -/
def net (n : Int) (ws : List Int) : Bool := decide (1 ≤ n ∧ n ≤ 5 ∧ ws.length ≤ 15 ∧ ∀ i ∈ ws, 0 ≤ i ∧ i ≤ n - 2)

set_option maxHeartbeats 400000 in
theorem spec_l1In_any (x lo hi : Int) (w : World) :
    Calls Tryd.prog 27 #[.int .i64 x, .int .i64 lo, .int .i64 hi] w (Reads w (.bool (decide (lo ≤ x ∧ x ≤ hi)))) := by
  by_cases h : lo ≤ x
  · have d : decide (lo ≤ x) = true := by simpa using h
    go_enter Tryd.func27, Tryd.ntmps27
    go_wp2
    go_ret
    exact ⟨ret_bool (by simp [h]), 0, rfl⟩
  · have d : decide (lo ≤ x) = false := by simpa using h
    go_enter Tryd.func27, Tryd.ntmps27
    go_wp2
    go_ret
    exact ⟨ret_bool (by simp), 0, rfl⟩

theorem net_long {n : Int} {ws : List Int} (h : 15 < ws.length) : net n ws = false := by
  unfold net
  rw [decide_eq_false_iff_not]
  rintro ⟨_, _, h3, _⟩
  omega
theorem net_bad {n : Int} {ws : List Int} {k : Nat} (hk : k < ws.length) (h : ws[k] < 0 ∨ n - 2 < ws[k]) : net n ws = false := by
  unfold net
  rw [decide_eq_false_iff_not]
  rintro ⟨_, _, _, h4⟩
  have := h4 ws[k] (List.getElem_mem hk)
  omega
theorem net_true {n : Int} {ws : List Int} (h1 : 1 ≤ n) (h2 : n ≤ 5) (h3 : ws.length ≤ 15) (h : ∀ j (hj : j < ws.length), 0 ≤ ws[j] ∧ ws[j] ≤ n - 2) : net n ws = true := by
  unfold net
  rw [decide_eq_true_eq]
  refine ⟨h1, h2, h3, fun i hi => ?_⟩
  obtain ⟨j, hj, rfl⟩ := List.getElem_of_mem hi
  exact h j hj

end Go.Proofs.YthlbkdcmhelggaaDoor
