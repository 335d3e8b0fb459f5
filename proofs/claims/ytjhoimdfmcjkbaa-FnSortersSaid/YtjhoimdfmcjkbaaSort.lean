/- SortStep and SortBy, the program's and the reference's: contracts. -/
import Derived.Test.YtjhoimdfmcjkbaaBase
namespace Go.Proofs.Ytjhoimdfmcjkbaa
set_option maxRecDepth 100000
open Go.RowKit

def swapAt (xs : List Int) (k : Nat) : List Int := (xs.set k (xs.getD (k + 1) 0)).set (k + 1) (xs.getD k 0)
def sortStep (xs : List Int) (i : Int) : List Int := if 0 ≤ i ∧ i + 1 < xs.length ∧ xs.getD (i.toNat + 1) 0 < xs.getD i.toNat 0 then swapAt xs i.toNat else xs
theorem swapAt_length (xs : List Int) (k : Nat) : (swapAt xs k).length = xs.length := by simp [swapAt]
theorem sortStep_length (xs : List Int) (i : Int) : (sortStep xs i).length = xs.length := by unfold sortStep; split <;> simp [swapAt]

theorem Own.swap {w : World} {B g cap : Nat} {xs : List Int} (h : Own w B g cap xs) (k : Nat) (a b : Int) :
    Own ((w.setCell ⟨g, k, none⟩ (.int .i64 a)).setCell ⟨g, k + 1, none⟩ (.int .i64 b)) B g cap ((xs.set k a).set (k + 1) b) ∧ w.grownBy ((w.setCell ⟨g, k, none⟩ (.int .i64 a)).setCell ⟨g, k + 1, none⟩ (.int .i64 b)) (some g) :=
  ⟨((h.set k a).1.set (k + 1) b).1, World.grownBy.trans' (h.set k a).2 ((h.set k a).1.set (k + 1) b).2⟩

theorem step_yes {xs : List Int} {k : Nat} (h1 : k + 1 < xs.length) (h2 : xs[k + 1] < xs[k]'(by omega)) : sortStep xs (k : Int) = (xs.set k xs[k + 1]).set (k + 1) (xs[k]'(by omega)) := by
  have h0 : k < xs.length := by omega
  unfold sortStep
  rw [if_pos ⟨by omega, by omega, by simpa [List.getD, h0, h1] using h2⟩]
  simp [swapAt, List.getD, h0, h1]
theorem step_no {xs : List Int} {k : Nat} (h1 : k + 1 < xs.length) (h2 : ¬ xs[k + 1] < xs[k]'(by omega)) : sortStep xs (k : Int) = xs := by
  have h0 : k < xs.length := by omega
  unfold sortStep
  rw [if_neg (fun h => h2 (by simpa [List.getD, h0, h1] using h.2.2))]
theorem step_out {xs : List Int} {i : Int} (h : ¬ (0 ≤ i ∧ i + 1 < xs.length)) : sortStep xs i = xs := by
  unfold sortStep
  rw [if_neg (fun h' => h ⟨h'.1, h'.2.1⟩)]

set_option maxHeartbeats 400000 in
theorem impl_SortStep_any (g o n c : Nat) (xs : List Int) (i : Int) (w : World) (hn : xs.length = n) (hx : xs.length ≤ 1048576) (hg : g < w.heap.size) (hc : Cells w g o xs) :
    Calls Try.prog 26 #[(Value.slice (some ⟨g, o, none⟩) n c), .int .i64 i] w (GotInts w (sortStep xs i)) := by
  subst hn
  have e0 : IntKind.i64.wrap ((xs.length : Int) - 1) = (xs.length : Int) - 1 := IntWalk.i64_in _ (by omega)
  by_cases hi : 0 ≤ i
  · obtain ⟨k, rfl⟩ : ∃ k : Nat, i = (k : Int) := ⟨i.toNat, by omega⟩
    have d1 : decide ((0 : Int) ≤ (k : Int)) = true := by simp
    by_cases hlt : k + 1 < xs.length
    · go_enter Try.func26, Try.ntmps26
      go_wp2_with (at_builtin; refine wpList_clone rfl _ _ rfl g o _ c xs rfl hg hc rfl rfl (by omega) ?_)
      intro g1 c1 w1 ho hb
      have hk0 : k < xs.length := by omega
      have h1 := ho.cell k hk0
      have h2 := ho.cell (k + 1) hlt
      have f1 := ho.frozen k
      have f2 := ho.frozen (k + 1)
      have e1 : IntKind.i64.wrap ((k : Int) + 1) = (k : Int) + 1 := IntWalk.i64_in _ (by omega)
      have e2 : ((k : Int) + 1).toNat = k + 1 := by omega
      have e3 : (0 : Int) ≤ (k : Int) + 1 := by omega
      have d2 : decide ((k : Int) < (xs.length : Int) - 1) = true := by simp; omega
      by_cases hgt : xs[k + 1] < xs[k]
      · have hd : decide (xs[k + 1] < xs[k]) = true := by simpa using hgt
        go_wp2
        go_quiet (fail)
        go_wp2
        go_region
        all_goals go_wp2
        all_goals go_ret
        all_goals
          rw [step_yes hlt hgt]
          have hs := (ho.drewN (nq + 1)).swap k xs[k + 1] xs[k]
          exact GotInts.mk' g1 c1 (by simp) hs.1 ((below_drewN hb _).grown hs.2 (by exact hb.size) (by intro j hj; cases hj; exact ho.base))
      · have hd : decide (xs[k + 1] < xs[k]) = false := by simpa using hgt
        go_wp2
        go_quiet (fail)
        go_wp2
        go_ret
        rw [step_no hlt (by omega)]
        exact ⟨g1, c1, rfl, ho.drewN _, below_drewN hb _⟩
    · have d2 : decide ((k : Int) < (xs.length : Int) - 1) = false := by simp; omega
      go_enter Try.func26, Try.ntmps26
      go_wp2_with (at_builtin; refine wpList_clone rfl _ _ rfl g o _ c xs rfl hg hc rfl rfl (by omega) ?_)
      intro g1 c1 w1 ho hb
      go_wp2
      go_quiet (fail)
      go_wp2
      go_ret
      rw [step_out (by omega)]
      exact ⟨g1, c1, rfl, ho.drewN _, below_drewN hb _⟩
  · have d1 : decide ((0 : Int) ≤ i) = false := by simp; omega
    go_enter Try.func26, Try.ntmps26
    go_wp2_with (at_builtin; refine wpList_clone rfl _ _ rfl g o _ c xs rfl hg hc rfl rfl (by omega) ?_)
    intro g1 c1 w1 ho hb
    go_wp2
    go_quiet (fail)
    go_wp2
    go_ret
    rw [step_out (by omega)]
    exact ⟨g1, c1, rfl, ho.drewN _, below_drewN hb _⟩
set_option maxHeartbeats 400000 in
theorem spec_SortStep_any (g o n c : Nat) (xs : List Int) (i : Int) (w : World) (hn : xs.length = n) (hx : xs.length ≤ 1048576) (hg : g < w.heap.size) (hc : Cells w g o xs) :
    Calls Try.prog 27 #[(Value.slice (some ⟨g, o, none⟩) n c), .int .i64 i] w (GotInts w (sortStep xs i)) := by
  subst hn
  have e0 : IntKind.i64.wrap ((xs.length : Int) - 1) = (xs.length : Int) - 1 := IntWalk.i64_in _ (by omega)
  by_cases hi : 0 ≤ i
  · obtain ⟨k, rfl⟩ : ∃ k : Nat, i = (k : Int) := ⟨i.toNat, by omega⟩
    have d1 : decide ((0 : Int) ≤ (k : Int)) = true := by simp
    by_cases hlt : k + 1 < xs.length
    · go_enter Try.func27, Try.ntmps27
      go_wp2_with (at_builtin; refine wpList_clone rfl _ _ rfl g o _ c xs rfl hg hc rfl rfl (by omega) ?_)
      intro g1 c1 w1 ho hb
      have hk0 : k < xs.length := by omega
      have h1 := ho.cell k hk0
      have h2 := ho.cell (k + 1) hlt
      have q1 := hc.below hb hg k hk0
      have q2 := hc.below hb hg (k + 1) hlt
      have hne : g < g1 := by have := ho.base; omega
      have f1 := ho.frozen k
      have f2 := ho.frozen (k + 1)
      have e1 : IntKind.i64.wrap ((k : Int) + 1) = (k : Int) + 1 := IntWalk.i64_in _ (by omega)
      have e2 : ((k : Int) + 1).toNat = k + 1 := by omega
      have e3 : (0 : Int) ≤ (k : Int) + 1 := by omega
      have d2 : decide ((k : Int) < (xs.length : Int) - 1) = true := by simp; omega
      by_cases hgt : xs[k + 1] < xs[k]
      · have hd : decide (xs[k + 1] < xs[k]) = true := by simpa using hgt
        go_wp2
        go_quiet (fail)
        go_wp2
        all_goals go_ret
        all_goals
          rw [step_yes hlt hgt]
          have hs := (ho.drewN nq).swap k xs[k + 1] xs[k]
          exact GotInts.mk' g1 c1 (by simp) hs.1 ((below_drewN hb _).grown hs.2 (by exact hb.size) (by intro j hj; cases hj; exact ho.base))
      · have hd : decide (xs[k + 1] < xs[k]) = false := by simpa using hgt
        go_wp2
        go_quiet (fail)
        go_wp2
        go_ret
        rw [step_no hlt (by omega)]
        exact ⟨g1, c1, rfl, ho.drewN _, below_drewN hb _⟩
    · have d2 : decide ((k : Int) < (xs.length : Int) - 1) = false := by simp; omega
      go_enter Try.func27, Try.ntmps27
      go_wp2_with (at_builtin; refine wpList_clone rfl _ _ rfl g o _ c xs rfl hg hc rfl rfl (by omega) ?_)
      intro g1 c1 w1 ho hb
      go_wp2
      go_quiet (fail)
      go_wp2
      go_ret
      rw [step_out (by omega)]
      exact ⟨g1, c1, rfl, ho.drewN _, below_drewN hb _⟩
  · have d1 : decide ((0 : Int) ≤ i) = false := by simp; omega
    go_enter Try.func27, Try.ntmps27
    go_wp2_with (at_builtin; refine wpList_clone rfl _ _ rfl g o _ c xs rfl hg hc rfl rfl (by omega) ?_)
    intro g1 c1 w1 ho hb
    go_wp2
    go_quiet (fail)
    go_wp2
    go_ret
    rw [step_out (by omega)]
    exact ⟨g1, c1, rfl, ho.drewN _, below_drewN hb _⟩
end Go.Proofs.Ytjhoimdfmcjkbaa
