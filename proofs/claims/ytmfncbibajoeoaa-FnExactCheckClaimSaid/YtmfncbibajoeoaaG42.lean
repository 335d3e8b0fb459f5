/- A list of roots: one is among them, they are positive and different: contracts. -/
import Derived.Test.YtmfncbibajoeoaaG41
import Derived.Test.YtmfncbibajoeoaaG21
import Derived.Test.YtmfncbibajoeoaaG15
import Derived.Test.YtmfncbibajoeoaaG03
import Derived.Deep.RegionHeld3
import Derived.BigQuiet
namespace Go.Proofs.Ytmfncbibajoeoaa
set_option maxRecDepth 100000
open Go.RowKit

theorem run_makeFuncD (fn : Fn) (first cap : Array Value) (w : World) : (Instr.makeFunc fn first cap).run Try.prog w = .ok (.func fn first cap) w := rfl
set_option maxHeartbeats 1000000 in
theorem impl_hasClosure_any (g1 o1 n1 c1 g2 o2 n2 c2 b : Nat) (xs ys : List Int) (w : World) (hn1 : xs.length = n1) (hn2 : ys.length = n2) (hx : xs.length ≤ 1048576) (hy : ys.length ≤ 1048576)
    (hcx : Cells w g1 o1 xs) (hcy : Cells w g2 o2 ys) (hb : w.cell? ⟨b, 0, none⟩ = some (Value.slice (some ⟨g2, o2, none⟩) n2 c2)) :
    Calls Try.prog 136 #[(Value.slice (some ⟨g1, o1, none⟩) n1 c1), .pointer (some ⟨b, 0, none⟩)] w (Reads w (.bool (decide (ys = xs)))) := by
  have hcall := slices_Equal_any g2 o2 n2 c2 g1 o1 n1 c1 ys xs w hn2 hn1 (by omega) (by omega) hcy hcx
  have Hcall := Lib.hid hcall
  generalize decide (ys = xs) = r at *
  clear hcall
  go_enter Try.func136, Try.ntmps136
  go_wp2_with fail
  refine Hcall.out.mono ?_
  rintro e w1 ⟨rfl, hs1⟩
  go_wp2_with fail
  go_ret
  exact ⟨rfl, hs1⟩
def notTo (l : List (List Int)) (r : List Int) (k : Nat) : Prop := ∀ j, j < k → l.getD j [] ≠ r
theorem mem_of_found {l : List (List Int)} {r : List Int} {k : Nat} (hk : k < l.length) (h : l.getD k [] = r) : r ∈ l := by
  rw [← h]; simp [List.getD, hk]
theorem not_mem_of {l : List (List Int)} {r : List Int} (h : notTo l r l.length) : r ∉ l := by
  intro hm
  obtain ⟨j, hj, rfl⟩ := List.mem_iff_getElem.1 hm
  exact h j hj (by simp [List.getD, hj])
set_option maxHeartbeats 2000000 in
theorem slices_IndexFuncD_any (g o n cp g1 o1 n1 c1 b : Nat) (l : List (List Int)) (r : List Int) (w : World) (hn : l.length = n) (hn1 : r.length = n1) (hr1 : r.length ≤ 1048576) (hl : l.length ≤ 1048576) (hrl : ∀ j, j < l.length → (l.getD j []).length ≤ 1048576)
    (hr : Rows2 w g o l) (hc1 : Cells w g1 o1 r) (hb : w.cell? ⟨b, 0, none⟩ = some (Value.slice (some ⟨g1, o1, none⟩) n1 c1)) :
    Calls Try.prog 142 #[(Value.slice (some ⟨g, o, none⟩) n cp), .func (.func 136) #[] #[.pointer (some ⟨b, 0, none⟩)]] w (fun e w' => ∃ i : Int, e = .returned (.int .i64 i) ∧ decide (0 ≤ i) = decide (r ∈ l) ∧ ∃ q, w' = w.drewN q) := by
  subst hn; subst hn1
  go_enter Try.func142, Try.ntmps142
  go_wp2
  go_loopw [8] (fun i wr => ∃ k : Nat, k ≤ l.length ∧ i = .int .i64 k ∧ Hid (notTo l r k) ∧ ∃ m, wr = w.drewN m) (fun i _ => l.length - (intOf i).toNat)
  case atStart => exact ⟨0, Nat.zero_le _, rfl, fun j hj => absurd hj (by omega), (by first | exact ⟨_, rfl⟩ | exact ⟨0, rfl⟩ | exact still2 _ _ _ | exact still3 _ _ _ _)⟩
  case round =>
    obtain ⟨k, hk, rfl, hin, m, rfl⟩ := hrel
    by_cases hlt : k < l.length
    · obtain ⟨gj, oj, cj, q1, q2, q3, q4⟩ := hr k hlt
      have hlk := hrl k hlt
      have HY : Hid (l.getD k [] ≠ r → notTo l r (k + 1)) := fun h j hj => by
        by_cases e : j = k
        · subst e; exact h
        · exact hin.out j (by omega)
      have HX : Hid (l.getD k [] = r → decide ((0 : Int) ≤ (k : Int)) = decide (r ∈ l)) := fun h => by
        rw [decide_eq_true (mem_of_found hlt h), decide_eq_true (by omega)]
      generalize l.getD k [] = x at *
      have hcall := impl_hasClosure_any gj oj x.length cj g1 o1 r.length c1 b x r (w.drewN m) rfl rfl (by omega) hr1 q4 hc1 hb
      by_cases e : x = r
      · have hd := HX.out e
        rw [decide_eq_true e.symm] at hcall
        have Hd := Lib.hid hd; have He := Lib.hid e; have Hcall := Lib.hid hcall
        clear hd hcall e
        go_wp2_with fail
        refine Hcall.out.mono ?_
        rintro e w2 ⟨rfl, m2, rfl⟩
        go_wp2_with fail
        go_ret
        exact ⟨_, rfl, Hd.out, (by first | exact ⟨_, rfl⟩ | exact ⟨0, rfl⟩ | exact still2 _ _ _ | exact still3 _ _ _ _)⟩
      · have hd := HY.out e
        rw [decide_eq_false (fun h => e h.symm)] at hcall
        have Hd := Lib.hid hd; have He := Lib.hid e; have Hcall := Lib.hid hcall
        clear hd hcall e
        go_wp2_with fail
        refine Hcall.out.mono ?_
        rintro e w2 ⟨rfl, m2, rfl⟩
        go_wp2_with fail
        go_roundw
        case rel => exact ⟨k + 1, by omega, by go_num, Hd.out, (by first | exact ⟨_, rfl⟩ | exact ⟨0, rfl⟩ | exact still2 _ _ _ | exact still3 _ _ _ _)⟩
        case measure => simp [intOf]; omega
    · obtain rfl : k = l.length := by omega
      have hf := not_mem_of hin.out
      have Hf := Lib.hid hf; clear hf
      go_wp2
      go_ret
      exact ⟨-1, rfl, by rw [decide_eq_false Hf.out]; rfl, (by first | exact ⟨_, rfl⟩ | exact ⟨0, rfl⟩ | exact still2 _ _ _ | exact still3 _ _ _ _)⟩
set_option maxHeartbeats 1000000 in
theorem impl_hasRoot_any (g o n cp g1 o1 n1 c1 : Nat) (l : List (List Int)) (r : List Int) (w : World) (hn : l.length = n) (hn1 : r.length = n1) (hr1 : r.length ≤ 1048576) (hl : l.length ≤ 1048576) (hrl : ∀ j, j < l.length → (l.getD j []).length ≤ 1048576)
    (hg : g < w.heap.size) (hg1 : g1 < w.heap.size) (hr : Rows2 w g o l) (hc1 : Cells w g1 o1 r) :
    Calls Try.prog 113 #[(Value.slice (some ⟨g, o, none⟩) n cp), (Value.slice (some ⟨g1, o1, none⟩) n1 c1)] w (Gives w (.bool (decide (r ∈ l)))) := by
  obtain ⟨w1, hw1⟩ : ∃ w1, w1 = w.alloc (.cells #[(Value.slice (some ⟨g1, o1, none⟩) n1 c1)] 24) := ⟨_, rfl⟩
  have hb1 : Below w.heap.size w w1 := by rw [hw1]; exact (Below.refl _ _).alloc (Nat.le_refl _) _
  have hnew := heap_alloc_new w (.cells #[(Value.slice (some ⟨g1, o1, none⟩) n1 c1)] 24 (0, 0))
  have hcl : w1.cell? ⟨w.heap.size, 0, none⟩ = some (Value.slice (some ⟨g1, o1, none⟩) n1 c1) := by rw [hw1]; exact (cell_of_cells hnew 0).trans rfl
  have hcall := slices_IndexFuncD_any g o n cp g1 o1 n1 c1 w.heap.size l r w1 hn hn1 hr1 hl hrl (hr.below hb1 hg) (hc1.below hb1 hg1) hcl
  have hcont : Calls Try.prog 135 #[(Value.slice (some ⟨g, o, none⟩) n cp), .func (.func 136) #[] #[.pointer (some ⟨w.heap.size, 0, none⟩)]] w1 (Reads w1 (.bool (decide (r ∈ l)))) := by
    have Hcall := Lib.hid hcall
    generalize decide (r ∈ l) = z at *
    clear hcall hcl hb1 hw1 hr hc1 hrl hn hn1 hnew
    go_enter Try.func135, Try.ntmps135
    go_wp2_with fail
    refine Hcall.out.mono ?_
    rintro e w2 ⟨i, rfl, hi, hs⟩
    go_wp2_with fail
    go_ret
    exact ⟨by first | rfl | exact ret_bool hi, hs⟩
  rw [hw1] at hcont
  have Hcall := Lib.hid hcont
  have hb2 : Below w.heap.size w (w.alloc (.cells #[(Value.slice (some ⟨g1, o1, none⟩) n1 c1)] 24)) := (Below.refl _ _).alloc (Nat.le_refl _) _
  have Hb2 := Lib.hid hb2
  have hmf := run_makeFuncD
  generalize decide (r ∈ l) = z at *
  clear hcall hcont hb2 hcl hb1 hw1 hr hc1 hrl hn hn1 hnew
  go_enter Try.func113, Try.ntmps113
  go_wp2_with fail
  refine Hcall.out.mono ?_
  rintro e w2 ⟨rfl, hs2⟩
  have hb := below_still Hb2.out hs2
  go_wp2_with fail
  go_ret
  exact ⟨rfl, hb⟩

/-- the first k are positive and differ from those before -/
def diffAt (R : List (List Int)) (k : Nat) : Prop := signL (R.getD k []) = 1 ∧ R.getD k [] ∉ R.take k
instance (R : List (List Int)) (k : Nat) : Decidable (diffAt R k) := by unfold diffAt; infer_instance
def diffB (R : List (List Int)) : Bool := (List.range R.length).all fun k => decide (diffAt R k)
theorem diffB_yes {R : List (List Int)} (h : ∀ k, k < R.length → diffAt R k) : diffB R = true := List.all_eq_true.2 fun k hk => decide_eq_true (h k (List.mem_range.1 hk))
theorem diffB_no {R : List (List Int)} {k : Nat} (hk : k < R.length) (h : ¬ diffAt R k) : diffB R = false := by
  rw [← Bool.not_eq_true]
  intro ht
  have := List.all_eq_true.1 ht k (List.mem_range.2 hk)
  exact h (of_decide_eq_true this)
theorem signL_cases (r : List Int) : signL r = 1 ∨ signL r = 0 ∨ signL r = -1 := by unfold signL; (repeat' split) <;> omega

set_option maxRecDepth 100000 in
set_option maxHeartbeats 2000000 in
theorem spec_l34Different_any (g o n cp : Nat) (R : List (List Int)) (w : World) (hn : R.length = n) (hcap : R.length ≤ cp) (hl : R.length ≤ 1048576) (hrl : ∀ j, j < R.length → (R.getD j []).length ≤ 1048576) (hr : Rows2 w g o R) :
    Calls Try.prog 62 #[(Value.slice (some ⟨g, o, none⟩) n cp)] w (Reads w (.bool (diffB R))) := by
  subst hn
  go_enter Try.func62, Try.ntmps62
  go_wp2
  go_loopw [3] (fun iv wr => ∃ k : Nat, k ≤ R.length ∧ iv = .int .i64 k ∧ Hid (∀ j, j < k → diffAt R j) ∧ ∃ m, wr = w.drewN m) (fun iv _ => R.length - (intOf iv).toNat)
  case atStart => exact ⟨0, Nat.zero_le _, rfl, fun j h => absurd h (by omega), (by first | exact ⟨_, rfl⟩ | exact ⟨0, rfl⟩ | exact still2 _ _ _ | exact still3 _ _ _ _)⟩
  case round =>
    obtain ⟨k, hk, rfl, hp, m, rfl⟩ := hrel
    by_cases hlt : k < R.length
    · obtain ⟨gj, oj, cj, q1, q2, q3, q4⟩ := hr k hlt
      have hlk := hrl k hlt
      have hcS := fun W (hs : ∃ q, W = w.drewN q) => spec_RootSign_any gj oj (R.getD k []).length cj (R.getD k []) W rfl hlk (q4.still hs)
      have hcI := fun W (hs : ∃ q, W = w.drewN q) => spec_l7In_any g o k cp gj oj (R.getD k []).length cj (R.take k) (R.getD k []) W (by rw [List.length_take]; omega) rfl (by rw [List.length_take]; omega) (fun j hj => by
        have hj' : j < R.length := by rw [List.length_take] at hj; omega
        have hjk : j < k := by rw [List.length_take] at hj; omega
        have := hrl j hj'
        simpa [List.getD, hj', hjk] using this) (fun j hj => by
        have hj' : j < R.length := by rw [List.length_take] at hj; omega
        have hjk : j < k := by rw [List.length_take] at hj; omega
        have e : (R.take k).getD j [] = R.getD j [] := by simp [List.getD, hj', hjk]
        have := (hr.still hs) j hj'
        rw [e]; exact this) (q4.still hs)
      have hdA : diffAt R k ↔ signL (R.getD k []) = 1 ∧ R.getD k [] ∉ R.take k := Iff.rfl
      have hcases := signL_cases (R.getD k [])
      have hno : ¬ diffAt R k → diffB R = false := diffB_no hlt
      have hyes : diffAt R k → ∀ j, j < k + 1 → diffAt R j := fun h j hj => by
        by_cases e : j = k
        · subst e; exact h
        · exact hp.out j (by omega)
      generalize signL (R.getD k []) = z at *
      generalize R.getD k [] = x at *
      have b1 : (0 : Int) ≤ (k : Int) := by omega
      have b2 : (k : Int) < (R.length : Int) := by omega
      have b3 : (k : Int) ≤ (cp : Int) := by omega
      by_cases hz : z = 1
      · subst hz
        have d1 : decide ((1 : Int) ≤ 0) = false := rfl
        by_cases hm : x ∈ R.take k
        · rw [decide_eq_true hm] at hcI
          have HcS := Lib.hid hcS; have HcI := Lib.hid hcI; have Hno := Lib.hid (hno (fun h => (hdA.1 h).2 hm))
          clear hcS hcI hno hyes hdA hcases hr hrl hp hm q4
          go_wp2
          go_quiet ((first | (go_at_call 99; first | with_reducible exact Calls.quiet_of (HcS.out _ ⟨_, rfl⟩) | with_reducible exact Reads.quiet4 (HcS.out _ ⟨_, rfl⟩)) | (go_at_call 100; first | with_reducible exact Calls.quiet_of (HcI.out _ ⟨_, rfl⟩) | with_reducible exact Reads.quiet4 (HcI.out _ ⟨_, rfl⟩))))
          go_wp2_with fail
          go_ret
          exact ⟨ret_bool Hno.out.symm, (by first | exact ⟨_, rfl⟩ | exact ⟨0, rfl⟩ | exact still2 _ _ _ | exact still3 _ _ _ _)⟩
        · rw [decide_eq_false hm] at hcI
          have HcS := Lib.hid hcS; have HcI := Lib.hid hcI; have Hyes := Lib.hid (hyes (hdA.2 ⟨rfl, hm⟩))
          clear hcS hcI hno hyes hdA hcases hr hrl hp hm q4
          go_wp2
          go_quiet ((first | (go_at_call 99; first | with_reducible exact Calls.quiet_of (HcS.out _ ⟨_, rfl⟩) | with_reducible exact Reads.quiet4 (HcS.out _ ⟨_, rfl⟩)) | (go_at_call 100; first | with_reducible exact Calls.quiet_of (HcI.out _ ⟨_, rfl⟩) | with_reducible exact Reads.quiet4 (HcI.out _ ⟨_, rfl⟩))))
          go_wp2_with fail
          go_roundw
          case rel => exact ⟨k + 1, by omega, by go_num, Hyes.out, (by first | exact ⟨_, rfl⟩ | exact ⟨0, rfl⟩ | exact still2 _ _ _ | exact still3 _ _ _ _)⟩
          case measure => simp [intOf]; omega
      · have d1 : decide (z ≤ (0 : Int)) = true := decide_eq_true (by omega)
        have HcS := Lib.hid hcS; have Hno := Lib.hid (hno (fun h => hz (hdA.1 h).1))
        clear hcS hcI hno hyes hdA hcases hr hrl hp q4 hz
        go_wp2
        go_quiet ((go_at_call 99; first | with_reducible exact Calls.quiet_of (HcS.out _ ⟨_, rfl⟩) | with_reducible exact Reads.quiet4 (HcS.out _ ⟨_, rfl⟩)))
        go_wp2_with fail
        go_ret
        exact ⟨ret_bool Hno.out.symm, (by first | exact ⟨_, rfl⟩ | exact ⟨0, rfl⟩ | exact still2 _ _ _ | exact still3 _ _ _ _)⟩
    · obtain rfl : k = R.length := by omega
      have Hf := Lib.hid (diffB_yes hp.out)
      clear hp
      go_wp2
      go_ret
      exact ⟨ret_bool Hf.out.symm, (by first | exact ⟨_, rfl⟩ | exact ⟨0, rfl⟩ | exact still2 _ _ _ | exact still3 _ _ _ _)⟩
end Go.Proofs.Ytmfncbibajoeoaa
