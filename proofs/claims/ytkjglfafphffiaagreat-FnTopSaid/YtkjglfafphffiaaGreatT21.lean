/- A list of roots: one is among them, they are positive and different: contracts. EqualCartans (slices.EqualFunc): contracts. -/
import Derived.Test.YtkjglfafphffiaaGreatT20
import Derived.Test.YtkjglfafphffiaaGreatT11
import Derived.Test.YtkjglfafphffiaaGreatT02
import Derived.Test.YtkjglfafphffiaaGreatT00
import Derived.Deep.RegionHeld3
import Derived.BigQuiet
namespace Go.Proofs.YtkjglfafphffiaaGreat
set_option maxRecDepth 100000
open Go.RowKit
theorem run_makeFuncD (fn : Fn) (first cap : Array Value) (w : World) : (Instr.makeFunc fn first cap).run Tryz.prog w = .ok (.func fn first cap) w := rfl
set_option maxHeartbeats 1000000 in
theorem impl_hasClosure_any (g1 o1 n1 c1 g2 o2 n2 c2 b : Nat) (xs ys : List Int) (w : World) (hn1 : xs.length = n1) (hn2 : ys.length = n2) (hx : xs.length ≤ 1048576) (hy : ys.length ≤ 1048576)
    (hcx : Cells w g1 o1 xs) (hcy : Cells w g2 o2 ys) (hb : w.cell? ⟨b, 0, none⟩ = some (Value.slice (some ⟨g2, o2, none⟩) n2 c2)) :
    Calls Tryz.prog 128 #[(Value.slice (some ⟨g1, o1, none⟩) n1 c1), .pointer (some ⟨b, 0, none⟩)] w (Reads w (.bool (decide (ys = xs)))) := by
  have hcall := slices_Equal_any g2 o2 n2 c2 g1 o1 n1 c1 ys xs w hn2 hn1 (by omega) (by omega) hcy hcx
  have Hcall := Lib.hid hcall
  generalize decide (ys = xs) = r at *
  clear hcall
  go_enter Tryz.func128, Tryz.ntmps128
  go_wp2_with fail
  refine Hcall.out.mono ?_
  rintro e w1 ⟨rfl, hs1⟩
  go_wp2_with fail
  go_ret
  exact ⟨rfl, hs1⟩
def notTo (l : List (List Int)) (r : List Int) (k : Nat) : Prop := ∀ j, j < k → l.getD j [] ≠ r
theorem mem_of_found {l : List (List Int)} {r : List Int} {k : Nat} (hk : k < l.length) (h : l.getD k [] = r) : r ∈ l := by
  rw [← h]; simp [List.getD, hk]
theorem not_mem_of {l : List (List Int)} {r : List Int} (h : notTo l r l.length) : r ∉ l := by
  intro hm
  obtain ⟨j, hj, rfl⟩ := List.mem_iff_getElem.1 hm
  exact h j hj (by simp [List.getD, hj])
set_option maxHeartbeats 2000000 in
theorem slices_IndexFuncD_any (g o n cp g1 o1 n1 c1 b : Nat) (l : List (List Int)) (r : List Int) (w : World) (hn : l.length = n) (hn1 : r.length = n1) (hr1 : r.length ≤ 1048576) (hl : l.length ≤ 1048576) (hrl : ∀ j, j < l.length → (l.getD j []).length ≤ 1048576)
    (hr : Rows2 w g o l) (hc1 : Cells w g1 o1 r) (hb : w.cell? ⟨b, 0, none⟩ = some (Value.slice (some ⟨g1, o1, none⟩) n1 c1)) :
    Calls Tryz.prog 142 #[(Value.slice (some ⟨g, o, none⟩) n cp), .func (.func 128) #[] #[.pointer (some ⟨b, 0, none⟩)]] w (fun e w' => ∃ i : Int, e = .returned (.int .i64 i) ∧ decide (0 ≤ i) = decide (r ∈ l) ∧ ∃ q, w' = w.drewN q) := by
  subst hn; subst hn1
  go_enter Tryz.func142, Tryz.ntmps142
  go_wp2
  go_loopw [8] (fun i wr => ∃ k : Nat, k ≤ l.length ∧ i = .int .i64 k ∧ Hid (notTo l r k) ∧ ∃ m, wr = w.drewN m) (fun i _ => l.length - (intOf i).toNat)
  case atStart => exact ⟨0, Nat.zero_le _, rfl, fun j hj => absurd hj (by omega), (by first | exact ⟨_, rfl⟩ | exact ⟨0, rfl⟩ | exact still2 _ _ _ | exact still3 _ _ _ _)⟩
  case round =>
    obtain ⟨k, hk, rfl, hin, m, rfl⟩ := hrel
    by_cases hlt : k < l.length
    · obtain ⟨gj, oj, cj, q1, q2, q3, q4⟩ := hr k hlt
      have hlk := hrl k hlt
      have HY : Hid (l.getD k [] ≠ r → notTo l r (k + 1)) := fun h j hj => by
        by_cases e : j = k
        · subst e; exact h
        · exact hin.out j (by omega)
      have HX : Hid (l.getD k [] = r → decide ((0 : Int) ≤ (k : Int)) = decide (r ∈ l)) := fun h => by
        rw [decide_eq_true (mem_of_found hlt h), decide_eq_true (by omega)]
      generalize l.getD k [] = x at *
      have hcall := impl_hasClosure_any gj oj x.length cj g1 o1 r.length c1 b x r (w.drewN m) rfl rfl (by omega) hr1 q4 hc1 hb
      by_cases e : x = r
      · have hd := HX.out e
        rw [decide_eq_true e.symm] at hcall
        have Hd := Lib.hid hd; have He := Lib.hid e; have Hcall := Lib.hid hcall
        clear hd hcall e
        go_wp2_with fail
        refine Hcall.out.mono ?_
        rintro e w2 ⟨rfl, m2, rfl⟩
        go_wp2_with fail
        go_ret
        exact ⟨_, rfl, Hd.out, (by first | exact ⟨_, rfl⟩ | exact ⟨0, rfl⟩ | exact still2 _ _ _ | exact still3 _ _ _ _)⟩
      · have hd := HY.out e
        rw [decide_eq_false (fun h => e h.symm)] at hcall
        have Hd := Lib.hid hd; have He := Lib.hid e; have Hcall := Lib.hid hcall
        clear hd hcall e
        go_wp2_with fail
        refine Hcall.out.mono ?_
        rintro e w2 ⟨rfl, m2, rfl⟩
        go_wp2_with fail
        go_roundw
        case rel => exact ⟨k + 1, by omega, by go_num, Hd.out, (by first | exact ⟨_, rfl⟩ | exact ⟨0, rfl⟩ | exact still2 _ _ _ | exact still3 _ _ _ _)⟩
        case measure => simp [intOf]; omega
    · obtain rfl : k = l.length := by omega
      have hf := not_mem_of hin.out
      have Hf := Lib.hid hf; clear hf
      go_wp2
      go_ret
      exact ⟨-1, rfl, by rw [decide_eq_false Hf.out]; rfl, (by first | exact ⟨_, rfl⟩ | exact ⟨0, rfl⟩ | exact still2 _ _ _ | exact still3 _ _ _ _)⟩
set_option maxHeartbeats 1000000 in
theorem impl_hasRoot_any (g o n cp g1 o1 n1 c1 : Nat) (l : List (List Int)) (r : List Int) (w : World) (hn : l.length = n) (hn1 : r.length = n1) (hr1 : r.length ≤ 1048576) (hl : l.length ≤ 1048576) (hrl : ∀ j, j < l.length → (l.getD j []).length ≤ 1048576)
    (hg : g < w.heap.size) (hg1 : g1 < w.heap.size) (hr : Rows2 w g o l) (hc1 : Cells w g1 o1 r) :
    Calls Tryz.prog 97 #[(Value.slice (some ⟨g, o, none⟩) n cp), (Value.slice (some ⟨g1, o1, none⟩) n1 c1)] w (Gives w (.bool (decide (r ∈ l)))) := by
  obtain ⟨w1, hw1⟩ : ∃ w1, w1 = w.alloc (.cells #[(Value.slice (some ⟨g1, o1, none⟩) n1 c1)] 25) := ⟨_, rfl⟩
  have hb1 : Below w.heap.size w w1 := by rw [hw1]; exact (Below.refl _ _).alloc (Nat.le_refl _) _
  have hnew := heap_alloc_new w (.cells #[(Value.slice (some ⟨g1, o1, none⟩) n1 c1)] 25 (0, 0))
  have hcl : w1.cell? ⟨w.heap.size, 0, none⟩ = some (Value.slice (some ⟨g1, o1, none⟩) n1 c1) := by rw [hw1]; exact (cell_of_cells hnew 0).trans rfl
  have hcall := slices_IndexFuncD_any g o n cp g1 o1 n1 c1 w.heap.size l r w1 hn hn1 hr1 hl hrl (hr.below hb1 hg) (hc1.below hb1 hg1) hcl
  have hcont : Calls Tryz.prog 127 #[(Value.slice (some ⟨g, o, none⟩) n cp), .func (.func 128) #[] #[.pointer (some ⟨w.heap.size, 0, none⟩)]] w1 (Reads w1 (.bool (decide (r ∈ l)))) := by
    have Hcall := Lib.hid hcall
    generalize decide (r ∈ l) = z at *
    clear hcall hcl hb1 hw1 hr hc1 hrl hn hn1 hnew
    go_enter Tryz.func127, Tryz.ntmps127
    go_wp2_with fail
    refine Hcall.out.mono ?_
    rintro e w2 ⟨i, rfl, hi, hs⟩
    go_wp2_with fail
    go_ret
    exact ⟨by first | rfl | exact ret_bool hi, hs⟩
  rw [hw1] at hcont
  have Hcall := Lib.hid hcont
  have hb2 : Below w.heap.size w (w.alloc (.cells #[(Value.slice (some ⟨g1, o1, none⟩) n1 c1)] 25)) := (Below.refl _ _).alloc (Nat.le_refl _) _
  have Hb2 := Lib.hid hb2
  have hmf := run_makeFuncD
  generalize decide (r ∈ l) = z at *
  clear hcall hcont hb2 hcl hb1 hw1 hr hc1 hrl hn hn1 hnew
  go_enter Tryz.func97, Tryz.ntmps97
  go_wp2_with fail
  refine Hcall.out.mono ?_
  rintro e w2 ⟨rfl, hs2⟩
  have hb := below_still Hb2.out hs2
  go_wp2_with fail
  go_ret
  exact ⟨rfl, hb⟩
/-- the first k are positive and differ from those before -/
def diffAt (R : List (List Int)) (k : Nat) : Prop := signL (R.getD k []) = 1 ∧ R.getD k [] ∉ R.take k
instance (R : List (List Int)) (k : Nat) : Decidable (diffAt R k) := by unfold diffAt; infer_instance
def diffB (R : List (List Int)) : Bool := (List.range R.length).all fun k => decide (diffAt R k)
theorem diffB_yes {R : List (List Int)} (h : ∀ k, k < R.length → diffAt R k) : diffB R = true := List.all_eq_true.2 fun k hk => decide_eq_true (h k (List.mem_range.1 hk))
theorem diffB_no {R : List (List Int)} {k : Nat} (hk : k < R.length) (h : ¬ diffAt R k) : diffB R = false := by
  rw [← Bool.not_eq_true]
  intro ht
  have := List.all_eq_true.1 ht k (List.mem_range.2 hk)
  exact h (of_decide_eq_true this)
end Go.Proofs.YtkjglfafphffiaaGreat
namespace Go.Proofs.YtkjglfafphffiaaGreat
set_option maxRecDepth 100000
open Go.RowKit
theorem rows_take_succ {a b : List (List Int)} {k : Nat} (hl : b.length = a.length) (hk : k < a.length) (h : a.take k = b.take k) (he : a.getD k [] = b.getD k []) : a.take (k + 1) = b.take (k + 1) := by
  have hk2 : k < b.length := by omega
  rw [List.take_succ_eq_append_getElem hk, List.take_succ_eq_append_getElem hk2, h]
  simp [List.getD, hk, hk2] at he
  rw [he]
set_option maxHeartbeats 1000000 in
theorem slices_EqualFunc_any (g1 o1 n1 c1 g2 o2 n2 c2 : Nat) (a b : List (List Int)) (w : World) (hn1 : a.length = n1) (hn2 : b.length = n2) (hx : a.length ≤ 1099511627776)
    (hra : ∀ j, j < a.length → (a.getD j []).length ≤ 1099511627776) (hrb : ∀ j, j < b.length → (b.getD j []).length ≤ 1099511627776) (hca : Rows2 w g1 o1 a) (hcb : Rows2 w g2 o2 b) :
    Calls Tryz.prog 126 #[(Value.slice (some ⟨g1, o1, none⟩) n1 c1), (Value.slice (some ⟨g2, o2, none⟩) n2 c2), .func (.func 69) #[] #[]] w (Reads w (.bool (decide (a = b)))) := by
  subst hn1; subst hn2
  by_cases hl : b.length = a.length
  · go_enter Tryz.func126, Tryz.ntmps126
    go_wp2
    go_loopw [17] (fun i wr => ∃ k : Nat, k ≤ a.length ∧ i = .int .i64 k ∧ Hid (a.take k = b.take k) ∧ ∃ n, wr = w.drewN n) (fun i _ => a.length - (intOf i).toNat)
    case atStart => exact ⟨0, Nat.zero_le _, rfl, rfl, 0, rfl⟩
    case round =>
      obtain ⟨k, hk, rfl, he, n, rfl⟩ := hrel
      have Hl := Lib.hid hl; clear hl
      by_cases hlt : k < a.length
      · have hl2 : k < b.length := by rw [Hl.out]; exact hlt
        obtain ⟨ga, oa, ca, q1, q2, q3, q4⟩ := hca k hlt
        obtain ⟨gb, ob, cb, p1, p2, p3, p4⟩ := hcb k hl2
        have hrk := hra k hlt
        have hrk2 := hrb k hl2
        obtain ⟨R, hR⟩ : ∃ R, a.getD k [] = R := ⟨_, rfl⟩
        obtain ⟨S, hS⟩ : ∃ S, b.getD k [] = S := ⟨_, rfl⟩
        rw [hR] at q1 q2 q4 hrk
        rw [hS] at p1 p2 p4 hrk2
        have HR := Lib.hid hR; have HS := Lib.hid hS
        clear hR hS hca hcb hra hrb
        have hcall := slices_Equal_any ga oa R.length ca gb ob S.length cb R S (w.drewN n) rfl rfl hrk hrk2 q4 p4
        by_cases hRS : R = S
        · rw [decide_eq_true hRS] at hcall
          have Hcall := Lib.hid hcall; have HRS := Lib.hid hRS; clear hcall hRS
          go_wp2_with fail
          refine Hcall.out.mono ?_
          rintro e w' ⟨rfl, m', rfl⟩
          go_wp2
          go_roundw
          case rel => exact ⟨k + 1, by omega, by go_num, rows_take_succ Hl.out hlt he.out (by rw [HR.out, HS.out]; exact HRS.out), (by first | exact ⟨_, rfl⟩ | exact ⟨0, rfl⟩ | exact still2 _ _ _ | exact still3 _ _ _ _)⟩
          case measure => simp [intOf]; omega
        · rw [decide_eq_false hRS] at hcall
          have Hcall := Lib.hid hcall; have HRS := Lib.hid hRS; clear hcall hRS
          go_wp2_with fail
          refine Hcall.out.mono ?_
          rintro e w' ⟨rfl, m', rfl⟩
          go_wp2
          go_ret
          have hne : a ≠ b := fun e => HRS.out (by rw [← HR.out, ← HS.out, e])
          exact ⟨ret_bool (by simp [hne]), (by first | exact ⟨_, rfl⟩ | exact ⟨0, rfl⟩ | exact still2 _ _ _ | exact still3 _ _ _ _)⟩
      · obtain rfl : k = a.length := by omega
        go_wp2
        go_ret
        refine ⟨ret_bool ?_, n, rfl⟩
        have h3 := he.out
        rw [List.take_of_length_le (by omega), List.take_of_length_le (by have := Hl.out; omega)] at h3
        simp [h3]
  · have hb : ((a.length : Int) != (b.length : Int)) = true := by rw [bne_iff_ne]; omega
    go_enter Tryz.func126, Tryz.ntmps126
    go_wp2
    go_ret
    exact ⟨ret_bool (by simp; intro e; exact hl (by rw [e])), 0, rfl⟩
set_option maxHeartbeats 400000 in
theorem impl_EqualCartans_any (g1 o1 n1 c1 g2 o2 n2 c2 : Nat) (a b : List (List Int)) (w : World) (hn1 : a.length = n1) (hn2 : b.length = n2) (hx : a.length ≤ 1099511627776)
    (hra : ∀ j, j < a.length → (a.getD j []).length ≤ 1099511627776) (hrb : ∀ j, j < b.length → (b.getD j []).length ≤ 1099511627776) (hca : Rows2 w g1 o1 a) (hcb : Rows2 w g2 o2 b) :
    Calls Tryz.prog 95 #[(Value.slice (some ⟨g1, o1, none⟩) n1 c1), (Value.slice (some ⟨g2, o2, none⟩) n2 c2)] w (Reads w (.bool (decide (a = b)))) := by
  go_enter Tryz.func95, Tryz.ntmps95
  go_wp2_with fail
  refine (slices_EqualFunc_any g1 o1 n1 c1 g2 o2 n2 c2 a b _ hn1 hn2 hx hra hrb hca hcb).mono ?_
  rintro e w1 ⟨rfl, m, rfl⟩
  go_wp2_with fail
  go_ret
  exact ⟨rfl, m, rfl⟩
end Go.Proofs.YtkjglfafphffiaaGreat
