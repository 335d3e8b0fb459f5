/- EqualCartans (slices.EqualFunc): contracts. -/
import Derived.Test.YtmfncbibajoeoaaRh
import Derived.Test.YtmfncbibajoeoaaG15
namespace Go.Proofs.Ytmfncbibajoeoaa
set_option maxRecDepth 100000
open Go.RowKit

theorem rows_take_succ {a b : List (List Int)} {k : Nat} (hl : b.length = a.length) (hk : k < a.length) (h : a.take k = b.take k) (he : a.getD k [] = b.getD k []) : a.take (k + 1) = b.take (k + 1) := by
  have hk2 : k < b.length := by omega
  rw [List.take_succ_eq_append_getElem hk, List.take_succ_eq_append_getElem hk2, h]
  simp [List.getD, hk, hk2] at he
  rw [he]

set_option maxHeartbeats 1000000 in
theorem slices_EqualFunc_any (g1 o1 n1 c1 g2 o2 n2 c2 : Nat) (a b : List (List Int)) (w : World) (hn1 : a.length = n1) (hn2 : b.length = n2) (hx : a.length ≤ 1099511627776)
    (hra : ∀ j, j < a.length → (a.getD j []).length ≤ 1099511627776) (hrb : ∀ j, j < b.length → (b.getD j []).length ≤ 1099511627776) (hca : Rows2 w g1 o1 a) (hcb : Rows2 w g2 o2 b) :
    Calls Try.prog 133 #[(Value.slice (some ⟨g1, o1, none⟩) n1 c1), (Value.slice (some ⟨g2, o2, none⟩) n2 c2), .func (.func 89) #[] #[]] w (Reads w (.bool (decide (a = b)))) := by
  subst hn1; subst hn2
  by_cases hl : b.length = a.length
  · go_enter Try.func133, Try.ntmps133
    go_wp2
    go_loopw [17] (fun i wr => ∃ k : Nat, k ≤ a.length ∧ i = .int .i64 k ∧ Hid (a.take k = b.take k) ∧ ∃ n, wr = w.drewN n) (fun i _ => a.length - (intOf i).toNat)
    case atStart => exact ⟨0, Nat.zero_le _, rfl, rfl, 0, rfl⟩
    case round =>
      obtain ⟨k, hk, rfl, he, n, rfl⟩ := hrel
      have Hl := Lib.hid hl; clear hl
      by_cases hlt : k < a.length
      · have hl2 : k < b.length := by rw [Hl.out]; exact hlt
        obtain ⟨ga, oa, ca, q1, q2, q3, q4⟩ := hca k hlt
        obtain ⟨gb, ob, cb, p1, p2, p3, p4⟩ := hcb k hl2
        have hrk := hra k hlt
        have hrk2 := hrb k hl2
        obtain ⟨R, hR⟩ : ∃ R, a.getD k [] = R := ⟨_, rfl⟩
        obtain ⟨S, hS⟩ : ∃ S, b.getD k [] = S := ⟨_, rfl⟩
        rw [hR] at q1 q2 q4 hrk
        rw [hS] at p1 p2 p4 hrk2
        have HR := Lib.hid hR; have HS := Lib.hid hS
        clear hR hS hca hcb hra hrb
        have hcall := slices_Equal_any ga oa R.length ca gb ob S.length cb R S (w.drewN n) rfl rfl hrk hrk2 q4 p4
        by_cases hRS : R = S
        · rw [decide_eq_true hRS] at hcall
          have Hcall := Lib.hid hcall; have HRS := Lib.hid hRS; clear hcall hRS
          go_wp2_with fail
          refine Hcall.out.mono ?_
          rintro e w' ⟨rfl, m', rfl⟩
          go_wp2
          go_roundw
          case rel => exact ⟨k + 1, by omega, by go_num, rows_take_succ Hl.out hlt he.out (by rw [HR.out, HS.out]; exact HRS.out), (by first | exact ⟨_, rfl⟩ | exact ⟨0, rfl⟩ | exact still2 _ _ _ | exact still3 _ _ _ _)⟩
          case measure => simp [intOf]; omega
        · rw [decide_eq_false hRS] at hcall
          have Hcall := Lib.hid hcall; have HRS := Lib.hid hRS; clear hcall hRS
          go_wp2_with fail
          refine Hcall.out.mono ?_
          rintro e w' ⟨rfl, m', rfl⟩
          go_wp2
          go_ret
          have hne : a ≠ b := fun e => HRS.out (by rw [← HR.out, ← HS.out, e])
          exact ⟨ret_bool (by simp [hne]), (by first | exact ⟨_, rfl⟩ | exact ⟨0, rfl⟩ | exact still2 _ _ _ | exact still3 _ _ _ _)⟩
      · obtain rfl : k = a.length := by omega
        go_wp2
        go_ret
        refine ⟨ret_bool ?_, n, rfl⟩
        have h3 := he.out
        rw [List.take_of_length_le (by omega), List.take_of_length_le (by have := Hl.out; omega)] at h3
        simp [h3]
  · have hb : ((a.length : Int) != (b.length : Int)) = true := by rw [bne_iff_ne]; omega
    go_enter Try.func133, Try.ntmps133
    go_wp2
    go_ret
    exact ⟨ret_bool (by simp; intro e; exact hl (by rw [e])), 0, rfl⟩

set_option maxHeartbeats 400000 in
theorem impl_EqualCartans_any (g1 o1 n1 c1 g2 o2 n2 c2 : Nat) (a b : List (List Int)) (w : World) (hn1 : a.length = n1) (hn2 : b.length = n2) (hx : a.length ≤ 1099511627776)
    (hra : ∀ j, j < a.length → (a.getD j []).length ≤ 1099511627776) (hrb : ∀ j, j < b.length → (b.getD j []).length ≤ 1099511627776) (hca : Rows2 w g1 o1 a) (hcb : Rows2 w g2 o2 b) :
    Calls Try.prog 110 #[(Value.slice (some ⟨g1, o1, none⟩) n1 c1), (Value.slice (some ⟨g2, o2, none⟩) n2 c2)] w (Reads w (.bool (decide (a = b)))) := by
  go_enter Try.func110, Try.ntmps110
  go_wp2_with fail
  refine (slices_EqualFunc_any g1 o1 n1 c1 g2 o2 n2 c2 a b _ hn1 hn2 hx hra hrb hca hcb).mono ?_
  rintro e w1 ⟨rfl, m, rfl⟩
  go_wp2_with fail
  go_ret
  exact ⟨rfl, m, rfl⟩

set_option maxHeartbeats 1000000 in
theorem spec_EqualCartans_any (g1 o1 n1 c1 g2 o2 n2 c2 : Nat) (a b : List (List Int)) (w : World) (hn1 : a.length = n1) (hn2 : b.length = n2) (hx : a.length ≤ 1099511627776)
    (hra : ∀ j, j < a.length → (a.getD j []).length ≤ 1099511627776) (hrb : ∀ j, j < b.length → (b.getD j []).length ≤ 1099511627776) (hca : Rows2 w g1 o1 a) (hcb : Rows2 w g2 o2 b) :
    Calls Try.prog 60 #[(Value.slice (some ⟨g1, o1, none⟩) n1 c1), (Value.slice (some ⟨g2, o2, none⟩) n2 c2)] w (Reads w (.bool (decide (a = b)))) := by
  subst hn1; subst hn2
  by_cases hl : b.length = a.length
  · have hl' : b.length = a.length := hl
    have Hl := Lib.hid hl'; clear hl'
    have hb : ((a.length : Int) != (b.length : Int)) = false := by rw [hl]; simp
    clear hl
    go_enter Try.func60, Try.ntmps60
    go_wp2
    go_loopw [5, 6] (fun i _ wr => ∃ k : Nat, k ≤ a.length ∧ i = .int .i64 k ∧ Hid (a.take k = b.take k) ∧ ∃ n, wr = w.drewN n) (fun i _ _ => a.length - (intOf i).toNat)
    case atStart => exact ⟨0, Nat.zero_le _, rfl, rfl, 0, rfl⟩
    case round =>
      obtain ⟨k, hk, rfl, he, n, rfl⟩ := hrel
      by_cases hlt : k < a.length
      · have hl2 : k < b.length := by rw [Hl.out]; exact hlt
        obtain ⟨ga, oa, ca, q1, q2, q3, q4⟩ := hca k hlt
        obtain ⟨gb, ob, cb, p1, p2, p3, p4⟩ := hcb k hl2
        have hrk := hra k hlt
        have hrk2 := hrb k hl2
        obtain ⟨R, hR⟩ : ∃ R, a.getD k [] = R := ⟨_, rfl⟩
        obtain ⟨S, hS⟩ : ∃ S, b.getD k [] = S := ⟨_, rfl⟩
        rw [hR] at q1 q2 q4 hrk
        rw [hS] at p1 p2 p4 hrk2
        have HR := Lib.hid hR; have HS := Lib.hid hS
        clear hR hS
        by_cases hRS : S.length = R.length
        · have hRb : ((R.length : Int) != (S.length : Int)) = false := by rw [hRS]; simp
          have HRS := Lib.hid hRS; clear hRS
          go_wp2
          go_quiet (fail)
          go_wp2
          obtain ⟨wo, hwo⟩ : ∃ wo : World, wo = w.drewN n := ⟨_, rfl⟩
          clear hwo
          go_loopw [6] (fun j wr => ∃ t : Nat, t ≤ R.length ∧ j = .int .i64 t ∧ Hid (R.take t = S.take t) ∧ ∃ n, wr = w.drewN n) (fun j _ => R.length - (intOf j).toNat)
          case atStart => exact ⟨0, Nat.zero_le _, rfl, rfl, (by first | exact ⟨_, rfl⟩ | exact ⟨0, rfl⟩ | exact still2 _ _ _ | exact still3 _ _ _ _)⟩
          case round =>
            obtain ⟨t, ht, rfl, het, n2, rfl⟩ := hrel
            by_cases htl : t < R.length
            · have htl2 : t < S.length := by rw [HRS.out]; exact htl
              have r1 := q4 t htl
              have r2 := p4 t htl2
              go_wp2
              go_quiet (fail)
              go_wp2
              · have hne : (R[t] != S[t]) = true := by assumption
                go_ret
                have hab : a ≠ b := fun e => by
                  have : R = S := by rw [← HR.out, ← HS.out, e]
                  subst this; simp at hne
                exact ⟨ret_bool (by simp [hab]), (by first | exact ⟨_, rfl⟩ | exact ⟨0, rfl⟩ | exact still2 _ _ _ | exact still3 _ _ _ _)⟩
              · have heq : (R[t] != S[t]) = false := by assumption
                go_roundw
                case rel => exact ⟨t + 1, by omega, by go_num, take_succ_eq HRS.out.symm htl het.out (by simpa [List.getD, htl, htl2] using heq), (by first | exact ⟨_, rfl⟩ | exact ⟨0, rfl⟩ | exact still2 _ _ _ | exact still3 _ _ _ _)⟩
                case measure => simp [intOf]; omega
            · obtain rfl : t = R.length := by omega
              go_wp2
              go_roundw
              case rel =>
                have hRS : R = S := by
                  have h3 := het.out
                  rwa [List.take_of_length_le (by omega), List.take_of_length_le (by have := HRS.out; omega)] at h3
                exact ⟨k + 1, by omega, by go_num, rows_take_succ Hl.out hlt he.out (by rw [HR.out, HS.out]; exact hRS), (by first | exact ⟨_, rfl⟩ | exact ⟨0, rfl⟩ | exact still2 _ _ _ | exact still3 _ _ _ _)⟩
              case measure => simp [intOf]; omega
        · have hRb : ((R.length : Int) != (S.length : Int)) = true := by rw [bne_iff_ne]; omega
          go_wp2
          go_quiet (fail)
          go_wp2
          go_ret
          have hne : a ≠ b := fun e => hRS (by rw [← HR.out, ← HS.out, e])
          exact ⟨ret_bool (by simp [hne]), (by first | exact ⟨_, rfl⟩ | exact ⟨0, rfl⟩ | exact still2 _ _ _ | exact still3 _ _ _ _)⟩
      · obtain rfl : k = a.length := by omega
        go_wp2
        go_ret
        refine ⟨ret_bool ?_, n, rfl⟩
        have h3 := he.out
        rw [List.take_of_length_le (by omega), List.take_of_length_le (by have := Hl.out; omega)] at h3
        simp [h3]
  · have hb : ((a.length : Int) != (b.length : Int)) = true := by rw [bne_iff_ne]; omega
    go_enter Try.func60, Try.ntmps60
    go_wp2
    go_ret
    exact ⟨ret_bool (by simp; intro e; exact hl (by rw [e])), 0, rfl⟩
end Go.Proofs.Ytmfncbibajoeoaa
