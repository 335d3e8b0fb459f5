/- Roots: pairings, mirrors, heights, the order: contracts. -/
import Derived.Test.YtmplcohpinghbaaRoots
import Derived.Test.YtmplcohpinghbaaIn
namespace Go.Proofs.Ytmplcohpinghbaa
open Go.RowKit Game

set_option maxHeartbeats 1000000 in
theorem impl_pairing_any (g1 o1 n1 c1 g2 o2 n2 c2 : Nat) (a r : List Int) (w : World) (hn1 : a.length = n1) (hn2 : r.length = n2) (hl : r.length ≤ a.length) (hx : a.length ≤ 1048576) (ha : Cells w g1 o1 a) (hr : Cells w g2 o2 r) :
    Calls Try.prog 52 #[(Value.slice (some ⟨g1, o1, none⟩) n1 c1), (Value.slice (some ⟨g2, o2, none⟩) n2 c2)] w (Reads w (.int .i64 (pairL a r))) := by
  subst hn1; subst hn2
  go_enter Try.func52, Try.ntmps52
  go_wp2
  go_loopw [5, 10] (fun s kv wr => ∃ t q : Nat, t ≤ r.length ∧ kv = .int .i64 t ∧ s = .int .i64 (dotTo a r t) ∧ wr = w.drewN q) (fun _ kv _ => r.length - (intOf kv).toNat)
  case atStart => exact ⟨0, 0, Nat.zero_le _, rfl, rfl, rfl⟩
  case round =>
    obtain ⟨t, q, ht, rfl, rfl, rfl⟩ := hrel
    by_cases hlt : t < r.length
    · have q1 := ha t (by omega)
      have q2 := hr t hlt
      have hta : t < a.length := by omega
      have hd : dotTo a r (t + 1) = wrap64 (dotTo a r t + wrap64 (a.getD t 0 * r.getD t 0)) := rfl
      generalize a.getD t 0 = x at *
      generalize r.getD t 0 = y at *
      have Hd := Lib.hid hd; clear hd
      generalize dotTo a r t = z at *
      go_wp2
      go_roundw
      case rel => exact ⟨t + 1, _, by omega, by go_num, by rw [Hd.out], rfl⟩
      case measure => simp [intOf]; omega
    · obtain rfl : t = r.length := by omega
      go_wp2
      go_ret
      exact ⟨rfl, (by first | exact ⟨_, rfl⟩ | exact ⟨0, rfl⟩ | exact still2 _ _ _ | exact still3 _ _ _ _)⟩

set_option maxHeartbeats 1000000 in
theorem spec_l32Value_any (gc oc n cc i g o m cp : Nat) (c : List (List Int)) (r : List Int) (w : World) (hn : c.length = n) (hm : r.length = m) (hi : i < c.length) (hl : r.length ≤ (c.getD i []).length) (hx : (c.getD i []).length ≤ 1048576) (hc : Rows2 w gc oc c) (hr : Cells w g o r) :
    Calls Try.prog 28 #[(Value.slice (some ⟨gc, oc, none⟩) n cc), .int .i64 i, (Value.slice (some ⟨g, o, none⟩) m cp)] w (Reads w (.int .i64 (pairL (c.getD i []) r))) := by
  subst hn; subst hm
  obtain ⟨ga, oa, ca, q1, q2, q3, q4⟩ := hc i hi
  generalize c.getD i [] = a at *
  go_enter Try.func28, Try.ntmps28
  go_wp2
  go_loopw [7, 8] (fun s kv wr => ∃ t q : Nat, t ≤ r.length ∧ kv = .int .i64 t ∧ s = .int .i64 (dotTo a r t) ∧ wr = w.drewN q) (fun _ kv _ => r.length - (intOf kv).toNat)
  case atStart => exact ⟨0, 0, Nat.zero_le _, rfl, rfl, rfl⟩
  case round =>
    obtain ⟨t, q, ht, rfl, rfl, rfl⟩ := hrel
    by_cases hlt : t < r.length
    · have e1 := q4 t (by omega)
      have e2 := hr t hlt
      have hta : t < a.length := by omega
      have hd : dotTo a r (t + 1) = wrap64 (dotTo a r t + wrap64 (a.getD t 0 * r.getD t 0)) := rfl
      generalize a.getD t 0 = x at *
      generalize r.getD t 0 = y at *
      have Hd := Lib.hid hd; clear hd
      generalize dotTo a r t = z at *
      go_wp2
      go_quiet (fail)
      go_wp2
      go_roundw
      case rel => exact ⟨t + 1, _, by omega, by go_num, by rw [Hd.out], rfl⟩
      case measure => simp [intOf]; omega
    · obtain rfl : t = r.length := by omega
      go_wp2
      go_ret
      exact ⟨rfl, (by first | exact ⟨_, rfl⟩ | exact ⟨0, rfl⟩ | exact still2 _ _ _ | exact still3 _ _ _ _)⟩

set_option maxHeartbeats 1000000 in
theorem impl_HeightOf_any (g o n cp : Nat) (r : List Int) (w : World) (hn : r.length = n) (hx : r.length ≤ 1048576) (hr : Cells w g o r) :
    Calls Try.prog 68 #[(Value.slice (some ⟨g, o, none⟩) n cp)] w (Reads w (.int .i64 (heightL r))) := by
  subst hn
  go_enter Try.func68, Try.ntmps68
  go_wp2
  go_loopw [3, 8] (fun s kv wr => ∃ t q : Nat, t ≤ r.length ∧ kv = .int .i64 t ∧ s = .int .i64 (sumUp r t) ∧ wr = w.drewN q) (fun _ kv _ => r.length - (intOf kv).toNat)
  case atStart => exact ⟨0, 0, Nat.zero_le _, rfl, rfl, rfl⟩
  case round =>
    obtain ⟨t, q, ht, rfl, rfl, rfl⟩ := hrel
    by_cases hlt : t < r.length
    · have q2 := hr t hlt
      have hd : sumUp r (t + 1) = wrap64 (sumUp r t + r.getD t 0) := rfl
      generalize r.getD t 0 = y at *
      have Hd := Lib.hid hd; clear hd
      generalize sumUp r t = z at *
      go_wp2
      go_roundw
      case rel => exact ⟨t + 1, _, by omega, by go_num, by rw [Hd.out], rfl⟩
      case measure => simp [intOf]; omega
    · obtain rfl : t = r.length := by omega
      go_wp2
      go_ret
      exact ⟨rfl, (by first | exact ⟨_, rfl⟩ | exact ⟨0, rfl⟩ | exact still2 _ _ _ | exact still3 _ _ _ _)⟩
set_option maxHeartbeats 1000000 in
theorem spec_HeightOf_any (g o n cp : Nat) (r : List Int) (w : World) (hn : r.length = n) (hx : r.length ≤ 1048576) (hr : Cells w g o r) :
    Calls Try.prog 63 #[(Value.slice (some ⟨g, o, none⟩) n cp)] w (Reads w (.int .i64 (heightL r))) := by
  subst hn
  go_enter Try.func63, Try.ntmps63
  go_wp2
  go_loopw [3, 4] (fun s kv wr => ∃ t q : Nat, t ≤ r.length ∧ kv = .int .i64 t ∧ s = .int .i64 (sumUp r t) ∧ wr = w.drewN q) (fun _ kv _ => r.length - (intOf kv).toNat)
  case atStart => exact ⟨0, 0, Nat.zero_le _, rfl, rfl, rfl⟩
  case round =>
    obtain ⟨t, q, ht, rfl, rfl, rfl⟩ := hrel
    by_cases hlt : t < r.length
    · have q2 := hr t hlt
      have hd : sumUp r (t + 1) = wrap64 (sumUp r t + r.getD t 0) := rfl
      generalize r.getD t 0 = y at *
      have Hd := Lib.hid hd; clear hd
      generalize sumUp r t = z at *
      go_wp2
      go_roundw
      case rel => exact ⟨t + 1, _, by omega, by go_num, by rw [Hd.out], rfl⟩
      case measure => simp [intOf]; omega
    · obtain rfl : t = r.length := by omega
      go_wp2
      go_ret
      exact ⟨rfl, (by first | exact ⟨_, rfl⟩ | exact ⟨0, rfl⟩ | exact still2 _ _ _ | exact still3 _ _ _ _)⟩

theorem own_simple {w : World} {B g n cap : Nat} (h : Own w B g cap (List.replicate n 0)) {i : Nat} : Own (w.setCell ⟨g, i, none⟩ (.int .i64 1)) B g cap (simpL n i) ∧ w.grownBy (w.setCell ⟨g, i, none⟩ (.int .i64 1)) (some g) := by
  have := h.set i 1
  exact this
set_option maxHeartbeats 1000000 in
theorem impl_simple_any (n i : Nat) (w : World) (hn : n ≤ 1048576) (hi : i < n) : Calls Try.prog 51 #[.int .i64 n, .int .i64 i] w (GotInts w (simpL n i)) := by
  go_enter Try.func51, Try.ntmps51
  go_wp2_with (at_make; refine wpList_make_ints rfl _ _ rfl w.heap.size n _ rfl rfl rfl (by omega) (Nat.le_refl _) ?_)
  intro w1 ho1 hg1
  have hb1 : Below w.heap.size w w1 := (Below.refl _ _).grown hg1 (Nat.le_refl _) (by simp)
  have hc := ho1.cell i (by simpa using hi)
  have hf := ho1.frozen i
  go_wp2
  have hs := own_simple ho1 (i := i)
  go_ret
  exact GotInts.mk' _ n (simpL_length _ _) hs.1 (hb1.grown hs.2 hb1.size (by intro k hk; cases hk; exact ho1.base))

set_option maxHeartbeats 1000000 in
theorem spec_SimpleRoot_any (gc oc n cc i : Nat) (c : List (List Int)) (w : World) (hn : c.length = n) (hC : IsC c) (hi : i < c.length) (hc : Rows2 w gc oc c) :
    Calls Try.prog 27 #[(Value.slice (some ⟨gc, oc, none⟩) n cc), .int .i64 i] w (GotInts w (simpL c.length i)) := by
  subst hn
  have hn4 := hC.2.1
  have hcall := spec_IsCartan gc oc _ cc c w rfl (by omega) (fun j hj => by rw [hC.2.2.1 j hj]; omega) hc
  rw [decide_eq_true hC] at hcall
  have Hcall := Lib.hid hcall
  clear hcall
  go_enter Try.func27, Try.ntmps27
  go_wp2_with fail
  refine Hcall.out.mono ?_
  rintro e w1 ⟨rfl, hs1⟩
  have hb1 := below_still (Below.refl w.heap.size w) hs1
  clear hs1 Hcall
  have hcall := spec_l1In i 0 ((c.length : Int) - 1) w1
  have hT : (decide ((0 : Int) ≤ (i : Int)) && decide ((i : Int) ≤ (c.length : Int) - 1)) = true := by simp; omega
  rw [hT] at hcall
  have Hcall := Lib.hid hcall
  clear hcall hT
  go_wp2_with fail
  refine Hcall.out.mono ?_
  rintro e w2 ⟨rfl, hs2⟩
  have hb2 := below_still hb1 hs2
  clear hs2 Hcall hb1
  go_wp2_with (at_make; refine wpList_make_ints rfl _ _ rfl w.heap.size c.length _ rfl rfl rfl (by omega) hb2.size ?_)
  intro w3 ho3 hg3
  have hb3 : Below w.heap.size w w3 := hb2.grown hg3 hb2.size (by simp)
  have hcl := ho3.cell i (by simpa using hi)
  have hf := ho3.frozen i
  go_wp2
  have hs := own_simple ho3 (i := i)
  go_ret
  exact GotInts.mk' _ c.length (simpL_length _ _) hs.1 (hb3.grown hs.2 hb3.size (by intro k hk; cases hk; exact ho3.base))
end Go.Proofs.Ytmplcohpinghbaa
