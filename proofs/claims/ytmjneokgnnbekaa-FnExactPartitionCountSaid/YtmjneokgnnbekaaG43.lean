/- Greatest common divisors, pairings, sums of weights, small weights, of both: contracts. -/
import Derived.Test.YtmjneokgnnbekaaG42
import Derived.Test.YtmjneokgnnbekaaG05
import Derived.Deep.RegionHeld3
namespace Go.Proofs.Ytmjneokgnnbekaa
set_option maxRecDepth 100000
open Go.RowKit Game

set_option maxHeartbeats 1000000 in
theorem impl_gcd_any (a b : Nat) (w : World) : Calls Try.prog 80 #[.int .i64 a, .int .i64 b] w (Reads w (.int .i64 ((Nat.gcd a b : Nat) : Int))) := by
  generalize hG : Nat.gcd a b = G
  have HG := Lib.hid hG; clear hG
  go_enter Try.func80, Try.ntmps80
  go_wp2
  go_loopw [0, 1] (fun xv yv wr => ∃ (x y q : Nat), xv = .int .i64 x ∧ yv = .int .i64 y ∧ Hid (Nat.gcd x y = G) ∧ wr = w.drewN q) (fun _ yv _ => (intOf yv).toNat)
  case atStart => exact ⟨a, b, 0, rfl, rfl, HG.out, rfl⟩
  case round =>
    obtain ⟨x, y, q, rfl, rfl, hg, rfl⟩ := hrel
    by_cases hy : y = 0
    · subst hy
      have hx : x = G := by have h := hg.out; rwa [Nat.gcd_zero_right] at h
      subst hx
      go_wp2
      go_ret
      exact ⟨rfl, (by first | exact ⟨_, rfl⟩ | exact ⟨0, rfl⟩ | exact still2 _ _ _ | exact still3 _ _ _ _)⟩
    · have hne : ((y : Int) != 0) = true := by rw [bne_iff_ne]; omega
      have hne2 : ((y : Int) == 0) = false := by rw [beq_eq_false_iff_ne]; omega
      have hm : Int.tmod (x : Int) (y : Int) = ((x % y : Nat) : Int) := by rw [Int.tmod_eq_emod_of_nonneg (by omega)]; simp
      have hlt : x % y < y := Nat.mod_lt _ (by omega)
      have hg2 : Hid (Nat.gcd y (x % y) = G) := Lib.hid (by rw [Nat.gcd_comm, ← Nat.gcd_rec, Nat.gcd_comm]; exact hg.out)
      generalize x % y = z at *
      go_wp2
      go_quiet (fail)
      go_wp2
      go_roundw
      case rel => exact ⟨y, z, _, rfl, rfl, hg2.out, World.drewN_drewN _ _ _⟩
      case measure => simp [intOf]; omega

set_option maxHeartbeats 1000000 in
theorem spec_l26Gcd_any (a b : Nat) (w : World) : Calls Try.prog 73 #[.int .i64 a, .int .i64 b] w (Reads w (.int .i64 ((Nat.gcd a b : Nat) : Int))) := by
  generalize hG : Nat.gcd a b = G
  have HG := Lib.hid hG; clear hG
  go_enter Try.func73, Try.ntmps73
  go_wp2
  go_loopw [0, 1] (fun xv yv wr => ∃ (x y q : Nat), xv = .int .i64 x ∧ yv = .int .i64 y ∧ Hid (Nat.gcd x y = G) ∧ wr = w.drewN q) (fun _ yv _ => (intOf yv).toNat)
  case atStart => exact ⟨a, b, 0, rfl, rfl, HG.out, rfl⟩
  case round =>
    obtain ⟨x, y, q, rfl, rfl, hg, rfl⟩ := hrel
    by_cases hy : y = 0
    · subst hy
      have hx : x = G := by have h := hg.out; rwa [Nat.gcd_zero_right] at h
      subst hx
      go_wp2
      go_ret
      exact ⟨rfl, (by first | exact ⟨_, rfl⟩ | exact ⟨0, rfl⟩ | exact still2 _ _ _ | exact still3 _ _ _ _)⟩
    · have hne : ((y : Int) != 0) = true := by rw [bne_iff_ne]; omega
      have hne2 : ((y : Int) == 0) = false := by rw [beq_eq_false_iff_ne]; omega
      have hm : Int.tmod (x : Int) (y : Int) = ((x % y : Nat) : Int) := by rw [Int.tmod_eq_emod_of_nonneg (by omega)]; simp
      have hlt : x % y < y := Nat.mod_lt _ (by omega)
      have hg2 : Hid (Nat.gcd y (x % y) = G) := Lib.hid (by rw [Nat.gcd_comm, ← Nat.gcd_rec, Nat.gcd_comm]; exact hg.out)
      have hy0 : 0 < y := by omega
      generalize x % y = z at *
      go_wp2
      go_roundw
      case rel => exact ⟨y, z, _, rfl, rfl, hg2.out, rfl⟩
      case measure => simp [intOf]; omega

set_option maxHeartbeats 1000000 in
theorem impl_PairingOf_any (g1 o1 n c1 g2 o2 c2 : Nat) (v r : List Int) (w : World) (hn1 : v.length = n) (hn2 : r.length = n) (hx : n ≤ 1048576) (ha : Cells w g1 o1 v) (hr : Cells w g2 o2 r) :
    Calls Try.prog 79 #[(Value.slice (some ⟨g1, o1, none⟩) n c1), (Value.slice (some ⟨g2, o2, none⟩) n c2)] w (Reads w (.int .i64 (dotTo v r n))) := by
  go_enter Try.func79, Try.ntmps79
  go_wp2
  go_loopw [5, 12] (fun s kv wr => ∃ t q : Nat, t ≤ n ∧ kv = .int .i64 t ∧ s = .int .i64 (dotTo v r t) ∧ wr = w.drewN q) (fun _ kv _ => n - (intOf kv).toNat)
  case atStart => exact ⟨0, 0, Nat.zero_le _, rfl, rfl, rfl⟩
  case round =>
    obtain ⟨t, q, ht, rfl, rfl, rfl⟩ := hrel
    by_cases hlt : t < n
    · have q1 := ha t (by omega)
      have q2 := hr t (by omega)
      have hd : dotTo v r (t + 1) = wrap64 (dotTo v r t + wrap64 (v.getD t 0 * r.getD t 0)) := rfl
      generalize v.getD t 0 = x at *
      generalize r.getD t 0 = y at *
      have Hd := Lib.hid hd; clear hd
      generalize dotTo v r t = z at *
      go_wp2
      go_quiet (fail)
      go_wp2
      go_roundw
      case rel => exact ⟨t + 1, _, by omega, by go_num, by rw [Hd.out], rfl⟩
      case measure => simp [intOf]; omega
    · obtain rfl : t = n := by omega
      go_wp2
      go_ret
      exact ⟨rfl, (by first | exact ⟨_, rfl⟩ | exact ⟨0, rfl⟩ | exact still2 _ _ _ | exact still3 _ _ _ _)⟩

set_option maxHeartbeats 1000000 in
theorem spec_PairingOf_any (g1 o1 n c1 g2 o2 c2 : Nat) (v r : List Int) (w : World) (hn1 : v.length = n) (hn2 : r.length = n) (hx : n ≤ 1048576) (ha : Cells w g1 o1 v) (hr : Cells w g2 o2 r) :
    Calls Try.prog 70 #[(Value.slice (some ⟨g1, o1, none⟩) n c1), (Value.slice (some ⟨g2, o2, none⟩) n c2)] w (Reads w (.int .i64 (dotTo v r n))) := by
  go_enter Try.func70, Try.ntmps70
  go_wp2
  go_loopw [5, 6] (fun s kv wr => ∃ t q : Nat, t ≤ n ∧ kv = .int .i64 t ∧ s = .int .i64 (dotTo v r t) ∧ wr = w.drewN q) (fun _ kv _ => n - (intOf kv).toNat)
  case atStart => exact ⟨0, 0, Nat.zero_le _, rfl, rfl, rfl⟩
  case round =>
    obtain ⟨t, q, ht, rfl, rfl, rfl⟩ := hrel
    by_cases hlt : t < n
    · have q1 := ha t (by omega)
      have q2 := hr t (by omega)
      have hd : dotTo v r (t + 1) = wrap64 (dotTo v r t + wrap64 (v.getD t 0 * r.getD t 0)) := rfl
      generalize v.getD t 0 = x at *
      generalize r.getD t 0 = y at *
      have Hd := Lib.hid hd; clear hd
      generalize dotTo v r t = z at *
      go_wp2
      go_quiet (fail)
      go_wp2
      go_roundw
      case rel => exact ⟨t + 1, _, by omega, by go_num, by rw [Hd.out], rfl⟩
      case measure => simp [intOf]; omega
    · obtain rfl : t = n := by omega
      go_wp2
      go_ret
      exact ⟨rfl, (by first | exact ⟨_, rfl⟩ | exact ⟨0, rfl⟩ | exact still2 _ _ _ | exact still3 _ _ _ _)⟩

def addTo (a b : List Int) (k : Nat) : List Int := (List.range k).map fun j => wrap64 (a.getD j 0 + b.getD j 0)
theorem addTo_succ (a b : List Int) (k : Nat) : addTo a b (k + 1) = addTo a b k ++ [wrap64 (a.getD k 0 + b.getD k 0)] := by unfold addTo; rw [List.range_succ, List.map_append]; rfl
theorem addTo_length (a b : List Int) (k : Nat) : (addTo a b k).length = k := by simp [addTo]
set_option maxHeartbeats 1000000 in
theorem spec_AddWeights_any (g1 o1 n c1 g2 o2 c2 : Nat) (v r : List Int) (w : World) (hn1 : v.length = n) (hn2 : r.length = n) (hx : n ≤ 1048576) (hg1 : g1 < w.heap.size) (hg2 : g2 < w.heap.size) (ha : Cells w g1 o1 v) (hr : Cells w g2 o2 r) :
    Calls Try.prog 71 #[(Value.slice (some ⟨g1, o1, none⟩) n c1), (Value.slice (some ⟨g2, o2, none⟩) n c2)] w (GotInts w (addTo v r n)) := by
  go_enter Try.func71, Try.ntmps71
  go_wp2
  go_loopw [5, 6] (fun s kv wr => ∃ t g' c' : Nat, t ≤ n ∧ kv = .int .i64 t ∧ s = (Value.slice (some ⟨g', 0, none⟩) t c') ∧ Own wr w.heap.size g' c' (addTo v r t) ∧ Below w.heap.size w wr) (fun _ kv _ => n - (intOf kv).toNat)
  case atStart => exact ⟨0, w.heap.size, 0, Nat.zero_le _, rfl, rfl, Own.empty (Nat.le_refl _), (Below.refl _ _).alloc (Nat.le_refl _) _⟩
  case round =>
    obtain ⟨t, g', c', ht, rfl, rfl, ho, hb⟩ := hrel
    by_cases hlt : t < n
    · have k1 := (hb.cell (p := ⟨g1, o1 + t, none⟩) hg1).trans (ha t (by omega))
      have k2 := (hb.cell (p := ⟨g2, o2 + t, none⟩) hg2).trans (hr t (by omega))
      have hsucc := addTo_succ v r t
      have hl := addTo_length v r t
      have hBg := ho.base
      have ne1 : some g1 ≠ some g' := by intro e; cases e; omega
      have ne2 : some g2 ≠ some g' := by intro e; cases e; omega
      generalize v.getD t 0 = x at *
      generalize r.getD t 0 = y at *
      generalize addTo v r t = ys at *
      have Hs := Lib.hid hsucc; clear hsucc
      go_wp2_with fail
      go_region_held3 (fun W => W.cell? ⟨g1, o1 + t, none⟩ = some (.int .i64 x) ∧ W.cell? ⟨g2, o2 + t, none⟩ = some (.int .i64 y))
        (first | go_keep | exact ⟨hg3.cell (a := ⟨g1, o1 + t, none⟩) k1 ne1, hg3.cell (a := ⟨g2, o2 + t, none⟩) k2 ne2⟩)
        ((refine step_append_int (w := wr.drew) (by rfl) _ _ (by rfl) w.heap.size g' c' t wr.heap.size ys (IntKind.i64.wrap (x + y)) _ hl (by rfl) (by rfl) ho.drew (by rfl) (by rfl) (by omega) ?_; intro g3 c3 w3 ho3 hg3 hor))
      go_wp2_with fail
      go_roundw
      case rel =>
        rw [show IntKind.i64.wrap (x + y) = wrap64 (x + y) by simp only [wrap64, IntKind.wrap_i64], ← Hs.out] at ho3
        exact ⟨t + 1, g3, c3, by omega, by go_num, rfl, ho3, (Below.drew hb).grown hg3 hb.size (by intro j hj; cases hj; exact ho.base)⟩
      case measure => simp [intOf]; omega
    · obtain rfl : t = n := by omega
      go_wp2_with fail
      go_ret
      exact GotInts.mk' g' c' (addTo_length _ _ _) ho hb

set_option maxHeartbeats 2000000 in
theorem impl_isSmall_any (gc oc n cc g o m cv : Nat) (c : List (List Int)) (v : List Int) (w : World) (hn : c.length = n) (hm : v.length = m) (_hx : c.length ≤ 1048576) (hvx : v.length ≤ 1048576) (hv : Cells w g o v) :
    Calls Try.prog 78 #[(Value.slice (some ⟨gc, oc, none⟩) n cc), (Value.slice (some ⟨g, o, none⟩) m cv)] w (Reads w (.bool (decide (Sml c.length v)))) := by
  subst hn; subst hm
  by_cases hlen : v.length = c.length
  · have hlen' : ((v.length : Int) != (c.length : Int)) = false := by rw [hlen]; simp
    have Hlen := Lib.hid hlen; clear hlen
    go_enter Try.func78, Try.ntmps78
    go_wp2_with fail
    go_loopw [14] (fun i wr => ∃ k : Nat, k ≤ v.length ∧ i = .int .i64 k ∧ Hid (∀ j, j < k → 0 ≤ v.getD j 0 ∧ v.getD j 0 ≤ 4) ∧ ∃ m, wr = w.drewN m) (fun i _ => v.length - (intOf i).toNat)
    case atStart => exact ⟨0, Nat.zero_le _, rfl, fun j hj => absurd hj (by omega), (by first | exact ⟨_, rfl⟩ | exact ⟨0, rfl⟩ | exact still2 _ _ _ | exact still3 _ _ _ _)⟩
    case round =>
      obtain ⟨k, hk, rfl, hall, m, rfl⟩ := hrel
      by_cases hlt : k < v.length
      · have q1 := hv k hlt
        have HX : Hid (¬ (0 ≤ v.getD k 0 ∧ v.getD k 0 ≤ 4) → decide (Sml c.length v) = false) := fun h => decide_eq_false (fun h2 => h (h2.2 k hlt))
        have HY : Hid (0 ≤ v.getD k 0 ∧ v.getD k 0 ≤ 4 → ∀ j, j < k + 1 → 0 ≤ v.getD j 0 ∧ v.getD j 0 ≤ 4) := fun h j hj => by
          by_cases e : j = k
          · subst e; exact h
          · exact hall.out j (by omega)
        generalize v.getD k 0 = x at *
        by_cases h1 : x < 0
        · have hf := HX.out (by omega)
          have Hf := Lib.hid hf; clear hf
          go_wp2
          go_ret
          exact ⟨ret_bool Hf.out.symm, (by first | exact ⟨_, rfl⟩ | exact ⟨0, rfl⟩ | exact still2 _ _ _ | exact still3 _ _ _ _)⟩
        · by_cases h2 : 4 < x
          · have hf := HX.out (by omega)
            have Hf := Lib.hid hf; clear hf
            go_wp2
            go_ret
            exact ⟨ret_bool Hf.out.symm, (by first | exact ⟨_, rfl⟩ | exact ⟨0, rfl⟩ | exact still2 _ _ _ | exact still3 _ _ _ _)⟩
          · have hy := HY.out (by omega)
            have Hy := Lib.hid hy; clear hy
            go_wp2
            go_roundw
            case rel => exact ⟨k + 1, by omega, by go_num, Hy.out, (by first | exact ⟨_, rfl⟩ | exact ⟨0, rfl⟩ | exact still2 _ _ _ | exact still3 _ _ _ _)⟩
            case measure => simp [intOf]; omega
      · obtain rfl : k = v.length := by omega
        have hf : decide (Sml c.length v) = true := decide_eq_true ⟨Hlen.out, hall.out⟩
        have Hf := Lib.hid hf; clear hf
        go_wp2
        go_ret
        exact ⟨ret_bool Hf.out.symm, (by first | exact ⟨_, rfl⟩ | exact ⟨0, rfl⟩ | exact still2 _ _ _ | exact still3 _ _ _ _)⟩
  · have hlen' : ((v.length : Int) != (c.length : Int)) = true := by simp; omega
    have hf : decide (Sml c.length v) = false := decide_eq_false (fun h => hlen h.1)
    have Hf := Lib.hid hf; clear hf hlen
    go_enter Try.func78, Try.ntmps78
    go_wp2_with fail
    go_ret
    exact ⟨ret_bool Hf.out.symm, (by first | exact ⟨_, rfl⟩ | exact ⟨0, rfl⟩ | exact still2 _ _ _ | exact still3 _ _ _ _)⟩

set_option maxHeartbeats 2000000 in
theorem spec_l25Small_any (gc oc n cc g o m cv : Nat) (c : List (List Int)) (v : List Int) (w : World) (hn : c.length = n) (hm : v.length = m) (hx : c.length ≤ 1048576) (hvx : v.length ≤ 1048576)
    (hrl : ∀ j, j < c.length → (c.getD j []).length ≤ 1048576) (hgc : gc < w.heap.size) (hr : Rows2 w gc oc c) (hv : Cells w g o v) :
    Calls Try.prog 69 #[(Value.slice (some ⟨gc, oc, none⟩) n cc), (Value.slice (some ⟨g, o, none⟩) m cv)] w (Gives w (.bool (finB c && decide (Sml c.length v)))) := by
  subst hn; subst hm
  go_enter Try.func69, Try.ntmps69
  go_wp2_with fail
  go_loopw [5] (fun i wr => ∃ k : Nat, k ≤ v.length ∧ i = .int .i64 k ∧ Hid (∀ j, j < k → 0 ≤ v.getD j 0 ∧ v.getD j 0 ≤ 4) ∧ ∃ m, wr = w.drewN m) (fun i _ => v.length - (intOf i).toNat)
  case atStart => exact ⟨0, Nat.zero_le _, rfl, fun j hj => absurd hj (by omega), (by first | exact ⟨_, rfl⟩ | exact ⟨0, rfl⟩ | exact still2 _ _ _ | exact still3 _ _ _ _)⟩
  case round =>
    obtain ⟨k, hk, rfl, hall, m, rfl⟩ := hrel
    by_cases hlt : k < v.length
    · have q1 := hv k hlt
      have HX : Hid (¬ (0 ≤ v.getD k 0 ∧ v.getD k 0 ≤ 4) → (finB c && decide (Sml c.length v)) = false) := fun h => by rw [decide_eq_false (fun h2 => h (h2.2 k hlt)), Bool.and_false]
      have HY : Hid (0 ≤ v.getD k 0 ∧ v.getD k 0 ≤ 4 → ∀ j, j < k + 1 → 0 ≤ v.getD j 0 ∧ v.getD j 0 ≤ 4) := fun h j hj => by
        by_cases e : j = k
        · subst e; exact h
        · exact hall.out j (by omega)
      generalize v.getD k 0 = x at *
      go_wp2_with fail
      refine (spec_l1In x 0 4 (w.drewN m)).mono ?_
      rintro e w2 ⟨rfl, m2, rfl⟩
      by_cases hin : 0 ≤ x ∧ x ≤ 4
      · have hT : (decide (0 ≤ x) && decide (x ≤ 4)) = true := by simp; exact hin
        have hy := HY.out hin
        have Hy := Lib.hid hy; clear hy hin
        rw [hT]
        go_wp2_with fail
        go_roundw
        case rel => exact ⟨k + 1, by omega, by go_num, Hy.out, (by first | exact ⟨_, rfl⟩ | exact ⟨0, rfl⟩ | exact still2 _ _ _ | exact still3 _ _ _ _)⟩
        case measure => simp [intOf]; omega
      · have hT : (decide (0 ≤ x) && decide (x ≤ 4)) = false := by rw [Bool.and_eq_false_iff, decide_eq_false_iff_not, decide_eq_false_iff_not]; omega
        have hf := HX.out hin
        have Hf := Lib.hid hf; clear hf hin
        rw [hT]
        go_wp2_with fail
        go_ret
        exact ⟨ret_bool Hf.out.symm, below_still (Below.refl _ _) (by first | exact ⟨_, rfl⟩ | exact ⟨0, rfl⟩ | exact still2 _ _ _ | exact still3 _ _ _ _)⟩
    · obtain rfl : k = v.length := by omega
      have hcall := spec_IsFinite_any gc oc _ cc c (w.drewN m) rfl hx hrl hgc (hr.still ⟨m, rfl⟩)
      have hf : decide (Sml c.length v) = decide (v.length = c.length) := decide_eq_decide.2 ⟨fun h => h.1, fun h => ⟨h, hall.out⟩⟩
      have Hf := Lib.hid hf
      clear hf
      cases hF : finB c with
      | false =>
        rw [hF] at hcall
        have Hcall := Lib.hid hcall
        have hz : (finB c && decide (Sml c.length v)) = false := by rw [hF, Bool.false_and]
        have Hz := Lib.hid hz
        clear hcall hF hz
        go_wp2_with fail
        refine Hcall.out.mono ?_
        rintro e w2 ⟨rfl, hb2⟩
        have hB2 : Below w.heap.size w w2 := Below.trans (below_still (Below.refl _ _) ⟨m, rfl⟩) hb2
        go_wp2_with fail
        go_ret
        exact ⟨ret_bool Hz.out.symm, hB2⟩
      | true =>
        rw [hF] at hcall
        have Hcall := Lib.hid hcall
        have hz : (finB c && decide (Sml c.length v)) = decide (v.length = c.length) := by rw [hF, Bool.true_and, Hf.out]
        clear hcall hF
        by_cases hlen : v.length = c.length
        · have hT : ((v.length : Int) == (c.length : Int)) = true := by rw [hlen]; simp
          have hT2 : decide (v.length = c.length) = true := decide_eq_true hlen
          rw [hT2] at hz
          have Hz := Lib.hid hz
          clear hlen hT2 hz
          go_wp2_with fail
          refine Hcall.out.mono ?_
          rintro e w2 ⟨rfl, hb2⟩
          have hB2 : Below w.heap.size w w2 := Below.trans (below_still (Below.refl _ _) ⟨m, rfl⟩) hb2
          go_wp2_with fail
          go_ret
          exact ⟨ret_bool Hz.out.symm, hB2⟩
        · have hT : ((v.length : Int) == (c.length : Int)) = false := by simp; omega
          have hT2 : decide (v.length = c.length) = false := decide_eq_false hlen
          rw [hT2] at hz
          have Hz := Lib.hid hz
          clear hlen hT2 hz
          go_wp2_with fail
          refine Hcall.out.mono ?_
          rintro e w2 ⟨rfl, hb2⟩
          have hB2 : Below w.heap.size w w2 := Below.trans (below_still (Below.refl _ _) ⟨m, rfl⟩) hb2
          go_wp2_with fail
          go_ret
          exact ⟨ret_bool Hz.out.symm, hB2⟩
end Go.Proofs.Ytmjneokgnnbekaa
