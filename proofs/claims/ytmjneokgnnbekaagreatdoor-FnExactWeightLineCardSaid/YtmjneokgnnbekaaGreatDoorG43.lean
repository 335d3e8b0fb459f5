/- Greatest common divisors, pairings, sums of weights, small weights, of both: contracts. IsMinuscule of both: contracts. -/
import Derived.Test.YtmjneokgnnbekaaGreatDoorG42
import Derived.Test.YtmjneokgnnbekaaGreatDoorG03
import Derived.Deep.RegionHeld3
import Derived.Test.YtmjneokgnnbekaaGreatDoorG12
namespace Go.Proofs.YtmjneokgnnbekaaGreatDoor
set_option maxRecDepth 100000
open Go.RowKit Game

set_option maxHeartbeats 1000000 in
theorem impl_gcd_any (a b : Nat) (w : World) : Calls Tryz.prog 49 #[.int .i64 a, .int .i64 b] w (Reads w (.int .i64 ((Nat.gcd a b : Nat) : Int))) := by
  generalize hG : Nat.gcd a b = G
  have HG := Lib.hid hG; clear hG
  go_enter Tryz.func49, Tryz.ntmps49
  go_wp2
  go_loopw [0, 1] (fun xv yv wr => ∃ (x y q : Nat), xv = .int .i64 x ∧ yv = .int .i64 y ∧ Hid (Nat.gcd x y = G) ∧ wr = w.drewN q) (fun _ yv _ => (intOf yv).toNat)
  case atStart => exact ⟨a, b, 0, rfl, rfl, HG.out, rfl⟩
  case round =>
    obtain ⟨x, y, q, rfl, rfl, hg, rfl⟩ := hrel
    by_cases hy : y = 0
    · subst hy
      have hx : x = G := by have h := hg.out; rwa [Nat.gcd_zero_right] at h
      subst hx
      go_wp2
      go_ret
      exact ⟨rfl, (by first | exact ⟨_, rfl⟩ | exact ⟨0, rfl⟩ | exact still2 _ _ _ | exact still3 _ _ _ _)⟩
    · have hne : ((y : Int) != 0) = true := by rw [bne_iff_ne]; omega
      have hne2 : ((y : Int) == 0) = false := by rw [beq_eq_false_iff_ne]; omega
      have hm : Int.tmod (x : Int) (y : Int) = ((x % y : Nat) : Int) := by rw [Int.tmod_eq_emod_of_nonneg (by omega)]; simp
      have hlt : x % y < y := Nat.mod_lt _ (by omega)
      have hg2 : Hid (Nat.gcd y (x % y) = G) := Lib.hid (by rw [Nat.gcd_comm, ← Nat.gcd_rec, Nat.gcd_comm]; exact hg.out)
      generalize x % y = z at *
      go_wp2
      go_quiet (fail)
      go_wp2
      go_roundw
      case rel => exact ⟨y, z, _, rfl, rfl, hg2.out, World.drewN_drewN _ _ _⟩
      case measure => simp [intOf]; omega

set_option maxHeartbeats 1000000 in
theorem spec_l26Gcd_any (a b : Nat) (w : World) : Calls Tryz.prog 38 #[.int .i64 a, .int .i64 b] w (Reads w (.int .i64 ((Nat.gcd a b : Nat) : Int))) := by
  generalize hG : Nat.gcd a b = G
  have HG := Lib.hid hG; clear hG
  go_enter Tryz.func38, Tryz.ntmps38
  go_wp2
  go_loopw [0, 1] (fun xv yv wr => ∃ (x y q : Nat), xv = .int .i64 x ∧ yv = .int .i64 y ∧ Hid (Nat.gcd x y = G) ∧ wr = w.drewN q) (fun _ yv _ => (intOf yv).toNat)
  case atStart => exact ⟨a, b, 0, rfl, rfl, HG.out, rfl⟩
  case round =>
    obtain ⟨x, y, q, rfl, rfl, hg, rfl⟩ := hrel
    by_cases hy : y = 0
    · subst hy
      have hx : x = G := by have h := hg.out; rwa [Nat.gcd_zero_right] at h
      subst hx
      go_wp2
      go_ret
      exact ⟨rfl, (by first | exact ⟨_, rfl⟩ | exact ⟨0, rfl⟩ | exact still2 _ _ _ | exact still3 _ _ _ _)⟩
    · have hne : ((y : Int) != 0) = true := by rw [bne_iff_ne]; omega
      have hne2 : ((y : Int) == 0) = false := by rw [beq_eq_false_iff_ne]; omega
      have hm : Int.tmod (x : Int) (y : Int) = ((x % y : Nat) : Int) := by rw [Int.tmod_eq_emod_of_nonneg (by omega)]; simp
      have hlt : x % y < y := Nat.mod_lt _ (by omega)
      have hg2 : Hid (Nat.gcd y (x % y) = G) := Lib.hid (by rw [Nat.gcd_comm, ← Nat.gcd_rec, Nat.gcd_comm]; exact hg.out)
      have hy0 : 0 < y := by omega
      generalize x % y = z at *
      go_wp2
      go_roundw
      case rel => exact ⟨y, z, _, rfl, rfl, hg2.out, rfl⟩
      case measure => simp [intOf]; omega

set_option maxHeartbeats 1000000 in
theorem impl_PairingOf_any (g1 o1 n c1 g2 o2 c2 : Nat) (v r : List Int) (w : World) (hn1 : v.length = n) (hn2 : r.length = n) (hx : n ≤ 1048576) (ha : Cells w g1 o1 v) (hr : Cells w g2 o2 r) :
    Calls Tryz.prog 47 #[(Value.slice (some ⟨g1, o1, none⟩) n c1), (Value.slice (some ⟨g2, o2, none⟩) n c2)] w (Reads w (.int .i64 (dotTo v r n))) := by
  go_enter Tryz.func47, Tryz.ntmps47
  go_wp2
  go_loopw [5, 12] (fun s kv wr => ∃ t q : Nat, t ≤ n ∧ kv = .int .i64 t ∧ s = .int .i64 (dotTo v r t) ∧ wr = w.drewN q) (fun _ kv _ => n - (intOf kv).toNat)
  case atStart => exact ⟨0, 0, Nat.zero_le _, rfl, rfl, rfl⟩
  case round =>
    obtain ⟨t, q, ht, rfl, rfl, rfl⟩ := hrel
    by_cases hlt : t < n
    · have q1 := ha t (by omega)
      have q2 := hr t (by omega)
      have hd : dotTo v r (t + 1) = wrap64 (dotTo v r t + wrap64 (v.getD t 0 * r.getD t 0)) := rfl
      generalize v.getD t 0 = x at *
      generalize r.getD t 0 = y at *
      have Hd := Lib.hid hd; clear hd
      generalize dotTo v r t = z at *
      go_wp2
      go_quiet (fail)
      go_wp2
      go_roundw
      case rel => exact ⟨t + 1, _, by omega, by go_num, by rw [Hd.out], rfl⟩
      case measure => simp [intOf]; omega
    · obtain rfl : t = n := by omega
      go_wp2
      go_ret
      exact ⟨rfl, (by first | exact ⟨_, rfl⟩ | exact ⟨0, rfl⟩ | exact still2 _ _ _ | exact still3 _ _ _ _)⟩

set_option maxHeartbeats 1000000 in
theorem spec_PairingOf_any (g1 o1 n c1 g2 o2 c2 : Nat) (v r : List Int) (w : World) (hn1 : v.length = n) (hn2 : r.length = n) (hx : n ≤ 1048576) (ha : Cells w g1 o1 v) (hr : Cells w g2 o2 r) :
    Calls Tryz.prog 34 #[(Value.slice (some ⟨g1, o1, none⟩) n c1), (Value.slice (some ⟨g2, o2, none⟩) n c2)] w (Reads w (.int .i64 (dotTo v r n))) := by
  go_enter Tryz.func34, Tryz.ntmps34
  go_wp2
  go_loopw [5, 6] (fun s kv wr => ∃ t q : Nat, t ≤ n ∧ kv = .int .i64 t ∧ s = .int .i64 (dotTo v r t) ∧ wr = w.drewN q) (fun _ kv _ => n - (intOf kv).toNat)
  case atStart => exact ⟨0, 0, Nat.zero_le _, rfl, rfl, rfl⟩
  case round =>
    obtain ⟨t, q, ht, rfl, rfl, rfl⟩ := hrel
    by_cases hlt : t < n
    · have q1 := ha t (by omega)
      have q2 := hr t (by omega)
      have hd : dotTo v r (t + 1) = wrap64 (dotTo v r t + wrap64 (v.getD t 0 * r.getD t 0)) := rfl
      generalize v.getD t 0 = x at *
      generalize r.getD t 0 = y at *
      have Hd := Lib.hid hd; clear hd
      generalize dotTo v r t = z at *
      go_wp2
      go_quiet (fail)
      go_wp2
      go_roundw
      case rel => exact ⟨t + 1, _, by omega, by go_num, by rw [Hd.out], rfl⟩
      case measure => simp [intOf]; omega
    · obtain rfl : t = n := by omega
      go_wp2
      go_ret
      exact ⟨rfl, (by first | exact ⟨_, rfl⟩ | exact ⟨0, rfl⟩ | exact still2 _ _ _ | exact still3 _ _ _ _)⟩

def addTo (a b : List Int) (k : Nat) : List Int := (List.range k).map fun j => wrap64 (a.getD j 0 + b.getD j 0)
theorem addTo_succ (a b : List Int) (k : Nat) : addTo a b (k + 1) = addTo a b k ++ [wrap64 (a.getD k 0 + b.getD k 0)] := by unfold addTo; rw [List.range_succ, List.map_append]; rfl
theorem addTo_length (a b : List Int) (k : Nat) : (addTo a b k).length = k := by simp [addTo]
set_option maxHeartbeats 1000000 in
theorem spec_AddWeights_any (g1 o1 n c1 g2 o2 c2 : Nat) (v r : List Int) (w : World) (hn1 : v.length = n) (hn2 : r.length = n) (hx : n ≤ 1048576) (hg1 : g1 < w.heap.size) (hg2 : g2 < w.heap.size) (ha : Cells w g1 o1 v) (hr : Cells w g2 o2 r) :
    Calls Tryz.prog 35 #[(Value.slice (some ⟨g1, o1, none⟩) n c1), (Value.slice (some ⟨g2, o2, none⟩) n c2)] w (GotInts w (addTo v r n)) := by
  go_enter Tryz.func35, Tryz.ntmps35
  go_wp2
  go_loopw [5, 6] (fun s kv wr => ∃ t g' c' : Nat, t ≤ n ∧ kv = .int .i64 t ∧ s = (Value.slice (some ⟨g', 0, none⟩) t c') ∧ Own wr w.heap.size g' c' (addTo v r t) ∧ Below w.heap.size w wr) (fun _ kv _ => n - (intOf kv).toNat)
  case atStart => exact ⟨0, w.heap.size, 0, Nat.zero_le _, rfl, rfl, Own.empty (Nat.le_refl _), (Below.refl _ _).alloc (Nat.le_refl _) _⟩
  case round =>
    obtain ⟨t, g', c', ht, rfl, rfl, ho, hb⟩ := hrel
    by_cases hlt : t < n
    · have k1 := (hb.cell (p := ⟨g1, o1 + t, none⟩) hg1).trans (ha t (by omega))
      have k2 := (hb.cell (p := ⟨g2, o2 + t, none⟩) hg2).trans (hr t (by omega))
      have hsucc := addTo_succ v r t
      have hl := addTo_length v r t
      have hBg := ho.base
      have ne1 : some g1 ≠ some g' := by intro e; cases e; omega
      have ne2 : some g2 ≠ some g' := by intro e; cases e; omega
      generalize v.getD t 0 = x at *
      generalize r.getD t 0 = y at *
      generalize addTo v r t = ys at *
      have Hs := Lib.hid hsucc; clear hsucc
      go_wp2_with fail
      go_region_held3 (fun W => W.cell? ⟨g1, o1 + t, none⟩ = some (.int .i64 x) ∧ W.cell? ⟨g2, o2 + t, none⟩ = some (.int .i64 y))
        (first | go_keep | exact ⟨hg3.cell (a := ⟨g1, o1 + t, none⟩) k1 ne1, hg3.cell (a := ⟨g2, o2 + t, none⟩) k2 ne2⟩)
        ((refine step_append_int (w := wr.drew) (by rfl) _ _ (by rfl) w.heap.size g' c' t wr.heap.size ys (IntKind.i64.wrap (x + y)) _ hl (by rfl) (by rfl) ho.drew (by rfl) (by rfl) (by omega) ?_; intro g3 c3 w3 ho3 hg3 hor))
      go_wp2_with fail
      go_roundw
      case rel =>
        rw [show IntKind.i64.wrap (x + y) = wrap64 (x + y) by simp only [wrap64, IntKind.wrap_i64], ← Hs.out] at ho3
        exact ⟨t + 1, g3, c3, by omega, by go_num, rfl, ho3, (Below.drew hb).grown hg3 hb.size (by intro j hj; cases hj; exact ho.base)⟩
      case measure => simp [intOf]; omega
    · obtain rfl : t = n := by omega
      go_wp2_with fail
      go_ret
      exact GotInts.mk' g' c' (addTo_length _ _ _) ho hb

set_option maxHeartbeats 2000000 in
theorem impl_isSmall_any (gc oc n cc g o m cv : Nat) (c : List (List Int)) (v : List Int) (w : World) (hn : c.length = n) (hm : v.length = m) (_hx : c.length ≤ 1048576) (hvx : v.length ≤ 1048576) (hv : Cells w g o v) :
    Calls Tryz.prog 46 #[(Value.slice (some ⟨gc, oc, none⟩) n cc), (Value.slice (some ⟨g, o, none⟩) m cv)] w (Reads w (.bool (decide (Sml c.length v)))) := by
  subst hn; subst hm
  by_cases hlen : v.length = c.length
  · have hlen' : ((v.length : Int) != (c.length : Int)) = false := by rw [hlen]; simp
    have Hlen := Lib.hid hlen; clear hlen
    go_enter Tryz.func46, Tryz.ntmps46
    go_wp2_with fail
    go_loopw [14] (fun i wr => ∃ k : Nat, k ≤ v.length ∧ i = .int .i64 k ∧ Hid (∀ j, j < k → 0 ≤ v.getD j 0 ∧ v.getD j 0 ≤ 4) ∧ ∃ m, wr = w.drewN m) (fun i _ => v.length - (intOf i).toNat)
    case atStart => exact ⟨0, Nat.zero_le _, rfl, fun j hj => absurd hj (by omega), (by first | exact ⟨_, rfl⟩ | exact ⟨0, rfl⟩ | exact still2 _ _ _ | exact still3 _ _ _ _)⟩
    case round =>
      obtain ⟨k, hk, rfl, hall, m, rfl⟩ := hrel
      by_cases hlt : k < v.length
      · have q1 := hv k hlt
        have HX : Hid (¬ (0 ≤ v.getD k 0 ∧ v.getD k 0 ≤ 4) → decide (Sml c.length v) = false) := fun h => decide_eq_false (fun h2 => h (h2.2 k hlt))
        have HY : Hid (0 ≤ v.getD k 0 ∧ v.getD k 0 ≤ 4 → ∀ j, j < k + 1 → 0 ≤ v.getD j 0 ∧ v.getD j 0 ≤ 4) := fun h j hj => by
          by_cases e : j = k
          · subst e; exact h
          · exact hall.out j (by omega)
        generalize v.getD k 0 = x at *
        by_cases h1 : x < 0
        · have hf := HX.out (by omega)
          have Hf := Lib.hid hf; clear hf
          go_wp2
          go_ret
          exact ⟨ret_bool Hf.out.symm, (by first | exact ⟨_, rfl⟩ | exact ⟨0, rfl⟩ | exact still2 _ _ _ | exact still3 _ _ _ _)⟩
        · by_cases h2 : 4 < x
          · have hf := HX.out (by omega)
            have Hf := Lib.hid hf; clear hf
            go_wp2
            go_ret
            exact ⟨ret_bool Hf.out.symm, (by first | exact ⟨_, rfl⟩ | exact ⟨0, rfl⟩ | exact still2 _ _ _ | exact still3 _ _ _ _)⟩
          · have hy := HY.out (by omega)
            have Hy := Lib.hid hy; clear hy
            go_wp2
            go_roundw
            case rel => exact ⟨k + 1, by omega, by go_num, Hy.out, (by first | exact ⟨_, rfl⟩ | exact ⟨0, rfl⟩ | exact still2 _ _ _ | exact still3 _ _ _ _)⟩
            case measure => simp [intOf]; omega
      · obtain rfl : k = v.length := by omega
        have hf : decide (Sml c.length v) = true := decide_eq_true ⟨Hlen.out, hall.out⟩
        have Hf := Lib.hid hf; clear hf
        go_wp2
        go_ret
        exact ⟨ret_bool Hf.out.symm, (by first | exact ⟨_, rfl⟩ | exact ⟨0, rfl⟩ | exact still2 _ _ _ | exact still3 _ _ _ _)⟩
  · have hlen' : ((v.length : Int) != (c.length : Int)) = true := by simp; omega
    have hf : decide (Sml c.length v) = false := decide_eq_false (fun h => hlen h.1)
    have Hf := Lib.hid hf; clear hf hlen
    go_enter Tryz.func46, Tryz.ntmps46
    go_wp2_with fail
    go_ret
    exact ⟨ret_bool Hf.out.symm, (by first | exact ⟨_, rfl⟩ | exact ⟨0, rfl⟩ | exact still2 _ _ _ | exact still3 _ _ _ _)⟩

set_option maxHeartbeats 2000000 in
theorem spec_l25Small_any (gc oc n cc g o m cv : Nat) (c : List (List Int)) (v : List Int) (w : World) (hn : c.length = n) (hm : v.length = m) (hx : c.length ≤ 1048576) (hvx : v.length ≤ 1048576)
    (hrl : ∀ j, j < c.length → (c.getD j []).length ≤ 1048576) (hgc : gc < w.heap.size) (hr : Rows2 w gc oc c) (hv : Cells w g o v) :
    Calls Tryz.prog 33 #[(Value.slice (some ⟨gc, oc, none⟩) n cc), (Value.slice (some ⟨g, o, none⟩) m cv)] w (Gives w (.bool (finB c && decide (Sml c.length v)))) := by
  subst hn; subst hm
  go_enter Tryz.func33, Tryz.ntmps33
  go_wp2_with fail
  go_loopw [5] (fun i wr => ∃ k : Nat, k ≤ v.length ∧ i = .int .i64 k ∧ Hid (∀ j, j < k → 0 ≤ v.getD j 0 ∧ v.getD j 0 ≤ 4) ∧ ∃ m, wr = w.drewN m) (fun i _ => v.length - (intOf i).toNat)
  case atStart => exact ⟨0, Nat.zero_le _, rfl, fun j hj => absurd hj (by omega), (by first | exact ⟨_, rfl⟩ | exact ⟨0, rfl⟩ | exact still2 _ _ _ | exact still3 _ _ _ _)⟩
  case round =>
    obtain ⟨k, hk, rfl, hall, m, rfl⟩ := hrel
    by_cases hlt : k < v.length
    · have q1 := hv k hlt
      have HX : Hid (¬ (0 ≤ v.getD k 0 ∧ v.getD k 0 ≤ 4) → (finB c && decide (Sml c.length v)) = false) := fun h => by rw [decide_eq_false (fun h2 => h (h2.2 k hlt)), Bool.and_false]
      have HY : Hid (0 ≤ v.getD k 0 ∧ v.getD k 0 ≤ 4 → ∀ j, j < k + 1 → 0 ≤ v.getD j 0 ∧ v.getD j 0 ≤ 4) := fun h j hj => by
        by_cases e : j = k
        · subst e; exact h
        · exact hall.out j (by omega)
      generalize v.getD k 0 = x at *
      go_wp2_with fail
      refine (spec_l1In x 0 4 (w.drewN m)).mono ?_
      rintro e w2 ⟨rfl, m2, rfl⟩
      by_cases hin : 0 ≤ x ∧ x ≤ 4
      · have hT : (decide (0 ≤ x) && decide (x ≤ 4)) = true := by simp; exact hin
        have hy := HY.out hin
        have Hy := Lib.hid hy; clear hy hin
        rw [hT]
        go_wp2_with fail
        go_roundw
        case rel => exact ⟨k + 1, by omega, by go_num, Hy.out, (by first | exact ⟨_, rfl⟩ | exact ⟨0, rfl⟩ | exact still2 _ _ _ | exact still3 _ _ _ _)⟩
        case measure => simp [intOf]; omega
      · have hT : (decide (0 ≤ x) && decide (x ≤ 4)) = false := by rw [Bool.and_eq_false_iff, decide_eq_false_iff_not, decide_eq_false_iff_not]; omega
        have hf := HX.out hin
        have Hf := Lib.hid hf; clear hf hin
        rw [hT]
        go_wp2_with fail
        go_ret
        exact ⟨ret_bool Hf.out.symm, below_still (Below.refl _ _) (by first | exact ⟨_, rfl⟩ | exact ⟨0, rfl⟩ | exact still2 _ _ _ | exact still3 _ _ _ _)⟩
    · obtain rfl : k = v.length := by omega
      have hcall := spec_IsFinite_any gc oc _ cc c (w.drewN m) rfl hx hrl hgc (hr.still ⟨m, rfl⟩)
      have hf : decide (Sml c.length v) = decide (v.length = c.length) := decide_eq_decide.2 ⟨fun h => h.1, fun h => ⟨h, hall.out⟩⟩
      have Hf := Lib.hid hf
      clear hf
      cases hF : finB c with
      | false =>
        rw [hF] at hcall
        have Hcall := Lib.hid hcall
        have hz : (finB c && decide (Sml c.length v)) = false := by rw [hF, Bool.false_and]
        have Hz := Lib.hid hz
        clear hcall hF hz
        go_wp2_with fail
        refine Hcall.out.mono ?_
        rintro e w2 ⟨rfl, hb2⟩
        have hB2 : Below w.heap.size w w2 := Below.trans (below_still (Below.refl _ _) ⟨m, rfl⟩) hb2
        go_wp2_with fail
        go_ret
        exact ⟨ret_bool Hz.out.symm, hB2⟩
      | true =>
        rw [hF] at hcall
        have Hcall := Lib.hid hcall
        have hz : (finB c && decide (Sml c.length v)) = decide (v.length = c.length) := by rw [hF, Bool.true_and, Hf.out]
        clear hcall hF
        by_cases hlen : v.length = c.length
        · have hT : ((v.length : Int) == (c.length : Int)) = true := by rw [hlen]; simp
          have hT2 : decide (v.length = c.length) = true := decide_eq_true hlen
          rw [hT2] at hz
          have Hz := Lib.hid hz
          clear hlen hT2 hz
          go_wp2_with fail
          refine Hcall.out.mono ?_
          rintro e w2 ⟨rfl, hb2⟩
          have hB2 : Below w.heap.size w w2 := Below.trans (below_still (Below.refl _ _) ⟨m, rfl⟩) hb2
          go_wp2_with fail
          go_ret
          exact ⟨ret_bool Hz.out.symm, hB2⟩
        · have hT : ((v.length : Int) == (c.length : Int)) = false := by simp; omega
          have hT2 : decide (v.length = c.length) = false := decide_eq_false hlen
          rw [hT2] at hz
          have Hz := Lib.hid hz
          clear hlen hT2 hz
          go_wp2_with fail
          refine Hcall.out.mono ?_
          rintro e w2 ⟨rfl, hb2⟩
          have hB2 : Below w.heap.size w w2 := Below.trans (below_still (Below.refl _ _) ⟨m, rfl⟩) hb2
          go_wp2_with fail
          go_ret
          exact ⟨ret_bool Hz.out.symm, hB2⟩
end Go.Proofs.YtmjneokgnnbekaaGreatDoor
namespace Go.Proofs.YtmjneokgnnbekaaGreatDoor
set_option maxRecDepth 100000
open Go.RowKit Game

def prT (v : List Int) (L : List (List Int)) (j : Nat) : Int := dotTo v (L.getD j []) v.length
def mnOk (v : List Int) (L : List (List Int)) (k : Nat) : Prop := ∀ j, j < k → 0 ≤ prT v L j ∧ prT v L j ≤ 1
instance (v : List Int) (L : List (List Int)) (k : Nat) : Decidable (mnOk v L k) := by unfold mnOk; infer_instance
def mnS (v : List Int) (L : List (List Int)) : Nat → Bool
  | 0 => false
  | k + 1 => mnS v L k || decide (prT v L k = 1)
def minB (c : List (List Int)) (v : List Int) : Bool := finB c && (decide (wtOk c v) && (decide (mnOk v (coL c) (coL c).length) && mnS v (coL c) (coL c).length))
theorem mnOk.next {v : List Int} {L : List (List Int)} {k : Nat} (h : mnOk v L k) (h1 : 0 ≤ prT v L k ∧ prT v L k ≤ 1) : mnOk v L (k + 1) := fun j hj => by
  by_cases e : j = k
  · subst e; exact h1
  · exact h j (by omega)

set_option maxHeartbeats 1000000 in
theorem impl_IsMinuscule_any (gc oc n cc g o m cv : Nat) (c : List (List Int)) (v : List Int) (w : World) (hn : c.length = n) (hm : v.length = m) (hvl : v.length = c.length) (hx : c.length ≤ 1048576)
    (hrl : ∀ j, j < c.length → (c.getD j []).length ≤ 1048576) (hgc : gc < w.heap.size) (hg : g < w.heap.size) (hr : Rows2 w gc oc c) (hv : Cells w g o v) :
    Calls Tryz.prog 26 #[(Value.slice (some ⟨gc, oc, none⟩) n cc), (Value.slice (some ⟨g, o, none⟩) m cv)] w (Gives w (.bool (minB c v))) := by
  subst hn; subst hm
  have hcall := impl_PositiveCoroots_any gc oc _ cc c w rfl hx hrl hgc hr
  cases hf : finB c with
  | false =>
    have Hz := Lib.hid (show minB c v = false by unfold minB; rw [hf]; rfl)
    rw [hf] at hcall
    have Hcall := Lib.hid hcall
    generalize coA c = A at *
    clear hcall hr hrl hf hvl
    go_enter Tryz.func26, Tryz.ntmps26
    go_wp2_with fail
    refine Hcall.out.mono ?_
    rintro e w1 ⟨g1, c1, rs1, rfl, -, -, hb1⟩
    go_wp2_with fail
    go_ret
    exact ⟨ret_bool Hz.out.symm, hb1⟩
  | true =>
    rw [hf, coA_fin hf] at hcall
    have Hcall := Lib.hid hcall
    have hwt := fun W (hW : Below w.heap.size w W) => impl_IsWeight_any gc oc _ cc g o _ cv c v W rfl rfl hx (by omega) hrl (hr.below hW hgc) (hv.below hW hg)
    by_cases hW : wtOk c v
    · rw [decide_eq_true hW] at hwt
      have Hwt := Lib.hid hwt
      have hK := coOk_fin hf
      have hL := fun k (hk : k < (coL c).length) => (coL_mem hK ((coL c).getD k []) (by simp [List.getD, hk])).2.2
      have Hm := Lib.hid (show minB c v = (decide (mnOk v (coL c) (coL c).length) && mnS v (coL c) (coL c).length) by unfold minB; rw [hf, decide_eq_true hW]; rfl)
      have hn4 := hW.1.2.1
      have Hvl := Lib.hid hvl
      have hfew : (coL c).length ≤ 24 := by unfold coL; rw [List.length_map]; exact (posOk_fin hf).few
      have hNo : ∀ k, k < (coL c).length → ¬ (0 ≤ prT v (coL c) k ∧ prT v (coL c) k ≤ 1) → minB c v = false := fun k hk h => by
        rw [Hm.out, decide_eq_false (fun h2 => h (h2 k hk)), Bool.false_and]
      have HNo := Lib.hid hNo
      have HL := Lib.hid hL
      rw [hvl]
      rw [hvl] at Hwt
      generalize coL c = L at *
      clear hcall hr hrl hf hvl hwt hW hK hNo hL
      go_enter Tryz.func26, Tryz.ntmps26
      go_wp2_with fail
      refine Hcall.out.mono ?_
      rintro e w1 ⟨g1, c1, rs1, rfl, hc1, ho1, hb1⟩
      have Hc1 := Lib.hid hc1; clear hc1
      have Hw1 := Lib.hid (Hwt.out w1 hb1)
      go_wp2_with fail
      refine Hw1.out.mono ?_
      rintro e w2 ⟨rfl, hs2⟩
      have ho2 := ho1.still hs2
      have hb2 := below_still hb1 hs2
      have Hlen := Lib.hid (show rs1.length = L.length by rw [← Hc1.out, contents_length])
      clear Hw1 ho1 hb1 hs2 Hcall Hwt
      go_wp2_with fail
      go_loopw [7, 26] (fun sv kv wr => ∃ k : Nat, k ≤ L.length ∧ kv = .int .i64 k ∧ sv = .bool (mnS v L k) ∧ Hid (mnOk v L k) ∧ OwnRows wr w.heap.size g1 c1 rs1 ∧ Below w.heap.size w wr) (fun _ kv _ => L.length - (intOf kv).toNat)
      case atStart => exact ⟨0, Nat.zero_le _, rfl, rfl, fun j hj => absurd hj (by omega), ho2, hb2⟩
      case round =>
        clear ho2 hb2
        obtain ⟨k, hk, rfl, rfl, hok, ho, hb⟩ := hrel
        by_cases hlt : k < L.length
        · have hkr : k < rs1.length := by rw [Hlen.out]; exact hlt
          have hx0 : L.getD k [] = rs1[k].2.2 := by rw [← Hc1.out]; simp [contents, List.getD, hkr]
          have hrl := HL.out k hlt
          have hpr : prT v L k = dotTo v (L.getD k []) v.length := rfl
          have Hno := Lib.hid (HNo.out k hlt)
          have Hnx := Lib.hid (fun h => hok.out.next (k := k) h)
          have hms : mnS v L (k + 1) = (mnS v L k || decide (prT v L k = 1)) := rfl
          rw [hx0] at hrl hpr
          rw [Hvl.out] at hpr
          have hcl : wr.cell? ⟨g1, k, none⟩ = some (rowVal rs1[k]) := by rw [ho.1.cell k (by simpa using hkr)]; simp
          have hor := ho.2.1 _ (List.getElem_mem hkr)
          generalize rs1[k] = ro at *
          obtain ⟨bo, co, r⟩ := ro
          have hRl : r.length = c.length := hrl
          have k1 : wr.cell? ⟨g1, k, none⟩ = some (Value.slice (some ⟨bo, 0, none⟩) c.length co) := by rw [hcl]; show some (Value.slice (some ⟨bo, 0, none⟩) r.length co) = _; rw [hRl]
          have hor' : Own wr w.heap.size bo co r := hor
          have hpr' : prT v L k = dotTo v r c.length := hpr
          have hpc := impl_PairingOf_any g o c.length cv bo 0 co v r wr Hvl.out hRl (by omega) (hv.below hb hg) hor'.cells
          rw [← hpr'] at hpc
          have Hpc := Lib.hid hpc; have Hms := Lib.hid hms
          generalize prT v L k = P at *
          clear hpc hpr hpr' hrl hcl hor hor' hx0 hRl hms hok
          go_wp2_with fail
          refine Hpc.out.mono ?_
          rintro e w4 ⟨rfl, hs4⟩
          have ho4 := ho.still hs4
          have hb4 := below_still hb hs4
          clear hs4 ho hb Hpc
          by_cases h1 : P < 0
          · have Hz := Lib.hid (Hno.out (by omega))
            go_wp2_with fail
            go_ret
            exact ⟨ret_bool Hz.out.symm, hb4⟩
          · by_cases h2 : 1 < P
            · have Hz := Lib.hid (Hno.out (by omega))
              go_wp2_with fail
              go_ret
              exact ⟨ret_bool Hz.out.symm, hb4⟩
            · have Hok := Lib.hid (Hnx.out (by omega))
              have d1 : (P == 1) = decide (P = 1) := rfl
              cases hmk : mnS v L k with
              | true =>
                rw [hmk] at Hms
                go_wp2_with fail
                go_roundw
                case rel => exact ⟨k + 1, by omega, by go_num, by rw [Hms.out, Bool.true_or], Hok.out, ho4, hb4⟩
                case measure => simp [intOf]; omega
              | false =>
                rw [hmk] at Hms
                by_cases h3 : P = 1
                · have d3 : (P == 1) = true := by simp [h3]
                  have Hms2 := Lib.hid (show mnS v L (k + 1) = true by rw [Hms.out, decide_eq_true h3]; rfl)
                  clear d1
                  go_wp2_with fail
                  go_roundw
                  case rel => exact ⟨k + 1, by omega, by go_num, by rw [Hms2.out], Hok.out, ho4, hb4⟩
                  case measure => simp [intOf]; omega
                · have d3 : (P == 1) = false := by simp [h3]
                  have Hms2 := Lib.hid (show mnS v L (k + 1) = false by rw [Hms.out, decide_eq_false h3]; rfl)
                  clear d1
                  go_wp2_with fail
                  go_roundw
                  case rel => exact ⟨k + 1, by omega, by go_num, by rw [Hms2.out], Hok.out, ho4, hb4⟩
                  case measure => simp [intOf]; omega
        · obtain rfl : k = L.length := by omega
          have hz := Hm.out
          rw [decide_eq_true hok.out, Bool.true_and] at hz
          have Hz := Lib.hid hz
          generalize mnS v L L.length = S at *
          clear hz
          go_wp2_with fail
          go_ret
          exact ⟨ret_bool Hz.out.symm, hb⟩
    · rw [decide_eq_false hW] at hwt
      have Hwt := Lib.hid hwt
      have Hz := Lib.hid (show minB c v = false by unfold minB; rw [decide_eq_false hW, Bool.false_and, Bool.and_false])
      generalize coL c = L at *
      clear hcall hr hrl hf hvl hwt hW
      go_enter Tryz.func26, Tryz.ntmps26
      go_wp2_with fail
      refine Hcall.out.mono ?_
      rintro e w1 ⟨g1, c1, rs1, rfl, -, -, hb1⟩
      have Hw1 := Lib.hid (Hwt.out w1 hb1)
      go_wp2_with fail
      refine Hw1.out.mono ?_
      rintro e w2 ⟨rfl, hs2⟩
      have hb2 := below_still hb1 hs2
      go_wp2_with fail
      go_ret
      exact ⟨ret_bool Hz.out.symm, hb2⟩

set_option maxHeartbeats 1000000 in
theorem spec_IsMinuscule_any (gc oc n cc g o m cv : Nat) (c : List (List Int)) (v : List Int) (w : World) (hn : c.length = n) (hm : v.length = m) (hvl : v.length = c.length) (hx : c.length ≤ 1048576)
    (hrl : ∀ j, j < c.length → (c.getD j []).length ≤ 1048576) (hgc : gc < w.heap.size) (hg : g < w.heap.size) (hr : Rows2 w gc oc c) (hv : Cells w g o v) :
    Calls Tryz.prog 19 #[(Value.slice (some ⟨gc, oc, none⟩) n cc), (Value.slice (some ⟨g, o, none⟩) m cv)] w (Gives w (.bool (minB c v))) := by
  subst hn; subst hm
  have hcall := spec_PositiveCoroots_any gc oc _ cc c w rfl hx hrl hgc hr
  cases hf : finB c with
  | false =>
    have Hz := Lib.hid (show minB c v = false by unfold minB; rw [hf]; rfl)
    rw [hf, coA_inf hf] at hcall
    have Hcall := Lib.hid hcall
    clear hcall hr hrl hf hvl
    go_enter Tryz.func19, Tryz.ntmps19
    go_wp2_with fail
    refine Hcall.out.mono ?_
    rintro e w1 ⟨g1, c1, rs1, rfl, -, -, hb1⟩
    go_wp2_with fail
    go_loopw [7, 8] (fun zv kv wr => zv = .bool true ∧ kv = .int .i64 0 ∧ wr = w1) (fun _ _ _ => 0)
    case atStart => exact ⟨rfl, rfl, rfl⟩
    case round =>
      obtain ⟨rfl, rfl, rfl⟩ := hrel
      go_wp2_with fail
      go_ret
      exact ⟨ret_bool Hz.out.symm, hb1⟩
  | true =>
    rw [hf, coA_fin hf] at hcall
    have Hcall := Lib.hid hcall
    have hwt := fun W (hW : Below w.heap.size w W) => spec_IsWeight_any gc oc _ cc g o _ cv c v W rfl rfl hx (by omega) hrl (hr.below hW hgc) (hv.below hW hg)
    have hK := coOk_fin hf
    have hL := fun k (hk : k < (coL c).length) => (coL_mem hK ((coL c).getD k []) (by simp [List.getD, hk])).2.2
    have Hm := Lib.hid (show minB c v = (decide (wtOk c v) && (decide (mnOk v (coL c) (coL c).length) && mnS v (coL c) (coL c).length)) by unfold minB; rw [hf]; rfl)
    have hn4 := (finB_isC hf).2.1
    have Hvl := Lib.hid hvl
    have hfew : (coL c).length ≤ 24 := by unfold coL; rw [List.length_map]; exact (posOk_fin hf).few
    have hNo : ∀ k, k < (coL c).length → ¬ (0 ≤ prT v (coL c) k ∧ prT v (coL c) k ≤ 1) → minB c v = false := fun k hk h => by
      rw [Hm.out, decide_eq_false (fun h2 : mnOk v (coL c) (coL c).length => h (h2 k hk)), Bool.false_and, Bool.and_false]
    have HNo := Lib.hid hNo
    have HL := Lib.hid hL
    have Hwt := Lib.hid hwt
    rw [hvl]
    rw [hvl] at Hwt
    generalize decide (wtOk c v) = D at *
    generalize coL c = L at *
    clear hcall hr hrl hf hvl hwt hK hNo hL
    go_enter Tryz.func19, Tryz.ntmps19
    go_wp2_with fail
    refine Hcall.out.mono ?_
    rintro e w1 ⟨g1, c1, rs1, rfl, hc1, ho1, hb1⟩
    have Hc1 := Lib.hid hc1; clear hc1
    have Hlen := Lib.hid (show rs1.length = L.length by rw [← Hc1.out, contents_length])
    clear Hcall
    go_wp2_with fail
    go_loopw [7, 8] (fun zv kv wr => ∃ k : Nat, k ≤ L.length ∧ kv = .int .i64 k ∧ zv = .bool (!(mnS v L k)) ∧ Hid (mnOk v L k) ∧ OwnRows wr w.heap.size g1 c1 rs1 ∧ Below w.heap.size w wr) (fun _ kv _ => L.length - (intOf kv).toNat)
    case atStart => exact ⟨0, Nat.zero_le _, rfl, rfl, fun j hj => absurd hj (by omega), ho1, hb1⟩
    case round =>
      clear ho1 hb1
      obtain ⟨k, hk, rfl, rfl, hok, ho, hb⟩ := hrel
      by_cases hlt : k < L.length
      · have hkr : k < rs1.length := by rw [Hlen.out]; exact hlt
        have hx0 : L.getD k [] = rs1[k].2.2 := by rw [← Hc1.out]; simp [contents, List.getD, hkr]
        have hrl := HL.out k hlt
        have hpr : prT v L k = dotTo v (L.getD k []) v.length := rfl
        have Hno := Lib.hid (HNo.out k hlt)
        have Hnx := Lib.hid (fun h => hok.out.next (k := k) h)
        have hms : mnS v L (k + 1) = (mnS v L k || decide (prT v L k = 1)) := rfl
        rw [hx0] at hrl hpr
        rw [Hvl.out] at hpr
        have hcl : wr.cell? ⟨g1, k, none⟩ = some (rowVal rs1[k]) := by rw [ho.1.cell k (by simpa using hkr)]; simp
        have hor := ho.2.1 _ (List.getElem_mem hkr)
        generalize rs1[k] = ro at *
        obtain ⟨bo, co, r⟩ := ro
        have hRl : r.length = c.length := hrl
        have k1 : wr.cell? ⟨g1, k, none⟩ = some (Value.slice (some ⟨bo, 0, none⟩) c.length co) := by rw [hcl]; show some (Value.slice (some ⟨bo, 0, none⟩) r.length co) = _; rw [hRl]
        have hor' : Own wr w.heap.size bo co r := hor
        have hpr' : prT v L k = dotTo v r c.length := hpr
        have hpc := spec_PairingOf_any g o c.length cv bo 0 co v r wr Hvl.out hRl (by omega) (hv.below hb hg) hor'.cells
        rw [← hpr'] at hpc
        have Hpc := Lib.hid hpc; have Hms := Lib.hid hms
        generalize prT v L k = P at *
        generalize hmk : mnS v L k = S0 at *
        have Hmk := Lib.hid hmk
        clear hpc hpr hpr' hrl hcl hor hor' hx0 hRl hms hok hmk
        have dk : decide ((k : Int) < (L.length : Int)) = true := decide_eq_true (by omega)
        go_wp2_with fail
        refine Hpc.out.mono ?_
        rintro e w4 ⟨rfl, hs4⟩
        have ho4 := ho.still hs4
        have hb4 := below_still hb hs4
        clear hs4 ho hb Hpc
        by_cases h1 : P < 0
        · have Hz := Lib.hid (Hno.out (by omega))
          go_wp2_with fail
          go_ret
          exact ⟨ret_bool Hz.out.symm, hb4⟩
        · by_cases h2 : 1 < P
          · have Hz := Lib.hid (Hno.out (by omega))
            go_wp2_with fail
            go_ret
            exact ⟨ret_bool Hz.out.symm, hb4⟩
          · have Hok := Lib.hid (Hnx.out (by omega))
            cases S0 with
            | true =>
              go_wp2_with fail
              go_roundw
              case rel => exact ⟨k + 1, by omega, by go_num, by rw [Hms.out]; rfl, Hok.out, ho4, hb4⟩
              case measure => simp [intOf]; omega
            | false =>
              by_cases h3 : P = 0
              · have d3 : (P == 0) = true := by simp [h3]
                have Hms2 := Lib.hid (show mnS v L (k + 1) = false by rw [Hms.out, decide_eq_false (by omega)]; rfl)
                go_wp2_with fail
                go_roundw
                case rel => exact ⟨k + 1, by omega, by go_num, by rw [Hms2.out]; rfl, Hok.out, ho4, hb4⟩
                case measure => simp [intOf]; omega
              · have d3 : (P == 0) = false := by simp [h3]
                have Hms2 := Lib.hid (show mnS v L (k + 1) = true by rw [Hms.out, decide_eq_true (by omega)]; rfl)
                go_wp2_with fail
                go_roundw
                case rel => exact ⟨k + 1, by omega, by go_num, by rw [Hms2.out]; rfl, Hok.out, ho4, hb4⟩
                case measure => simp [intOf]; omega
      · obtain rfl : k = L.length := by omega
        have hz := Hm.out
        rw [decide_eq_true hok.out, Bool.true_and] at hz
        have dk : decide ((L.length : Int) < (L.length : Int)) = false := decide_eq_false (by omega)
        have Hw4 := Lib.hid (Hwt.out wr hb)
        generalize mnS v L L.length = S at *
        cases D with
        | false =>
          rw [Bool.false_and] at hz
          have Hz := Lib.hid hz
          clear hz
          go_wp2_with fail
          refine Hw4.out.mono ?_
          rintro e w4 ⟨rfl, hs4⟩
          have hb4 := below_still hb hs4
          go_wp2_with fail
          go_ret
          exact ⟨ret_bool Hz.out.symm, hb4⟩
        | true =>
          rw [Bool.true_and] at hz
          have Hz := Lib.hid hz
          clear hz
          cases S with
          | true =>
            go_wp2_with fail
            refine Hw4.out.mono ?_
            rintro e w4 ⟨rfl, hs4⟩
            have hb4 := below_still hb hs4
            go_wp2_with fail
            go_ret
            exact ⟨ret_bool Hz.out.symm, hb4⟩
          | false =>
            go_wp2_with fail
            refine Hw4.out.mono ?_
            rintro e w4 ⟨rfl, hs4⟩
            have hb4 := below_still hb hs4
            go_wp2_with fail
            go_ret
            exact ⟨ret_bool Hz.out.symm, hb4⟩
end Go.Proofs.YtmjneokgnnbekaaGreatDoor
