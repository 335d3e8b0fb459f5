/- Longest elements and opposite letters: contracts. OppositeLetter, IsWeight: contracts. OppositeLetter of the reference, IsWeight: contracts. -/
import Derived.Test.YtnpechcnmchneaaGreatDoorG17
import Derived.WalkSpells
namespace Go.Proofs.YtnpechcnmchneaaGreatDoor
set_option maxRecDepth 100000
open Go.RowKit

def negL (n : Nat) : List Int := List.replicate n (-1)
theorem onesL_length (n : Nat) : (onesL n).length = n := by simp [onesL]
theorem negL_length (n : Nat) : (negL n).length = n := by simp [negL]
/-- what a finite type's long word does -/
structure LongOf (c : List (List Int)) (long : List Int) (opp : Nat → Nat) : Prop where
  norm : normG c 30 (negL c.length) = some long
  act : actW c long (onesL c.length) = negL c.length
  opp_lt : ∀ i, i < c.length → opp i < c.length
  opp_eq : ∀ i, i < c.length → actW c long (refl c i (onesL c.length)) = refl c (opp i) (negL c.length)

theorem actW_append (c : List (List Int)) (a b v : List Int) : actW c (a ++ b) v = actW c a (actW c b v) := by
  induction a with
  | nil => rfl
  | cons i a ih => simp [actW, ih]
theorem refl_neg_at {c : List (List Int)} (hC : IsC c) {j k : Nat} (hk : k < c.length) (hj : j < c.length) : (refl c j (negL c.length)).getD k 0 = -1 + ent c k j := by
  have hb := ent_bound hC k j
  have e1 : (negL c.length).getD k 0 = -1 := by simp [negL, List.getD, hk]
  have e2 : (negL c.length).getD j 0 = -1 := by simp [negL, List.getD, hj]
  have e : (refl c j (negL c.length)).getD k 0 = reflAt c j (negL c.length) k := by simp [refl, List.getD, negL_length, hk]
  rw [e]
  unfold reflAt
  have e3 : wrap64 (-1 * ent c k j) = -1 * ent c k j := IntWalk.wrap64_in _ ⟨by omega, by omega⟩
  rw [e1, e2, e3, IntWalk.wrap64_in _ ⟨by omega, by omega⟩]
  omega
theorem refl_neg_pos {c : List (List Int)} (hC : IsC c) {j k : Nat} (hk : k < c.length) (hj : j < c.length) : 0 < (refl c j (negL c.length)).getD k 0 ↔ k = j := by
  rw [refl_neg_at hC hk hj]
  have h := hC.2.2.2 k hk j hj
  unfold EntOk at h
  by_cases e : k = j
  · rw [if_pos e] at h; omega
  · rw [if_neg e] at h; omega
theorem refl_neg_inj {c : List (List Int)} (hC : IsC c) {j k : Nat} (hk : k < c.length) (hj : j < c.length) : refl c j (negL c.length) = refl c k (negL c.length) ↔ j = k := by
  constructor
  · intro h
    have h1 := (refl_neg_pos hC hj hj).2 rfl
    rw [h] at h1
    exact (refl_neg_pos hC hj hk).1 h1
  · rintro rfl; rfl

set_option maxHeartbeats 2000000 in
theorem impl_longestElement_any (gc oc n cc : Nat) (c : List (List Int)) (long : List Int) (w : World) (hn : c.length = n) (hC : IsC c) (hlong : normG c 30 (negL c.length) = some long)
    (hgc : gc < w.heap.size) (hr : Rows2 w gc oc c) : Calls Tryz.prog 78 #[(Value.slice (some ⟨gc, oc, none⟩) n cc)] w (GotInts w long) := by
  subst hn
  have hn4 := hC.2.1
  go_enter Tryz.func78, Tryz.ntmps78
  go_wp2_with fail
  refine (impl_ones_any c.length w (by omega)).mono ?_
  rintro e w1 ⟨g1, c1, rfl, ho1, hb1⟩
  rw [onesL_length]
  go_wp2_with fail
  go_loopw [10] (fun i wr => ∃ t : Nat, t ≤ c.length ∧ i = .int .i64 t ∧ Own wr w.heap.size g1 c1 (List.replicate t (-1) ++ List.replicate (c.length - t) 1) ∧ Below w.heap.size w wr) (fun i _ => c.length - (intOf i).toNat)
  case atStart => exact ⟨0, Nat.zero_le _, rfl, by simpa [onesL] using ho1, hb1⟩
  case round =>
    obtain ⟨t, ht, rfl, ho, hb⟩ := hrel
    by_cases hlt : t < c.length
    · have hl : (List.replicate t (-1 : Int) ++ List.replicate (c.length - t) 1).length = c.length := by simp; omega
      have q1 := ho.cell t (by rw [hl]; exact hlt)
      have f1 := ho.frozen t
      have hs := ho.set t (-1)
      have e : (List.replicate t (-1 : Int) ++ List.replicate (c.length - t) 1).set t (-1) = List.replicate (t + 1) (-1) ++ List.replicate (c.length - (t + 1)) 1 := by
        rw [List.set_append_right _ _ (by simp)]
        obtain ⟨d, hd⟩ : ∃ d, c.length - t = d + 1 := ⟨c.length - t - 1, by omega⟩
        rw [hd, show c.length - (t + 1) = d by omega]
        rw [List.length_replicate, Nat.sub_self, List.replicate_succ, List.set_cons_zero, List.replicate_succ', List.append_assoc]; rfl
      rw [e] at hs
      have Hs := Lib.hid hs
      clear hs e hl
      go_wp2
      go_roundw
      case rel => exact ⟨t + 1, by omega, by go_num, Hs.out.1, hb.grown Hs.out.2 hb.size (by intro j hj; cases hj; exact ho.base)⟩
      case measure => simp [intOf]; omega
    · obtain rfl : t = c.length := by omega
      rw [Nat.sub_self, List.replicate_zero, List.append_nil] at ho
      have ho' : Own wr w.heap.size g1 c1 (negL c.length) := ho
      go_wp2_with fail
      refine (impl_normal_any gc oc _ cc g1 0 c.length c1 30 c (negL c.length) long wr rfl (negL_length _) hC (negL_length _) (by omega) hlong (Nat.lt_of_lt_of_le hgc hb.size) ho'.lt (hr.below hb hgc) ho'.cells).mono ?_
      rintro e w2 ⟨g2, c2, rfl, ho2, hb2⟩
      go_wp2_with fail
      go_ret
      exact ⟨g2, c2, rfl, ho2.mono hb.size, hb.trans (hb2.mono hb.size)⟩

set_option maxHeartbeats 2000000 in
theorem spec_LongestElement_ok (gc oc n cc : Nat) (c : List (List Int)) (long : List Int) (w : World) (hn : c.length = n) (hC : IsC c) (hfin : finB c = true) (hlong : normG c 30 (negL c.length) = some long)
    (hgc : gc < w.heap.size) (hr : Rows2 w gc oc c) : Calls Tryz.prog 19 #[(Value.slice (some ⟨gc, oc, none⟩) n cc)] w (GotIntsB w long true) := by
  subst hn
  have hn4 := hC.2.1
  go_enter Tryz.func19, Tryz.ntmps19
  go_wp2_with fail
  refine (spec_IsFinite_any gc oc _ cc c w rfl (by omega) (fun j hj => by have := hC.2.2.1 j hj; omega) hgc hr).mono ?_
  rintro e w1 ⟨rfl, hb1⟩
  rw [hfin]
  go_wp2_with fail
  go_loopw [4, 5] (fun s i wr => ∃ t g' c' : Nat, t ≤ c.length ∧ i = .int .i64 t ∧ s = (Value.slice (some ⟨g', 0, none⟩) t c') ∧ Own wr w.heap.size g' c' (negL t) ∧ Below w.heap.size w wr) (fun _ i _ => c.length - (intOf i).toNat)
  case atStart => exact ⟨0, w1.heap.size, 0, Nat.zero_le _, rfl, rfl, Own.empty (w := w1) hb1.size, hb1.alloc hb1.size _⟩
  case round =>
    obtain ⟨t, g', c', ht, rfl, rfl, ho, hb⟩ := hrel
    by_cases hlt : t < c.length
    · go_wp2_with (at_builtin; refine wpList_append_int_n rfl _ _ rfl w.heap.size g' c' t (negL t) (-1) (negL_length _) ho rfl rfl (by omega) ?_)
      intro g3 c3 w3 ho3 hg3 _
      go_wp2
      go_roundw
      case rel =>
        have e : negL t ++ [-1] = negL (t + 1) := by unfold negL; rw [List.replicate_succ']
        rw [e] at ho3
        exact ⟨t + 1, g3, c3, by omega, by go_num, rfl, ho3, hb.grown hg3 hb.size (by intro j hj; cases hj; exact ho.base)⟩
      case measure => simp [intOf]; omega
    · obtain rfl : t = c.length := by omega
      go_wp2_with fail
      refine (spec_l8Form_any gc oc _ cc g' 0 c.length c' 30 c (negL c.length) long wr rfl (negL_length _) hC (negL_length _) (by omega) hlong (Nat.lt_of_lt_of_le hgc hb.size) ho.lt (hr.below hb hgc) ho.cells).mono ?_
      rintro e w2 ⟨g2, c2, rfl, ho2, hb2⟩
      go_wp2_with fail
      go_ret2
      exact ⟨g2, c2, rfl, ho2.mono hb.size, hb.trans (hb2.mono hb.size)⟩

set_option maxHeartbeats 2000000 in
theorem spec_RhoOf_ok (gc oc n cc : Nat) (c : List (List Int)) (w : World) (hn : c.length = n) (hC : IsC c) (hgc : gc < w.heap.size) (hr : Rows2 w gc oc c) :
    Calls Tryz.prog 64 #[(Value.slice (some ⟨gc, oc, none⟩) n cc)] w (GotInts w (onesL c.length)) := by
  subst hn
  have hn4 := hC.2.1
  have hcart : Hid (∀ W, Below w.heap.size w W → Calls Tryz.prog 15 #[(Value.slice (some ⟨gc, oc, none⟩) c.length cc)] W (Reads W (.bool true))) := fun W hW => by
    have := spec_IsCartan gc oc _ cc c W rfl (by omega) (fun j hj => by have := hC.2.2.1 j hj; omega) (hr.below hW hgc)
    rwa [decide_eq_true hC] at this
  go_enter Tryz.func64, Tryz.ntmps64
  go_wp2_with fail
  go_loopw [3, 4] (fun s i wr => ∃ t g' c' : Nat, t ≤ c.length ∧ i = .int .i64 t ∧ s = (Value.slice (some ⟨g', 0, none⟩) t c') ∧ Own wr w.heap.size g' c' (onesL t) ∧ Below w.heap.size w wr) (fun _ i _ => c.length - (intOf i).toNat)
  case atStart => exact ⟨0, w.heap.size, 0, Nat.zero_le _, rfl, rfl, Own.empty (w := w) (Nat.le_refl _), (Below.refl _ _).alloc (Nat.le_refl _) _⟩
  case round =>
    obtain ⟨t, g', c', ht, rfl, rfl, ho, hb⟩ := hrel
    by_cases hlt : t < c.length
    · go_wp2_with fail
      refine (hcart.out _ hb).mono ?_
      rintro e w2 ⟨rfl, m2, rfl⟩
      go_wp2_with (at_builtin; refine wpList_append_int_n (w := wr.drewN m2) rfl _ _ rfl w.heap.size g' c' t (onesL t) 1 (onesL_length _) (ho.drewN m2) rfl rfl (by omega) ?_)
      intro g3 c3 w3 ho3 hg3 _
      go_wp2
      go_roundw
      case rel =>
        have e : onesL t ++ [1] = onesL (t + 1) := by unfold onesL; rw [List.replicate_succ']
        rw [e] at ho3
        exact ⟨t + 1, g3, c3, by omega, by go_num, rfl, ho3, (below_drewN hb m2).grown hg3 hb.size (by intro j hj; cases hj; exact ho.base)⟩
      case measure => simp [intOf]; omega
    · obtain rfl : t = c.length := by omega
      go_wp2_with fail
      go_ret
      exact GotInts.mk' g' c' (onesL_length _) ho hb

set_option maxHeartbeats 400000 in
theorem slices_Clone_any (g o n cp : Nat) (v : List Int) (w : World) (hn : v.length = n) (hx : v.length ≤ 1048576) (hg : g < w.heap.size) (hc : Cells w g o v) :
    Calls Tryz.prog 133 #[(Value.slice (some ⟨g, o, none⟩) n cp)] w (GotInts w v) := by
  subst hn
  have hnil : ∀ W, (binOp .eql 28 (Value.slice (some ⟨g, o, none⟩) v.length cp) (.slice none 0 0)).run Tryz.prog W = .ok (.bool false) W := fun W => Lib.run_eql_slice_nil W 28 3 _ _ _ _ _ Tryz.underlying28
  go_enter Tryz.func133, Tryz.ntmps133
  go_wp2_with (at_builtin; refine wpList_clone rfl _ _ rfl g o _ cp v rfl hg hc rfl rfl (by omega) ?_)
  intro g1 c1 w1 ho hb
  go_wp2_with fail
  go_ret
  exact GotInts.mk' g1 c1 rfl ho hb
end Go.Proofs.YtnpechcnmchneaaGreatDoor
namespace Go.Proofs.YtnpechcnmchneaaGreatDoor
set_option maxRecDepth 100000
open Go.RowKit

end Go.Proofs.YtnpechcnmchneaaGreatDoor
namespace Go.Proofs.YtnpechcnmchneaaGreatDoor
set_option maxRecDepth 100000
open Go.RowKit

def wtOk (c : List (List Int)) (v : List Int) : Prop := IsC c ∧ v.length = c.length ∧ ∀ j, j < v.length → -1000 ≤ v.getD j 0 ∧ v.getD j 0 ≤ 1000
instance (c : List (List Int)) (v : List Int) : Decidable (wtOk c v) := by unfold wtOk; infer_instance

set_option maxHeartbeats 2000000 in
theorem impl_IsWeight_any (gc oc n cc g o m cv : Nat) (c : List (List Int)) (v : List Int) (w : World) (hn : c.length = n) (hm : v.length = m) (hx : c.length ≤ 1048576) (hvx : v.length ≤ 1048576)
    (hrl : ∀ j, j < c.length → (c.getD j []).length ≤ 1048576) (hr : Rows2 w gc oc c) (hv : Cells w g o v) :
    Calls Tryz.prog 51 #[(Value.slice (some ⟨gc, oc, none⟩) n cc), (Value.slice (some ⟨g, o, none⟩) m cv)] w (Reads w (.bool (decide (wtOk c v)))) := by
  subst hn; subst hm
  go_enter Tryz.func51, Tryz.ntmps51
  go_wp2_with fail
  refine (impl_IsCartan gc oc _ cc c w rfl (by omega) (fun j hj => by have := hrl j hj; omega) hr).mono ?_
  rintro e w1 ⟨rfl, m1, rfl⟩
  by_cases hC : IsC c
  · have hC' : decide (IsC c) = true := decide_eq_true hC
    rw [hC']
    by_cases hlen : v.length = c.length
    · have hlen' : ((v.length : Int) != (c.length : Int)) = false := by rw [hlen]; simp
      have Hlen := Lib.hid hlen; clear hlen
      go_wp2_with fail
      go_loopw [19] (fun i wr => ∃ k : Nat, k ≤ v.length ∧ i = .int .i64 k ∧ Hid (∀ j, j < k → -1000 ≤ v.getD j 0 ∧ v.getD j 0 ≤ 1000) ∧ ∃ m, wr = w.drewN m) (fun i _ => v.length - (intOf i).toNat)
      case atStart => exact ⟨0, Nat.zero_le _, rfl, fun j hj => absurd hj (by omega), (by first | exact ⟨_, rfl⟩ | exact ⟨0, rfl⟩ | exact still2 _ _ _ | exact still3 _ _ _ _)⟩
      case round =>
        obtain ⟨k, hk, rfl, hall, m, rfl⟩ := hrel
        by_cases hlt : k < v.length
        · have q1 := hv k hlt
          have HX : Hid (¬ (-1000 ≤ v.getD k 0 ∧ v.getD k 0 ≤ 1000) → decide (wtOk c v) = false) := fun h => decide_eq_false (fun h2 => h (h2.2.2 k hlt))
          have HY : Hid (-1000 ≤ v.getD k 0 ∧ v.getD k 0 ≤ 1000 → ∀ j, j < k + 1 → -1000 ≤ v.getD j 0 ∧ v.getD j 0 ≤ 1000) := fun h j hj => by
            by_cases e : j = k
            · subst e; exact h
            · exact hall.out j (by omega)
          generalize v.getD k 0 = x at *
          by_cases h1 : x < -1000
          · have hf := HX.out (by omega)
            have Hf := Lib.hid hf; clear hf
            go_wp2
            go_ret
            exact ⟨ret_bool Hf.out.symm, (by first | exact ⟨_, rfl⟩ | exact ⟨0, rfl⟩ | exact still2 _ _ _ | exact still3 _ _ _ _)⟩
          · by_cases h2 : 1000 < x
            · have hf := HX.out (by omega)
              have Hf := Lib.hid hf; clear hf
              go_wp2
              go_ret
              exact ⟨ret_bool Hf.out.symm, (by first | exact ⟨_, rfl⟩ | exact ⟨0, rfl⟩ | exact still2 _ _ _ | exact still3 _ _ _ _)⟩
            · have hy := HY.out (by omega)
              have Hy := Lib.hid hy; clear hy
              go_wp2
              go_roundw
              case rel => exact ⟨k + 1, by omega, by go_num, Hy.out, (by first | exact ⟨_, rfl⟩ | exact ⟨0, rfl⟩ | exact still2 _ _ _ | exact still3 _ _ _ _)⟩
              case measure => simp [intOf]; omega
        · obtain rfl : k = v.length := by omega
          have hf : decide (wtOk c v) = true := decide_eq_true ⟨hC, Hlen.out, hall.out⟩
          have Hf := Lib.hid hf; clear hf
          go_wp2
          go_ret
          exact ⟨ret_bool Hf.out.symm, (by first | exact ⟨_, rfl⟩ | exact ⟨0, rfl⟩ | exact still2 _ _ _ | exact still3 _ _ _ _)⟩
    · have hlen' : ((v.length : Int) != (c.length : Int)) = true := by simp; omega
      have hf : decide (wtOk c v) = false := decide_eq_false (fun h => hlen h.2.1)
      have Hf := Lib.hid hf; clear hf hlen
      go_wp2_with fail
      go_ret
      exact ⟨ret_bool Hf.out.symm, (by first | exact ⟨_, rfl⟩ | exact ⟨0, rfl⟩ | exact still2 _ _ _ | exact still3 _ _ _ _)⟩
  · have hC' : decide (IsC c) = false := decide_eq_false hC
    have hf : decide (wtOk c v) = false := decide_eq_false (fun h => hC h.1)
    have Hf := Lib.hid hf; clear hf
    rw [hC']
    clear hC
    go_wp2_with fail
    go_ret
    exact ⟨ret_bool Hf.out.symm, (by first | exact ⟨_, rfl⟩ | exact ⟨0, rfl⟩ | exact still2 _ _ _ | exact still3 _ _ _ _)⟩

set_option maxHeartbeats 2000000 in
theorem spec_IsWeight_any (gc oc n cc g o m cv : Nat) (c : List (List Int)) (v : List Int) (w : World) (hn : c.length = n) (hm : v.length = m) (hx : c.length ≤ 1048576) (hvx : v.length ≤ 1048576)
    (hrl : ∀ j, j < c.length → (c.getD j []).length ≤ 1048576) (hr : Rows2 w gc oc c) (hv : Cells w g o v) :
    Calls Tryz.prog 42 #[(Value.slice (some ⟨gc, oc, none⟩) n cc), (Value.slice (some ⟨g, o, none⟩) m cv)] w (Reads w (.bool (decide (wtOk c v)))) := by
  subst hn; subst hm
  go_enter Tryz.func42, Tryz.ntmps42
  go_wp2_with fail
  go_loopw [5] (fun i wr => ∃ k : Nat, k ≤ v.length ∧ i = .int .i64 k ∧ Hid (∀ j, j < k → -1000 ≤ v.getD j 0 ∧ v.getD j 0 ≤ 1000) ∧ ∃ m, wr = w.drewN m) (fun i _ => v.length - (intOf i).toNat)
  case atStart => exact ⟨0, Nat.zero_le _, rfl, fun j hj => absurd hj (by omega), (by first | exact ⟨_, rfl⟩ | exact ⟨0, rfl⟩ | exact still2 _ _ _ | exact still3 _ _ _ _)⟩
  case round =>
    obtain ⟨k, hk, rfl, hall, m, rfl⟩ := hrel
    by_cases hlt : k < v.length
    · have q1 := hv k hlt
      have HX : Hid (¬ (-1000 ≤ v.getD k 0 ∧ v.getD k 0 ≤ 1000) → decide (wtOk c v) = false) := fun h => decide_eq_false (fun h2 => h (h2.2.2 k hlt))
      have HY : Hid (-1000 ≤ v.getD k 0 ∧ v.getD k 0 ≤ 1000 → ∀ j, j < k + 1 → -1000 ≤ v.getD j 0 ∧ v.getD j 0 ≤ 1000) := fun h j hj => by
        by_cases e : j = k
        · subst e; exact h
        · exact hall.out j (by omega)
      generalize v.getD k 0 = x at *
      go_wp2_with fail
      refine (spec_l1In x (-1000) 1000 (w.drewN m)).mono ?_
      rintro e w2 ⟨rfl, m2, rfl⟩
      by_cases hin : -1000 ≤ x ∧ x ≤ 1000
      · have hT : (decide (-1000 ≤ x) && decide (x ≤ 1000)) = true := by simp; exact hin
        have hy := HY.out hin
        have Hy := Lib.hid hy; clear hy hin
        rw [hT]
        go_wp2_with fail
        go_roundw
        case rel => exact ⟨k + 1, by omega, by go_num, Hy.out, (by first | exact ⟨_, rfl⟩ | exact ⟨0, rfl⟩ | exact still2 _ _ _ | exact still3 _ _ _ _)⟩
        case measure => simp [intOf]; omega
      · have hT : (decide (-1000 ≤ x) && decide (x ≤ 1000)) = false := by rw [Bool.and_eq_false_iff, decide_eq_false_iff_not, decide_eq_false_iff_not]; omega
        have hf := HX.out hin
        have Hf := Lib.hid hf; clear hf hin
        rw [hT]
        go_wp2_with fail
        go_ret
        exact ⟨ret_bool Hf.out.symm, (by first | exact ⟨_, rfl⟩ | exact ⟨0, rfl⟩ | exact still2 _ _ _ | exact still3 _ _ _ _)⟩
    · obtain rfl : k = v.length := by omega
      have hf : decide (wtOk c v) = (decide (IsC c) && decide (v.length = c.length)) := by
        rw [← Bool.decide_and]
        exact decide_eq_decide.2 ⟨fun h => ⟨h.1, h.2.1⟩, fun h => ⟨h.1, h.2, hall.out⟩⟩
      have Hf := Lib.hid hf; clear hf
      go_wp2_with fail
      refine (spec_IsCartan gc oc _ cc c (w.drewN m) rfl (by omega) (fun j hj => by have := hrl j hj; omega) hr).mono ?_
      rintro e w2 ⟨rfl, m2, rfl⟩
      by_cases hC : IsC c
      · have hC' : decide (IsC c) = true := decide_eq_true hC
        rw [hC'] at Hf ⊢
        by_cases hlen : v.length = c.length
        · have hT : ((v.length : Int) == (c.length : Int)) = true := by rw [hlen]; simp
          have hT2 : decide (v.length = c.length) = true := decide_eq_true hlen
          rw [hT2] at Hf
          clear hlen hT2
          go_wp2_with fail
          go_ret
          exact ⟨ret_bool (by rw [Hf.out]; rfl), (by first | exact ⟨_, rfl⟩ | exact ⟨0, rfl⟩ | exact still2 _ _ _ | exact still3 _ _ _ _)⟩
        · have hT : ((v.length : Int) == (c.length : Int)) = false := by simp; omega
          have hT2 : decide (v.length = c.length) = false := decide_eq_false hlen
          rw [hT2] at Hf
          clear hlen hT2
          go_wp2_with fail
          go_ret
          exact ⟨ret_bool (by rw [Hf.out]; rfl), (by first | exact ⟨_, rfl⟩ | exact ⟨0, rfl⟩ | exact still2 _ _ _ | exact still3 _ _ _ _)⟩
      · have hC' : decide (IsC c) = false := decide_eq_false hC
        rw [hC'] at Hf ⊢
        clear hC
        go_wp2_with fail
        go_ret
        exact ⟨ret_bool (by rw [Hf.out]; rfl), (by first | exact ⟨_, rfl⟩ | exact ⟨0, rfl⟩ | exact still2 _ _ _ | exact still3 _ _ _ _)⟩
end Go.Proofs.YtnpechcnmchneaaGreatDoor
