/- Longest elements and opposite letters: contracts. OppositeLetter, IsWeight: contracts. OppositeLetter of the reference, IsWeight: contracts. Every finite type of rank at most 4 is one of those enumerated: what holds at these (checked by the kernel) holds at all. Plain law. -/
import Derived.Test.YtldcmhgpppeooaaGreatDoorG10
import Derived.WalkSpells
namespace Go.Proofs.YtldcmhgpppeooaaGreatDoor
set_option maxRecDepth 100000
open Go.RowKit

def negL (n : Nat) : List Int := List.replicate n (-1)
theorem onesL_length (n : Nat) : (onesL n).length = n := by simp [onesL]
theorem negL_length (n : Nat) : (negL n).length = n := by simp [negL]
/-- what a finite type's long word does -/
structure LongOf (c : List (List Int)) (long : List Int) (opp : Nat → Nat) : Prop where
  norm : normG c 30 (negL c.length) = some long
  act : actW c long (onesL c.length) = negL c.length
  opp_lt : ∀ i, i < c.length → opp i < c.length
  opp_eq : ∀ i, i < c.length → actW c long (refl c i (onesL c.length)) = refl c (opp i) (negL c.length)

theorem actW_append (c : List (List Int)) (a b v : List Int) : actW c (a ++ b) v = actW c a (actW c b v) := by
  induction a with
  | nil => rfl
  | cons i a ih => simp [actW, ih]
theorem refl_neg_at {c : List (List Int)} (hC : IsC c) {j k : Nat} (hk : k < c.length) (hj : j < c.length) : (refl c j (negL c.length)).getD k 0 = -1 + ent c k j := by
  have hb := ent_bound hC k j
  have e1 : (negL c.length).getD k 0 = -1 := by simp [negL, List.getD, hk]
  have e2 : (negL c.length).getD j 0 = -1 := by simp [negL, List.getD, hj]
  have e : (refl c j (negL c.length)).getD k 0 = reflAt c j (negL c.length) k := by simp [refl, List.getD, negL_length, hk]
  rw [e]
  unfold reflAt
  have e3 : wrap64 (-1 * ent c k j) = -1 * ent c k j := IntWalk.wrap64_in _ ⟨by omega, by omega⟩
  rw [e1, e2, e3, IntWalk.wrap64_in _ ⟨by omega, by omega⟩]
  omega
theorem refl_neg_pos {c : List (List Int)} (hC : IsC c) {j k : Nat} (hk : k < c.length) (hj : j < c.length) : 0 < (refl c j (negL c.length)).getD k 0 ↔ k = j := by
  rw [refl_neg_at hC hk hj]
  have h := hC.2.2.2 k hk j hj
  unfold EntOk at h
  by_cases e : k = j
  · rw [if_pos e] at h; omega
  · rw [if_neg e] at h; omega
theorem refl_neg_inj {c : List (List Int)} (hC : IsC c) {j k : Nat} (hk : k < c.length) (hj : j < c.length) : refl c j (negL c.length) = refl c k (negL c.length) ↔ j = k := by
  constructor
  · intro h
    have h1 := (refl_neg_pos hC hj hj).2 rfl
    rw [h] at h1
    exact (refl_neg_pos hC hj hk).1 h1
  · rintro rfl; rfl

set_option maxHeartbeats 2000000 in
theorem impl_longestElement_any (gc oc n cc : Nat) (c : List (List Int)) (long : List Int) (w : World) (hn : c.length = n) (hC : IsC c) (hlong : normG c 30 (negL c.length) = some long)
    (hgc : gc < w.heap.size) (hr : Rows2 w gc oc c) : Calls Tryz.prog 95 #[(Value.slice (some ⟨gc, oc, none⟩) n cc)] w (GotInts w long) := by
  subst hn
  have hn4 := hC.2.1
  go_enter Tryz.func95, Tryz.ntmps95
  go_wp2_with fail
  refine (impl_ones_any c.length w (by omega)).mono ?_
  rintro e w1 ⟨g1, c1, rfl, ho1, hb1⟩
  rw [onesL_length]
  go_wp2_with fail
  go_loopw [10] (fun i wr => ∃ t : Nat, t ≤ c.length ∧ i = .int .i64 t ∧ Own wr w.heap.size g1 c1 (List.replicate t (-1) ++ List.replicate (c.length - t) 1) ∧ Below w.heap.size w wr) (fun i _ => c.length - (intOf i).toNat)
  case atStart => exact ⟨0, Nat.zero_le _, rfl, by simpa [onesL] using ho1, hb1⟩
  case round =>
    obtain ⟨t, ht, rfl, ho, hb⟩ := hrel
    by_cases hlt : t < c.length
    · have hl : (List.replicate t (-1 : Int) ++ List.replicate (c.length - t) 1).length = c.length := by simp; omega
      have q1 := ho.cell t (by rw [hl]; exact hlt)
      have f1 := ho.frozen t
      have hs := ho.set t (-1)
      have e : (List.replicate t (-1 : Int) ++ List.replicate (c.length - t) 1).set t (-1) = List.replicate (t + 1) (-1) ++ List.replicate (c.length - (t + 1)) 1 := by
        rw [List.set_append_right _ _ (by simp)]
        obtain ⟨d, hd⟩ : ∃ d, c.length - t = d + 1 := ⟨c.length - t - 1, by omega⟩
        rw [hd, show c.length - (t + 1) = d by omega]
        rw [List.length_replicate, Nat.sub_self, List.replicate_succ, List.set_cons_zero, List.replicate_succ', List.append_assoc]; rfl
      rw [e] at hs
      have Hs := Lib.hid hs
      clear hs e hl
      go_wp2
      go_roundw
      case rel => exact ⟨t + 1, by omega, by go_num, Hs.out.1, hb.grown Hs.out.2 hb.size (by intro j hj; cases hj; exact ho.base)⟩
      case measure => simp [intOf]; omega
    · obtain rfl : t = c.length := by omega
      rw [Nat.sub_self, List.replicate_zero, List.append_nil] at ho
      have ho' : Own wr w.heap.size g1 c1 (negL c.length) := ho
      go_wp2_with fail
      refine (impl_normal_any gc oc _ cc g1 0 c.length c1 30 c (negL c.length) long wr rfl (negL_length _) hC (negL_length _) (by omega) hlong (Nat.lt_of_lt_of_le hgc hb.size) ho'.lt (hr.below hb hgc) ho'.cells).mono ?_
      rintro e w2 ⟨g2, c2, rfl, ho2, hb2⟩
      go_wp2_with fail
      go_ret
      exact ⟨g2, c2, rfl, ho2.mono hb.size, hb.trans (hb2.mono hb.size)⟩

set_option maxHeartbeats 2000000 in
theorem spec_LongestElement_ok (gc oc n cc : Nat) (c : List (List Int)) (long : List Int) (w : World) (hn : c.length = n) (hC : IsC c) (hfin : finB c = true) (hlong : normG c 30 (negL c.length) = some long)
    (hgc : gc < w.heap.size) (hr : Rows2 w gc oc c) : Calls Tryz.prog 40 #[(Value.slice (some ⟨gc, oc, none⟩) n cc)] w (GotIntsB w long true) := by
  subst hn
  have hn4 := hC.2.1
  go_enter Tryz.func40, Tryz.ntmps40
  go_wp2_with fail
  refine (spec_IsFinite_any gc oc _ cc c w rfl (by omega) (fun j hj => by have := hC.2.2.1 j hj; omega) hgc hr).mono ?_
  rintro e w1 ⟨rfl, hb1⟩
  rw [hfin]
  go_wp2_with fail
  go_loopw [4, 5] (fun s i wr => ∃ t g' c' : Nat, t ≤ c.length ∧ i = .int .i64 t ∧ s = (Value.slice (some ⟨g', 0, none⟩) t c') ∧ Own wr w.heap.size g' c' (negL t) ∧ Below w.heap.size w wr) (fun _ i _ => c.length - (intOf i).toNat)
  case atStart => exact ⟨0, w1.heap.size, 0, Nat.zero_le _, rfl, rfl, Own.empty (w := w1) hb1.size, hb1.alloc hb1.size _⟩
  case round =>
    obtain ⟨t, g', c', ht, rfl, rfl, ho, hb⟩ := hrel
    by_cases hlt : t < c.length
    · go_wp2_with (at_builtin; refine wpList_append_int_n rfl _ _ rfl w.heap.size g' c' t (negL t) (-1) (negL_length _) ho rfl rfl (by omega) ?_)
      intro g3 c3 w3 ho3 hg3 _
      go_wp2
      go_roundw
      case rel =>
        have e : negL t ++ [-1] = negL (t + 1) := by unfold negL; rw [List.replicate_succ']
        rw [e] at ho3
        exact ⟨t + 1, g3, c3, by omega, by go_num, rfl, ho3, hb.grown hg3 hb.size (by intro j hj; cases hj; exact ho.base)⟩
      case measure => simp [intOf]; omega
    · obtain rfl : t = c.length := by omega
      go_wp2_with fail
      refine (spec_l8Form_any gc oc _ cc g' 0 c.length c' 30 c (negL c.length) long wr rfl (negL_length _) hC (negL_length _) (by omega) hlong (Nat.lt_of_lt_of_le hgc hb.size) ho.lt (hr.below hb hgc) ho.cells).mono ?_
      rintro e w2 ⟨g2, c2, rfl, ho2, hb2⟩
      go_wp2_with fail
      go_ret2
      exact ⟨g2, c2, rfl, ho2.mono hb.size, hb.trans (hb2.mono hb.size)⟩

set_option maxHeartbeats 2000000 in
theorem spec_RhoOf_ok (gc oc n cc : Nat) (c : List (List Int)) (w : World) (hn : c.length = n) (hC : IsC c) (hgc : gc < w.heap.size) (hr : Rows2 w gc oc c) :
    Calls Tryz.prog 106 #[(Value.slice (some ⟨gc, oc, none⟩) n cc)] w (GotInts w (onesL c.length)) := by
  subst hn
  have hn4 := hC.2.1
  have hcart : Hid (∀ W, Below w.heap.size w W → Calls Tryz.prog 12 #[(Value.slice (some ⟨gc, oc, none⟩) c.length cc)] W (Reads W (.bool true))) := fun W hW => by
    have := spec_IsCartan gc oc _ cc c W rfl (by omega) (fun j hj => by have := hC.2.2.1 j hj; omega) (hr.below hW hgc)
    rwa [decide_eq_true hC] at this
  go_enter Tryz.func106, Tryz.ntmps106
  go_wp2_with fail
  go_loopw [3, 4] (fun s i wr => ∃ t g' c' : Nat, t ≤ c.length ∧ i = .int .i64 t ∧ s = (Value.slice (some ⟨g', 0, none⟩) t c') ∧ Own wr w.heap.size g' c' (onesL t) ∧ Below w.heap.size w wr) (fun _ i _ => c.length - (intOf i).toNat)
  case atStart => exact ⟨0, w.heap.size, 0, Nat.zero_le _, rfl, rfl, Own.empty (w := w) (Nat.le_refl _), (Below.refl _ _).alloc (Nat.le_refl _) _⟩
  case round =>
    obtain ⟨t, g', c', ht, rfl, rfl, ho, hb⟩ := hrel
    by_cases hlt : t < c.length
    · go_wp2_with fail
      refine (hcart.out _ hb).mono ?_
      rintro e w2 ⟨rfl, m2, rfl⟩
      go_wp2_with (at_builtin; refine wpList_append_int_n (w := wr.drewN m2) rfl _ _ rfl w.heap.size g' c' t (onesL t) 1 (onesL_length _) (ho.drewN m2) rfl rfl (by omega) ?_)
      intro g3 c3 w3 ho3 hg3 _
      go_wp2
      go_roundw
      case rel =>
        have e : onesL t ++ [1] = onesL (t + 1) := by unfold onesL; rw [List.replicate_succ']
        rw [e] at ho3
        exact ⟨t + 1, g3, c3, by omega, by go_num, rfl, ho3, (below_drewN hb m2).grown hg3 hb.size (by intro j hj; cases hj; exact ho.base)⟩
      case measure => simp [intOf]; omega
    · obtain rfl : t = c.length := by omega
      go_wp2_with fail
      go_ret
      exact GotInts.mk' g' c' (onesL_length _) ho hb

set_option maxHeartbeats 400000 in
theorem slices_Clone_any (g o n cp : Nat) (v : List Int) (w : World) (hn : v.length = n) (hx : v.length ≤ 1048576) (hg : g < w.heap.size) (hc : Cells w g o v) :
    Calls Tryz.prog 101 #[(Value.slice (some ⟨g, o, none⟩) n cp)] w (GotInts w v) := by
  subst hn
  have hnil : ∀ W, (binOp .eql 27 (Value.slice (some ⟨g, o, none⟩) v.length cp) (.slice none 0 0)).run Tryz.prog W = .ok (.bool false) W := fun W => Lib.run_eql_slice_nil W 27 3 _ _ _ _ _ Tryz.underlying27
  go_enter Tryz.func101, Tryz.ntmps101
  go_wp2_with (at_builtin; refine wpList_clone rfl _ _ rfl g o _ cp v rfl hg hc rfl rfl (by omega) ?_)
  intro g1 c1 w1 ho hb
  go_wp2_with fail
  go_ret
  exact GotInts.mk' g1 c1 rfl ho hb
end Go.Proofs.YtldcmhgpppeooaaGreatDoor
namespace Go.Proofs.YtldcmhgpppeooaaGreatDoor
set_option maxRecDepth 100000
open Go.RowKit

set_option maxHeartbeats 4000000 in
theorem impl_OppositeLetter_ok (gc oc n cc i : Nat) (c : List (List Int)) (long : List Int) (opp : Nat → Nat) (w : World) (hn : c.length = n) (hC : IsC c) (hfin : finB c = true) (hL : LongOf c long opp) (hi : i < c.length)
    (hgc : gc < w.heap.size) (hr : Rows2 w gc oc c) : Calls Tryz.prog 44 #[(Value.slice (some ⟨gc, oc, none⟩) n cc), .int .i64 i] w (Gives w (.int .i64 (opp i))) := by
  subst hn
  have hn4 := hC.2.1
  have hll := normG_len hL.norm
  have hlin := normG_in hL.norm
  rw [negL_length] at hlin
  have hoi := hL.opp_lt i hi
  have hwant : actW c (long ++ [(i : Int)]) (onesL c.length) = refl c (opp i) (negL c.length) := by
    rw [actW_append]
    exact hL.opp_eq i hi
  have hcand : ∀ j : Nat, actW c ((j : Int) :: long) (onesL c.length) = refl c j (negL c.length) := fun j => by
    show refl c (j : Int).toNat (actW c long (onesL c.length)) = _
    rw [hL.act]; rfl
  have hiI : (decide ((0 : Int) ≤ (i : Int)) && decide ((i : Int) < (c.length : Int))) = true := by simp; omega
  have Hwant := Lib.hid hwant; have Hcand := Lib.hid hcand; have Hlin := Lib.hid hlin
  clear hwant hcand hlin
  go_enter Tryz.func44, Tryz.ntmps44
  go_wp2_with fail
  refine (impl_IsFinite_any gc oc _ cc c w rfl (by omega) (fun j hj => by have := hC.2.2.1 j hj; omega) hgc hr).mono ?_
  rintro e w1 ⟨rfl, hb1⟩
  rw [hfin]
  go_wp2_with fail
  refine (impl_isPoint_any gc oc _ cc i _).mono ?_
  rintro e w2 ⟨rfl, m2, rfl⟩
  rw [hiI]
  clear hiI
  have hb2 : Below w.heap.size w (w1.drewN m2) := below_drewN hb1 m2
  go_wp2_with fail
  refine (impl_longestElement_any gc oc _ cc c long (w1.drewN m2) rfl hC hL.norm (Nat.lt_of_lt_of_le hgc hb2.size) (hr.below hb2 hgc)).mono ?_
  rintro e w3 ⟨g3, c3, rfl, ho3, hb3⟩
  have hB3 := hb2.trans (hb3.mono hb2.size)
  go_wp2_with fail
  refine (slices_Clone_any g3 0 _ c3 long w3 rfl (by omega) ho3.lt ho3.cells).mono ?_
  rintro e w4 ⟨g4, c4, rfl, ho4, hb4⟩
  have hB4 := hB3.trans (hb4.mono hB3.size)
  have ho3' := ho3.below hb4 ho3.lt
  go_wp2_with (at_builtin; refine wpList_append_int_n (w := w4) rfl _ _ rfl w3.heap.size g4 c4 long.length long (i : Int) rfl ho4 rfl rfl (by omega) ?_)
  intro g5 c5 w5 ho5 hg5 _
  have hB5 : Below w3.heap.size w3 w5 := hb4.grown hg5 hb4.size (by intro j hj; cases hj; exact ho4.base)
  have hB5w := hB3.trans (hB5.mono hB3.size)
  have ho3'' := ho3.below hB5 ho3.lt
  have hl5 : (long ++ [(i : Int)]).length = long.length + 1 := by simp
  go_wp2_with fail
  refine (impl_image_any gc oc _ cc g5 0 (long.length + 1) c5 c (long ++ [(i : Int)]) w5 rfl hl5 hC (by rw [hl5]; omega) (fun k hk => ?_) (Nat.lt_of_lt_of_le hgc hB5w.size) ho5.lt (hr.below hB5w hgc) ho5.cells).mono ?_
  · by_cases hkl : k < long.length
    · have := Hlin.out k hkl
      simpa [List.getD, List.getElem?_append_left hkl] using this
    · have : k = long.length := by rw [hl5] at hk; omega
      subst this
      simp [List.getD]; omega
  rintro e w6 ⟨g6, c6, rfl, ho6, hb6⟩
  have hB6 := hB5w.trans (hb6.mono hB5w.size)
  rw [Hwant.out] at ho6 ⊢
  have hrl : (refl c (opp i) (negL c.length)).length = c.length := by rw [refl_length, negL_length]
  rw [hrl]
  have ho3f := ho3''.below hb6 (Nat.lt_of_lt_of_le ho3.lt hB5.size)
  clear ho4 hb4 ho5 hg5 hb3 hb6 ho3' ho3'' hB5 ho3
  go_wp2_with fail
  go_loopw [7, 28] (fun _ k wr => ∃ j : Nat, j ≤ opp i ∧ k = .int .i64 j ∧ Own wr (w1.drewN m2).heap.size g3 c3 long ∧ Own wr w5.heap.size g6 c6 (refl c (opp i) (negL c.length)) ∧ Below w.heap.size w wr) (fun _ k _ => c.length - (intOf k).toNat)
  case atStart => exact ⟨0, Nat.zero_le _, rfl, ho3f, ho6, hB6⟩
  case round =>
    obtain ⟨j, hj, rfl, hol, how, hb⟩ := hrel
    have hjn : j < c.length := by omega
    have hjI : (j : Int) < (c.length : Int) := by omega
    have hlc := hol.cells
    have hcl : ((j : Int) :: long).length = 1 + long.length := by simp; omega
    go_wp2_with (at_builtin; refine wpList_append_ints (w := wr.alloc (.cells #[.int .i64 (j : Int)] 3)) rfl _ _ rfl wr.heap.size wr.heap.size 1 [(j : Int)] (Own.new (w := wr) (j : Int) (Nat.le_refl _)) g3 0 c3 long (hlc.below ((Below.refl _ wr).alloc (Nat.le_refl _) _) hol.lt) rfl rfl (by simp; omega) ?_)
    intro g7 c7 w7 ho7 hg7 _
    have hB7 : Below wr.heap.size wr w7 := ((Below.refl _ wr).alloc (Nat.le_refl _) _).grown hg7 (by simp) (by intro j hj; cases hj; exact Nat.le_refl _)
    have hB7w := hb.trans (hB7.mono hb.size)
    go_wp2_with fail
    refine (impl_image_any gc oc _ cc g7 0 (1 + long.length) c7 c ((j : Int) :: long) w7 rfl hcl hC (by rw [hcl]; omega) (fun k hk => ?_) (Nat.lt_of_lt_of_le hgc hB7w.size) ho7.lt (hr.below hB7w hgc) ho7.cells).mono ?_
    · cases k with
      | zero => simp [List.getD]; omega
      | succ k => have := Hlin.out k (by simpa using hk); simpa [List.getD] using this
    rintro e w8 ⟨g8, c8, rfl, ho8, hb8⟩
    rw [Hcand.out] at ho8 ⊢
    have hrl2 : (refl c j (negL c.length)).length = c.length := by rw [refl_length, negL_length]
    rw [hrl2]
    have hB8 := hB7w.trans (hb8.mono hB7w.size)
    have how8 := (how.below hB7 how.lt).below hb8 (Nat.lt_of_lt_of_le how.lt hB7.size)
    have hol8 := (hol.below hB7 hol.lt).below hb8 (Nat.lt_of_lt_of_le hol.lt hB7.size)
    clear ho7 hg7 hB7 hb8 hlc how hol hB7w
    go_wp2_with fail
    refine (slices_Equal_any g8 0 c.length c8 g6 0 c.length c6 (refl c j (negL c.length)) (refl c (opp i) (negL c.length)) w8 hrl2 hrl (by rw [hrl2]; omega) (by rw [hrl]; omega) ho8.cells how8.cells).mono ?_
    rintro e w9 ⟨rfl, m9, rfl⟩
    by_cases hjo : j = opp i
    · have hT : decide (refl c j (negL c.length) = refl c (opp i) (negL c.length)) = true := decide_eq_true (by rw [hjo])
      rw [hT]
      subst hjo
      go_wp2_with fail
      go_ret
      exact ⟨rfl, below_drewN hB8 m9⟩
    · have hT : decide (refl c j (negL c.length) = refl c (opp i) (negL c.length)) = false := decide_eq_false (fun h => hjo ((refl_neg_inj hC hoi hjn).1 h))
      rw [hT]
      clear hT
      go_wp2_with fail
      go_roundw
      case rel => exact ⟨j + 1, by omega, by go_num, hol8, how8, below_drewN hB8 m9⟩
      case measure => simp [intOf]; omega
end Go.Proofs.YtldcmhgpppeooaaGreatDoor
namespace Go.Proofs.YtldcmhgpppeooaaGreatDoor
set_option maxRecDepth 100000
open Go.RowKit

set_option maxHeartbeats 4000000 in
theorem spec_OppositeLetter_ok (gc oc n cc i : Nat) (c : List (List Int)) (long : List Int) (opp : Nat → Nat) (w : World) (hn : c.length = n) (hC : IsC c) (hfin : finB c = true) (hL : LongOf c long opp) (hi : i < c.length)
    (hgc : gc < w.heap.size) (hr : Rows2 w gc oc c) : Calls Tryz.prog 51 #[(Value.slice (some ⟨gc, oc, none⟩) n cc), .int .i64 i] w (Gives w (.int .i64 (opp i))) := by
  subst hn
  have hn4 := hC.2.1
  have hll := normG_len hL.norm
  have hlin := normG_in hL.norm
  rw [negL_length] at hlin
  have hoi := hL.opp_lt i hi
  have hwant := hL.opp_eq i hi
  have ew : IntKind.i64.wrap ((c.length : Int) - 1) = (c.length : Int) - 1 := IntWalk.i64_in _ (by omega)
  have ew2 : IntKind.i64.wrap ((long.length : Int) - 1) = (long.length : Int) - 1 := IntWalk.i64_in _ (by omega)
  have hin : (decide ((0 : Int) ≤ (i : Int)) && decide ((i : Int) ≤ (c.length : Int) - 1)) = true := by rw [Bool.and_eq_true, decide_eq_true_eq, decide_eq_true_eq]; omega
  have Hwant := Lib.hid hwant; have Hlin := Lib.hid hlin
  clear hwant hlin
  go_enter Tryz.func51, Tryz.ntmps51
  go_wp2_with fail
  refine (spec_LongestElement_ok gc oc _ cc c long w rfl hC hfin hL.norm hgc hr).mono ?_
  rintro e w1 ⟨g1, c1, rfl, ho1, hb1⟩
  go_wp2_with fail
  refine (spec_l1In i 0 ((c.length : Int) - 1) w1).mono ?_
  rintro e w2 ⟨rfl, m2, rfl⟩
  rw [hin]
  clear hin
  have hb2 : Below w.heap.size w (w1.drewN m2) := below_drewN hb1 m2
  go_wp2_with fail
  refine (spec_RhoOf_ok gc oc _ cc c (w1.drewN m2) rfl hC (Nat.lt_of_lt_of_le hgc hb2.size) (hr.below hb2 hgc)).mono ?_
  rintro e w3 ⟨g3, c3, rfl, ho3, hb3⟩
  rw [onesL_length]
  have hB3 := hb2.trans (hb3.mono hb2.size)
  have ho1' : Own w3 w.heap.size g1 c1 long := (ho1.drewN m2).below hb3 ho1.lt
  go_wp2_with fail
  refine (spec_l6Reflect_any gc oc _ cc g3 0 c.length c3 i c (onesL c.length) w3 rfl (onesL_length _) (by rw [onesL_length]; omega) hn4 hC.2.2.1 (by rw [onesL_length]; exact hi) (Nat.lt_of_lt_of_le hgc hB3.size) ho3.lt (hr.below hB3 hgc) ho3.cells).mono ?_
  rintro e w4 ⟨g4, c4, rfl, ho4, hb4⟩
  have hrl : ∀ j (v : List Int), v.length = c.length → (refl c j v).length = c.length := fun j v hv => by rw [refl_length]; exact hv
  rw [hrl i _ (onesL_length _)]
  have hB4 := hB3.trans (hb4.mono hB3.size)
  have ho1f : Own w4 w.heap.size g1 c1 long := ho1'.below hb4 ho1'.lt
  have ho4f := ho4.mono (Nat.le_trans (Nat.le_refl _) hB3.size)
  have Hrl := Lib.hid hrl
  have hul0 : (refl c i (onesL c.length)).length = c.length := hrl i _ (onesL_length _)
  have hel : long.drop long.length = [] := List.drop_length
  clear ho1 ho1' ho3 hb3 hb4 ho4 hrl
  go_wp2_with fail
  clear ew ew2
  go_loopw [7, 8] (fun v k wr => ∃ (t gu cu : Nat) (j : Int), t ≤ long.length ∧ k = .int .i64 j ∧ j = (t : Int) - 1 ∧ v = (Value.slice (some ⟨gu, 0, none⟩) c.length cu) ∧ Own wr w.heap.size gu cu (actW c (long.drop t) (refl c i (onesL c.length))) ∧ Own wr w.heap.size g1 c1 long ∧ Below w.heap.size w wr) (fun _ k _ => (intOf k + 1).toNat)
  case atStart => exact ⟨long.length, g4, c4, _, Nat.le_refl _, rfl, rfl, rfl, by rw [hel]; exact ho4f, ho1f, hB4⟩
  case round =>
    obtain ⟨t, gu, cu, j, ht, rfl, hj, rfl, hou, hol, hb⟩ := hrel
    by_cases hlt : 0 < t
    · obtain ⟨s, rfl⟩ : ∃ s, t = s + 1 := ⟨t - 1, by omega⟩
      obtain rfl : j = (s : Int) := by omega
      have hsl : s < long.length := by omega
      have q1 := hol.cell s hsl
      have his := Hlin.out s hsl
      have hd := actW_drop c long (refl c i (onesL c.length)) s hsl
      obtain ⟨iN, hiN⟩ : ∃ iN : Nat, long.getD s 0 = iN := ⟨(long.getD s 0).toNat, by omega⟩
      rw [hiN] at q1 his hd
      rw [Int.toNat_natCast] at hd
      have hic : iN < c.length := by omega
      have hal : (actW c (long.drop (s + 1)) (refl c i (onesL c.length))).length = c.length := by rw [actW_length]; exact hul0
      have hcall := spec_l6Reflect_any gc oc _ cc gu 0 c.length cu iN c (actW c (long.drop (s + 1)) (refl c i (onesL c.length))) wr rfl hal (by rw [hal]; omega) hn4 hC.2.2.1 (by rw [hal]; exact hic) (Nat.lt_of_lt_of_le hgc hb.size) hou.lt (hr.below hb hgc) hou.cells
      rw [← hd] at hcall
      have hal2 : (actW c (long.drop s) (refl c i (onesL c.length))).length = c.length := by rw [actW_length]; exact hul0
      have Hcall := Lib.hid hcall; have Hal2 := Lib.hid hal2
      clear hcall hd hiN hal his hj hal2
      go_wp2_with fail
      refine Hcall.out.mono ?_
      rintro e w5 ⟨g5, c5, rfl, ho5, hb5⟩
      rw [Hal2.out]
      go_wp2_with fail
      go_roundw
      case rel => exact ⟨s, g5, c5, (s : Int) - 1, by omega, by go_num, rfl, rfl, ho5.mono hb.size, hol.below hb5 hol.lt, hb.trans (hb5.mono hb.size)⟩
      case measure => simp [intOf]
    · obtain rfl : t = 0 := by omega
      obtain rfl : j = -1 := by omega
      clear hj
      have hact : actW c (long.drop 0) (refl c i (onesL c.length)) = refl c (opp i) (negL c.length) := Hwant.out
      rw [hact] at hou
      clear hact
      go_wp2
      go_loopw [9] (fun k wr => ∃ t : Nat, t ≤ opp i ∧ k = .int .i64 t ∧ Own wr w.heap.size gu cu (refl c (opp i) (negL c.length)) ∧ Below w.heap.size w wr) (fun k _ => c.length - (intOf k).toNat)
      case atStart => exact ⟨0, Nat.zero_le _, rfl, hou, hb⟩
      case round =>
        obtain ⟨t, ht, rfl, hou2, hb2⟩ := hrel
        have htn : t < c.length := by omega
        have htI : (t : Int) < (c.length : Int) := by omega
        have q1 := hou2.cell t (by rw [refl_length, negL_length]; exact htn)
        have hpos := refl_neg_pos hC htn hoi
        generalize (refl c (opp i) (negL c.length)).getD t 0 = x at *
        by_cases hto : t = opp i
        · have hx : 0 < x := hpos.2 hto
          subst hto
          clear hpos
          go_wp2
          go_ret
          exact ⟨rfl, hb2⟩
        · have hx : ¬ 0 < x := fun h => hto (hpos.1 h)
          clear hpos
          go_wp2
          go_roundw
          case rel => exact ⟨t + 1, by omega, by go_num, hou2, hb2⟩
          case measure => simp [intOf]; omega

def wtOk (c : List (List Int)) (v : List Int) : Prop := IsC c ∧ v.length = c.length ∧ ∀ j, j < v.length → -1000 ≤ v.getD j 0 ∧ v.getD j 0 ≤ 1000
instance (c : List (List Int)) (v : List Int) : Decidable (wtOk c v) := by unfold wtOk; infer_instance

end Go.Proofs.YtldcmhgpppeooaaGreatDoor
namespace Go.Proofs.YtldcmhgpppeooaaGreatDoor
set_option maxRecDepth 100000
open Go.RowKit

def L6 : List (Int × Int) := [(0, 0), (-1, -1), (-1, -2), (-2, -1), (-1, -3), (-3, -1)]
def mat2 (a : Int × Int) : List (List Int) := [[2, a.1], [a.2, 2]]
def mat3 (a b e : Int × Int) : List (List Int) := [[2, a.1, b.1], [a.2, 2, e.1], [b.2, e.2, 2]]
def mat4 (a b d e f g : Int × Int) : List (List Int) := [[2, a.1, b.1, d.1], [a.2, 2, e.1, f.1], [b.2, e.2, 2, g.1], [d.2, f.2, g.2, 2]]
def bad3 (a b e : Int × Int) : Bool := decide (det 3 (mat3 a b e) ≤ 0)
def chk2 (P : List (List Int) → Bool) : Bool := L6.all fun a => P (mat2 a)
def chk3 (P : List (List Int) → Bool) : Bool := L6.all fun a => L6.all fun b => L6.all fun e => bad3 a b e || P (mat3 a b e)
def chk4 (P : List (List Int) → Bool) : Bool := L6.all fun a => L6.all fun b => L6.all fun e => bad3 a b e || L6.all fun d => L6.all fun f => bad3 a d f || L6.all fun g => bad3 b d g || (bad3 e f g || (decide (det 4 (mat4 a b d e f g) ≤ 0) || P (mat4 a b d e f g)))
def chk4At (P : List (List Int) → Bool) (a b : Int × Int) : Bool := L6.all fun e => bad3 a b e || L6.all fun d => L6.all fun f => bad3 a d f || L6.all fun g => bad3 b d g || (bad3 e f g || (decide (det 4 (mat4 a b d e f g) ≤ 0) || P (mat4 a b d e f g)))
theorem chk4_eq (P : List (List Int) → Bool) : chk4 P = L6.all fun a => L6.all fun b => chk4At P a b := rfl
theorem list1 {α : Type} {l : List α} (h : l.length = 1) : ∃ a, l = [a] := by
  match l, h with
  | [a], _ => exact ⟨a, rfl⟩
theorem list2 {α : Type} {l : List α} (h : l.length = 2) : ∃ a b, l = [a, b] := by
  match l, h with
  | [a, b], _ => exact ⟨a, b, rfl⟩
theorem list3 {α : Type} {l : List α} (h : l.length = 3) : ∃ a b c, l = [a, b, c] := by
  match l, h with
  | [a, b, c], _ => exact ⟨a, b, c, rfl⟩
theorem list4 {α : Type} {l : List α} (h : l.length = 4) : ∃ a b c d, l = [a, b, c, d] := by
  match l, h with
  | [a, b, c, d], _ => exact ⟨a, b, c, d, rfl⟩
theorem witFrom_pos {c : List (List Int)} : ∀ (f m : Nat), 1 ≤ m → m + f ≤ 16 → (witFrom c m f).length = 0 → ∀ k, m ≤ k → k < m + f → 0 < minorAt c k := by
  intro f
  induction f with
  | zero => intro m _ _ _ k h1 h2; omega
  | succ f ih =>
    intro m hm hf h k h1 h2
    unfold witFrom at h
    split at h
    · have := setL_ne m hm (by omega); omega
    · rename_i hd
      by_cases e : k = m
      · subst e; omega
      · exact ih (m + 1) (by omega) (by omega) h k (by omega) (by omega)
theorem fin_pos {c : List (List Int)} (hC : IsC c) (hf : finB c = true) : ∀ k, 1 ≤ k → k < 2 ^ c.length → 0 < minorAt c k := by
  intro k h1 h2
  have h16 := pow_le16 hC.2.1
  unfold finB at hf
  rw [Bool.and_eq_true] at hf
  have hw : (witness c).length = 0 := by simpa using hf.2
  unfold witness at hw
  rw [if_pos hC] at hw
  exact witFrom_pos (2 ^ c.length - 1) 1 (Nat.le_refl _) (by omega) hw k h1 (by omega)
theorem pair_ok : ∀ x ∈ [(-3 : Int), -2, -1, 0], ∀ y ∈ [(-3 : Int), -2, -1, 0], decide (x = 0) = decide (y = 0) → 0 < det 2 (mat2 (x, y)) → (x, y) ∈ L6 := by decide
theorem pair_in {x y : Int} (h1 : -3 ≤ x ∧ x ≤ 0) (h2 : -3 ≤ y ∧ y ≤ 0) (h3 : decide (x = 0) = decide (y = 0)) (h : 0 < det 2 (mat2 (x, y))) : (x, y) ∈ L6 := by
  have hx : x ∈ [(-3 : Int), -2, -1, 0] := by
    have : x = -3 ∨ x = -2 ∨ x = -1 ∨ x = 0 := by omega
    rcases this with rfl | rfl | rfl | rfl <;> simp
  have hy : y ∈ [(-3 : Int), -2, -1, 0] := by
    have : y = -3 ∨ y = -2 ∨ y = -1 ∨ y = 0 := by omega
    rcases this with rfl | rfl | rfl | rfl <;> simp
  exact pair_ok x hx y hy h3 h
theorem ent_diag {c : List (List Int)} (hC : IsC c) {i : Nat} (hi : i < c.length) : ent c i i = 2 := by
  have := hC.2.2.2 i hi i hi
  unfold EntOk at this
  rwa [if_pos rfl] at this
theorem ent_off {c : List (List Int)} (hC : IsC c) {i j : Nat} (hi : i < c.length) (hj : j < c.length) (hne : i ≠ j) : (-3 ≤ ent c i j ∧ ent c i j ≤ 0) ∧ decide (ent c i j = 0) = decide (ent c j i = 0) := by
  have := hC.2.2.2 i hi j hj
  unfold EntOk at this
  rw [if_neg hne] at this
  exact ⟨⟨this.1, this.2.1⟩, this.2.2⟩

theorem m2_3 (a : Int × Int) : minorAt (mat2 a) 3 = det 2 (mat2 a) := by kernel_rfl
theorem m3_3 (a b e : Int × Int) : minorAt (mat3 a b e) 3 = det 2 (mat2 a) := by kernel_rfl
theorem m3_5 (a b e : Int × Int) : minorAt (mat3 a b e) 5 = det 2 (mat2 b) := by kernel_rfl
theorem m3_6 (a b e : Int × Int) : minorAt (mat3 a b e) 6 = det 2 (mat2 e) := by kernel_rfl
theorem m3_7 (a b e : Int × Int) : minorAt (mat3 a b e) 7 = det 3 (mat3 a b e) := by kernel_rfl
theorem m4_3 (a b d e f g : Int × Int) : minorAt (mat4 a b d e f g) 3 = det 2 (mat2 a) := by kernel_rfl
theorem m4_5 (a b d e f g : Int × Int) : minorAt (mat4 a b d e f g) 5 = det 2 (mat2 b) := by kernel_rfl
theorem m4_9 (a b d e f g : Int × Int) : minorAt (mat4 a b d e f g) 9 = det 2 (mat2 d) := by kernel_rfl
theorem m4_6 (a b d e f g : Int × Int) : minorAt (mat4 a b d e f g) 6 = det 2 (mat2 e) := by kernel_rfl
theorem m4_10 (a b d e f g : Int × Int) : minorAt (mat4 a b d e f g) 10 = det 2 (mat2 f) := by kernel_rfl
theorem m4_12 (a b d e f g : Int × Int) : minorAt (mat4 a b d e f g) 12 = det 2 (mat2 g) := by kernel_rfl
theorem m4_7 (a b d e f g : Int × Int) : minorAt (mat4 a b d e f g) 7 = det 3 (mat3 a b e) := by kernel_rfl
theorem m4_11 (a b d e f g : Int × Int) : minorAt (mat4 a b d e f g) 11 = det 3 (mat3 a d f) := by kernel_rfl
theorem m4_13 (a b d e f g : Int × Int) : minorAt (mat4 a b d e f g) 13 = det 3 (mat3 b d g) := by kernel_rfl
theorem m4_14 (a b d e f g : Int × Int) : minorAt (mat4 a b d e f g) 14 = det 3 (mat3 e f g) := by kernel_rfl
theorem m4_15 (a b d e f g : Int × Int) : minorAt (mat4 a b d e f g) 15 = det 4 (mat4 a b d e f g) := by kernel_rfl

theorem good_of_2 {P : List (List Int) → Bool} (h2 : chk2 P = true) {c : List (List Int)} (hC : IsC c) (hf : finB c = true) (hn : c.length = 2) : P c = true := by
  have hpos := fin_pos hC hf
  obtain ⟨r0, r1, rfl⟩ := list2 hn
  obtain ⟨x00, x01, rfl⟩ := list2 (hC.2.2.1 0 (by simp))
  obtain ⟨x10, x11, rfl⟩ := list2 (hC.2.2.1 1 (by simp))
  have d0 : x00 = 2 := ent_diag hC (i := 0) (by simp)
  have d1 : x11 = 2 := ent_diag hC (i := 1) (by simp)
  subst d0; subst d1
  have o01 := ent_off hC (i := 0) (j := 1) (by simp) (by simp) (by decide)
  have o10 := ent_off hC (i := 1) (j := 0) (by simp) (by simp) (by decide)
  have p01 : (x01, x10) ∈ L6 := pair_in o01.1 o10.1 o01.2 (by have h0 := hpos 3 (by decide) (by simp); have h1 := m2_3 (x01, x10); exact h1 ▸ h0)
  have h := h2
  unfold chk2 at h
  have h1 := List.all_eq_true.1 h _ p01
  exact h1

theorem good_of_3 {P : List (List Int) → Bool} (hK : chk3 P = true) {c : List (List Int)} (hC : IsC c) (hf : finB c = true) (hn : c.length = 3) : P c = true := by
  have hpos := fin_pos hC hf
  obtain ⟨r0, r1, r2, rfl⟩ := list3 hn
  obtain ⟨x00, x01, x02, rfl⟩ := list3 (hC.2.2.1 0 (by simp))
  obtain ⟨x10, x11, x12, rfl⟩ := list3 (hC.2.2.1 1 (by simp))
  obtain ⟨x20, x21, x22, rfl⟩ := list3 (hC.2.2.1 2 (by simp))
  have d0 : x00 = 2 := ent_diag hC (i := 0) (by simp)
  have d1 : x11 = 2 := ent_diag hC (i := 1) (by simp)
  have d2 : x22 = 2 := ent_diag hC (i := 2) (by simp)
  subst d0; subst d1; subst d2
  have o01 := ent_off hC (i := 0) (j := 1) (by simp) (by simp) (by decide)
  have o10 := ent_off hC (i := 1) (j := 0) (by simp) (by simp) (by decide)
  have o02 := ent_off hC (i := 0) (j := 2) (by simp) (by simp) (by decide)
  have o20 := ent_off hC (i := 2) (j := 0) (by simp) (by simp) (by decide)
  have o12 := ent_off hC (i := 1) (j := 2) (by simp) (by simp) (by decide)
  have o21 := ent_off hC (i := 2) (j := 1) (by simp) (by simp) (by decide)
  have p01 : (x01, x10) ∈ L6 := pair_in o01.1 o10.1 o01.2 (by have h0 := hpos 3 (by decide) (by simp); have h1 := m3_3 (x01, x10) (x02, x20) (x12, x21); exact h1 ▸ h0)
  have p02 : (x02, x20) ∈ L6 := pair_in o02.1 o20.1 o02.2 (by have h0 := hpos 5 (by decide) (by simp); have h1 := m3_5 (x01, x10) (x02, x20) (x12, x21); exact h1 ▸ h0)
  have p12 : (x12, x21) ∈ L6 := pair_in o12.1 o21.1 o12.2 (by have h0 := hpos 6 (by decide) (by simp); have h1 := m3_6 (x01, x10) (x02, x20) (x12, x21); exact h1 ▸ h0)
  have h7 : 0 < det 3 (mat3 (x01, x10) (x02, x20) (x12, x21)) := by have h0 := hpos 7 (by decide) (by simp); have h1 := m3_7 (x01, x10) (x02, x20) (x12, x21); exact h1 ▸ h0
  have h := hK
  unfold chk3 at h
  have h1 := List.all_eq_true.1 h _ p01
  have h2 := List.all_eq_true.1 h1 _ p02
  have h3 := List.all_eq_true.1 h2 _ p12
  have hb : bad3 (x01, x10) (x02, x20) (x12, x21) = false := by unfold bad3; rw [decide_eq_false_iff_not]; omega
  rw [hb, Bool.false_or] at h3
  exact h3

set_option maxHeartbeats 2000000 in
theorem good_of_4 {P : List (List Int) → Bool} (hK : chk4 P = true) {c : List (List Int)} (hC : IsC c) (hf : finB c = true) (hn : c.length = 4) : P c = true := by
  have hpos := fin_pos hC hf
  obtain ⟨r0, r1, r2, r3, rfl⟩ := list4 hn
  obtain ⟨x00, x01, x02, x03, rfl⟩ := list4 (hC.2.2.1 0 (by simp))
  obtain ⟨x10, x11, x12, x13, rfl⟩ := list4 (hC.2.2.1 1 (by simp))
  obtain ⟨x20, x21, x22, x23, rfl⟩ := list4 (hC.2.2.1 2 (by simp))
  obtain ⟨x30, x31, x32, x33, rfl⟩ := list4 (hC.2.2.1 3 (by simp))
  have d0 : x00 = 2 := ent_diag hC (i := 0) (by simp)
  have d1 : x11 = 2 := ent_diag hC (i := 1) (by simp)
  have d2 : x22 = 2 := ent_diag hC (i := 2) (by simp)
  have d3 : x33 = 2 := ent_diag hC (i := 3) (by simp)
  subst d0; subst d1; subst d2; subst d3
  have o01 := ent_off hC (i := 0) (j := 1) (by simp) (by simp) (by decide)
  have o10 := ent_off hC (i := 1) (j := 0) (by simp) (by simp) (by decide)
  have o02 := ent_off hC (i := 0) (j := 2) (by simp) (by simp) (by decide)
  have o20 := ent_off hC (i := 2) (j := 0) (by simp) (by simp) (by decide)
  have o03 := ent_off hC (i := 0) (j := 3) (by simp) (by simp) (by decide)
  have o30 := ent_off hC (i := 3) (j := 0) (by simp) (by simp) (by decide)
  have o12 := ent_off hC (i := 1) (j := 2) (by simp) (by simp) (by decide)
  have o21 := ent_off hC (i := 2) (j := 1) (by simp) (by simp) (by decide)
  have o13 := ent_off hC (i := 1) (j := 3) (by simp) (by simp) (by decide)
  have o31 := ent_off hC (i := 3) (j := 1) (by simp) (by simp) (by decide)
  have o23 := ent_off hC (i := 2) (j := 3) (by simp) (by simp) (by decide)
  have o32 := ent_off hC (i := 3) (j := 2) (by simp) (by simp) (by decide)
  have p01 : (x01, x10) ∈ L6 := pair_in o01.1 o10.1 o01.2 (by have h0 := hpos 3 (by decide) (by simp); have h1 := m4_3 (x01, x10) (x02, x20) (x03, x30) (x12, x21) (x13, x31) (x23, x32); exact h1 ▸ h0)
  have p02 : (x02, x20) ∈ L6 := pair_in o02.1 o20.1 o02.2 (by have h0 := hpos 5 (by decide) (by simp); have h1 := m4_5 (x01, x10) (x02, x20) (x03, x30) (x12, x21) (x13, x31) (x23, x32); exact h1 ▸ h0)
  have p12 : (x12, x21) ∈ L6 := pair_in o12.1 o21.1 o12.2 (by have h0 := hpos 6 (by decide) (by simp); have h1 := m4_6 (x01, x10) (x02, x20) (x03, x30) (x12, x21) (x13, x31) (x23, x32); exact h1 ▸ h0)
  have p03 : (x03, x30) ∈ L6 := pair_in o03.1 o30.1 o03.2 (by have h0 := hpos 9 (by decide) (by simp); have h1 := m4_9 (x01, x10) (x02, x20) (x03, x30) (x12, x21) (x13, x31) (x23, x32); exact h1 ▸ h0)
  have p13 : (x13, x31) ∈ L6 := pair_in o13.1 o31.1 o13.2 (by have h0 := hpos 10 (by decide) (by simp); have h1 := m4_10 (x01, x10) (x02, x20) (x03, x30) (x12, x21) (x13, x31) (x23, x32); exact h1 ▸ h0)
  have p23 : (x23, x32) ∈ L6 := pair_in o23.1 o32.1 o23.2 (by have h0 := hpos 12 (by decide) (by simp); have h1 := m4_12 (x01, x10) (x02, x20) (x03, x30) (x12, x21) (x13, x31) (x23, x32); exact h1 ▸ h0)
  have h7 : 0 < det 3 (mat3 (x01, x10) (x02, x20) (x12, x21)) := by have h0 := hpos 7 (by decide) (by simp); have h1 := m4_7 (x01, x10) (x02, x20) (x03, x30) (x12, x21) (x13, x31) (x23, x32); exact h1 ▸ h0
  have h11 : 0 < det 3 (mat3 (x01, x10) (x03, x30) (x13, x31)) := by have h0 := hpos 11 (by decide) (by simp); have h1 := m4_11 (x01, x10) (x02, x20) (x03, x30) (x12, x21) (x13, x31) (x23, x32); exact h1 ▸ h0
  have h13 : 0 < det 3 (mat3 (x02, x20) (x03, x30) (x23, x32)) := by have h0 := hpos 13 (by decide) (by simp); have h1 := m4_13 (x01, x10) (x02, x20) (x03, x30) (x12, x21) (x13, x31) (x23, x32); exact h1 ▸ h0
  have h14 : 0 < det 3 (mat3 (x12, x21) (x13, x31) (x23, x32)) := by have h0 := hpos 14 (by decide) (by simp); have h1 := m4_14 (x01, x10) (x02, x20) (x03, x30) (x12, x21) (x13, x31) (x23, x32); exact h1 ▸ h0
  have h15 : 0 < det 4 (mat4 (x01, x10) (x02, x20) (x03, x30) (x12, x21) (x13, x31) (x23, x32)) := by have h0 := hpos 15 (by decide) (by simp); have h1 := m4_15 (x01, x10) (x02, x20) (x03, x30) (x12, x21) (x13, x31) (x23, x32); exact h1 ▸ h0
  have h := hK
  unfold chk4 at h
  have b7 : bad3 (x01, x10) (x02, x20) (x12, x21) = false := by unfold bad3; rw [decide_eq_false_iff_not]; omega
  have b11 : bad3 (x01, x10) (x03, x30) (x13, x31) = false := by unfold bad3; rw [decide_eq_false_iff_not]; omega
  have b13 : bad3 (x02, x20) (x03, x30) (x23, x32) = false := by unfold bad3; rw [decide_eq_false_iff_not]; omega
  have b14 : bad3 (x12, x21) (x13, x31) (x23, x32) = false := by unfold bad3; rw [decide_eq_false_iff_not]; omega
  have b15 : decide (det 4 (mat4 (x01, x10) (x02, x20) (x03, x30) (x12, x21) (x13, x31) (x23, x32)) ≤ 0) = false := by rw [decide_eq_false_iff_not]; omega
  have h1 := List.all_eq_true.1 h _ p01
  have h2 := List.all_eq_true.1 h1 _ p02
  have h3 := List.all_eq_true.1 h2 _ p12
  rw [b7, Bool.false_or] at h3
  have h4 := List.all_eq_true.1 h3 _ p03
  have h5 := List.all_eq_true.1 h4 _ p13
  rw [b11, Bool.false_or] at h5
  have h6 := List.all_eq_true.1 h5 _ p23
  rw [b13, Bool.false_or, b14, Bool.false_or, b15, Bool.false_or] at h6
  exact h6

theorem good_of_1 {P : List (List Int) → Bool} (hK : P [[2]] = true) {c : List (List Int)} (hC : IsC c) (hn : c.length = 1) : P c = true := by
  obtain ⟨r0, rfl⟩ := list1 hn
  obtain ⟨x00, rfl⟩ := list1 (hC.2.2.1 0 (by simp))
  have d0 : x00 = 2 := ent_diag hC (i := 0) (by simp)
  subst d0
  exact hK
theorem fin_all (P : List (List Int) → Bool) (p1 : P [[2]] = true) (p2 : chk2 P = true) (p3 : chk3 P = true) (p4 : chk4 P = true) {c : List (List Int)} (hC : IsC c) (hf : finB c = true) : P c = true := by
  have : c.length = 1 ∨ c.length = 2 ∨ c.length = 3 ∨ c.length = 4 := by have := hC.1; have := hC.2.1; omega
  rcases this with h | h | h | h
  · exact good_of_1 p1 hC h
  · exact good_of_2 p2 hC hf h
  · exact good_of_3 p3 hC hf h
  · exact good_of_4 p4 hC hf h
end Go.Proofs.YtldcmhgpppeooaaGreatDoor
