/- OppositeLetter, IsWeight: contracts. -/
import Derived.Test.YtplglmimjhhilaaOpp
namespace Go.Proofs.Ytplglmimjhhilaa
open Go.RowKit

set_option maxHeartbeats 4000000 in
theorem impl_OppositeLetter_ok (gc oc n cc i : Nat) (c : List (List Int)) (long : List Int) (opp : Nat → Nat) (w : World) (hn : c.length = n) (hC : IsC c) (hfin : finB c = true) (hL : LongOf c long opp) (hi : i < c.length)
    (hgc : gc < w.heap.size) (hr : Rows2 w gc oc c) : Calls Try.prog 45 #[(Value.slice (some ⟨gc, oc, none⟩) n cc), .int .i64 i] w (Gives w (.int .i64 (opp i))) := by
  subst hn
  have hn4 := hC.2.1
  have hll := normG_len hL.norm
  have hlin := normG_in hL.norm
  rw [negL_length] at hlin
  have hoi := hL.opp_lt i hi
  have hwant : actW c (long ++ [(i : Int)]) (onesL c.length) = refl c (opp i) (negL c.length) := by
    rw [actW_append]
    exact hL.opp_eq i hi
  have hcand : ∀ j : Nat, actW c ((j : Int) :: long) (onesL c.length) = refl c j (negL c.length) := fun j => by
    show refl c (j : Int).toNat (actW c long (onesL c.length)) = _
    rw [hL.act]; rfl
  have hiI : (decide ((0 : Int) ≤ (i : Int)) && decide ((i : Int) < (c.length : Int))) = true := by simp; omega
  have Hwant := Lib.hid hwant; have Hcand := Lib.hid hcand; have Hlin := Lib.hid hlin
  clear hwant hcand hlin
  go_enter Try.func45, Try.ntmps45
  go_wp2_with fail
  refine (impl_IsFinite_any gc oc _ cc c w rfl (by omega) (fun j hj => by have := hC.2.2.1 j hj; omega) hgc hr).mono ?_
  rintro e w1 ⟨rfl, hb1⟩
  rw [hfin]
  go_wp2_with fail
  refine (impl_isPoint_any gc oc _ cc i _).mono ?_
  rintro e w2 ⟨rfl, m2, rfl⟩
  rw [hiI]
  clear hiI
  have hb2 : Below w.heap.size w (w1.drewN m2) := below_drewN hb1 m2
  go_wp2_with fail
  refine (impl_longestElement_any gc oc _ cc c long (w1.drewN m2) rfl hC hL.norm (Nat.lt_of_lt_of_le hgc hb2.size) (hr.below hb2 hgc)).mono ?_
  rintro e w3 ⟨g3, c3, rfl, ho3, hb3⟩
  have hB3 := hb2.trans (hb3.mono hb2.size)
  go_wp2_with fail
  refine (slices_Clone_any g3 0 _ c3 long w3 rfl (by omega) ho3.lt ho3.cells).mono ?_
  rintro e w4 ⟨g4, c4, rfl, ho4, hb4⟩
  have hB4 := hB3.trans (hb4.mono hB3.size)
  have ho3' := ho3.below hb4 ho3.lt
  go_wp2_with (at_builtin; refine wpList_append_int_n (w := w4) rfl _ _ rfl w3.heap.size g4 c4 long.length long (i : Int) rfl ho4 rfl rfl (by omega) ?_)
  intro g5 c5 w5 ho5 hg5 _
  have hB5 : Below w3.heap.size w3 w5 := hb4.grown hg5 hb4.size (by intro j hj; cases hj; exact ho4.base)
  have hB5w := hB3.trans (hB5.mono hB3.size)
  have ho3'' := ho3.below hB5 ho3.lt
  have hl5 : (long ++ [(i : Int)]).length = long.length + 1 := by simp
  go_wp2_with fail
  refine (impl_image_any gc oc _ cc g5 0 (long.length + 1) c5 c (long ++ [(i : Int)]) w5 rfl hl5 hC (by rw [hl5]; omega) (fun k hk => ?_) (Nat.lt_of_lt_of_le hgc hB5w.size) ho5.lt (hr.below hB5w hgc) ho5.cells).mono ?_
  · by_cases hkl : k < long.length
    · have := Hlin.out k hkl
      simpa [List.getD, List.getElem?_append_left hkl] using this
    · have : k = long.length := by rw [hl5] at hk; omega
      subst this
      simp [List.getD]; omega
  rintro e w6 ⟨g6, c6, rfl, ho6, hb6⟩
  have hB6 := hB5w.trans (hb6.mono hB5w.size)
  rw [Hwant.out] at ho6 ⊢
  have hrl : (refl c (opp i) (negL c.length)).length = c.length := by rw [refl_length, negL_length]
  rw [hrl]
  have ho3f := ho3''.below hb6 (Nat.lt_of_lt_of_le ho3.lt hB5.size)
  clear ho4 hb4 ho5 hg5 hb3 hb6 ho3' ho3'' hB5 ho3
  go_wp2_with fail
  go_loopw [7, 28] (fun _ k wr => ∃ j : Nat, j ≤ opp i ∧ k = .int .i64 j ∧ Own wr (w1.drewN m2).heap.size g3 c3 long ∧ Own wr w5.heap.size g6 c6 (refl c (opp i) (negL c.length)) ∧ Below w.heap.size w wr) (fun _ k _ => c.length - (intOf k).toNat)
  case atStart => exact ⟨0, Nat.zero_le _, rfl, ho3f, ho6, hB6⟩
  case round =>
    obtain ⟨j, hj, rfl, hol, how, hb⟩ := hrel
    have hjn : j < c.length := by omega
    have hjI : (j : Int) < (c.length : Int) := by omega
    have hlc := hol.cells
    have hcl : ((j : Int) :: long).length = 1 + long.length := by simp; omega
    go_wp2_with (at_builtin; refine wpList_append_ints (w := wr.alloc (.cells #[.int .i64 (j : Int)] 3)) rfl _ _ rfl wr.heap.size wr.heap.size 1 [(j : Int)] (Own.new (w := wr) (j : Int) (Nat.le_refl _)) g3 0 c3 long (hlc.below ((Below.refl _ wr).alloc (Nat.le_refl _) _) hol.lt) rfl rfl (by simp; omega) ?_)
    intro g7 c7 w7 ho7 hg7 _
    have hB7 : Below wr.heap.size wr w7 := ((Below.refl _ wr).alloc (Nat.le_refl _) _).grown hg7 (by simp) (by intro j hj; cases hj; exact Nat.le_refl _)
    have hB7w := hb.trans (hB7.mono hb.size)
    go_wp2_with fail
    refine (impl_image_any gc oc _ cc g7 0 (1 + long.length) c7 c ((j : Int) :: long) w7 rfl hcl hC (by rw [hcl]; omega) (fun k hk => ?_) (Nat.lt_of_lt_of_le hgc hB7w.size) ho7.lt (hr.below hB7w hgc) ho7.cells).mono ?_
    · cases k with
      | zero => simp [List.getD]; omega
      | succ k => have := Hlin.out k (by simpa using hk); simpa [List.getD] using this
    rintro e w8 ⟨g8, c8, rfl, ho8, hb8⟩
    rw [Hcand.out] at ho8 ⊢
    have hrl2 : (refl c j (negL c.length)).length = c.length := by rw [refl_length, negL_length]
    rw [hrl2]
    have hB8 := hB7w.trans (hb8.mono hB7w.size)
    have how8 := (how.below hB7 how.lt).below hb8 (Nat.lt_of_lt_of_le how.lt hB7.size)
    have hol8 := (hol.below hB7 hol.lt).below hb8 (Nat.lt_of_lt_of_le hol.lt hB7.size)
    clear ho7 hg7 hB7 hb8 hlc how hol hB7w
    go_wp2_with fail
    refine (slices_Equal_any g8 0 c.length c8 g6 0 c.length c6 (refl c j (negL c.length)) (refl c (opp i) (negL c.length)) w8 hrl2 hrl (by rw [hrl2]; omega) (by rw [hrl]; omega) ho8.cells how8.cells).mono ?_
    rintro e w9 ⟨rfl, m9, rfl⟩
    by_cases hjo : j = opp i
    · have hT : decide (refl c j (negL c.length) = refl c (opp i) (negL c.length)) = true := decide_eq_true (by rw [hjo])
      rw [hT]
      subst hjo
      go_wp2_with fail
      go_ret
      exact ⟨rfl, below_drewN hB8 m9⟩
    · have hT : decide (refl c j (negL c.length) = refl c (opp i) (negL c.length)) = false := decide_eq_false (fun h => hjo ((refl_neg_inj hC hoi hjn).1 h))
      rw [hT]
      clear hT
      go_wp2_with fail
      go_roundw
      case rel => exact ⟨j + 1, by omega, by go_num, hol8, how8, below_drewN hB8 m9⟩
      case measure => simp [intOf]; omega
end Go.Proofs.Ytplglmimjhhilaa
