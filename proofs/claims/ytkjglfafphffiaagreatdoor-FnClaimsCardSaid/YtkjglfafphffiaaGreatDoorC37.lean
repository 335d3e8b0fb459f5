/- SubI Pos Sign Diff -/
import Derived.Test.YtkjglfafphffiaaGreatDoorC36
import Derived.Test.YtkjglfafphffiaaGreatDoorC12
import Derived.Test.YtkjglfafphffiaaGreatDoorC07
import Derived.Test.YtkjglfafphffiaaGreatDoorC15
import Derived.Test.YtkjglfafphffiaaGreatDoorC19
import Derived.Test.YtkjglfafphffiaaGreatDoorC02
import Derived.Test.YtkjglfafphffiaaGreatDoorC00
import Derived.Deep.RegionHeld3
import Derived.BigQuiet
namespace Go.Proofs.YtkjglfafphffiaaGreatDoor
set_option maxRecDepth 100000
open Go.RowKit Game
def prevAt (ps : List Int) (k : Nat) : Int := if k = 0 then -1 else ps.getD (k - 1) 0
theorem prevAt_succ (ps : List Int) (k : Nat) : prevAt ps (k + 1) = ps.getD k 0 := by simp [prevAt]
theorem takeAt_iff {n : Nat} {ps : List Int} {k : Nat} (h : ∀ j, j < k → takeAt n ps j) : takeAt n ps k ↔ prevAt ps k < ps.getD k 0 ∧ ps.getD k 0 < (n : Int) := by
  unfold takeAt prevAt
  by_cases h0 : k = 0
  · subst h0; simp only [if_true]; omega
  · have h1 := take_ge h (k - 1) (by omega)
    rw [if_neg h0]
    omega
set_option maxHeartbeats 1000000 in
theorem impl_isSet_any (gc oc n cc g o m cp : Nat) (s : List Int) (w : World) (hm : s.length = m) (hl : s.length ≤ 1048576) (hc : Cells w g o s) :
    Calls Tryz.prog 108 #[(Value.slice (some ⟨gc, oc, none⟩) n cc), (Value.slice (some ⟨g, o, none⟩) m cp)] w (Reads w (.bool (takeB n s))) := by
  subst hm
  go_enter Tryz.func108, Tryz.ntmps108
  go_wp2
  go_loopw [5, 10] (fun lv i wr => ∃ k : Nat, k ≤ s.length ∧ i = .int .i64 k ∧ lv = .int .i64 (prevAt s k) ∧ Hid (∀ j, j < k → takeAt n s j) ∧ ∃ q, wr = w.drewN q) (fun _ i _ => s.length - (intOf i).toNat)
  case atStart => exact ⟨0, Nat.zero_le _, rfl, rfl, fun j h => absurd h (by omega), (by first | exact ⟨_, rfl⟩ | exact ⟨0, rfl⟩ | exact still2 _ _ _ | exact still3 _ _ _ _)⟩
  case round =>
    obtain ⟨k, hk, rfl, rfl, hp, q, rfl⟩ := hrel
    by_cases hlt : k < s.length
    · have c1 := hc k hlt
      have hiff := takeAt_iff hp.out
      have hno : ¬ takeAt n s k → takeB n s = false := takeB_no hlt
      have hyes : takeAt n s k → ∀ j, j < k + 1 → takeAt n s j := fun h j hj => by
        by_cases e : j = k
        · subst e; exact h
        · exact hp.out j (by omega)
      have hps := Lib.hid (prevAt_succ s k)
      generalize prevAt s k = z at *
      generalize s.getD k 0 = p at *
      by_cases h1 : p ≤ z
      · have Hno := Lib.hid (hno (fun h => by have := (hiff.1 h).1; omega))
        clear hno hyes hiff hp
        go_wp2_with fail
        go_ret
        exact ⟨ret_bool Hno.out.symm, (by first | exact ⟨_, rfl⟩ | exact ⟨0, rfl⟩ | exact still2 _ _ _ | exact still3 _ _ _ _)⟩
      · by_cases h2 : (n : Int) ≤ p
        · have Hno := Lib.hid (hno (fun h => by have := (hiff.1 h).2; omega))
          clear hno hyes hiff hp
          go_wp2_with fail
          go_ret
          exact ⟨ret_bool Hno.out.symm, (by first | exact ⟨_, rfl⟩ | exact ⟨0, rfl⟩ | exact still2 _ _ _ | exact still3 _ _ _ _)⟩
        · have Hyes := Lib.hid (hyes (hiff.2 ⟨by omega, by omega⟩))
          clear hno hyes hiff hp
          go_wp2_with fail
          go_roundw
          case rel => exact ⟨k + 1, by omega, by go_num, by rw [hps.out], Hyes.out, (by first | exact ⟨_, rfl⟩ | exact ⟨0, rfl⟩ | exact still2 _ _ _ | exact still3 _ _ _ _)⟩
          case measure => simp [intOf]; omega
    · obtain rfl : k = s.length := by omega
      have Hf := Lib.hid (takeB_yes hp.out)
      clear hp
      go_wp2
      go_ret
      exact ⟨ret_bool Hf.out.symm, (by first | exact ⟨_, rfl⟩ | exact ⟨0, rfl⟩ | exact still2 _ _ _ | exact still3 _ _ _ _)⟩
set_option maxRecDepth 100000 in
set_option maxHeartbeats 2000000 in
theorem spec_l3Set_any (gc oc n cc g o m cp : Nat) (c : List (List Int)) (s : List Int) (w : World) (hn : c.length = n) (hm : s.length = m) (hC : IsC c) (hl : s.length ≤ 1048576) (hr : Rows2 w gc oc c) (hc : Cells w g o s) :
    Calls Tryz.prog 117 #[(Value.slice (some ⟨gc, oc, none⟩) n cc), (Value.slice (some ⟨g, o, none⟩) m cp)] w (Reads w (.bool (takeB n s))) := by
  subst hn; subst hm
  have hn4 := hC.2.1
  have hcl := hC.2.2.1
  have E1 := Lib.hid (IntWalk.i64_in ((c.length : Int) - 1) (by omega))
  have HI := Lib.hid (fun W (hs : ∃ q, W = w.drewN q) => by
    have := spec_IsCartan gc oc _ cc c W rfl (by omega) (fun j hj => by have := hcl j hj; omega) (hr.still hs)
    rw [decide_eq_true hC] at this
    exact this)
  clear hr hcl
  go_enter Tryz.func117, Tryz.ntmps117
  go_wp2
  go_loopw [5] (fun i wr => ∃ k : Nat, k ≤ s.length ∧ i = .int .i64 k ∧ Hid (∀ j, j < k → takeAt c.length s j) ∧ ∃ q, wr = w.drewN q) (fun i _ => s.length - (intOf i).toNat)
  case atStart => exact ⟨0, Nat.zero_le _, rfl, fun j h => absurd h (by omega), (by first | exact ⟨_, rfl⟩ | exact ⟨0, rfl⟩ | exact still2 _ _ _ | exact still3 _ _ _ _)⟩
  case round =>
    obtain ⟨k, hk, rfl, hok, q, rfl⟩ := hrel
    by_cases hlt : k < s.length
    · have p1 := hc k hlt
      have bA : (0 : Int) ≤ (k : Int) := by omega
      have bB : (k : Int) < (s.length : Int) := by omega
      have hL0 := fun W => spec_l1In (s.getD k 0) 0 ((c.length : Int) - 1) W
      have hno : ¬ takeAt c.length s k → takeB c.length s = false := takeB_no hlt
      have hyes : takeAt c.length s k → ∀ j, j < k + 1 → takeAt c.length s j := fun h j hj => by
        by_cases e : j = k
        · subst e; exact h
        · exact hok.out j (by omega)
      have hdef : takeAt c.length s k ↔ 0 ≤ s.getD k 0 ∧ s.getD k 0 < (c.length : Int) ∧ (0 < k → s.getD (k - 1) 0 < s.getD k 0) := Iff.rfl
      have hprev : 0 < k → w.cell? ⟨g, o + (k - 1), none⟩ = some (.int .i64 (s.getD (k - 1) 0)) := fun h => hc (k - 1) (by omega)
      generalize s.getD k 0 = p at *
      by_cases hin : 0 ≤ p ∧ p ≤ (c.length : Int) - 1
      case neg =>
        rw [show (decide ((0 : Int) ≤ p) && decide (p ≤ (c.length : Int) - 1)) = false by rw [← Bool.not_eq_true, Bool.and_eq_true, decide_eq_true_eq, decide_eq_true_eq]; exact hin] at hL0
        have hL := Lib.hid hL0; have Hno := Lib.hid (hno (fun h => hin ⟨(hdef.1 h).1, by have := (hdef.1 h).2.1; omega⟩))
        clear hL0 hno hyes hdef hprev hin
        have e1 := E1.out
        go_wp2
        go_quiet ((go_at_call 78; first | with_reducible exact Calls.quiet_of (hL.out _) | with_reducible exact Reads.quiet4 (hL.out _)))
        go_wp2_with fail
        go_ret
        exact ⟨ret_bool Hno.out.symm, (by first | exact ⟨_, rfl⟩ | exact ⟨0, rfl⟩ | exact still2 _ _ _ | exact still3 _ _ _ _)⟩
      rw [show (decide ((0 : Int) ≤ p) && decide (p ≤ (c.length : Int) - 1)) = true by rw [Bool.and_eq_true, decide_eq_true_eq, decide_eq_true_eq]; exact hin] at hL0
      have hL := Lib.hid hL0
      clear hL0
      by_cases hk0 : k = 0
      · have d0 : decide (0 < k) = false := decide_eq_false (by omega)
        have Hyes := Lib.hid (hyes (hdef.2 ⟨by omega, by omega, fun h => absurd h (by omega)⟩))
        clear hno hyes hdef hprev hin hk0
        have e1 := E1.out
        go_wp2
        go_quiet ((go_at_call 78; first | with_reducible exact Calls.quiet_of (hL.out _) | with_reducible exact Reads.quiet4 (hL.out _)))
        go_wp2_with fail
        go_roundw
        case rel => exact ⟨k + 1, by omega, by go_num, Hyes.out, (by first | exact ⟨_, rfl⟩ | exact ⟨0, rfl⟩ | exact still2 _ _ _ | exact still3 _ _ _ _)⟩
        case measure => simp [intOf]; omega
      · have d0 : decide (0 < k) = true := decide_eq_true (by omega)
        have hpv := hprev (by omega)
        have hk1 : 1 ≤ k := by omega
        have e3 := IntWalk.i64_in ((k : Int) - 1) (by omega)
        have hkt : ((k : Int) - 1).toNat = k - 1 := by omega
        have b1 : (0 : Int) ≤ (k : Int) - 1 := by omega
        have b2 : (k : Int) - 1 < (s.length : Int) := by omega
        generalize s.getD (k - 1) 0 = z at *
        by_cases hz : z < p
        · have d1 : decide (p ≤ z) = false := decide_eq_false (by omega)
          have Hyes := Lib.hid (hyes (hdef.2 ⟨by omega, by omega, fun _ => hz⟩))
          clear hno hyes hdef hprev hin hz
          have e1 := E1.out
          go_wp2
          go_quiet ((go_at_call 78; first | with_reducible exact Calls.quiet_of (hL.out _) | with_reducible exact Reads.quiet4 (hL.out _)))
          go_wp2_with fail
          go_roundw
          case rel => exact ⟨k + 1, by omega, by go_num, Hyes.out, (by first | exact ⟨_, rfl⟩ | exact ⟨0, rfl⟩ | exact still2 _ _ _ | exact still3 _ _ _ _)⟩
          case measure => simp [intOf]; omega
        · have d1 : decide (p ≤ z) = true := decide_eq_true (by omega)
          have Hno := Lib.hid (hno (fun h => hz ((hdef.1 h).2.2 (by omega))))
          clear hno hyes hdef hprev hin hz
          have e1 := E1.out
          go_wp2
          go_quiet ((go_at_call 78; first | with_reducible exact Calls.quiet_of (hL.out _) | with_reducible exact Reads.quiet4 (hL.out _)))
          go_wp2_with fail
          go_ret
          exact ⟨ret_bool Hno.out.symm, (by first | exact ⟨_, rfl⟩ | exact ⟨0, rfl⟩ | exact still2 _ _ _ | exact still3 _ _ _ _)⟩
    · obtain rfl : k = s.length := by omega
      have Hf := Lib.hid (takeB_yes hok.out)
      have hI := Lib.hid (HI.out (w.drewN q) (by first | exact ⟨_, rfl⟩ | exact ⟨0, rfl⟩ | exact still2 _ _ _ | exact still3 _ _ _ _))
      clear hok
      go_wp2_with fail
      refine hI.out.mono ?_
      rintro e w5 ⟨rfl, q5, rfl⟩
      go_wp2_with fail
      go_ret
      exact ⟨ret_bool Hf.out.symm, (by first | exact ⟨_, rfl⟩ | exact ⟨0, rfl⟩ | exact still2 _ _ _ | exact still3 _ _ _ _)⟩
def setBB (c : List (List Int)) (s : List Int) : Bool := takeB c.length s && !(s.length == 0)
def subR (c : List (List Int)) (s : List Int) : List (List Int) := if setBB c s = true then pickL c s else []
theorem setBB_yes {c : List (List Int)} {s : List Int} (hC : IsC c) (h : setBB c s = true) : 1 ≤ s.length ∧ s.length ≤ 4 ∧ (∀ t, t < s.length → 0 ≤ s.getD t 0 ∧ s.getD t 0 < c.length) ∧ (∀ t, t + 1 < s.length → s.getD t 0 < s.getD (t + 1) 0) := by
  unfold setBB at h
  rw [Bool.and_eq_true] at h
  have h0 : s.length ≠ 0 := by simpa using h.2
  have hf := take_few (n := c.length) (ps := s) (m := s.length) (fun k hk => takeB_at h.1 hk)
  have := hC.2.1
  refine ⟨by omega, by omega, fun t ht => ⟨(takeB_at h.1 ht).1, (takeB_at h.1 ht).2.1⟩, fun t ht => ?_⟩
  have := (takeB_at h.1 ht).2.2 (by omega)
  rwa [Nat.add_sub_cancel] at this
set_option maxHeartbeats 1000000 in
theorem impl_SubCartan_ok (gc oc n cc g o m cs : Nat) (c : List (List Int)) (s : List Int) (w : World) (hn : c.length = n) (hm : s.length = m) (hC : IsC c) (hl : s.length ≤ 1048576) (hgc : gc < w.heap.size) (hg : g < w.heap.size) (hr : Rows2 w gc oc c) (hc : Cells w g o s) :
    Calls Tryz.prog 44 #[(Value.slice (some ⟨gc, oc, none⟩) n cc), (Value.slice (some ⟨g, o, none⟩) m cs)] w (GotRowsB w (subR c s) (setBB c s)) := by
  have hn4 := hC.2.1
  have hcl := hC.2.2.1
  have h1 := impl_IsCartan gc oc n cc c w hn (by omega) (fun j hj => by have := hcl j hj; omega) hr
  rw [decide_eq_true hC] at h1
  have H1 := Lib.hid h1
  have H2 := Lib.hid (fun W (hs : ∃ q, W = w.drewN q) => impl_isSet_any gc oc n cc g o m cs s W hm hl (hc.still hs))
  have hpk := fun (h : setBB c s = true) (W : World) (hs : ∃ q, W = w.drewN q) => impl_picked_any gc oc n cc g o m cs c s W hn hm (setBB_yes hC h).2.1 hcl (setBB_yes hC h).2.2.1 (Nat.lt_of_lt_of_le hgc (below_still (Below.refl w.heap.size w) hs).size) (Nat.lt_of_lt_of_le hg (below_still (Below.refl w.heap.size w) hs).size) (hr.still hs) (hc.still hs)
  cases hb : setBB c s with
  | true =>
    have hsr : subR c s = pickL c s := if_pos hb
    have hb' := hb
    unfold setBB at hb'
    rw [Bool.and_eq_true] at hb'
    have hm0 : ((m : Int) == 0) = false := by
      have : s.length ≠ 0 := by simpa using hb'.2
      rw [beq_eq_false_iff_ne]; omega
    have hset : takeB n s = true := by rw [← hn]; exact hb'.1
    rw [hset] at H2
    rw [hsr]
    have H3 := Lib.hid (hpk hb)
    clear h1 hpk hr hc hb hb' hset hsr hcl
    go_enter Tryz.func44, Tryz.ntmps44
    go_wp2_with fail
    refine H1.out.mono ?_
    rintro e w1 ⟨rfl, hs1⟩
    go_wp2_with fail
    refine (H2.out w1 hs1).mono ?_
    rintro e w2 ⟨rfl, hs2⟩
    have hs := still_trans hs1 hs2
    have hb2 := below_still (Below.refl w.heap.size w) hs
    go_wp2_with fail
    refine (H3.out w2 hs).mono ?_
    rintro e w3 ⟨g3, c3, rs, rfl, hcon, ho, hb3⟩
    go_wp2_with fail
    go_ret2
    exact ⟨g3, c3, rs, rfl, hcon, ho.mono hb2.size, hb2.trans (hb3.mono hb2.size)⟩
  | false =>
    have hsr : subR c s = [] := if_neg (by rw [hb]; decide)
    rw [hsr]
    by_cases h0 : s.length = 0
    · have hm0 : ((m : Int) == 0) = true := by rw [beq_iff_eq]; omega
      clear h1 hpk hr hc hb hsr hcl
      go_enter Tryz.func44, Tryz.ntmps44
      go_wp2_with fail
      refine H1.out.mono ?_
      rintro e w1 ⟨rfl, hs1⟩
      have hb2 := below_still (Below.refl w.heap.size w) hs1
      go_wp2_with fail
      go_ret2
      exact GotRowsB.mk' _ 0 [] rfl rfl (OwnRows.empty hb2.size) (hb2.alloc hb2.size _)
    · have hm0 : ((m : Int) == 0) = false := by rw [beq_eq_false_iff_ne]; omega
      have hset : takeB n s = false := by
        rw [← hn]
        unfold setBB at hb
        have h00 : (s.length == 0) = false := by simpa using h0
        rw [h00] at hb
        simpa using hb
      rw [hset] at H2
      clear h1 hpk hr hc hb hsr hcl hset
      go_enter Tryz.func44, Tryz.ntmps44
      go_wp2_with fail
      refine H1.out.mono ?_
      rintro e w1 ⟨rfl, hs1⟩
      go_wp2_with fail
      refine (H2.out w1 hs1).mono ?_
      rintro e w2 ⟨rfl, hs2⟩
      have hs := still_trans hs1 hs2
      have hb2 := below_still (Below.refl w.heap.size w) hs
      go_wp2_with fail
      go_ret2
      exact GotRowsB.mk' _ 0 [] rfl rfl (OwnRows.empty hb2.size) (hb2.alloc hb2.size _)
set_option maxHeartbeats 1000000 in
theorem spec_SubCartan_okc (gc oc n cc g o m cs : Nat) (c : List (List Int)) (s : List Int) (w : World) (hn : c.length = n) (hm : s.length = m) (hC : IsC c) (hl : s.length ≤ 1048576) (hgc : gc < w.heap.size) (hg : g < w.heap.size) (hr : Rows2 w gc oc c) (hc : Cells w g o s) :
    Calls Tryz.prog 55 #[(Value.slice (some ⟨gc, oc, none⟩) n cc), (Value.slice (some ⟨g, o, none⟩) m cs)] w (GotRowsB w (subR c s) (setBB c s)) := by
  cases hb : setBB c s with
  | true =>
    have hsr : subR c s = pickL c s := if_pos hb
    obtain ⟨q1, q2, q3, q4⟩ := setBB_yes hC hb
    rw [hsr]
    refine (spec_SubCartan_ok gc oc n cc g o m cs c s w hn hm hC q2 q1 q3 q4 hgc hg hr hc).mono ?_
    rintro e w' ⟨g', cap, rs, rfl, h1, h2, h3⟩
    refine ⟨g', cap, rs, ?_, h1, h2, h3⟩
    rw [show (pickL c s).length = s.length by simp [pickL]]
  | false =>
    have hsr : subR c s = [] := if_neg (by rw [hb]; decide)
    rw [hsr]
    have hA := (Below.refl w.heap.size w).alloc (Nat.le_refl _) (.cells #[] 25)
    have hO : OwnRows (w.alloc (.cells #[] 25)) w.heap.size w.heap.size 0 [] := OwnRows.empty (Nat.le_refl _)
    have H2 := spec_l3Set_any gc oc n cc g o m cs c s (w.alloc (.cells #[] 25)) hn hm hC hl (hr.below hA hgc) (hc.below hA hg)
    have HA := Lib.hid hA; have HO := Lib.hid hO
    cases hset : takeB n s with
    | false =>
      rw [hset] at H2
      have HS := Lib.hid H2
      clear hr hc hb hsr hset H2 hA hO
      go_enter Tryz.func55, Tryz.ntmps55
      go_wp2_with fail
      refine HS.out.mono ?_
      rintro e w2 ⟨rfl, hs2⟩
      go_wp2_with fail
      go_ret2
      exact GotRowsB.mk' _ 0 [] rfl rfl (HO.out.still hs2) (below_still HA.out hs2)
    | true =>
      rw [hset] at H2
      have hm0 : ((m : Int) == 0) = true := by
        unfold setBB at hb
        rw [hn, hset, Bool.true_and] at hb
        have : s.length = 0 := by simpa using hb
        rw [beq_iff_eq]; omega
      have HS := Lib.hid H2
      clear hr hc hb hsr hset H2 hA hO
      go_enter Tryz.func55, Tryz.ntmps55
      go_wp2_with fail
      refine HS.out.mono ?_
      rintro e w2 ⟨rfl, hs2⟩
      go_wp2_with fail
      go_ret2
      exact GotRowsB.mk' _ 0 [] rfl rfl (HO.out.still hs2) (below_still HA.out hs2)
end Go.Proofs.YtkjglfafphffiaaGreatDoor
namespace Go.Proofs.YtkjglfafphffiaaGreatDoor
set_option maxRecDepth 100000
open Go.RowKit
def posB (r : List Int) : Bool := (r.any fun x => decide (0 < x)) && !(r.any fun x => decide (x < 0))
end Go.Proofs.YtkjglfafphffiaaGreatDoor
namespace Go.Proofs.YtkjglfafphffiaaGreatDoor
set_option maxRecDepth 100000
open Go.RowKit
def upB (r : List Int) : Bool := r.any fun x => decide (0 < x)
def dnB (r : List Int) : Bool := r.any fun x => decide (x < 0)
def signL (r : List Int) : Int := if upB r = dnB r then 0 else if upB r = true then 1 else -1
theorem posB_eq (r : List Int) : posB r = (upB r && !dnB r) := rfl
theorem sign_one (r : List Int) : (signL r == 1) = posB r := by
  unfold signL
  rw [posB_eq]
  cases upB r <;> cases dnB r <;> rfl
theorem sign_of {r : List Int} {u d : Bool} (hu : upB r = u) (hd : dnB r = d) : signL r = if u = d then 0 else if u = true then 1 else -1 := by unfold signL; rw [hu, hd]
theorem up_take {r : List Int} {k : Nat} (hk : k < r.length) : upB (r.take (k + 1)) = (upB (r.take k) || decide (0 < r.getD k 0)) := by
  unfold upB
  rw [List.take_succ_eq_append_getElem hk, List.any_append]
  simp [List.getD, hk]
theorem dn_take {r : List Int} {k : Nat} (hk : k < r.length) : dnB (r.take (k + 1)) = (dnB (r.take k) || decide (r.getD k 0 < 0)) := by
  unfold dnB
  rw [List.take_succ_eq_append_getElem hk, List.any_append]
  simp [List.getD, hk]
set_option maxHeartbeats 1000000 in
theorem spec_RootSign_any (g o n cp : Nat) (r : List Int) (w : World) (hn : r.length = n) (hx : r.length ≤ 1048576) (hr : Cells w g o r) :
    Calls Tryz.prog 112 #[(Value.slice (some ⟨g, o, none⟩) n cp)] w (Reads w (.int .i64 (signL r))) := by
  subst hn
  go_enter Tryz.func112, Tryz.ntmps112
  go_wp2
  go_loopw [3, 4, 5] (fun uv dv iv wr => ∃ k : Nat, k ≤ r.length ∧ uv = .bool (upB (r.take k)) ∧ dv = .bool (dnB (r.take k)) ∧ iv = .int .i64 k ∧ ∃ m, wr = w.drewN m) (fun _ _ iv _ => r.length - (intOf iv).toNat)
  case atStart => exact ⟨0, Nat.zero_le _, rfl, rfl, rfl, 0, rfl⟩
  case round =>
    obtain ⟨k, hk, rfl, rfl, rfl, m, rfl⟩ := hrel
    by_cases hlt : k < r.length
    · have q1 := hr k hlt
      have hu := up_take hlt
      have hd := dn_take hlt
      generalize r.getD k 0 = x at q1 hu hd
      have Hu := Lib.hid hu; have Hd := Lib.hid hd
      clear hu hd
      generalize upB (r.take k) = u at *
      generalize dnB (r.take k) = d at *
      cases u <;> cases d
      all_goals
        go_wp2
        go_roundw
        case rel => exact ⟨k + 1, by omega, by rw [Hu.out]; simp, by rw [Hd.out]; simp, by go_num, m, rfl⟩
        case measure => simp [intOf]; omega
    · obtain rfl : k = r.length := by omega
      rw [List.take_length] at *
      generalize hu : upB r = u at *
      generalize hd : dnB r = d at *
      have E := Lib.hid (sign_of hu hd)
      clear hu hd
      cases u <;> cases d
      all_goals
        go_wp2
        go_ret
        exact ⟨congrArg (fun t => Ending.returned (.int .i64 t)) E.out.symm, m, rfl⟩
set_option maxHeartbeats 1000000 in
theorem impl_RootSign_any (g o n cp : Nat) (r : List Int) (w : World) (hn : r.length = n) (hx : r.length ≤ 1048576) (hr : Cells w g o r) :
    Calls Tryz.prog 104 #[(Value.slice (some ⟨g, o, none⟩) n cp)] w (Reads w (.int .i64 (signL r))) := by
  subst hn
  go_enter Tryz.func104, Tryz.ntmps104
  go_wp2
  go_loopw [3, 4, 9] (fun uv dv iv wr => ∃ k : Nat, k ≤ r.length ∧ uv = .bool (upB (r.take k)) ∧ dv = .bool (dnB (r.take k)) ∧ iv = .int .i64 k ∧ ∃ m, wr = w.drewN m) (fun _ _ iv _ => r.length - (intOf iv).toNat)
  case atStart => exact ⟨0, Nat.zero_le _, rfl, rfl, rfl, 0, rfl⟩
  case round =>
    obtain ⟨k, hk, rfl, rfl, rfl, m, rfl⟩ := hrel
    by_cases hlt : k < r.length
    · have q1 := hr k hlt
      have hu := up_take hlt
      have hd := dn_take hlt
      generalize r.getD k 0 = x at q1 hu hd
      have Hu := Lib.hid hu; have Hd := Lib.hid hd
      clear hu hd
      generalize upB (r.take k) = u at *
      generalize dnB (r.take k) = d at *
      cases u <;> cases d
      all_goals
        go_wp2
        go_roundw
        case rel => exact ⟨k + 1, by omega, by rw [Hu.out]; simp, by rw [Hd.out]; simp, by go_num, m, rfl⟩
        case measure => simp [intOf]; omega
    · obtain rfl : k = r.length := by omega
      rw [List.take_length] at *
      generalize hu : upB r = u at *
      generalize hd : dnB r = d at *
      have E := Lib.hid (sign_of hu hd)
      clear hu hd
      cases u <;> cases d
      all_goals
        go_wp2
        go_ret
        exact ⟨congrArg (fun t => Ending.returned (.int .i64 t)) E.out.symm, m, rfl⟩
end Go.Proofs.YtkjglfafphffiaaGreatDoor
namespace Go.Proofs.YtkjglfafphffiaaGreatDoor
set_option maxRecDepth 100000
open Go.RowKit
theorem run_makeFuncD (fn : Fn) (first cap : Array Value) (w : World) : (Instr.makeFunc fn first cap).run Tryz.prog w = .ok (.func fn first cap) w := rfl
set_option maxHeartbeats 1000000 in
theorem impl_hasClosure_any (g1 o1 n1 c1 g2 o2 n2 c2 b : Nat) (xs ys : List Int) (w : World) (hn1 : xs.length = n1) (hn2 : ys.length = n2) (hx : xs.length ≤ 1048576) (hy : ys.length ≤ 1048576)
    (hcx : Cells w g1 o1 xs) (hcy : Cells w g2 o2 ys) (hb : w.cell? ⟨b, 0, none⟩ = some (Value.slice (some ⟨g2, o2, none⟩) n2 c2)) :
    Calls Tryz.prog 145 #[(Value.slice (some ⟨g1, o1, none⟩) n1 c1), .pointer (some ⟨b, 0, none⟩)] w (Reads w (.bool (decide (ys = xs)))) := by
  have hcall := slices_Equal_any g2 o2 n2 c2 g1 o1 n1 c1 ys xs w hn2 hn1 (by omega) (by omega) hcy hcx
  have Hcall := Lib.hid hcall
  generalize decide (ys = xs) = r at *
  clear hcall
  go_enter Tryz.func145, Tryz.ntmps145
  go_wp2_with fail
  refine Hcall.out.mono ?_
  rintro e w1 ⟨rfl, hs1⟩
  go_wp2_with fail
  go_ret
  exact ⟨rfl, hs1⟩
def notTo (l : List (List Int)) (r : List Int) (k : Nat) : Prop := ∀ j, j < k → l.getD j [] ≠ r
theorem mem_of_found {l : List (List Int)} {r : List Int} {k : Nat} (hk : k < l.length) (h : l.getD k [] = r) : r ∈ l := by
  rw [← h]; simp [List.getD, hk]
theorem not_mem_of {l : List (List Int)} {r : List Int} (h : notTo l r l.length) : r ∉ l := by
  intro hm
  obtain ⟨j, hj, rfl⟩ := List.mem_iff_getElem.1 hm
  exact h j hj (by simp [List.getD, hj])
set_option maxHeartbeats 2000000 in
theorem slices_IndexFuncD_any (g o n cp g1 o1 n1 c1 b : Nat) (l : List (List Int)) (r : List Int) (w : World) (hn : l.length = n) (hn1 : r.length = n1) (hr1 : r.length ≤ 1048576) (hl : l.length ≤ 1048576) (hrl : ∀ j, j < l.length → (l.getD j []).length ≤ 1048576)
    (hr : Rows2 w g o l) (hc1 : Cells w g1 o1 r) (hb : w.cell? ⟨b, 0, none⟩ = some (Value.slice (some ⟨g1, o1, none⟩) n1 c1)) :
    Calls Tryz.prog 160 #[(Value.slice (some ⟨g, o, none⟩) n cp), .func (.func 145) #[] #[.pointer (some ⟨b, 0, none⟩)]] w (fun e w' => ∃ i : Int, e = .returned (.int .i64 i) ∧ decide (0 ≤ i) = decide (r ∈ l) ∧ ∃ q, w' = w.drewN q) := by
  subst hn; subst hn1
  go_enter Tryz.func160, Tryz.ntmps160
  go_wp2
  go_loopw [8] (fun i wr => ∃ k : Nat, k ≤ l.length ∧ i = .int .i64 k ∧ Hid (notTo l r k) ∧ ∃ m, wr = w.drewN m) (fun i _ => l.length - (intOf i).toNat)
  case atStart => exact ⟨0, Nat.zero_le _, rfl, fun j hj => absurd hj (by omega), (by first | exact ⟨_, rfl⟩ | exact ⟨0, rfl⟩ | exact still2 _ _ _ | exact still3 _ _ _ _)⟩
  case round =>
    obtain ⟨k, hk, rfl, hin, m, rfl⟩ := hrel
    by_cases hlt : k < l.length
    · obtain ⟨gj, oj, cj, q1, q2, q3, q4⟩ := hr k hlt
      have hlk := hrl k hlt
      have HY : Hid (l.getD k [] ≠ r → notTo l r (k + 1)) := fun h j hj => by
        by_cases e : j = k
        · subst e; exact h
        · exact hin.out j (by omega)
      have HX : Hid (l.getD k [] = r → decide ((0 : Int) ≤ (k : Int)) = decide (r ∈ l)) := fun h => by
        rw [decide_eq_true (mem_of_found hlt h), decide_eq_true (by omega)]
      generalize l.getD k [] = x at *
      have hcall := impl_hasClosure_any gj oj x.length cj g1 o1 r.length c1 b x r (w.drewN m) rfl rfl (by omega) hr1 q4 hc1 hb
      by_cases e : x = r
      · have hd := HX.out e
        rw [decide_eq_true e.symm] at hcall
        have Hd := Lib.hid hd; have He := Lib.hid e; have Hcall := Lib.hid hcall
        clear hd hcall e
        go_wp2_with fail
        refine Hcall.out.mono ?_
        rintro e w2 ⟨rfl, m2, rfl⟩
        go_wp2_with fail
        go_ret
        exact ⟨_, rfl, Hd.out, (by first | exact ⟨_, rfl⟩ | exact ⟨0, rfl⟩ | exact still2 _ _ _ | exact still3 _ _ _ _)⟩
      · have hd := HY.out e
        rw [decide_eq_false (fun h => e h.symm)] at hcall
        have Hd := Lib.hid hd; have He := Lib.hid e; have Hcall := Lib.hid hcall
        clear hd hcall e
        go_wp2_with fail
        refine Hcall.out.mono ?_
        rintro e w2 ⟨rfl, m2, rfl⟩
        go_wp2_with fail
        go_roundw
        case rel => exact ⟨k + 1, by omega, by go_num, Hd.out, (by first | exact ⟨_, rfl⟩ | exact ⟨0, rfl⟩ | exact still2 _ _ _ | exact still3 _ _ _ _)⟩
        case measure => simp [intOf]; omega
    · obtain rfl : k = l.length := by omega
      have hf := not_mem_of hin.out
      have Hf := Lib.hid hf; clear hf
      go_wp2
      go_ret
      exact ⟨-1, rfl, by rw [decide_eq_false Hf.out]; rfl, (by first | exact ⟨_, rfl⟩ | exact ⟨0, rfl⟩ | exact still2 _ _ _ | exact still3 _ _ _ _)⟩
set_option maxHeartbeats 1000000 in
theorem impl_hasRoot_any (g o n cp g1 o1 n1 c1 : Nat) (l : List (List Int)) (r : List Int) (w : World) (hn : l.length = n) (hn1 : r.length = n1) (hr1 : r.length ≤ 1048576) (hl : l.length ≤ 1048576) (hrl : ∀ j, j < l.length → (l.getD j []).length ≤ 1048576)
    (hg : g < w.heap.size) (hg1 : g1 < w.heap.size) (hr : Rows2 w g o l) (hc1 : Cells w g1 o1 r) :
    Calls Tryz.prog 105 #[(Value.slice (some ⟨g, o, none⟩) n cp), (Value.slice (some ⟨g1, o1, none⟩) n1 c1)] w (Gives w (.bool (decide (r ∈ l)))) := by
  obtain ⟨w1, hw1⟩ : ∃ w1, w1 = w.alloc (.cells #[(Value.slice (some ⟨g1, o1, none⟩) n1 c1)] 25) := ⟨_, rfl⟩
  have hb1 : Below w.heap.size w w1 := by rw [hw1]; exact (Below.refl _ _).alloc (Nat.le_refl _) _
  have hnew := heap_alloc_new w (.cells #[(Value.slice (some ⟨g1, o1, none⟩) n1 c1)] 25 (0, 0))
  have hcl : w1.cell? ⟨w.heap.size, 0, none⟩ = some (Value.slice (some ⟨g1, o1, none⟩) n1 c1) := by rw [hw1]; exact (cell_of_cells hnew 0).trans rfl
  have hcall := slices_IndexFuncD_any g o n cp g1 o1 n1 c1 w.heap.size l r w1 hn hn1 hr1 hl hrl (hr.below hb1 hg) (hc1.below hb1 hg1) hcl
  have hcont : Calls Tryz.prog 144 #[(Value.slice (some ⟨g, o, none⟩) n cp), .func (.func 145) #[] #[.pointer (some ⟨w.heap.size, 0, none⟩)]] w1 (Reads w1 (.bool (decide (r ∈ l)))) := by
    have Hcall := Lib.hid hcall
    generalize decide (r ∈ l) = z at *
    clear hcall hcl hb1 hw1 hr hc1 hrl hn hn1 hnew
    go_enter Tryz.func144, Tryz.ntmps144
    go_wp2_with fail
    refine Hcall.out.mono ?_
    rintro e w2 ⟨i, rfl, hi, hs⟩
    go_wp2_with fail
    go_ret
    exact ⟨by first | rfl | exact ret_bool hi, hs⟩
  rw [hw1] at hcont
  have Hcall := Lib.hid hcont
  have hb2 : Below w.heap.size w (w.alloc (.cells #[(Value.slice (some ⟨g1, o1, none⟩) n1 c1)] 25)) := (Below.refl _ _).alloc (Nat.le_refl _) _
  have Hb2 := Lib.hid hb2
  have hmf := run_makeFuncD
  generalize decide (r ∈ l) = z at *
  clear hcall hcont hb2 hcl hb1 hw1 hr hc1 hrl hn hn1 hnew
  go_enter Tryz.func105, Tryz.ntmps105
  go_wp2_with fail
  refine Hcall.out.mono ?_
  rintro e w2 ⟨rfl, hs2⟩
  have hb := below_still Hb2.out hs2
  go_wp2_with fail
  go_ret
  exact ⟨rfl, hb⟩
def diffAt (R : List (List Int)) (k : Nat) : Prop := signL (R.getD k []) = 1 ∧ R.getD k [] ∉ R.take k
instance (R : List (List Int)) (k : Nat) : Decidable (diffAt R k) := by unfold diffAt; infer_instance
def diffB (R : List (List Int)) : Bool := (List.range R.length).all fun k => decide (diffAt R k)
theorem diffB_yes {R : List (List Int)} (h : ∀ k, k < R.length → diffAt R k) : diffB R = true := List.all_eq_true.2 fun k hk => decide_eq_true (h k (List.mem_range.1 hk))
theorem diffB_no {R : List (List Int)} {k : Nat} (hk : k < R.length) (h : ¬ diffAt R k) : diffB R = false := by
  rw [← Bool.not_eq_true]
  intro ht
  have := List.all_eq_true.1 ht k (List.mem_range.2 hk)
  exact h (of_decide_eq_true this)
theorem signL_cases (r : List Int) : signL r = 1 ∨ signL r = 0 ∨ signL r = -1 := by unfold signL; (repeat' split) <;> omega
set_option maxRecDepth 100000 in
set_option maxHeartbeats 2000000 in
theorem spec_l34Different_any (g o n cp : Nat) (R : List (List Int)) (w : World) (hn : R.length = n) (hcap : R.length ≤ cp) (hl : R.length ≤ 1048576) (hrl : ∀ j, j < R.length → (R.getD j []).length ≤ 1048576) (hr : Rows2 w g o R) :
    Calls Tryz.prog 49 #[(Value.slice (some ⟨g, o, none⟩) n cp)] w (Reads w (.bool (diffB R))) := by
  subst hn
  go_enter Tryz.func49, Tryz.ntmps49
  go_wp2
  go_loopw [3] (fun iv wr => ∃ k : Nat, k ≤ R.length ∧ iv = .int .i64 k ∧ Hid (∀ j, j < k → diffAt R j) ∧ ∃ m, wr = w.drewN m) (fun iv _ => R.length - (intOf iv).toNat)
  case atStart => exact ⟨0, Nat.zero_le _, rfl, fun j h => absurd h (by omega), (by first | exact ⟨_, rfl⟩ | exact ⟨0, rfl⟩ | exact still2 _ _ _ | exact still3 _ _ _ _)⟩
  case round =>
    obtain ⟨k, hk, rfl, hp, m, rfl⟩ := hrel
    by_cases hlt : k < R.length
    · obtain ⟨gj, oj, cj, q1, q2, q3, q4⟩ := hr k hlt
      have hlk := hrl k hlt
      have hcS := fun W (hs : ∃ q, W = w.drewN q) => spec_RootSign_any gj oj (R.getD k []).length cj (R.getD k []) W rfl hlk (q4.still hs)
      have hcI := fun W (hs : ∃ q, W = w.drewN q) => spec_l7In_any g o k cp gj oj (R.getD k []).length cj (R.take k) (R.getD k []) W (by rw [List.length_take]; omega) rfl (by rw [List.length_take]; omega) (fun j hj => by
        have hj' : j < R.length := by rw [List.length_take] at hj; omega
        have hjk : j < k := by rw [List.length_take] at hj; omega
        have := hrl j hj'
        simpa [List.getD, hj', hjk] using this) (fun j hj => by
        have hj' : j < R.length := by rw [List.length_take] at hj; omega
        have hjk : j < k := by rw [List.length_take] at hj; omega
        have e : (R.take k).getD j [] = R.getD j [] := by simp [List.getD, hj', hjk]
        have := (hr.still hs) j hj'
        rw [e]; exact this) (q4.still hs)
      have hdA : diffAt R k ↔ signL (R.getD k []) = 1 ∧ R.getD k [] ∉ R.take k := Iff.rfl
      have hcases := signL_cases (R.getD k [])
      have hno : ¬ diffAt R k → diffB R = false := diffB_no hlt
      have hyes : diffAt R k → ∀ j, j < k + 1 → diffAt R j := fun h j hj => by
        by_cases e : j = k
        · subst e; exact h
        · exact hp.out j (by omega)
      generalize signL (R.getD k []) = z at *
      generalize R.getD k [] = x at *
      have b1 : (0 : Int) ≤ (k : Int) := by omega
      have b2 : (k : Int) < (R.length : Int) := by omega
      have b3 : (k : Int) ≤ (cp : Int) := by omega
      by_cases hz : z = 1
      · subst hz
        have d1 : decide ((1 : Int) ≤ 0) = false := rfl
        by_cases hm : x ∈ R.take k
        · rw [decide_eq_true hm] at hcI
          have HcS := Lib.hid hcS; have HcI := Lib.hid hcI; have Hno := Lib.hid (hno (fun h => (hdA.1 h).2 hm))
          clear hcS hcI hno hyes hdA hcases hr hrl hp hm q4
          go_wp2
          go_quiet ((first | (go_at_call 112; first | with_reducible exact Calls.quiet_of (HcS.out _ ⟨_, rfl⟩) | with_reducible exact Reads.quiet4 (HcS.out _ ⟨_, rfl⟩)) | (go_at_call 113; first | with_reducible exact Calls.quiet_of (HcI.out _ ⟨_, rfl⟩) | with_reducible exact Reads.quiet4 (HcI.out _ ⟨_, rfl⟩))))
          go_wp2_with fail
          go_ret
          exact ⟨ret_bool Hno.out.symm, (by first | exact ⟨_, rfl⟩ | exact ⟨0, rfl⟩ | exact still2 _ _ _ | exact still3 _ _ _ _)⟩
        · rw [decide_eq_false hm] at hcI
          have HcS := Lib.hid hcS; have HcI := Lib.hid hcI; have Hyes := Lib.hid (hyes (hdA.2 ⟨rfl, hm⟩))
          clear hcS hcI hno hyes hdA hcases hr hrl hp hm q4
          go_wp2
          go_quiet ((first | (go_at_call 112; first | with_reducible exact Calls.quiet_of (HcS.out _ ⟨_, rfl⟩) | with_reducible exact Reads.quiet4 (HcS.out _ ⟨_, rfl⟩)) | (go_at_call 113; first | with_reducible exact Calls.quiet_of (HcI.out _ ⟨_, rfl⟩) | with_reducible exact Reads.quiet4 (HcI.out _ ⟨_, rfl⟩))))
          go_wp2_with fail
          go_roundw
          case rel => exact ⟨k + 1, by omega, by go_num, Hyes.out, (by first | exact ⟨_, rfl⟩ | exact ⟨0, rfl⟩ | exact still2 _ _ _ | exact still3 _ _ _ _)⟩
          case measure => simp [intOf]; omega
      · have d1 : decide (z ≤ (0 : Int)) = true := decide_eq_true (by omega)
        have HcS := Lib.hid hcS; have Hno := Lib.hid (hno (fun h => hz (hdA.1 h).1))
        clear hcS hcI hno hyes hdA hcases hr hrl hp q4 hz
        go_wp2
        go_quiet ((go_at_call 112; first | with_reducible exact Calls.quiet_of (HcS.out _ ⟨_, rfl⟩) | with_reducible exact Reads.quiet4 (HcS.out _ ⟨_, rfl⟩)))
        go_wp2_with fail
        go_ret
        exact ⟨ret_bool Hno.out.symm, (by first | exact ⟨_, rfl⟩ | exact ⟨0, rfl⟩ | exact still2 _ _ _ | exact still3 _ _ _ _)⟩
    · obtain rfl : k = R.length := by omega
      have Hf := Lib.hid (diffB_yes hp.out)
      clear hp
      go_wp2
      go_ret
      exact ⟨ret_bool Hf.out.symm, (by first | exact ⟨_, rfl⟩ | exact ⟨0, rfl⟩ | exact still2 _ _ _ | exact still3 _ _ _ _)⟩
end Go.Proofs.YtkjglfafphffiaaGreatDoor
