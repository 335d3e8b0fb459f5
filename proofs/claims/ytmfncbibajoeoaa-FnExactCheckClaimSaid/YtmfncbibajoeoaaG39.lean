/- Sets of points, matrices of points: contracts at valid matrices. -/
import Derived.Test.YtmfncbibajoeoaaG35
import Derived.Test.YtmfncbibajoeoaaG14
import Derived.Test.YtmfncbibajoeoaaG38
namespace Go.Proofs.Ytmfncbibajoeoaa
set_option maxRecDepth 100000
open Go.RowKit Game

def prevAt (ps : List Int) (k : Nat) : Int := if k = 0 then -1 else ps.getD (k - 1) 0
theorem prevAt_succ (ps : List Int) (k : Nat) : prevAt ps (k + 1) = ps.getD k 0 := by simp [prevAt]
theorem takeAt_iff {n : Nat} {ps : List Int} {k : Nat} (h : ∀ j, j < k → takeAt n ps j) : takeAt n ps k ↔ prevAt ps k < ps.getD k 0 ∧ ps.getD k 0 < (n : Int) := by
  unfold takeAt prevAt
  by_cases h0 : k = 0
  · subst h0; simp only [if_true]; omega
  · have h1 := take_ge h (k - 1) (by omega)
    rw [if_neg h0]
    omega

set_option maxHeartbeats 1000000 in
theorem impl_isSet_any (gc oc n cc g o m cp : Nat) (s : List Int) (w : World) (hm : s.length = m) (hl : s.length ≤ 1048576) (hc : Cells w g o s) :
    Calls Try.prog 119 #[(Value.slice (some ⟨gc, oc, none⟩) n cc), (Value.slice (some ⟨g, o, none⟩) m cp)] w (Reads w (.bool (takeB n s))) := by
  subst hm
  go_enter Try.func119, Try.ntmps119
  go_wp2
  go_loopw [5, 10] (fun lv i wr => ∃ k : Nat, k ≤ s.length ∧ i = .int .i64 k ∧ lv = .int .i64 (prevAt s k) ∧ Hid (∀ j, j < k → takeAt n s j) ∧ ∃ q, wr = w.drewN q) (fun _ i _ => s.length - (intOf i).toNat)
  case atStart => exact ⟨0, Nat.zero_le _, rfl, rfl, fun j h => absurd h (by omega), (by first | exact ⟨_, rfl⟩ | exact ⟨0, rfl⟩ | exact still2 _ _ _ | exact still3 _ _ _ _)⟩
  case round =>
    obtain ⟨k, hk, rfl, rfl, hp, q, rfl⟩ := hrel
    by_cases hlt : k < s.length
    · have c1 := hc k hlt
      have hiff := takeAt_iff hp.out
      have hno : ¬ takeAt n s k → takeB n s = false := takeB_no hlt
      have hyes : takeAt n s k → ∀ j, j < k + 1 → takeAt n s j := fun h j hj => by
        by_cases e : j = k
        · subst e; exact h
        · exact hp.out j (by omega)
      have hps := Lib.hid (prevAt_succ s k)
      generalize prevAt s k = z at *
      generalize s.getD k 0 = p at *
      by_cases h1 : p ≤ z
      · have Hno := Lib.hid (hno (fun h => by have := (hiff.1 h).1; omega))
        clear hno hyes hiff hp
        go_wp2_with fail
        go_ret
        exact ⟨ret_bool Hno.out.symm, (by first | exact ⟨_, rfl⟩ | exact ⟨0, rfl⟩ | exact still2 _ _ _ | exact still3 _ _ _ _)⟩
      · by_cases h2 : (n : Int) ≤ p
        · have Hno := Lib.hid (hno (fun h => by have := (hiff.1 h).2; omega))
          clear hno hyes hiff hp
          go_wp2_with fail
          go_ret
          exact ⟨ret_bool Hno.out.symm, (by first | exact ⟨_, rfl⟩ | exact ⟨0, rfl⟩ | exact still2 _ _ _ | exact still3 _ _ _ _)⟩
        · have Hyes := Lib.hid (hyes (hiff.2 ⟨by omega, by omega⟩))
          clear hno hyes hiff hp
          go_wp2_with fail
          go_roundw
          case rel => exact ⟨k + 1, by omega, by go_num, by rw [hps.out], Hyes.out, (by first | exact ⟨_, rfl⟩ | exact ⟨0, rfl⟩ | exact still2 _ _ _ | exact still3 _ _ _ _)⟩
          case measure => simp [intOf]; omega
    · obtain rfl : k = s.length := by omega
      have Hf := Lib.hid (takeB_yes hp.out)
      clear hp
      go_wp2
      go_ret
      exact ⟨ret_bool Hf.out.symm, (by first | exact ⟨_, rfl⟩ | exact ⟨0, rfl⟩ | exact still2 _ _ _ | exact still3 _ _ _ _)⟩

set_option maxRecDepth 100000 in
set_option maxHeartbeats 2000000 in
theorem spec_l3Set_any (gc oc n cc g o m cp : Nat) (c : List (List Int)) (s : List Int) (w : World) (hn : c.length = n) (hm : s.length = m) (hC : IsC c) (hl : s.length ≤ 1048576) (hr : Rows2 w gc oc c) (hc : Cells w g o s) :
    Calls Try.prog 106 #[(Value.slice (some ⟨gc, oc, none⟩) n cc), (Value.slice (some ⟨g, o, none⟩) m cp)] w (Reads w (.bool (takeB n s))) := by
  subst hn; subst hm
  have hn4 := hC.2.1
  have hcl := hC.2.2.1
  have E1 := Lib.hid (IntWalk.i64_in ((c.length : Int) - 1) (by omega))
  have HI := Lib.hid (fun W (hs : ∃ q, W = w.drewN q) => by
    have := spec_IsCartan gc oc _ cc c W rfl (by omega) (fun j hj => by have := hcl j hj; omega) (hr.still hs)
    rw [decide_eq_true hC] at this
    exact this)
  clear hr hcl
  go_enter Try.func106, Try.ntmps106
  go_wp2
  go_loopw [5] (fun i wr => ∃ k : Nat, k ≤ s.length ∧ i = .int .i64 k ∧ Hid (∀ j, j < k → takeAt c.length s j) ∧ ∃ q, wr = w.drewN q) (fun i _ => s.length - (intOf i).toNat)
  case atStart => exact ⟨0, Nat.zero_le _, rfl, fun j h => absurd h (by omega), (by first | exact ⟨_, rfl⟩ | exact ⟨0, rfl⟩ | exact still2 _ _ _ | exact still3 _ _ _ _)⟩
  case round =>
    obtain ⟨k, hk, rfl, hok, q, rfl⟩ := hrel
    by_cases hlt : k < s.length
    · have p1 := hc k hlt
      have bA : (0 : Int) ≤ (k : Int) := by omega
      have bB : (k : Int) < (s.length : Int) := by omega
      have hL0 := fun W => spec_l1In (s.getD k 0) 0 ((c.length : Int) - 1) W
      have hno : ¬ takeAt c.length s k → takeB c.length s = false := takeB_no hlt
      have hyes : takeAt c.length s k → ∀ j, j < k + 1 → takeAt c.length s j := fun h j hj => by
        by_cases e : j = k
        · subst e; exact h
        · exact hok.out j (by omega)
      have hdef : takeAt c.length s k ↔ 0 ≤ s.getD k 0 ∧ s.getD k 0 < (c.length : Int) ∧ (0 < k → s.getD (k - 1) 0 < s.getD k 0) := Iff.rfl
      have hprev : 0 < k → w.cell? ⟨g, o + (k - 1), none⟩ = some (.int .i64 (s.getD (k - 1) 0)) := fun h => hc (k - 1) (by omega)
      generalize s.getD k 0 = p at *
      by_cases hin : 0 ≤ p ∧ p ≤ (c.length : Int) - 1
      case neg =>
        rw [show (decide ((0 : Int) ≤ p) && decide (p ≤ (c.length : Int) - 1)) = false by rw [← Bool.not_eq_true, Bool.and_eq_true, decide_eq_true_eq, decide_eq_true_eq]; exact hin] at hL0
        have hL := Lib.hid hL0; have Hno := Lib.hid (hno (fun h => hin ⟨(hdef.1 h).1, by have := (hdef.1 h).2.1; omega⟩))
        clear hL0 hno hyes hdef hprev hin
        have e1 := E1.out
        go_wp2
        go_quiet ((go_at_call 84; first | with_reducible exact Calls.quiet_of (hL.out _) | with_reducible exact Reads.quiet4 (hL.out _)))
        go_wp2_with fail
        go_ret
        exact ⟨ret_bool Hno.out.symm, (by first | exact ⟨_, rfl⟩ | exact ⟨0, rfl⟩ | exact still2 _ _ _ | exact still3 _ _ _ _)⟩
      rw [show (decide ((0 : Int) ≤ p) && decide (p ≤ (c.length : Int) - 1)) = true by rw [Bool.and_eq_true, decide_eq_true_eq, decide_eq_true_eq]; exact hin] at hL0
      have hL := Lib.hid hL0
      clear hL0
      by_cases hk0 : k = 0
      · have d0 : decide (0 < k) = false := decide_eq_false (by omega)
        have Hyes := Lib.hid (hyes (hdef.2 ⟨by omega, by omega, fun h => absurd h (by omega)⟩))
        clear hno hyes hdef hprev hin hk0
        have e1 := E1.out
        go_wp2
        go_quiet ((go_at_call 84; first | with_reducible exact Calls.quiet_of (hL.out _) | with_reducible exact Reads.quiet4 (hL.out _)))
        go_wp2_with fail
        go_roundw
        case rel => exact ⟨k + 1, by omega, by go_num, Hyes.out, (by first | exact ⟨_, rfl⟩ | exact ⟨0, rfl⟩ | exact still2 _ _ _ | exact still3 _ _ _ _)⟩
        case measure => simp [intOf]; omega
      · have d0 : decide (0 < k) = true := decide_eq_true (by omega)
        have hpv := hprev (by omega)
        have hk1 : 1 ≤ k := by omega
        have e3 := IntWalk.i64_in ((k : Int) - 1) (by omega)
        have hkt : ((k : Int) - 1).toNat = k - 1 := by omega
        have b1 : (0 : Int) ≤ (k : Int) - 1 := by omega
        have b2 : (k : Int) - 1 < (s.length : Int) := by omega
        generalize s.getD (k - 1) 0 = z at *
        by_cases hz : z < p
        · have d1 : decide (p ≤ z) = false := decide_eq_false (by omega)
          have Hyes := Lib.hid (hyes (hdef.2 ⟨by omega, by omega, fun _ => hz⟩))
          clear hno hyes hdef hprev hin hz
          have e1 := E1.out
          go_wp2
          go_quiet ((go_at_call 84; first | with_reducible exact Calls.quiet_of (hL.out _) | with_reducible exact Reads.quiet4 (hL.out _)))
          go_wp2_with fail
          go_roundw
          case rel => exact ⟨k + 1, by omega, by go_num, Hyes.out, (by first | exact ⟨_, rfl⟩ | exact ⟨0, rfl⟩ | exact still2 _ _ _ | exact still3 _ _ _ _)⟩
          case measure => simp [intOf]; omega
        · have d1 : decide (p ≤ z) = true := decide_eq_true (by omega)
          have Hno := Lib.hid (hno (fun h => hz ((hdef.1 h).2.2 (by omega))))
          clear hno hyes hdef hprev hin hz
          have e1 := E1.out
          go_wp2
          go_quiet ((go_at_call 84; first | with_reducible exact Calls.quiet_of (hL.out _) | with_reducible exact Reads.quiet4 (hL.out _)))
          go_wp2_with fail
          go_ret
          exact ⟨ret_bool Hno.out.symm, (by first | exact ⟨_, rfl⟩ | exact ⟨0, rfl⟩ | exact still2 _ _ _ | exact still3 _ _ _ _)⟩
    · obtain rfl : k = s.length := by omega
      have Hf := Lib.hid (takeB_yes hok.out)
      have hI := Lib.hid (HI.out (w.drewN q) (by first | exact ⟨_, rfl⟩ | exact ⟨0, rfl⟩ | exact still2 _ _ _ | exact still3 _ _ _ _))
      clear hok
      go_wp2_with fail
      refine hI.out.mono ?_
      rintro e w5 ⟨rfl, q5, rfl⟩
      go_wp2_with fail
      go_ret
      exact ⟨ret_bool Hf.out.symm, (by first | exact ⟨_, rfl⟩ | exact ⟨0, rfl⟩ | exact still2 _ _ _ | exact still3 _ _ _ _)⟩

def setBB (c : List (List Int)) (s : List Int) : Bool := takeB c.length s && !(s.length == 0)
def subR (c : List (List Int)) (s : List Int) : List (List Int) := if setBB c s = true then pickL c s else []
theorem setBB_yes {c : List (List Int)} {s : List Int} (hC : IsC c) (h : setBB c s = true) : 1 ≤ s.length ∧ s.length ≤ 4 ∧ (∀ t, t < s.length → 0 ≤ s.getD t 0 ∧ s.getD t 0 < c.length) ∧ (∀ t, t + 1 < s.length → s.getD t 0 < s.getD (t + 1) 0) := by
  unfold setBB at h
  rw [Bool.and_eq_true] at h
  have h0 : s.length ≠ 0 := by simpa using h.2
  have hf := take_few (n := c.length) (ps := s) (m := s.length) (fun k hk => takeB_at h.1 hk)
  have := hC.2.1
  refine ⟨by omega, by omega, fun t ht => ⟨(takeB_at h.1 ht).1, (takeB_at h.1 ht).2.1⟩, fun t ht => ?_⟩
  have := (takeB_at h.1 ht).2.2 (by omega)
  rwa [Nat.add_sub_cancel] at this

set_option maxHeartbeats 1000000 in
theorem impl_SubCartan_ok (gc oc n cc g o m cs : Nat) (c : List (List Int)) (s : List Int) (w : World) (hn : c.length = n) (hm : s.length = m) (hC : IsC c) (hl : s.length ≤ 1048576) (hgc : gc < w.heap.size) (hg : g < w.heap.size) (hr : Rows2 w gc oc c) (hc : Cells w g o s) :
    Calls Try.prog 79 #[(Value.slice (some ⟨gc, oc, none⟩) n cc), (Value.slice (some ⟨g, o, none⟩) m cs)] w (GotRowsB w (subR c s) (setBB c s)) := by
  have hn4 := hC.2.1
  have hcl := hC.2.2.1
  have h1 := impl_IsCartan gc oc n cc c w hn (by omega) (fun j hj => by have := hcl j hj; omega) hr
  rw [decide_eq_true hC] at h1
  have H1 := Lib.hid h1
  have H2 := Lib.hid (fun W (hs : ∃ q, W = w.drewN q) => impl_isSet_any gc oc n cc g o m cs s W hm hl (hc.still hs))
  have hpk := fun (h : setBB c s = true) (W : World) (hs : ∃ q, W = w.drewN q) => impl_picked_any gc oc n cc g o m cs c s W hn hm (setBB_yes hC h).2.1 hcl (setBB_yes hC h).2.2.1 (Nat.lt_of_lt_of_le hgc (below_still (Below.refl w.heap.size w) hs).size) (Nat.lt_of_lt_of_le hg (below_still (Below.refl w.heap.size w) hs).size) (hr.still hs) (hc.still hs)
  cases hb : setBB c s with
  | true =>
    have hsr : subR c s = pickL c s := if_pos hb
    have hb' := hb
    unfold setBB at hb'
    rw [Bool.and_eq_true] at hb'
    have hm0 : ((m : Int) == 0) = false := by
      have : s.length ≠ 0 := by simpa using hb'.2
      rw [beq_eq_false_iff_ne]; omega
    have hset : takeB n s = true := by rw [← hn]; exact hb'.1
    rw [hset] at H2
    rw [hsr]
    have H3 := Lib.hid (hpk hb)
    clear h1 hpk hr hc hb hb' hset hsr hcl
    go_enter Try.func79, Try.ntmps79
    go_wp2_with fail
    refine H1.out.mono ?_
    rintro e w1 ⟨rfl, hs1⟩
    go_wp2_with fail
    refine (H2.out w1 hs1).mono ?_
    rintro e w2 ⟨rfl, hs2⟩
    have hs := still_trans hs1 hs2
    have hb2 := below_still (Below.refl w.heap.size w) hs
    go_wp2_with fail
    refine (H3.out w2 hs).mono ?_
    rintro e w3 ⟨g3, c3, rs, rfl, hcon, ho, hb3⟩
    go_wp2_with fail
    go_ret2
    exact ⟨g3, c3, rs, rfl, hcon, ho.mono hb2.size, hb2.trans (hb3.mono hb2.size)⟩
  | false =>
    have hsr : subR c s = [] := if_neg (by rw [hb]; decide)
    rw [hsr]
    by_cases h0 : s.length = 0
    · have hm0 : ((m : Int) == 0) = true := by rw [beq_iff_eq]; omega
      clear h1 hpk hr hc hb hsr hcl
      go_enter Try.func79, Try.ntmps79
      go_wp2_with fail
      refine H1.out.mono ?_
      rintro e w1 ⟨rfl, hs1⟩
      have hb2 := below_still (Below.refl w.heap.size w) hs1
      go_wp2_with fail
      go_ret2
      exact GotRowsB.mk' _ 0 [] rfl rfl (OwnRows.empty hb2.size) (hb2.alloc hb2.size _)
    · have hm0 : ((m : Int) == 0) = false := by rw [beq_eq_false_iff_ne]; omega
      have hset : takeB n s = false := by
        rw [← hn]
        unfold setBB at hb
        have h00 : (s.length == 0) = false := by simpa using h0
        rw [h00] at hb
        simpa using hb
      rw [hset] at H2
      clear h1 hpk hr hc hb hsr hcl hset
      go_enter Try.func79, Try.ntmps79
      go_wp2_with fail
      refine H1.out.mono ?_
      rintro e w1 ⟨rfl, hs1⟩
      go_wp2_with fail
      refine (H2.out w1 hs1).mono ?_
      rintro e w2 ⟨rfl, hs2⟩
      have hs := still_trans hs1 hs2
      have hb2 := below_still (Below.refl w.heap.size w) hs
      go_wp2_with fail
      go_ret2
      exact GotRowsB.mk' _ 0 [] rfl rfl (OwnRows.empty hb2.size) (hb2.alloc hb2.size _)

set_option maxHeartbeats 1000000 in
theorem spec_SubCartan_okc (gc oc n cc g o m cs : Nat) (c : List (List Int)) (s : List Int) (w : World) (hn : c.length = n) (hm : s.length = m) (hC : IsC c) (hl : s.length ≤ 1048576) (hgc : gc < w.heap.size) (hg : g < w.heap.size) (hr : Rows2 w gc oc c) (hc : Cells w g o s) :
    Calls Try.prog 70 #[(Value.slice (some ⟨gc, oc, none⟩) n cc), (Value.slice (some ⟨g, o, none⟩) m cs)] w (GotRowsB w (subR c s) (setBB c s)) := by
  cases hb : setBB c s with
  | true =>
    have hsr : subR c s = pickL c s := if_pos hb
    obtain ⟨q1, q2, q3, q4⟩ := setBB_yes hC hb
    rw [hsr]
    refine (spec_SubCartan_ok gc oc n cc g o m cs c s w hn hm hC q2 q1 q3 q4 hgc hg hr hc).mono ?_
    rintro e w' ⟨g', cap, rs, rfl, h1, h2, h3⟩
    refine ⟨g', cap, rs, ?_, h1, h2, h3⟩
    rw [show (pickL c s).length = s.length by simp [pickL]]
  | false =>
    have hsr : subR c s = [] := if_neg (by rw [hb]; decide)
    rw [hsr]
    have hA := (Below.refl w.heap.size w).alloc (Nat.le_refl _) (.cells #[] 24)
    have hO : OwnRows (w.alloc (.cells #[] 24)) w.heap.size w.heap.size 0 [] := OwnRows.empty (Nat.le_refl _)
    have H2 := spec_l3Set_any gc oc n cc g o m cs c s (w.alloc (.cells #[] 24)) hn hm hC hl (hr.below hA hgc) (hc.below hA hg)
    have HA := Lib.hid hA; have HO := Lib.hid hO
    cases hset : takeB n s with
    | false =>
      rw [hset] at H2
      have HS := Lib.hid H2
      clear hr hc hb hsr hset H2 hA hO
      go_enter Try.func70, Try.ntmps70
      go_wp2_with fail
      refine HS.out.mono ?_
      rintro e w2 ⟨rfl, hs2⟩
      go_wp2_with fail
      go_ret2
      exact GotRowsB.mk' _ 0 [] rfl rfl (HO.out.still hs2) (below_still HA.out hs2)
    | true =>
      rw [hset] at H2
      have hm0 : ((m : Int) == 0) = true := by
        unfold setBB at hb
        rw [hn, hset, Bool.true_and] at hb
        have : s.length = 0 := by simpa using hb
        rw [beq_iff_eq]; omega
      have HS := Lib.hid H2
      clear hr hc hb hsr hset H2 hA hO
      go_enter Try.func70, Try.ntmps70
      go_wp2_with fail
      refine HS.out.mono ?_
      rintro e w2 ⟨rfl, hs2⟩
      go_wp2_with fail
      go_ret2
      exact GotRowsB.mk' _ 0 [] rfl rfl (HO.out.still hs2) (below_still HA.out hs2)
end Go.Proofs.Ytmfncbibajoeoaa
