/- Letters at some places of a word: contract of the reference; plain law. -/
import Derived.Test.YtmfncbibajoeoaaG34
import Derived.BigQuiet
namespace Go.Proofs.Ytmfncbibajoeoaa
set_option maxRecDepth 100000
open Go.RowKit Game

def takeAt (n : Nat) (ps : List Int) (k : Nat) : Prop := 0 ≤ ps.getD k 0 ∧ ps.getD k 0 < (n : Int) ∧ (0 < k → ps.getD (k - 1) 0 < ps.getD k 0)
instance (n : Nat) (ps : List Int) (k : Nat) : Decidable (takeAt n ps k) := by unfold takeAt; infer_instance
def takeB (n : Nat) (ps : List Int) : Bool := (List.range ps.length).all fun k => decide (takeAt n ps k)
def takeR (v ps : List Int) : List Int := if takeB v.length ps = true then ps.map fun p => v.getD p.toNat 0 else []
def takeTo (v ps : List Int) (t : Nat) : List Int := (ps.take t).map fun p => v.getD p.toNat 0
def takeL (v ps : List Int) : List Int := ps.map fun p => v.getD p.toNat 0
theorem takeB_yes {n : Nat} {ps : List Int} (h : ∀ k, k < ps.length → takeAt n ps k) : takeB n ps = true := List.all_eq_true.2 fun k hk => decide_eq_true (h k (List.mem_range.1 hk))
theorem takeB_no {n : Nat} {ps : List Int} {k : Nat} (hk : k < ps.length) (h : ¬ takeAt n ps k) : takeB n ps = false := by
  rw [← Bool.not_eq_true]
  intro ht
  exact h (of_decide_eq_true (List.all_eq_true.1 ht k (List.mem_range.2 hk)))
theorem takeB_at {n : Nat} {ps : List Int} (h : takeB n ps = true) {k : Nat} (hk : k < ps.length) : takeAt n ps k := of_decide_eq_true (List.all_eq_true.1 h k (List.mem_range.2 hk))
theorem take_ge {n : Nat} {ps : List Int} {m : Nat} (h : ∀ k, k < m → takeAt n ps k) : ∀ k, k < m → (k : Int) ≤ ps.getD k 0
  | 0, hk => (h 0 hk).1
  | k + 1, hk => by
    have h1 := take_ge h k (by omega)
    have h2 := (h (k + 1) hk).2.2 (by omega)
    rw [Nat.add_sub_cancel] at h2
    omega
theorem take_few {n : Nat} {ps : List Int} {m : Nat} (h : ∀ k, k < m → takeAt n ps k) : m ≤ n := by
  cases m with
  | zero => omega
  | succ m =>
    have h1 := take_ge h m (by omega)
    have h2 := (h m (by omega)).2.1
    omega
theorem takeTo_succ {v ps : List Int} {t : Nat} (ht : t < ps.length) : takeTo v ps (t + 1) = takeTo v ps t ++ [v.getD (ps.getD t 0).toNat 0] := by
  unfold takeTo
  rw [List.take_succ_eq_append_getElem ht, List.map_append]
  simp [List.getD, ht]
theorem takeTo_length {v ps : List Int} {t : Nat} (ht : t ≤ ps.length) : (takeTo v ps t).length = t := by simp [takeTo]; omega
theorem takeTo_all (v ps : List Int) : takeTo v ps ps.length = takeL v ps := by simp [takeTo, takeL]
theorem takeL_lets {c : List (List Int)} {m : Nat} {v ps : List Int} (hv : Lets c m v) (h : takeB v.length ps = true) : Lets c m (takeL v ps) := by
  refine lets_of hv.isC ?_ fun x hx => ?_
  · have := take_few (n := v.length) (ps := ps) (m := ps.length) (fun k hk => takeB_at h hk)
    have := hv.few
    simp [takeL]; omega
  · obtain ⟨p, hp, rfl⟩ := List.mem_map.1 hx
    obtain ⟨k, hk, rfl⟩ := List.mem_iff_getElem.1 hp
    have h1 := takeB_at h hk
    have e : ps.getD k 0 = ps[k] := by simp [List.getD, hk]
    unfold takeAt at h1
    rw [e] at h1
    exact hv.inr ps[k].toNat (by omega)

set_option maxRecDepth 100000 in
set_option maxHeartbeats 2000000 in
theorem spec_l34Take_any (g o n cp g2 o2 n2 c2 : Nat) (v ps : List Int) (w : World) (hn : v.length = n) (hn2 : ps.length = n2) (hl : v.length ≤ 1048576) (hl2 : ps.length ≤ 1048576) (hv : Cells w g o v) (hp : Cells w g2 o2 ps) (hg : g < w.heap.size) (hg2 : g2 < w.heap.size) :
    Calls Try.prog 66 #[(Value.slice (some ⟨g, o, none⟩) n cp), (Value.slice (some ⟨g2, o2, none⟩) n2 c2)] w (GotIntsB w (takeR v ps) (takeB v.length ps)) := by
  subst hn; subst hn2
  have E1 := Lib.hid (IntWalk.i64_in ((v.length : Int) - 1) (by omega))
  go_enter Try.func66, Try.ntmps66
  go_wp2
  go_loopw [6, 7] (fun xv kv wr => ∃ (k g3 c3 : Nat), k ≤ ps.length ∧ kv = .int .i64 k ∧ xv = (Value.slice (some ⟨g3, 0, none⟩) k c3) ∧ Hid (∀ j, j < k → takeAt v.length ps j) ∧ Own wr w.heap.size g3 c3 (takeTo v ps k) ∧ Below w.heap.size w wr) (fun _ kv _ => ps.length - (intOf kv).toNat)
  case atStart => exact ⟨0, _, 0, Nat.zero_le _, rfl, rfl, fun j h => absurd h (by omega), Own.empty (Nat.le_refl _), (Below.refl _ _).alloc (Nat.le_refl _) _⟩
  case round =>
    obtain ⟨k, g3, c3, hk, rfl, rfl, hok, ho, hb⟩ := hrel
    by_cases hlt : k < ps.length
    · have p1 := (hp.below hb hg2) k hlt
      have bA : (0 : Int) ≤ (k : Int) := by omega
      have bB : (k : Int) < (ps.length : Int) := by omega
      have hL0 := fun W => spec_l1In (ps.getD k 0) 0 ((v.length : Int) - 1) W
      have hno : ¬ takeAt v.length ps k → takeB v.length ps = false := takeB_no hlt
      have hyes : takeAt v.length ps k → ∀ j, j < k + 1 → takeAt v.length ps j := fun h j hj => by
        by_cases e : j = k
        · subst e; exact h
        · exact hok.out j (by omega)
      have hdef : takeAt v.length ps k ↔ 0 ≤ ps.getD k 0 ∧ ps.getD k 0 < (v.length : Int) ∧ (0 < k → ps.getD (k - 1) 0 < ps.getD k 0) := Iff.rfl
      have hsucc := takeTo_succ (v := v) hlt
      have hprev : 0 < k → wr.cell? ⟨g2, o2 + (k - 1), none⟩ = some (.int .i64 (ps.getD (k - 1) 0)) := fun h => (hp.below hb hg2) (k - 1) (by omega)
      generalize ps.getD k 0 = p at *
      by_cases hin : 0 ≤ p ∧ p ≤ (v.length : Int) - 1
      case neg =>
        rw [show (decide ((0 : Int) ≤ p) && decide (p ≤ (v.length : Int) - 1)) = false by rw [← Bool.not_eq_true, Bool.and_eq_true, decide_eq_true_eq, decide_eq_true_eq]; exact hin] at hL0
        have hL := Lib.hid hL0; have Hno := Lib.hid (hno (fun h => hin ⟨(hdef.1 h).1, by have := (hdef.1 h).2.1; omega⟩))
        clear hL0 hno hyes hdef hsucc hprev hin
        have e1 := E1.out
        go_wp2
        go_quiet ((go_at_call 84; first | with_reducible exact Calls.quiet_of (hL.out _) | with_reducible exact Reads.quiet4 (hL.out _)))
        go_wp2_with fail
        go_ret2
        rw [show takeR v ps = [] from if_neg (by rw [Hno.out]; decide), Hno.out]
        exact ⟨_, 0, rfl, Own.empty (by have := hb.size; exact this), (below_drewN hb _).alloc (by have := hb.size; exact this) _⟩
      rw [show (decide ((0 : Int) ≤ p) && decide (p ≤ (v.length : Int) - 1)) = true by rw [Bool.and_eq_true, decide_eq_true_eq, decide_eq_true_eq]; exact hin] at hL0
      have hL := Lib.hid hL0
      clear hL0
      obtain ⟨pn, rfl⟩ : ∃ t : Nat, p = t := ⟨p.toNat, by omega⟩
      rw [Int.toNat_natCast] at hsucc
      have hpn : pn < v.length := by omega
      have v1 := (hv.below hb hg) pn hpn
      have hlen := takeTo_length (v := v) (Nat.le_of_lt hlt)
      have Hsucc := Lib.hid hsucc; have Hlen := Lib.hid hlen
      clear hsucc hlen
      generalize v.getD pn 0 = x at *
      by_cases hk0 : k = 0
      · have d0 : decide (0 < k) = false := decide_eq_false (by omega)
        have Hyes := Lib.hid (hyes (hdef.2 ⟨by omega, by omega, fun h => absurd h (by omega)⟩))
        clear hno hyes hdef hprev hin hk0
        have e1 := E1.out
        go_wp2
        go_quiet ((go_at_call 84; first | with_reducible exact Calls.quiet_of (hL.out _) | with_reducible exact Reads.quiet4 (hL.out _)))
        have hbq : ∀ q, Below w.heap.size w (wr.drewN q) := fun q => below_drewN hb q
        go_wp2_with (at_builtin; refine wpList_append_int_n rfl _ _ rfl w.heap.size g3 c3 k (takeTo v ps k) x Hlen.out (ho.drewN _) rfl rfl (by omega) ?_)
        intro g5 c5 w5 ho5 hg5 _
        rw [← Hsucc.out] at ho5
        have hb5 := (hbq _).grown hg5 hb.size (by intro j hj; cases hj; exact ho.base)
        clear hg5 hbq
        go_wp2_with fail
        go_roundw
        case rel => exact ⟨k + 1, g5, c5, by omega, by go_num, rfl, Hyes.out, ho5, hb5⟩
        case measure => simp [intOf]; omega
      · have d0 : decide (0 < k) = true := decide_eq_true (by omega)
        have hpv := hprev (by omega)
        have hk1 : 1 ≤ k := by omega
        have e3 := IntWalk.i64_in ((k : Int) - 1) (by omega)
        have hkt : ((k : Int) - 1).toNat = k - 1 := by omega
        have b1 : (0 : Int) ≤ (k : Int) - 1 := by omega
        have b2 : (k : Int) - 1 < (ps.length : Int) := by omega
        generalize ps.getD (k - 1) 0 = z at *
        by_cases hz : z < (pn : Int)
        · have d1 : decide ((pn : Int) ≤ z) = false := decide_eq_false (by omega)
          have Hyes := Lib.hid (hyes (hdef.2 ⟨by omega, by omega, fun _ => hz⟩))
          clear hno hyes hdef hprev hin
          have e1 := E1.out
          go_wp2
          go_quiet ((go_at_call 84; first | with_reducible exact Calls.quiet_of (hL.out _) | with_reducible exact Reads.quiet4 (hL.out _)))
          have hbq : ∀ q, Below w.heap.size w (wr.drewN q) := fun q => below_drewN hb q
          go_wp2_with (at_builtin; refine wpList_append_int_n rfl _ _ rfl w.heap.size g3 c3 k (takeTo v ps k) x Hlen.out (ho.drewN _) rfl rfl (by omega) ?_)
          intro g5 c5 w5 ho5 hg5 _
          rw [← Hsucc.out] at ho5
          have hb5 := (hbq _).grown hg5 hb.size (by intro j hj; cases hj; exact ho.base)
          clear hg5 hbq
          go_wp2_with fail
          go_roundw
          case rel => exact ⟨k + 1, g5, c5, by omega, by go_num, rfl, Hyes.out, ho5, hb5⟩
          case measure => simp [intOf]; omega
        · have d1 : decide ((pn : Int) ≤ z) = true := decide_eq_true (by omega)
          have Hno := Lib.hid (hno (fun h => hz ((hdef.1 h).2.2 (by omega))))
          clear hno hyes hdef hprev hin
          have e1 := E1.out
          go_wp2
          go_quiet ((go_at_call 84; first | with_reducible exact Calls.quiet_of (hL.out _) | with_reducible exact Reads.quiet4 (hL.out _)))
          go_wp2_with fail
          go_ret2
          rw [show takeR v ps = [] from if_neg (by rw [Hno.out]; decide), Hno.out]
          exact ⟨_, 0, rfl, Own.empty (by have := hb.size; exact this), (below_drewN hb _).alloc (by have := hb.size; exact this) _⟩
    · obtain rfl : k = ps.length := by omega
      have hB := takeB_yes hok.out
      have hres : takeR v ps = takeTo v ps ps.length := by rw [takeTo_all]; exact if_pos hB
      have Hres := Lib.hid hres; have HB := Lib.hid hB
      have hlen := Lib.hid (takeTo_length (v := v) (ps := ps) (Nat.le_refl _))
      clear hB hres hok
      go_wp2
      go_ret2
      rw [Hres.out, HB.out]
      exact GotIntsB.mk' g3 c3 hlen.out ho hb
end Go.Proofs.Ytmfncbibajoeoaa
