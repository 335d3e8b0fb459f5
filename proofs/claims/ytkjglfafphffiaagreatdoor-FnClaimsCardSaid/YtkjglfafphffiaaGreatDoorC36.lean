/- MkL Take -/
import Derived.Test.YtkjglfafphffiaaGreatDoorC35
import Derived.Test.YtkjglfafphffiaaGreatDoorC22
import Derived.BigQuiet
namespace Go.Proofs.YtkjglfafphffiaaGreatDoor
set_option maxRecDepth 100000
open Go.RowKit Game
theorem okM_true {kd : Int} {c : List (List Int)} {a b : List Int} (h : okM kd c a b = true) : (isWordB c a && isWordB c b) = true ∧ 1 ≤ kd ∧ kd ≤ 6 := by
  unfold okM at h
  rw [Bool.and_eq_true] at h
  refine ⟨h.1, ?_⟩
  have h2 := h.2
  unfold okC at h2
  repeat' split at h2
  all_goals first | omega | cases h2
theorem lmk_make {kd : Int} {c : List (List Int)} {a b : List Int} (h : okM kd c a b = true) : lmkC kd c a b = makeC kd c a b := by
  unfold lmkC makeC
  rw [if_pos (okM_true h), if_pos h]
set_option maxHeartbeats 1000000 in
theorem spec_MakeClaim_any (kd : Int) (gc oc n cc g1 o1 n1 c1 g2 o2 n2 c2 : Nat) (c : List (List Int)) (a b : List Int) (w : World) (hn : c.length = n) (hn1 : a.length = n1) (hn2 : b.length = n2)
    (hx : c.length ≤ 1048576) (hrl : ∀ j, j < c.length → (c.getD j []).length ≤ 1048576) (hla : a.length ≤ 1048576) (hlb : b.length ≤ 1048576) (hcap1 : n1 ≤ c1) (hcap2 : n2 ≤ c2) (hgc : gc < w.heap.size) (hg1 : g1 < w.heap.size) (hg2 : g2 < w.heap.size)
    (hr : Rows2 w gc oc c) (h1 : Cells w g1 o1 a) (h2 : Cells w g2 o2 b) :
    Calls Tryz.prog 7 #[.int .i64 kd, (Value.slice (some ⟨gc, oc, none⟩) n cc), (Value.slice (some ⟨g1, o1, none⟩) n1 c1), (Value.slice (some ⟨g2, o2, none⟩) n2 c2)] w (MadeC w (makeC kd c a b) (okM kd c a b)) := by
  have Z0 := Lib.hid (heap_alloc_new w (.cells #[.int .i64 0, .slice none 0 0, .slice none 0 0, .slice none 0 0, .slice none 0 0, .slice none 0 0] 29 (0, 0)))
  have hB0 : Below w.heap.size w (w.alloc (.cells #[.int .i64 0, .slice none 0 0, .slice none 0 0, .slice none 0 0, .slice none 0 0, .slice none 0 0] 29)) := (Below.refl _ _).alloc (Nat.le_refl _) _
  have kM := Lib.hid (fun (W : World) (hb : Below w.heap.size w W) => spec_l34Make_any kd gc oc n cc g1 o1 n1 c1 g2 o2 n2 c2 c a b W hn hn1 hn2 hx hrl hla hlb hcap1 hcap2 (Nat.lt_of_lt_of_le hgc hb.size) (Nat.lt_of_lt_of_le hg1 hb.size) (Nat.lt_of_lt_of_le hg2 hb.size) (hr.below hb hgc) (h1.below hb hg1) (h2.below hb hg2))
  clear hr h1 h2 hrl
  have hX : okM kd c a b = true → lmkC kd c a b = makeC kd c a b := lmk_make
  have hN : okM kd c a b = false → makeC kd c a b = zeroC := fun h => by unfold makeC; rw [h]; rfl
  generalize makeC kd c a b = X at *
  generalize lmkC kd c a b = L at *
  generalize okM kd c a b = O at *
  have HX := Lib.hid hX; have HN := Lib.hid hN
  clear hX hN
  go_enter Tryz.func7, Tryz.ntmps7
  go_wp2_with fail
  refine (kM.out _ hB0).mono ?_
  rintro e w1 ⟨v, rfl, hv, hb1, hnn⟩
  have HNN := Lib.hid hnn
  clear hnn
  obtain ⟨v1, v2, v3, v4, v5, E1, E2, E3, E4, rfl, hI, a1, a2, a3, a4, a5⟩ := hv
  obtain ⟨p1, c1', q1⟩ := a1.shape
  obtain ⟨p2, c2', q2⟩ := a2.shape
  obtain ⟨p3, c3', q3⟩ := a3.shape
  obtain ⟨p4, c4', q4⟩ := a4.shape
  obtain ⟨p5, c5', q5⟩ := a5.shape
  have hs0 : w.heap.size + 1 ≤ (w.alloc (.cells #[.int .i64 0, .slice none 0 0, .slice none 0 0, .slice none 0 0, .slice none 0 0, .slice none 0 0] 29)).heap.size := by simp
  have hB1 := hB0.trans (hb1.mono hB0.size)
  have Z1 := Lib.hid ((hb1.block _ (lt_of_block Z0.out)).trans Z0.out)
  generalize (w.alloc (.cells #[.int .i64 0, .slice none 0 0, .slice none 0 0, .slice none 0 0, .slice none 0 0, .slice none 0 0] 29)).heap.size = S at *
  clear hb1 Z0 hB0 kM
  generalize hK : L.kind = kd2 at *
  generalize hl1 : L.cartan.length = m1 at *
  generalize hl2 : L.a.length = m2 at *
  generalize hl3 : L.b.length = m3 at *
  generalize hl4 : L.proof.length = m4 at *
  generalize hl5 : L.roots.length = m5 at *
  subst q1 q2 q3 q4 q5
  have hL : HeldC w1 S w1.heap.size (.agg #[.int .i64 kd2, .slice p1 m1 c1', .slice p2 m2 c2', .slice p3 m3 c3', .slice p4 m4 c4', .slice p5 m5 c5']) L :=
    ⟨_, _, _, _, _, E1, E2, E3, E4, by rw [hK], hI, a1, a2, a3, a4, a5⟩
  have HL := Lib.hid hL; have HK := Lib.hid hK
  clear hL a1 a2 a3 a4 a5 hK hl1 hl2 hl3 hl4 hl5 hI
  have hb2 : Below w1.heap.size w1 (w1.alloc (.cells #[.int .i64 kd2, .slice p1 m1 c1', .slice p2 m2 c2', .slice p3 m3 c3', .slice p4 m4 c4', .slice p5 m5 c5'] 29)) := (Below.refl _ _).alloc (Nat.le_refl _) _
  have C2 := Lib.hid (heap_alloc_new w1 (.cells #[.int .i64 kd2, .slice p1 m1 c1', .slice p2 m2 c2', .slice p3 m3 c3', .slice p4 m4 c4', .slice p5 m5 c5'] 29 (0, 0)))
  have hB2 := hB1.trans (hb2.mono hB1.size)
  have Z2 := Lib.hid ((hb2.block _ (lt_of_block Z1.out)).trans Z1.out)
  have HL2 := Lib.hid (HL.out.below hb2 (Nat.le_refl _))
  have cc : ∀ j, (w1.alloc (.cells #[.int .i64 kd2, .slice p1 m1 c1', .slice p2 m2 c2', .slice p3 m3 c3', .slice p4 m4 c4', .slice p5 m5 c5'] 29)).cell? ⟨w1.heap.size, j, none⟩ = (#[.int .i64 kd2, .slice p1 m1 c1', .slice p2 m2 c2', .slice p3 m3 c3', .slice p4 m4 c4', .slice p5 m5 c5'] : Array Value)[j]? := fun j => cell_of_cells C2.out j
  have dd : ∀ j, (w1.alloc (.cells #[.int .i64 kd2, .slice p1 m1 c1', .slice p2 m2 c2', .slice p3 m3 c3', .slice p4 m4 c4', .slice p5 m5 c5'] 29)).cell? ⟨w.heap.size, j, none⟩ = (#[.int .i64 0, .slice none 0 0, .slice none 0 0, .slice none 0 0, .slice none 0 0, .slice none 0 0] : Array Value)[j]? := fun j => cell_of_cells Z2.out j
  have fd : ∀ j, (w1.alloc (.cells #[.int .i64 kd2, .slice p1 m1 c1', .slice p2 m2 c2', .slice p3 m3 c3', .slice p4 m4 c4', .slice p5 m5 c5'] 29)).frozen? ⟨w.heap.size, j, none⟩ = false := fun j => free_of_cells Z2.out j
  have hsz := hb2.size
  clear hb2 hB1 Z1 HL
  cases O with
  | false =>
    have e1 : X = zeroC := HN.out rfl
    go_wp2_with fail
    refine bodyPost_ret (v := .tuple #[zeroV, .bool false]) (by simp [results, Tryz.results7, go_sem, dd, zeroV]) rfl ?_
    clear cc dd fd
    rw [e1]
    refine MadeC.zero (Below.only hB2 (only_six _ w.heap.size _ _ _ _ _ _) (Nat.le_refl _) (Nat.le_refl _))
  | true =>
    have e1 : L = X := HX.out rfl
    have E1 := Lib.hid e1
    clear e1
    go_wp2_with fail
    refine bodyPost_ret (v := .tuple #[.agg #[.int .i64 kd2, .slice p1 m1 c1', .slice p2 m2 c2', .slice p3 m3 c3', .slice p4 m4 c4', .slice p5 m5 c5'], .bool true]) (by simp [results, Tryz.results7, go_sem, dd]) rfl ?_
    clear cc dd fd
    rw [← E1.out]
    have hO := only_six (w1.alloc (.cells #[.int .i64 kd2, .slice p1 m1 c1', .slice p2 m2 c2', .slice p3 m3 c3', .slice p4 m4 c4', .slice p5 m5 c5'] 29)) w.heap.size (.int .i64 kd2) (.slice p1 m1 c1') (.slice p2 m2 c2') (.slice p3 m3 c3') (.slice p4 m4 c4') (.slice p5 m5 c5')
    have hH := HL2.out.only hO (.inr hs0)
    refine ⟨_, rfl, ?_, Below.only hB2 hO (Nat.le_refl _) (Nat.le_refl _), by rw [HK.out]; exact HNN.out⟩
    obtain ⟨u1, u2, u3, u4, u5, E1, E2, E3, E4, e, hI, b1, b2, b3, b4, b5⟩ := hH
    exact ⟨u1, u2, u3, u4, u5, E1, E2, E3, E4, e, by have := hO.size; omega, b1.wide (by omega) (Nat.le_refl _), b2, b3, b4, b5.wide (Nat.le_refl _) (by have := hO.size; omega)⟩
theorem rowsFew_ofC {rows : List (List Int)} (h1 : rows.length ≤ 200) (h2 : ∀ x ∈ rows, x.length ≤ 15) : rowsFew rows := by
  have h3 : ∀ j, j < rows.length → (rows.getD j []).length ≤ 15 := fun j hj => h2 _ (by simp [List.getD, hj])
  refine ⟨by omega, fun j hj => by have := h3 j hj; omega, ?_⟩
  have : ∀ k, k ≤ rows.length → sumLen rows k ≤ 15 * k := by
    intro k
    induction k with
    | zero => intro _; simp [sumLen]
    | succ k ih =>
      intro hk
      rw [sumLen_succ _ _ (by omega)]
      have := h3 k (by omega)
      have := ih (by omega)
      omega
  have := this rows.length (Nat.le_refl _)
  omega
theorem make_small {kd : Int} {c : List (List Int)} {a b : List Int} (hc : rowsFew c) (ha : a.length ≤ 1048576) (hb : b.length ≤ 1048576) : ClSmall (makeC kd c a b) := by
  have hz : rowsFew ([] : List (List Int)) := rowsFew_ofC (by simp) (by simp)
  unfold makeC
  split
  · rename_i hok
    have hw := (okM_true hok).1
    rw [Bool.and_eq_true] at hw
    have hA := wordOk_of hw.1
    have hB := wordOk_of hw.2
    have hn4 := hA.isC.2.1
    refine ⟨hc, ha, hb, ?_, ?_⟩
    · show (proofC kd c a b).length ≤ 1048576
      unfold proofC
      split
      · cases hp : pathA c a b with
        | none => simp
        | some p => have := (pathA_len hA hp).1; simp; omega
      · split
        · split
          · have h1 := subP_len (c := c) (nfI c b) 0 (nfI c a)
            have h2 := (nw_nf hB).lets.few
            show (subP c (nfI c b) 0 (nfI c a)).length ≤ _
            omega
          · simp
        · split
          · have h1 := dropL_len (c := c) (nfI c b) (nfI c a)
            have h2 := (nw_nf hB).lets.few
            omega
          · split
            · have := witness_len c; omega
            · simp
    · show rowsFew (rootsC kd c a)
      unfold rootsC
      split
      · rw [show seqA c a = seqL c a from if_pos hA.isWord]
        have hl := hA.few
        refine rowsFew_ofC (by simp [seqL]; omega) fun x hx => ?_
        unfold seqL at hx
        obtain ⟨k, -, rfl⟩ := List.mem_map.1 hx
        rw [actR_length, simpL_length]; omega
      · exact hz
  · exact ⟨hz, by simp [zeroC], by simp [zeroC], by simp [zeroC], hz⟩
end Go.Proofs.YtkjglfafphffiaaGreatDoor
namespace Go.Proofs.YtkjglfafphffiaaGreatDoor
set_option maxRecDepth 100000
open Go.RowKit Game
def takeAt (n : Nat) (ps : List Int) (k : Nat) : Prop := 0 ≤ ps.getD k 0 ∧ ps.getD k 0 < (n : Int) ∧ (0 < k → ps.getD (k - 1) 0 < ps.getD k 0)
instance (n : Nat) (ps : List Int) (k : Nat) : Decidable (takeAt n ps k) := by unfold takeAt; infer_instance
def takeB (n : Nat) (ps : List Int) : Bool := (List.range ps.length).all fun k => decide (takeAt n ps k)
def takeR (v ps : List Int) : List Int := if takeB v.length ps = true then ps.map fun p => v.getD p.toNat 0 else []
def takeTo (v ps : List Int) (t : Nat) : List Int := (ps.take t).map fun p => v.getD p.toNat 0
def takeL (v ps : List Int) : List Int := ps.map fun p => v.getD p.toNat 0
theorem takeB_yes {n : Nat} {ps : List Int} (h : ∀ k, k < ps.length → takeAt n ps k) : takeB n ps = true := List.all_eq_true.2 fun k hk => decide_eq_true (h k (List.mem_range.1 hk))
theorem takeB_no {n : Nat} {ps : List Int} {k : Nat} (hk : k < ps.length) (h : ¬ takeAt n ps k) : takeB n ps = false := by
  rw [← Bool.not_eq_true]
  intro ht
  exact h (of_decide_eq_true (List.all_eq_true.1 ht k (List.mem_range.2 hk)))
theorem takeB_at {n : Nat} {ps : List Int} (h : takeB n ps = true) {k : Nat} (hk : k < ps.length) : takeAt n ps k := of_decide_eq_true (List.all_eq_true.1 h k (List.mem_range.2 hk))
theorem take_ge {n : Nat} {ps : List Int} {m : Nat} (h : ∀ k, k < m → takeAt n ps k) : ∀ k, k < m → (k : Int) ≤ ps.getD k 0
  | 0, hk => (h 0 hk).1
  | k + 1, hk => by
    have h1 := take_ge h k (by omega)
    have h2 := (h (k + 1) hk).2.2 (by omega)
    rw [Nat.add_sub_cancel] at h2
    omega
theorem take_few {n : Nat} {ps : List Int} {m : Nat} (h : ∀ k, k < m → takeAt n ps k) : m ≤ n := by
  cases m with
  | zero => omega
  | succ m =>
    have h1 := take_ge h m (by omega)
    have h2 := (h m (by omega)).2.1
    omega
theorem takeTo_succ {v ps : List Int} {t : Nat} (ht : t < ps.length) : takeTo v ps (t + 1) = takeTo v ps t ++ [v.getD (ps.getD t 0).toNat 0] := by
  unfold takeTo
  rw [List.take_succ_eq_append_getElem ht, List.map_append]
  simp [List.getD, ht]
theorem takeTo_length {v ps : List Int} {t : Nat} (ht : t ≤ ps.length) : (takeTo v ps t).length = t := by simp [takeTo]; omega
theorem takeTo_all (v ps : List Int) : takeTo v ps ps.length = takeL v ps := by simp [takeTo, takeL]
theorem takeL_lets {c : List (List Int)} {m : Nat} {v ps : List Int} (hv : Lets c m v) (h : takeB v.length ps = true) : Lets c m (takeL v ps) := by
  refine lets_of hv.isC ?_ fun x hx => ?_
  · have := take_few (n := v.length) (ps := ps) (m := ps.length) (fun k hk => takeB_at h hk)
    have := hv.few
    simp [takeL]; omega
  · obtain ⟨p, hp, rfl⟩ := List.mem_map.1 hx
    obtain ⟨k, hk, rfl⟩ := List.mem_iff_getElem.1 hp
    have h1 := takeB_at h hk
    have e : ps.getD k 0 = ps[k] := by simp [List.getD, hk]
    unfold takeAt at h1
    rw [e] at h1
    exact hv.inr ps[k].toNat (by omega)
set_option maxRecDepth 100000 in
set_option maxHeartbeats 2000000 in
theorem spec_l34Take_any (g o n cp g2 o2 n2 c2 : Nat) (v ps : List Int) (w : World) (hn : v.length = n) (hn2 : ps.length = n2) (hl : v.length ≤ 1048576) (hl2 : ps.length ≤ 1048576) (hv : Cells w g o v) (hp : Cells w g2 o2 ps) (hg : g < w.heap.size) (hg2 : g2 < w.heap.size) :
    Calls Tryz.prog 52 #[(Value.slice (some ⟨g, o, none⟩) n cp), (Value.slice (some ⟨g2, o2, none⟩) n2 c2)] w (GotIntsB w (takeR v ps) (takeB v.length ps)) := by
  subst hn; subst hn2
  have E1 := Lib.hid (IntWalk.i64_in ((v.length : Int) - 1) (by omega))
  go_enter Tryz.func52, Tryz.ntmps52
  go_wp2
  go_loopw [6, 7] (fun xv kv wr => ∃ (k g3 c3 : Nat), k ≤ ps.length ∧ kv = .int .i64 k ∧ xv = (Value.slice (some ⟨g3, 0, none⟩) k c3) ∧ Hid (∀ j, j < k → takeAt v.length ps j) ∧ Own wr w.heap.size g3 c3 (takeTo v ps k) ∧ Below w.heap.size w wr) (fun _ kv _ => ps.length - (intOf kv).toNat)
  case atStart => exact ⟨0, _, 0, Nat.zero_le _, rfl, rfl, fun j h => absurd h (by omega), Own.empty (Nat.le_refl _), (Below.refl _ _).alloc (Nat.le_refl _) _⟩
  case round =>
    obtain ⟨k, g3, c3, hk, rfl, rfl, hok, ho, hb⟩ := hrel
    by_cases hlt : k < ps.length
    · have p1 := (hp.below hb hg2) k hlt
      have bA : (0 : Int) ≤ (k : Int) := by omega
      have bB : (k : Int) < (ps.length : Int) := by omega
      have hL0 := fun W => spec_l1In (ps.getD k 0) 0 ((v.length : Int) - 1) W
      have hno : ¬ takeAt v.length ps k → takeB v.length ps = false := takeB_no hlt
      have hyes : takeAt v.length ps k → ∀ j, j < k + 1 → takeAt v.length ps j := fun h j hj => by
        by_cases e : j = k
        · subst e; exact h
        · exact hok.out j (by omega)
      have hdef : takeAt v.length ps k ↔ 0 ≤ ps.getD k 0 ∧ ps.getD k 0 < (v.length : Int) ∧ (0 < k → ps.getD (k - 1) 0 < ps.getD k 0) := Iff.rfl
      have hsucc := takeTo_succ (v := v) hlt
      have hprev : 0 < k → wr.cell? ⟨g2, o2 + (k - 1), none⟩ = some (.int .i64 (ps.getD (k - 1) 0)) := fun h => (hp.below hb hg2) (k - 1) (by omega)
      generalize ps.getD k 0 = p at *
      by_cases hin : 0 ≤ p ∧ p ≤ (v.length : Int) - 1
      case neg =>
        rw [show (decide ((0 : Int) ≤ p) && decide (p ≤ (v.length : Int) - 1)) = false by rw [← Bool.not_eq_true, Bool.and_eq_true, decide_eq_true_eq, decide_eq_true_eq]; exact hin] at hL0
        have hL := Lib.hid hL0; have Hno := Lib.hid (hno (fun h => hin ⟨(hdef.1 h).1, by have := (hdef.1 h).2.1; omega⟩))
        clear hL0 hno hyes hdef hsucc hprev hin
        have e1 := E1.out
        go_wp2
        go_quiet ((go_at_call 78; first | with_reducible exact Calls.quiet_of (hL.out _) | with_reducible exact Reads.quiet4 (hL.out _)))
        go_wp2_with fail
        go_ret2
        rw [show takeR v ps = [] from if_neg (by rw [Hno.out]; decide), Hno.out]
        exact ⟨_, 0, rfl, Own.empty (by have := hb.size; exact this), (below_drewN hb _).alloc (by have := hb.size; exact this) _⟩
      rw [show (decide ((0 : Int) ≤ p) && decide (p ≤ (v.length : Int) - 1)) = true by rw [Bool.and_eq_true, decide_eq_true_eq, decide_eq_true_eq]; exact hin] at hL0
      have hL := Lib.hid hL0
      clear hL0
      obtain ⟨pn, rfl⟩ : ∃ t : Nat, p = t := ⟨p.toNat, by omega⟩
      rw [Int.toNat_natCast] at hsucc
      have hpn : pn < v.length := by omega
      have v1 := (hv.below hb hg) pn hpn
      have hlen := takeTo_length (v := v) (Nat.le_of_lt hlt)
      have Hsucc := Lib.hid hsucc; have Hlen := Lib.hid hlen
      clear hsucc hlen
      generalize v.getD pn 0 = x at *
      by_cases hk0 : k = 0
      · have d0 : decide (0 < k) = false := decide_eq_false (by omega)
        have Hyes := Lib.hid (hyes (hdef.2 ⟨by omega, by omega, fun h => absurd h (by omega)⟩))
        clear hno hyes hdef hprev hin hk0
        have e1 := E1.out
        go_wp2
        go_quiet ((go_at_call 78; first | with_reducible exact Calls.quiet_of (hL.out _) | with_reducible exact Reads.quiet4 (hL.out _)))
        have hbq : ∀ q, Below w.heap.size w (wr.drewN q) := fun q => below_drewN hb q
        go_wp2_with (at_builtin; refine wpList_append_int_n rfl _ _ rfl w.heap.size g3 c3 k (takeTo v ps k) x Hlen.out (ho.drewN _) rfl rfl (by omega) ?_)
        intro g5 c5 w5 ho5 hg5 _
        rw [← Hsucc.out] at ho5
        have hb5 := (hbq _).grown hg5 hb.size (by intro j hj; cases hj; exact ho.base)
        clear hg5 hbq
        go_wp2_with fail
        go_roundw
        case rel => exact ⟨k + 1, g5, c5, by omega, by go_num, rfl, Hyes.out, ho5, hb5⟩
        case measure => simp [intOf]; omega
      · have d0 : decide (0 < k) = true := decide_eq_true (by omega)
        have hpv := hprev (by omega)
        have hk1 : 1 ≤ k := by omega
        have e3 := IntWalk.i64_in ((k : Int) - 1) (by omega)
        have hkt : ((k : Int) - 1).toNat = k - 1 := by omega
        have b1 : (0 : Int) ≤ (k : Int) - 1 := by omega
        have b2 : (k : Int) - 1 < (ps.length : Int) := by omega
        generalize ps.getD (k - 1) 0 = z at *
        by_cases hz : z < (pn : Int)
        · have d1 : decide ((pn : Int) ≤ z) = false := decide_eq_false (by omega)
          have Hyes := Lib.hid (hyes (hdef.2 ⟨by omega, by omega, fun _ => hz⟩))
          clear hno hyes hdef hprev hin
          have e1 := E1.out
          go_wp2
          go_quiet ((go_at_call 78; first | with_reducible exact Calls.quiet_of (hL.out _) | with_reducible exact Reads.quiet4 (hL.out _)))
          have hbq : ∀ q, Below w.heap.size w (wr.drewN q) := fun q => below_drewN hb q
          go_wp2_with (at_builtin; refine wpList_append_int_n rfl _ _ rfl w.heap.size g3 c3 k (takeTo v ps k) x Hlen.out (ho.drewN _) rfl rfl (by omega) ?_)
          intro g5 c5 w5 ho5 hg5 _
          rw [← Hsucc.out] at ho5
          have hb5 := (hbq _).grown hg5 hb.size (by intro j hj; cases hj; exact ho.base)
          clear hg5 hbq
          go_wp2_with fail
          go_roundw
          case rel => exact ⟨k + 1, g5, c5, by omega, by go_num, rfl, Hyes.out, ho5, hb5⟩
          case measure => simp [intOf]; omega
        · have d1 : decide ((pn : Int) ≤ z) = true := decide_eq_true (by omega)
          have Hno := Lib.hid (hno (fun h => hz ((hdef.1 h).2.2 (by omega))))
          clear hno hyes hdef hprev hin
          have e1 := E1.out
          go_wp2
          go_quiet ((go_at_call 78; first | with_reducible exact Calls.quiet_of (hL.out _) | with_reducible exact Reads.quiet4 (hL.out _)))
          go_wp2_with fail
          go_ret2
          rw [show takeR v ps = [] from if_neg (by rw [Hno.out]; decide), Hno.out]
          exact ⟨_, 0, rfl, Own.empty (by have := hb.size; exact this), (below_drewN hb _).alloc (by have := hb.size; exact this) _⟩
    · obtain rfl : k = ps.length := by omega
      have hB := takeB_yes hok.out
      have hres : takeR v ps = takeTo v ps ps.length := by rw [takeTo_all]; exact if_pos hB
      have Hres := Lib.hid hres; have HB := Lib.hid hB
      have hlen := Lib.hid (takeTo_length (v := v) (ps := ps) (Nat.le_refl _))
      clear hB hres hok
      go_wp2
      go_ret2
      rw [Hres.out, HB.out]
      exact GotIntsB.mk' g3 c3 hlen.out ho hb
end Go.Proofs.YtkjglfafphffiaaGreatDoor
