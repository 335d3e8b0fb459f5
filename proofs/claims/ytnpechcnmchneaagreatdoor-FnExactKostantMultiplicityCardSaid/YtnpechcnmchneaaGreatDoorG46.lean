/- PartitionCount of both: contracts. Kostant's sum over the elements of a small group, as a function of lists. Plain law. -/
import Derived.Test.YtnpechcnmchneaaGreatDoorG45
import Derived.Test.YtnpechcnmchneaaGreatDoorG31
namespace Go.Proofs.YtnpechcnmchneaaGreatDoor
set_option maxRecDepth 100000
open Go.RowKit Game

theorem simp_pos : ∀ n, n < 5 → ∀ k, k < n → posB (simpL n k) = true := by decide +kernel
theorem posL_pos {c : List (List Int)} (hC : IsC c) (hP : PosOk c) : ∀ x ∈ posL c, posB x = true := by
  have hS : Closed c ((posL c).filter fun x => posB x) := by
    refine ⟨fun i hi => ?_, fun r hr i hi h1 h2 => ?_⟩
    · rw [List.mem_filter]
      exact ⟨hP.closed.simp i hi, simp_pos c.length (by have := hC.2.1; omega) i hi⟩
    · rw [List.mem_filter] at hr ⊢
      exact ⟨hP.closed.step r hr.1 i hi h1 h2, h1⟩
  have h := hS.upGo 25 0 (upStart c.length c.length) (fun x hx => by
    obtain ⟨j, hj, rfl⟩ := (upStart_mem _).1 hx
    exact hS.simp j hj)
  intro x hx
  have := h x hx
  rw [List.mem_filter] at this
  exact this.2
theorem rts_of {c : List (List Int)} (hC : IsC c) (hP : PosOk c) (h9 : (posL c).length ≤ 9) : RtsOk c.length (posL c) :=
  ⟨hC.2.1, h9, fun p hp => by
    have hl := posL_rl c p hp
    refine ⟨⟨hl, fun j hj => hP.small p hp _ (by simp [List.getD, show j < p.length by omega])⟩, ?_⟩
    have h := posL_pos hC hP p hp
    unfold posB at h
    rw [Bool.and_eq_true, List.any_eq_true] at h
    obtain ⟨⟨x, hx, h1⟩, -⟩ := h
    obtain ⟨j, hj, rfl⟩ := List.mem_iff_getElem.1 hx
    refine ⟨j, by rw [← hl]; exact hj, ?_⟩
    simp [List.getD, hj] at h1 ⊢
    omega⟩
def pcRoots (c : List (List Int)) : Prop := finB c = true ∧ (posL c).length ≤ 9
instance (c : List (List Int)) : Decidable (pcRoots c) := by unfold pcRoots; infer_instance
def pcOk (c : List (List Int)) (r : List Int) : Prop := pcRoots c ∧ r.length = c.length ∧ ∀ j, j < r.length → -1000 ≤ r.getD j 0 ∧ r.getD j 0 ≤ 12
instance (c : List (List Int)) (r : List Int) : Decidable (pcOk c r) := by unfold pcOk; infer_instance
def pcI (c : List (List Int)) (r : List Int) : Int := if pcOk c r then (if negB r = true then 0 else ways (posL c) r) else 0
def pcV (c : List (List Int)) (r : List Int) : Value := .tuple #[.int .i64 (pcI c r), .bool (decide (pcOk c r))]
theorem pcV_eq (c : List (List Int)) (r : List Int) : pcV c r = .tuple #[.int .i64 (pcI c r), .bool (decide (pcOk c r))] := rfl
theorem pcV_no {c : List (List Int)} {r : List Int} (h : ¬ pcOk c r) : pcV c r = .tuple #[.int .i64 0, .bool false] := by
  unfold pcV pcI; rw [if_neg h, decide_eq_false h]
theorem pcV_neg {c : List (List Int)} {r : List Int} (h : pcOk c r) (h2 : negB r = true) : pcV c r = .tuple #[.int .i64 0, .bool true] := by
  unfold pcV pcI; rw [if_pos h, if_pos h2, decide_eq_true h]
theorem pcV_yes {c : List (List Int)} {r : List Int} (h : pcOk c r) (h2 : negB r = false) : pcV c r = .tuple #[.int .i64 (ways (posL c) r), .bool true] := by
  unfold pcV pcI; rw [if_pos h, if_neg (by rw [h2]; decide), decide_eq_true h]
theorem sm12_of {c : List (List Int)} {r : List Int} (h : pcOk c r) (h2 : negB r = false) : Sm12 c.length r :=
  ⟨h.2.1, fun j hj => ⟨nonneg_of h2 j (by rw [h.2.1]; exact hj), (h.2.2 j (by rw [h.2.1]; exact hj)).2⟩⟩

set_option maxHeartbeats 1000000 in
theorem impl_fewRoots_any (gc oc n cc : Nat) (c : List (List Int)) (w : World) (hn : c.length = n) (hl : c.length ≤ 1048576) (hrl : ∀ j, j < c.length → (c.getD j []).length ≤ 1048576) (hgc : gc < w.heap.size) (hr : Rows2 w gc oc c) :
    Calls Tryz.prog 49 #[(Value.slice (some ⟨gc, oc, none⟩) n cc)] w (GotRowsB w (posA c) (decide (pcRoots c))) := by
  have hcall := impl_PositiveRoots_any gc oc n cc c w hn hl hrl hgc hr
  cases hf : finB c with
  | false =>
    have hz : decide (pcRoots c) = false := decide_eq_false (fun h => by rw [h.1] at hf; exact absurd hf (by decide))
    rw [hf] at hcall
    rw [hz]
    have Hcall := Lib.hid hcall
    clear hcall hr hrl hf hz
    generalize posA c = A at *
    go_enter Tryz.func49, Tryz.ntmps49
    go_wp2_with fail
    refine Hcall.out.mono ?_
    rintro e w1 ⟨g1, c1, rs1, rfl, hc1, ho1, hb1⟩
    have Hc1 := Lib.hid hc1; clear hc1
    go_wp2_with fail
    go_ret2
    exact ⟨g1, c1, rs1, rfl, Hc1.out, ho1, hb1⟩
  | true =>
    rw [hf, posA_fin hf] at hcall
    rw [posA_fin hf]
    have Hcall := Lib.hid hcall
    by_cases h9 : (posL c).length ≤ 9
    · have hz : decide (pcRoots c) = true := decide_eq_true ⟨hf, h9⟩
      have h9' : decide (((posL c).length : Int) ≤ 9) = true := decide_eq_true (by omega)
      rw [hz]
      clear hcall hr hrl hf hz h9
      generalize posL c = A at *
      go_enter Tryz.func49, Tryz.ntmps49
      go_wp2_with fail
      refine Hcall.out.mono ?_
      rintro e w1 ⟨g1, c1, rs1, rfl, hc1, ho1, hb1⟩
      have Hc1 := Lib.hid hc1; clear hc1
      go_wp2_with fail
      go_ret2
      exact ⟨g1, c1, rs1, rfl, Hc1.out, ho1, hb1⟩
    · have hz : decide (pcRoots c) = false := decide_eq_false (fun h => h9 h.2)
      have h9' : decide (((posL c).length : Int) ≤ 9) = false := decide_eq_false (by omega)
      rw [hz]
      clear hcall hr hrl hf hz h9
      generalize posL c = A at *
      go_enter Tryz.func49, Tryz.ntmps49
      go_wp2_with fail
      refine Hcall.out.mono ?_
      rintro e w1 ⟨g1, c1, rs1, rfl, hc1, ho1, hb1⟩
      have Hc1 := Lib.hid hc1; clear hc1
      go_wp2_with fail
      go_ret2
      exact ⟨g1, c1, rs1, rfl, Hc1.out, ho1, hb1⟩
theorem posA_of {c : List (List Int)} (h : pcRoots c) : posA c = posL c := posA_fin h.1

set_option maxHeartbeats 1000000 in
theorem impl_PartitionCount_any (gc oc n cc g o m cv : Nat) (c : List (List Int)) (v : List Int) (w : World) (hn : c.length = n) (hm : v.length = m) (hx : c.length ≤ 1048576) (hvx : v.length ≤ 1048576)
    (hrl : ∀ j, j < c.length → (c.getD j []).length ≤ 1048576) (hgc : gc < w.heap.size) (hg : g < w.heap.size) (hr : Rows2 w gc oc c) (hv : Cells w g o v) :
    Calls Tryz.prog 54 #[(Value.slice (some ⟨gc, oc, none⟩) n cc), (Value.slice (some ⟨g, o, none⟩) m cv)] w (Gives w (pcV c v)) := by
  subst hn; subst hm
  have hcall := impl_fewRoots_any gc oc _ cc c w rfl hx hrl hgc hr
  by_cases hR : pcRoots c
  · rw [decide_eq_true hR, posA_of hR] at hcall
    have Hcall := Lib.hid hcall
    by_cases hlen : v.length = c.length
    · have hlen' : ((v.length : Int) != (c.length : Int)) = false := by rw [hlen]; simp
      have hK := rts_of (finB_isC hR.1) (posOk_fin hR.1) hR.2
      have hn4 := hK.n4
      have HK := Lib.hid hK; have Hlen := Lib.hid hlen; have HR := Lib.hid hR
      have HL := Lib.hid (show pcOk c v → negB v = false → pcV c v = .tuple #[.int .i64 (ways ((posL c).drop 0) v), .bool true] from fun h1 h2 => pcV_yes h1 h2)
      generalize posL c = L at *
      clear hcall hlen hr hrl hK hR
      go_enter Tryz.func54, Tryz.ntmps54
      go_wp2_with fail
      refine Hcall.out.mono ?_
      rintro e w1 ⟨g1, c1, rs1, rfl, hc1, ho1, hb1⟩
      have Hc1 := Lib.hid hc1; clear hc1
      go_wp2_with fail
      go_loopw [26] (fun i wr => ∃ k : Nat, k ≤ v.length ∧ i = .int .i64 k ∧ Hid (∀ j, j < k → -1000 ≤ v.getD j 0 ∧ v.getD j 0 ≤ 12) ∧ ∃ m, wr = w1.drewN m) (fun i _ => v.length - (intOf i).toNat)
      case atStart => exact ⟨0, Nat.zero_le _, rfl, fun j hj => absurd hj (by omega), ⟨0, rfl⟩⟩
      case round =>
        obtain ⟨k, hk, rfl, hall, q, rfl⟩ := hrel
        by_cases hlt : k < v.length
        · have q1 := (hb1.cell (p := ⟨g, o + k, none⟩) hg).trans (hv k hlt)
          have HX : Hid (¬ (-1000 ≤ v.getD k 0 ∧ v.getD k 0 ≤ 12) → pcV c v = .tuple #[.int .i64 0, .bool false]) := fun h => pcV_no (fun h2 => h (h2.2.2 k hlt))
          have HY : Hid (-1000 ≤ v.getD k 0 ∧ v.getD k 0 ≤ 12 → ∀ j, j < k + 1 → -1000 ≤ v.getD j 0 ∧ v.getD j 0 ≤ 12) := fun h j hj => by
            by_cases e : j = k
            · subst e; exact h
            · exact hall.out j (by omega)
          generalize v.getD k 0 = x at *
          by_cases h1 : x < -1000
          · have hf := HX.out (by omega)
            have Hf := Lib.hid hf; clear hf
            go_wp2
            go_ret2
            exact ⟨congrArg Ending.returned Hf.out.symm, below_still hb1 (by first | exact ⟨_, rfl⟩ | exact ⟨0, rfl⟩ | exact still2 _ _ _ | exact still3 _ _ _ _)⟩
          · by_cases h2 : 12 < x
            · have hf := HX.out (by omega)
              have Hf := Lib.hid hf; clear hf
              go_wp2
              go_ret2
              exact ⟨congrArg Ending.returned Hf.out.symm, below_still hb1 (by first | exact ⟨_, rfl⟩ | exact ⟨0, rfl⟩ | exact still2 _ _ _ | exact still3 _ _ _ _)⟩
            · have hy := HY.out (by omega)
              have Hy := Lib.hid hy; clear hy
              go_wp2
              go_roundw
              case rel => exact ⟨k + 1, by omega, by go_num, Hy.out, (by first | exact ⟨_, rfl⟩ | exact ⟨0, rfl⟩ | exact still2 _ _ _ | exact still3 _ _ _ _)⟩
              case measure => simp [intOf]; omega
        · obtain rfl : k = v.length := by omega
          have hok : pcOk c v := ⟨HR.out, Hlen.out, hall.out⟩
          have hbq := below_still hb1 ⟨q, rfl⟩
          have hvq := hv.below hbq hg
          have hoq := ho1.still ⟨q, rfl⟩
          have hdom := impl_IsDominant_any g o v.length cv v (w1.drewN q) rfl (by omega) hvq
          rw [neg_first] at hdom
          cases hneg : negB v with
          | true =>
            have Hz := Lib.hid (pcV_neg hok hneg)
            rw [hneg] at hdom
            have Hdom := Lib.hid hdom
            clear hdom hneg hok hvq
            go_wp2_with fail
            refine Hdom.out.mono ?_
            rintro e w2 ⟨rfl, hs2⟩
            go_wp2_with fail
            go_ret2
            exact ⟨congrArg Ending.returned Hz.out.symm, below_still hbq hs2⟩
          | false =>
            have Hz := Lib.hid (HL.out hok hneg)
            rw [hneg] at hdom
            have Hdom := Lib.hid hdom
            have hsm := sm12_of hok hneg
            have hcl : rs1.length = L.length := by rw [← Hc1.out, contents_length]
            have hgl := Nat.lt_of_lt_of_le hg hbq.size
            have Hw := Lib.hid (fun W hs => (impl_partitions_ok w.heap.size g1 c1 c.length L rs1 HK.out Hc1.out L.length 0 g o cv (W : World).heap.size 0 v (W.alloc (.map #[] 0)) (by omega) hsm (((hoq.still hs).below ((Below.refl _ _).alloc (Nat.le_refl _) _))) (Nat.lt_of_lt_of_le (Nat.lt_of_lt_of_le hgl (Nat.le_of_eq (size_still hs).symm)) ((Below.refl W.heap.size W).alloc (Nat.le_refl _) (.map #[] 0)).size) (by have := size_still hs; omega) ((hvq.still hs).below ((Below.refl _ _).alloc (Nat.le_refl _) _) (by rw [size_still hs]; exact hgl)) (KnM.start W c.length L) (by have := cnt9 HK.out.few; omega) : Calls Tryz.prog 106 _ _ _))
            have hmm := @run_makeMap Tryz.prog
            rw [Hlen.out] at Hdom ⊢
            clear hdom hneg hok hsm hcl hvq
            go_wp2_with fail
            refine Hdom.out.mono ?_
            rintro e w2 ⟨rfl, hs2⟩
            have hb2 := below_still hbq hs2
            have Hw2 := Lib.hid (Hw.out w2 hs2)
            clear Hw Hdom hs2 hoq hbq
            go_wp2_with fail
            refine Hw2.out.mono ?_
            rintro e w3 ⟨rfl, N3, -, -, hg3⟩
            have hb3 : Below w.heap.size w w3 := by
              have h1 : Below w2.heap.size w2 (w2.alloc (.map #[] 0)) := (Below.refl _ _).alloc (Nat.le_refl _) _
              exact (hb2.trans (h1.mono hb2.size)).grown hg3 (Nat.le_trans hb2.size h1.size) (by intro t ht; cases ht; exact hb2.size)
            go_wp2_with fail
            go_ret2
            exact ⟨congrArg Ending.returned Hz.out.symm, hb3⟩
    · have hlen' : ((v.length : Int) != (c.length : Int)) = true := by simp; omega
      have Hz := Lib.hid (pcV_no (c := c) (r := v) (fun h => hlen h.2.1))
      generalize posL c = L at *
      clear hcall hlen hr hrl hR
      go_enter Tryz.func54, Tryz.ntmps54
      go_wp2_with fail
      refine Hcall.out.mono ?_
      rintro e w1 ⟨g1, c1, rs1, rfl, -, -, hb1⟩
      go_wp2_with fail
      go_ret2
      exact ⟨congrArg Ending.returned Hz.out.symm, hb1⟩
  · have Hz := Lib.hid (pcV_no (c := c) (r := v) (fun h => hR h.1))
    rw [decide_eq_false hR] at hcall
    have Hcall := Lib.hid hcall
    generalize posA c = L at *
    clear hcall hr hrl hR
    go_enter Tryz.func54, Tryz.ntmps54
    go_wp2_with fail
    refine Hcall.out.mono ?_
    rintro e w1 ⟨g1, c1, rs1, rfl, -, -, hb1⟩
    go_wp2_with fail
    go_ret2
    exact ⟨congrArg Ending.returned Hz.out.symm, hb1⟩

set_option maxHeartbeats 1000000 in
theorem spec_PartitionCount_any (gc oc n cc g o m cv : Nat) (c : List (List Int)) (v : List Int) (w : World) (hn : c.length = n) (hm : v.length = m) (hx : c.length ≤ 1048576) (hvx : v.length ≤ 1048576)
    (hrl : ∀ j, j < c.length → (c.getD j []).length ≤ 1048576) (hgc : gc < w.heap.size) (hg : g < w.heap.size) (hr : Rows2 w gc oc c) (hv : Cells w g o v) :
    Calls Tryz.prog 45 #[(Value.slice (some ⟨gc, oc, none⟩) n cc), (Value.slice (some ⟨g, o, none⟩) m cv)] w (Gives w (pcV c v)) := by
  subst hn; subst hm
  have hcall := spec_PositiveRoots_any gc oc _ cc c w rfl hx hrl hgc hr
  cases hf : finB c with
  | false =>
    have Hz := Lib.hid (pcV_no (c := c) (r := v) (fun h => by have := h.1.1; rw [hf] at this; exact absurd this (by decide)))
    rw [hf] at hcall
    have Hcall := Lib.hid hcall
    generalize posA c = L at *
    clear hcall hr hrl hf
    go_enter Tryz.func45, Tryz.ntmps45
    go_wp2_with fail
    refine Hcall.out.mono ?_
    rintro e w1 ⟨g1, c1, rs1, rfl, -, -, hb1⟩
    go_wp2_with fail
    go_ret2
    exact ⟨congrArg Ending.returned Hz.out.symm, hb1⟩
  | true =>
    rw [hf, posA_fin hf] at hcall
    have Hcall := Lib.hid hcall
    by_cases hlen : v.length = c.length
    · have hlen' : ((v.length : Int) != (c.length : Int)) = false := by rw [hlen]; simp
      by_cases h9 : (posL c).length ≤ 9
      · have h9' : decide ((9 : Int) < ((posL c).length : Int)) = false := decide_eq_false (by omega)
        have hR : pcRoots c := ⟨hf, h9⟩
        have hK := rts_of (finB_isC hf) (posOk_fin hf) h9
        have hn4 := hK.n4
        have HK := Lib.hid hK; have Hlen := Lib.hid hlen; have HR := Lib.hid hR
        have HL := Lib.hid (show pcOk c v → negB v = false → pcV c v = .tuple #[.int .i64 (ways ((posL c).drop 0) v), .bool true] from fun h1 h2 => pcV_yes h1 h2)
        generalize posL c = L at *
        clear hcall hlen hr hrl hK hR h9 hf
        go_enter Tryz.func45, Tryz.ntmps45
        go_wp2_with fail
        refine Hcall.out.mono ?_
        rintro e w1 ⟨g1, c1, rs1, rfl, hc1, ho1, hb1⟩
        have Hc1 := Lib.hid hc1; clear hc1
        go_wp2_with fail
        go_loopw [8] (fun i wr => ∃ k : Nat, k ≤ v.length ∧ i = .int .i64 k ∧ Hid (∀ j, j < k → -1000 ≤ v.getD j 0 ∧ v.getD j 0 ≤ 12) ∧ ∃ m, wr = w1.drewN m) (fun i _ => v.length - (intOf i).toNat)
        case atStart => exact ⟨0, Nat.zero_le _, rfl, fun j hj => absurd hj (by omega), ⟨0, rfl⟩⟩
        case round =>
          obtain ⟨k, hk, rfl, hall, q, rfl⟩ := hrel
          by_cases hlt : k < v.length
          · have q1 := (hb1.cell (p := ⟨g, o + k, none⟩) hg).trans (hv k hlt)
            have HX : Hid (¬ (-1000 ≤ v.getD k 0 ∧ v.getD k 0 ≤ 12) → pcV c v = .tuple #[.int .i64 0, .bool false]) := fun h => pcV_no (fun h2 => h (h2.2.2 k hlt))
            have HY : Hid (-1000 ≤ v.getD k 0 ∧ v.getD k 0 ≤ 12 → ∀ j, j < k + 1 → -1000 ≤ v.getD j 0 ∧ v.getD j 0 ≤ 12) := fun h j hj => by
              by_cases e : j = k
              · subst e; exact h
              · exact hall.out j (by omega)
            generalize v.getD k 0 = x at *
            have H1 := Lib.hid (spec_l1In x (-1000) 12 (w1.drewN q))
            by_cases hin : -1000 ≤ x ∧ x ≤ 12
            · have hT : (decide (-1000 ≤ x) && decide (x ≤ 12)) = true := by simp; exact hin
              have hy := HY.out hin
              have Hy := Lib.hid hy
              rw [hT] at H1
              clear hy hin hT
              go_wp2_with fail
              refine H1.out.mono ?_
              rintro e w2 ⟨rfl, m2, rfl⟩
              go_wp2_with fail
              go_roundw
              case rel => exact ⟨k + 1, by omega, by go_num, Hy.out, (by first | exact ⟨_, rfl⟩ | exact ⟨0, rfl⟩ | exact still2 _ _ _ | exact still3 _ _ _ _)⟩
              case measure => simp [intOf]; omega
            · have hT : (decide (-1000 ≤ x) && decide (x ≤ 12)) = false := by rw [Bool.and_eq_false_iff, decide_eq_false_iff_not, decide_eq_false_iff_not]; omega
              have hf := HX.out hin
              have Hf := Lib.hid hf
              rw [hT] at H1
              clear hf hin hT
              go_wp2_with fail
              refine H1.out.mono ?_
              rintro e w2 ⟨rfl, m2, rfl⟩
              go_wp2_with fail
              go_ret2
              exact ⟨congrArg Ending.returned Hf.out.symm, below_still hb1 (by first | exact ⟨_, rfl⟩ | exact ⟨0, rfl⟩ | exact still2 _ _ _ | exact still3 _ _ _ _)⟩
          · obtain rfl : k = v.length := by omega
            have hok : pcOk c v := ⟨HR.out, Hlen.out, hall.out⟩
            have hbq := below_still hb1 ⟨q, rfl⟩
            have hvq := hv.below hbq hg
            have hoq := ho1.still ⟨q, rfl⟩
            have hdom := spec_l28Negative_any g o v.length cv v (w1.drewN q) rfl (by omega) hvq
            cases hneg : negB v with
            | true =>
              have Hz := Lib.hid (pcV_neg hok hneg)
              rw [hneg] at hdom
              have Hdom := Lib.hid hdom
              clear hdom hneg hok hvq
              go_wp2_with fail
              refine Hdom.out.mono ?_
              rintro e w2 ⟨rfl, hs2⟩
              go_wp2_with fail
              go_ret2
              exact ⟨congrArg Ending.returned Hz.out.symm, below_still hbq hs2⟩
            | false =>
              have Hz := Lib.hid (HL.out hok hneg)
              rw [hneg] at hdom
              have Hdom := Lib.hid hdom
              have hsm := sm12_of hok hneg
              have hgl := Nat.lt_of_lt_of_le hg hbq.size
              have Hw := Lib.hid (fun W (hs : ∃ z, W = (w1.drewN q).drewN z) => (spec_l28Ways_ok g1 0 c1 c.length L HK.out L.length 0 g o cv v W (by omega) hsm (hoq.still hs).lt (by rw [size_still hs]; exact hgl) (by have := (hoq.still hs).rows2; rw [Hc1.out] at this; exact this) (hvq.still hs) : Calls Tryz.prog 96 _ _ _))
              rw [Hlen.out] at Hdom ⊢
              clear hdom hneg hok hvq hsm
              go_wp2_with fail
              refine Hdom.out.mono ?_
              rintro e w2 ⟨rfl, hs2⟩
              have hb2 := below_still hbq hs2
              have Hw2 := Lib.hid (Hw.out w2 hs2)
              clear Hw Hdom hs2 hoq hbq
              go_wp2_with fail
              refine Hw2.out.mono ?_
              rintro e w3 ⟨rfl, hb3⟩
              go_wp2_with fail
              go_ret2
              exact ⟨congrArg Ending.returned Hz.out.symm, hb2.trans (hb3.mono hb2.size)⟩
      · have h9' : decide ((9 : Int) < ((posL c).length : Int)) = true := decide_eq_true (by omega)
        have Hz := Lib.hid (pcV_no (c := c) (r := v) (fun h => h9 h.1.2))
        generalize posL c = L at *
        clear hcall hlen hr hrl hf h9
        go_enter Tryz.func45, Tryz.ntmps45
        go_wp2_with fail
        refine Hcall.out.mono ?_
        rintro e w1 ⟨g1, c1, rs1, rfl, -, -, hb1⟩
        go_wp2_with fail
        go_ret2
        exact ⟨congrArg Ending.returned Hz.out.symm, hb1⟩
    · have hlen' : ((v.length : Int) != (c.length : Int)) = true := by simp; omega
      have Hz := Lib.hid (pcV_no (c := c) (r := v) (fun h => hlen h.2.1))
      generalize posL c = L at *
      clear hcall hlen hr hrl hf
      go_enter Tryz.func45, Tryz.ntmps45
      go_wp2_with fail
      refine Hcall.out.mono ?_
      rintro e w1 ⟨g1, c1, rs1, rfl, -, -, hb1⟩
      go_wp2_with fail
      go_ret2
      exact ⟨congrArg Ending.returned Hz.out.symm, hb1⟩
end Go.Proofs.YtnpechcnmchneaaGreatDoor
namespace Go.Proofs.YtnpechcnmchneaaGreatDoor
set_option maxRecDepth 100000
open Go.RowKit Game

def kosAt (c : List (List Int)) (v u w : List Int) : List Int := shiftL (dotL c w v) u (-1)
def kosGo (c : List (List Int)) (v u : List Int) : List (List Int) → Int → Int × Bool
  | [], s => (s, true)
  | w :: L, s => if difB c (kosAt c v u w) = true then (if pcOk c (qL c (kosAt c v u w)) then kosGo c v u L (wrap64 (s + wrap64 (sgnW w * pcI c (qL c (kosAt c v u w))))) else (0, false)) else kosGo c v u L s
def kosOk (c : List (List Int)) (v u : List Int) : Prop := fewB c = true ∧ pcRoots c ∧ Sml c.length v ∧ wtOk c u
instance (c : List (List Int)) (v u : List Int) : Decidable (kosOk c v u) := by unfold kosOk; infer_instance
def kosR (c : List (List Int)) (v u : List Int) : Int × Bool := if kosOk c v u then kosGo c v u (elemL c) 0 else (0, false)
def kosV (c : List (List Int)) (v u : List Int) : Value := .tuple #[.int .i64 (kosR c v u).1, .bool (kosR c v u).2]
theorem kosV_eq (c : List (List Int)) (v u : List Int) : kosV c v u = .tuple #[.int .i64 (kosR c v u).1, .bool (kosR c v u).2] := rfl
theorem kosV_no {c : List (List Int)} {v u : List Int} (h : ¬ kosOk c v u) : kosV c v u = .tuple #[.int .i64 0, .bool false] := by unfold kosV kosR; rw [if_neg h]
theorem kosV_yes {c : List (List Int)} {v u : List Int} (h : kosOk c v u) : kosV c v u = .tuple #[.int .i64 (kosGo c v u (elemL c) 0).1, .bool (kosGo c v u (elemL c) 0).2] := by unfold kosV kosR; rw [if_pos h]
theorem kosGo_step {c : List (List Int)} {v u : List Int} {L : List (List Int)} {k : Nat} (hk : k < L.length) (s : Int) :
    kosGo c v u (L.drop k) s = if difB c (kosAt c v u (L.getD k [])) = true then (if pcOk c (qL c (kosAt c v u (L.getD k []))) then kosGo c v u (L.drop (k + 1)) (wrap64 (s + wrap64 (sgnW (L.getD k []) * pcI c (qL c (kosAt c v u (L.getD k [])))))) else (0, false)) else kosGo c v u (L.drop (k + 1)) s := by
  have e : L.drop k = L.getD k [] :: L.drop (k + 1) := by rw [List.drop_eq_getElem_cons hk]; simp [List.getD, hk]
  rw [e]; rfl
theorem kosGo_none {c : List (List Int)} {v u : List Int} : ∀ (L : List (List Int)) (s : Int), (∀ w ∈ L, difB c (kosAt c v u w) = false) → kosGo c v u L s = (s, true)
  | [], _, _ => rfl
  | w :: L, s, h => by
    unfold kosGo
    rw [h w (by simp), if_neg (by decide)]
    exact kosGo_none L s fun x hx => h x (by simp [hx])
/-- no summand where the weight is not below the dominant one -/
theorem kos_out {c : List (List Int)} {v u : List Int} (h : kosOk c v u) (hd : difB c (shiftL v u (-1)) = false) : kosV c v u = .tuple #[.int .i64 0, .bool true] := by
  have hG := grp_few h.1
  rw [kosV_yes h, kosGo_none _ _ fun w hw => ?_]
  obtain ⟨n, W, hW, rfl⟩ := (hG.mem w).1 hw
  by_cases e : difB c (kosAt c v u (intsOf W)) = true
  · have := dot_below hG (crOk_fin (fewB_fin h.1)) h.2.2.1 h.2.2.2.2.1 hW e
    rw [hd] at this
    exact absurd this (by decide)
  · simpa using e
theorem kos_row {c : List (List Int)} (hf : fewB c = true) {v : List Int} (hv : Sml c.length v) {k : Nat} (hk : k < (elemL c).length) :
    ∃ N W, Elt c N W ∧ (elemL c).getD k [] = intsOf W ∧ N ≤ 9 ∧ W.length = N ∧ ∀ j, j < c.length → -900 ≤ (dotL c (intsOf W) v).getD j 0 ∧ (dotL c (intsOf W) v).getD j 0 ≤ 900 := by
  obtain ⟨N, W, hW, e, h9, hl⟩ := elem_at hf hk
  exact ⟨N, W, hW, e, h9, hl, fun j hj => by have := (dot_wt (grp_few hf) hv hW).2 j hj; omega⟩
end Go.Proofs.YtnpechcnmchneaaGreatDoor
