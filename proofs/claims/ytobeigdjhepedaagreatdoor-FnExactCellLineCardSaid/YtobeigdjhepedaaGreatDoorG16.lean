/- WitnessOf, IsFinite of the reference: contracts. PartsOf of the reference, IsConnected: contracts. slices.Sort of few integers: contract. -/
import Derived.Test.YtobeigdjhepedaaGreatDoorG10
import Derived.Test.YtobeigdjhepedaaGreatDoorG15
import Derived.WalkLawsBesides
import Derived.StillTailTactics
import Derived.BigRegion
namespace Go.Proofs.YtobeigdjhepedaaGreatDoor
set_option maxRecDepth 100000
open Go.RowKit

theorem setTo_eq_setL {m n : Nat} (hn : n ≤ 4) (hm : m < 2 ^ n) : setTo m n = setL m := by
  have h := setTo_stop (m := m) (t := n) (Nat.div_eq_of_lt hm) (4 - n)
  have h4 : n + (4 - n) = 4 := by omega
  rw [h4] at h
  exact h.symm
theorem setL_ne (m : Nat) (h1 : 1 ≤ m) (h2 : m ≤ 15) : 1 ≤ (setL m).length := by
  have : ∀ m, m < 16 → 1 ≤ m → 1 ≤ (setL m).length := by decide
  exact this m (by omega) h1
theorem setL_asc (m : Nat) (t : Nat) (ht : t + 1 < (setL m).length) : (setL m).getD t 0 < (setL m).getD (t + 1) 0 := by
  have hp : (setNat m 4).Pairwise (· < ·) := List.Pairwise.filter _ List.pairwise_lt_range
  have hl : (setL m).length = (setNat m 4).length := by simp [setL, setTo]
  have h1 : t < (setNat m 4).length := by omega
  have h2 : t + 1 < (setNat m 4).length := by omega
  have := List.pairwise_iff_getElem.1 hp t (t + 1) h1 h2 (by omega)
  simp only [setL, setTo, List.getD, List.getElem?_map]
  rw [List.getElem?_eq_getElem h1, List.getElem?_eq_getElem h2]
  simpa using this

set_option maxHeartbeats 4000000 in
theorem spec_WitnessOf_any (g o n cp : Nat) (c : List (List Int)) (w : World) (hn : c.length = n) (hx : c.length ≤ 1048576) (hrl : ∀ j, j < c.length → (c.getD j []).length ≤ 1048576) (hg : g < w.heap.size) (hr : Rows2 w g o c) :
    Calls Tryz.prog 121 #[(Value.slice (some ⟨g, o, none⟩) n cp)] w (GotInts w (witness c)) := by
  subst hn
  go_enter Tryz.func121, Tryz.ntmps121
  go_wp2_with fail
  refine (spec_IsCartan g o _ cp c w rfl (by omega) (fun j hj => by have := hrl j hj; omega) hr).mono ?_
  rintro e w1 ⟨rfl, m1, rfl⟩
  by_cases hC : IsC c
  · have hC' : decide (IsC c) = true := decide_eq_true hC
    rw [hC']
    have hn4 := hC.2.1
    have hn1 := hC.1
    go_wp2_with fail
    refine (spec_l4Sets_any c.length (w.drewN m1) hn4).mono ?_
    rintro e w2 ⟨g2, c2, rs2, rfl, hc2, ho2, hb2⟩
    have hbb2 : Below w.heap.size w w2 := (below_drewN' w m1).trans hb2
    have hQ := pow_le16 hn4
    have hwit : witness c = witFrom c 1 (2 ^ c.length - 1) := by unfold witness; rw [if_pos hC]
    have hsz : (setsTo c.length (2 ^ c.length - 1)).length = 2 ^ c.length - 1 := setsTo_length _ _
    obtain ⟨Q, hQe⟩ : ∃ Q, 2 ^ c.length - 1 = Q := ⟨_, rfl⟩
    rw [hQe] at hsz hc2 hwit ⊢
    rw [hsz]
    have hQ15 : Q ≤ 15 := by omega
    have HQe := Lib.hid hQe; clear hQe hsz hQ
    have hrow : ∀ k, k < Q → (contents rs2).getD k [] = setL (k + 1) := by
      intro k hk
      rw [hc2]
      simp only [setsTo, List.getD, List.getElem?_map, List.getElem?_range hk]
      exact setTo_eq_setL hn4 (by have := HQe.out; omega)
    have hrl2 : rs2.length = Q := by have := congrArg List.length hc2; rw [setsTo_length] at this; simpa [contents] using this
    have Hrow := Lib.hid hrow; have Hrl2 := Lib.hid hrl2; have Hwit := Lib.hid hwit
    clear hrow hrl2 hc2 hwit
    go_wp2_with fail
    go_loopw [4, 5, 6] (fun i _ _ wr => ∃ k : Nat, k ≤ Q ∧ i = .int .i64 k ∧ Hid (witness c = witFrom c (k + 1) (Q - k)) ∧ Below w.heap.size w wr ∧ OwnRows wr w.heap.size g2 c2 rs2) (fun i _ _ _ => Q - (intOf i).toNat)
    case atStart => exact ⟨0, Nat.zero_le _, rfl, Hwit.out, hbb2, ho2.mono (Nat.le_refl _)⟩
    case round =>
      obtain ⟨k, hk, rfl, hw, hb, ho⟩ := hrel
      by_cases hlt : k < Q
      · have hkr : k < rs2.length := by rw [Hrl2.out]; exact hlt
        have hcell := ho.1.cell k (by simpa using hkr)
        have hmem : rs2[k] ∈ rs2 := List.getElem_mem hkr
        have howk := ho.2.1 _ hmem
        have hcont : rs2[k].2.2 = setL (k + 1) := by
          have := Hrow.out k hlt
          rw [← this]
          simp [contents, List.getD, hkr]
        obtain ⟨ga, ca, hra⟩ : ∃ ga ca, rs2[k] = (ga, ca, setL (k + 1)) := ⟨rs2[k].1, rs2[k].2.1, by rw [← hcont]⟩
        rw [hra] at howk
        have hcell' : wr.cell? ⟨g2, k, none⟩ = some (Value.slice (some ⟨ga, 0, none⟩) ((setL (k + 1)).length) ca) := by
          rw [hcell]
          simp only [List.getElem_map, hra]; rfl
        have howk' : Own wr w.heap.size ga ca (setL (k + 1)) := howk
        have hstep : witFrom c (k + 1) (Q - k) = if minorAt c (k + 1) ≤ 0 then setL (k + 1) else witFrom c (k + 1 + 1) (Q - (k + 1)) := by
          rw [show Q - k = (Q - (k + 1)) + 1 by omega]; rfl
        have hmd : minorAt c (k + 1) = det (setL (k + 1)).length (pickL c (setL (k + 1))) := rfl
        have hsl := setL_len (k + 1)
        have hs1 := setL_ne (k + 1) (by omega) (by omega)
        have hsin := fun t ht => setL_in (m := k + 1) (n := c.length) (by have := HQe.out; omega) t ht
        have hasc := setL_asc (k + 1)
        have hpsq := pick_sq hC (setL (k + 1))
        have hmb := minorAt_bound hC (k + 1)
        have hpl : (pickL c (setL (k + 1))).length = (setL (k + 1)).length := by simp [pickL]
        have Hstep := Lib.hid hstep
        clear hcell hmem howk hcont hra hstep
        generalize setL (k + 1) = s at *
        have Hsin := Lib.hid hsin; have Hasc := Lib.hid hasc; have Hpsq := Lib.hid hpsq; have Hpl := Lib.hid hpl
        clear hsin hasc hpsq hpl
        go_wp2_with fail
        refine (spec_SubCartan_ok g o _ cp ga 0 _ ca c s wr rfl rfl hC hsl hs1 Hsin.out Hasc.out (Nat.lt_of_lt_of_le hg hb.size) howk'.lt (hr.below hb hg) howk'.cells).mono ?_
        rintro e w3 ⟨g3, c3, rs3, rfl, hc3, ho3, hb3⟩
        have hB3 := hb.trans (hb3.mono hb.size)
        go_wp2_with fail
        refine (spec_l4Det_any s.length hsl g3 0 c3 (pickL c s) w3 Hpsq.out ho3.lt (by rw [← hc3]; exact ho3.rows2)).mono ?_
        rintro e w4 ⟨rfl, hb4⟩
        rw [← hmd]
        have hB4 := hB3.trans (hb4.mono hB3.size)
        have ho4 := (ho.below hb3).below hb4
        have how4 := (howk'.below hb3 howk'.lt).below hb4 (Nat.lt_of_lt_of_le howk'.lt hb3.size)
        have hcell4 := keepCell hb4 (keepCell hb3 hcell')
        generalize minorAt c (k + 1) = d at *
        clear hb3 hb4 ho3 hB3 hmd hcell' howk' ho hb
        by_cases hd : d ≤ 0
        · go_wp2_with fail
          go_ret
          rw [hw.out, Hstep.out, if_pos hd]
          exact GotInts.mk' ga ca rfl how4 hB4
        · go_wp2_with fail
          go_roundw
          case rel => exact ⟨k + 1, by omega, by go_num, by show _ = _; rw [hw.out, Hstep.out, if_neg (by omega)], hB4, ho4⟩
          case measure => simp [intOf]; omega
      · obtain rfl : Q = k := by omega
        go_wp2
        go_ret
        have hw2 := hw.out
        rw [Nat.sub_self] at hw2
        rw [hw2]
        exact GotInts.mk' wr.heap.size 0 rfl (Own.empty (w := wr) hb.size) (hb.alloc hb.size _)
  · have hC' : decide (IsC c) = false := decide_eq_false hC
    have hwit : witness c = [] := by unfold witness; rw [if_neg hC]
    rw [hC']
    clear hC
    go_wp2_with fail
    go_ret
    rw [hwit]
    exact GotInts.mk' w.heap.size 0 rfl (Own.empty (w := w.drewN m1) (Nat.le_refl _)) ((below_drewN' w m1).alloc (Nat.le_refl _) _)

set_option maxHeartbeats 1000000 in
theorem spec_IsFinite_any (g o n cp : Nat) (c : List (List Int)) (w : World) (hn : c.length = n) (hx : c.length ≤ 1048576) (hrl : ∀ j, j < c.length → (c.getD j []).length ≤ 1048576) (hg : g < w.heap.size) (hr : Rows2 w g o c) :
    Calls Tryz.prog 80 #[(Value.slice (some ⟨g, o, none⟩) n cp)] w (Gives w (.bool (finB c))) := by
  have hwl := witness_len c
  go_enter Tryz.func80, Tryz.ntmps80
  go_wp2_with fail
  refine (spec_IsCartan g o n cp c w hn (by omega) (fun j hj => by have := hrl j hj; omega) hr).mono ?_
  rintro e w1 ⟨rfl, m1, rfl⟩
  by_cases hC : IsC c
  · have hC' : decide (IsC c) = true := decide_eq_true hC
    have hf : finB c = ((witness c).length == 0) := by unfold finB; rw [hC']; simp
    rw [hC']
    go_wp2_with fail
    refine (spec_WitnessOf_any g o n cp c (w.drewN m1) hn hx hrl hg hr).mono ?_
    rintro e w2 ⟨g2, c2, rfl, ho2, hb2⟩
    generalize (witness c).length = L at *
    go_wp2_with fail
    go_ret
    refine ⟨?_, (below_drewN' w m1).trans hb2⟩
    rw [hf]
    refine ret_bool ?_
    by_cases h0 : L = 0
    · subst h0; rfl
    · have e1 : (L == 0) = false := by simpa using h0
      have e2 : ((L : Int) == 0) = false := by simp; omega
      rw [e1, e2]
  · have hC' : decide (IsC c) = false := decide_eq_false hC
    have hf : finB c = false := by unfold finB; rw [hC']; simp
    rw [hC']
    clear hC
    go_wp2_with fail
    go_ret
    exact ⟨by rw [hf]; rfl, below_drewN' w m1⟩
end Go.Proofs.YtobeigdjhepedaaGreatDoor
namespace Go.Proofs.YtobeigdjhepedaaGreatDoor
set_option maxRecDepth 100000
open Go.RowKit

theorem partsSG_down {tab : List (List Nat)} {t d : Nat} {P : List (List Nat)} (h : partsSG tab (t + d) = some P) : ∃ out, partsSG tab t = some out := by
  induction d generalizing P with
  | zero => exact ⟨P, h⟩
  | succ d ih =>
    have h2 : partsSG tab (t + d + 1) = some P := h
    unfold partsSG at h2
    cases ho : partsSG tab (t + d) with
    | none => rw [ho] at h2; simp at h2
    | some out => exact ih ho
theorem partsSG_step {tab : List (List Nat)} {t : Nat} {out : List (List Nat)} {p : List Nat} (ho : partsSG tab t = some out) (hp : partS tab t = some p) :
    partsSG tab (t + 1) = some (if p.getD 0 0 == t then out ++ [p] else out) := by
  conv => lhs; unfold partsSG
  rw [ho, hp]

set_option maxHeartbeats 4000000 in
theorem spec_PartsOf_ok (gc oc n cc : Nat) (c : List (List Int)) (P : List (List Nat)) (w : World) (hn : c.length = n) (hC : IsC c) (hP : partsSG (nbTab c) c.length = some P) (hpt : ∀ i, i < c.length → ∃ p, partS (nbTab c) i = some p ∧ 1 ≤ p.length ∧ p.length ≤ 4) (hgc : gc < w.heap.size) (hr : Rows2 w gc oc c) :
    Calls Tryz.prog 123 #[(Value.slice (some ⟨gc, oc, none⟩) n cc)] w (GotRows w (P.map intsOf)) := by
  subst hn
  have hn4 := hC.2.1
  have Hpt := Lib.hid hpt; have HP := Lib.hid hP
  clear hpt hP
  have hcart : Hid (∀ W, Below w.heap.size w W → Calls Tryz.prog 52 #[(Value.slice (some ⟨gc, oc, none⟩) c.length cc)] W (Reads W (.bool true))) := fun W hW => by
    have := spec_IsCartan gc oc _ cc c W rfl (by omega) (fun j hj => by have := hC.2.2.1 j hj; omega) (hr.below hW hgc)
    rwa [decide_eq_true hC] at this
  go_enter Tryz.func123, Tryz.ntmps123
  go_wp2_with fail
  go_loopw [3, 4, 5] (fun ov iv _ wr => ∃ (t g' c' n' : Nat) (rs : List RowRef) (out : List (List Nat)), t ≤ c.length ∧ iv = .int .i64 t ∧ ov = (Value.slice (some ⟨g', 0, none⟩) n' c') ∧ Hid (rs.length = n') ∧ n' ≤ t ∧ Hid (partsSG (nbTab c) t = some out) ∧ Hid (contents rs = out.map intsOf) ∧ OwnRows wr w.heap.size g' c' rs ∧ Below w.heap.size w wr) (fun _ iv _ _ => c.length - (intOf iv).toNat)
  case atStart => exact ⟨0, w.heap.size, 0, 0, [], [], Nat.zero_le _, rfl, rfl, rfl, Nat.le_refl _, rfl, rfl, OwnRows.empty (w := w) (Nat.le_refl _), (Below.refl _ _).alloc (Nat.le_refl _) _⟩
  case round =>
    obtain ⟨t, g', c', n', rs, out, ht, rfl, rfl, hrs, hnt, hout, hcont, ho, hb⟩ := hrel
    by_cases hlt : t < c.length
    · have hltI : (t : Int) < (c.length : Int) := by omega
      obtain ⟨p, hp, hp1, hp4⟩ := Hpt.out t hlt
      have hstep := Lib.hid (partsSG_step hout.out hp)
      go_wp2_with fail
      refine (hcart.out _ hb).mono ?_
      rintro e w2 ⟨rfl, m2, rfl⟩
      have hb2 : Below w.heap.size w (wr.drewN m2) := below_drewN hb m2
      have ho2 : OwnRows (wr.drewN m2) w.heap.size g' c' rs := ho.drewN m2
      clear hb ho
      generalize wr.drewN m2 = w2 at *
      go_wp2_with fail
      refine (spec_l3Part_ok gc oc _ cc t c p w2 rfl hC hlt hp (by have := hb2.size; omega) (hr.below hb2 hgc)).mono ?_
      rintro e w3 ⟨g3, c3, rfl, ho3, hb3⟩
      rw [intsOf_length]
      have q0 := ho3.cell 0 (by rw [intsOf_length]; omega)
      rw [intsOf_getD _ _ (by omega)] at q0
      have hB3 : Below w.heap.size w w3 := hb2.trans (hb3.mono hb2.size)
      have hO3 := ho2.below hb3
      have hrow : rowVal (g3, c3, intsOf p) = (Value.slice (some ⟨g3, 0, none⟩) p.length c3) := by unfold rowVal; rw [intsOf_length]
      have hne : ∀ r ∈ rs, r.1 ≠ g3 := fun r hr => by have h1 := (ho2.2.1 r hr).lt; have h2 := ho3.base; omega
      have ho3' := ho3.mono hb2.size
      have Hrow := Lib.hid hrow; have Hne := Lib.hid hne
      generalize hx : p.getD 0 0 = x at *
      have hx2 : Hid (x = p.getD 0 0) := hx.symm
      clear hb3 hrow hne ho3 ho2 hb2 hp hx
      by_cases hxt : x = t
      · have hs := hstep.out
        rw [hxt, if_pos (by simp)] at hs
        have Hs := Lib.hid hs
        rw [hxt] at q0
        clear hs hstep hx2 hxt
        go_wp2_with (at_builtin; refine wpList_append_row rfl _ _ rfl w.heap.size g' c' n' w3.heap.size rs (g3, c3, intsOf p) _ hrs.out (by rw [Hrow.out]) rfl hO3 ho3' Hne.out rfl rfl (by omega) ?_)
        intro g4 c4 w4 ho4 hg4 _
        go_wp2
        go_roundw
        case rel => exact ⟨t + 1, g4, c4, n' + 1, _, _, by omega, by go_num, rfl, by show _ = _; rw [List.length_append, hrs.out]; rfl, by omega, Hs.out, by show _ = _; rw [contents_push, hcont.out, List.map_append]; rfl, ho4, hB3.grown hg4 hB3.size (by intro j hj; cases hj; exact hO3.base)⟩
        case measure => simp [intOf]; omega
      · have hs := hstep.out
        rw [if_neg (by simpa using hxt)] at hs
        have Hs := Lib.hid hs
        have hxI : ((x : Int) == (t : Int)) = false := by simp; omega
        clear hs hstep hx2 hxt
        go_wp2
        go_roundw
        case rel => exact ⟨t + 1, g', c', n', rs, out, by omega, by go_num, rfl, hrs, by omega, Hs.out, hcont, hO3, hB3⟩
        case measure => simp [intOf]; omega
    · obtain rfl : t = c.length := by omega
      have hPo : P = out := Option.some.inj (HP.out.symm.trans hout.out)
      go_wp2_with fail
      go_ret
      rw [hPo]
      have hl : rs.length = (out.map intsOf).length := by rw [← hcont.out]; simp [contents]
      obtain rfl : n' = (out.map intsOf).length := by rw [← hl, hrs.out]
      exact ⟨g', c', rs, rfl, hcont.out, ho, hb⟩
set_option maxHeartbeats 1000000 in
theorem spec_IsConnected_ok (gc oc n cc : Nat) (c : List (List Int)) (P : List (List Nat)) (w : World) (hn : c.length = n) (hC : IsC c) (hP : partsSG (nbTab c) c.length = some P) (hpt : ∀ i, i < c.length → ∃ p, partS (nbTab c) i = some p ∧ 1 ≤ p.length ∧ p.length ≤ 4) (hgc : gc < w.heap.size) (hr : Rows2 w gc oc c) :
    Calls Tryz.prog 151 #[(Value.slice (some ⟨gc, oc, none⟩) n cc)] w (Gives w (.bool (P.length == 1))) := by
  go_enter Tryz.func151, Tryz.ntmps151
  go_wp2_with fail
  refine (spec_PartsOf_ok gc oc n cc c P w hn hC hP hpt hgc hr).mono ?_
  rintro e w1 ⟨g1, c1, rs1, rfl, hc1, ho1, hb1⟩
  go_wp2_with fail
  go_ret
  refine ⟨ret_bool ?_, hb1⟩
  by_cases h : P.length = 1
  · rw [h]; rfl
  · have h1 : (P.length == 1) = false := by simpa using h
    have h2 : ((P.length : Int) == 1) = false := by simp; omega
    rw [h1]; exact h2
end Go.Proofs.YtobeigdjhepedaaGreatDoor
namespace Go.Proofs.YtobeigdjhepedaaGreatDoor
set_option maxRecDepth 100000
open Go.RowKit

theorem srt_isNaN (x : Int) (w : World) : Calls Tryz.prog 221 #[.int .i64 x] w (Reads w (.bool false)) := by
  go_enter Tryz.func221, Tryz.ntmps221
  go_wp2
  go_ret
  exact ⟨ret_bool (by simp), 0, rfl⟩
set_option maxHeartbeats 400000 in
theorem srt_Less (x y : Int) (w : World) : Calls Tryz.prog 206 #[.int .i64 x, .int .i64 y] w (Reads w (.bool (decide (x < y)))) := by
  go_enter Tryz.func206, Tryz.ntmps206
  go_wp2_with fail
  refine (srt_isNaN x _).mono ?_
  rintro e w1 ⟨rfl, m1, rfl⟩
  go_wp2_with fail
  go_ret
  exact ⟨rfl, m1, rfl⟩

def insI (x : Int) : List Int → List Int
  | [] => [x]
  | y :: l => if x < y then x :: y :: l else y :: insI x l
def sortI (l : List Int) : List Int := l.foldl (fun a x => insI x a) []
theorem insI_split {x : Int} : ∀ {A B : List Int}, (∀ y ∈ A, ¬ x < y) → (∀ y ∈ B, x < y) → insI x (A ++ B) = A ++ x :: B := by
  intro A
  induction A with
  | nil =>
    intro B _ hB
    cases B with
    | nil => rfl
    | cons y B => simp [insI, hB y (by simp)]
  | cons a A ih =>
    intro B hA hB
    simp only [List.cons_append, insI]
    rw [if_neg (hA a (by simp)), ih (fun y hy => hA y (by simp [hy])) hB]
theorem insI_mem {x y : Int} : ∀ {S : List Int}, y ∈ insI x S → y = x ∨ y ∈ S := by
  intro S
  induction S with
  | nil => intro h; simp [insI] at h; exact .inl h
  | cons a S ih =>
    intro h
    simp only [insI] at h
    split at h
    · simp at h; rcases h with h | h | h <;> simp [h]
    · simp at h
      rcases h with h | h
      · simp [h]
      · rcases ih h with h | h <;> simp [h]
theorem insI_sorted {x : Int} : ∀ {S : List Int}, S.Pairwise (· ≤ ·) → (insI x S).Pairwise (· ≤ ·) := by
  intro S
  induction S with
  | nil => intro _; simp [insI]
  | cons a S ih =>
    intro h
    simp only [insI]
    split
    · rename_i hx
      rw [List.pairwise_cons] at h ⊢
      refine ⟨fun y hy => ?_, List.pairwise_cons.2 h⟩
      rcases List.mem_cons.1 hy with e | e
      · omega
      · have := h.1 y e; omega
    · rename_i hx
      rw [List.pairwise_cons] at h ⊢
      refine ⟨fun y hy => ?_, ih h.2⟩
      rcases insI_mem hy with e | e
      · omega
      · exact h.1 y e
theorem insI_len (x : Int) (S : List Int) : (insI x S).length = S.length + 1 := by
  induction S with
  | nil => rfl
  | cons a S ih => simp only [insI]; split <;> simp [ih]
theorem sortI_snoc (l : List Int) (x : Int) : sortI (l ++ [x]) = insI x (sortI l) := by simp [sortI]
theorem sortI_sorted (l : List Int) : (sortI l).Pairwise (· ≤ ·) := by
  have : ∀ (l S : List Int), S.Pairwise (· ≤ ·) → (l.foldl (fun a x => insI x a) S).Pairwise (· ≤ ·) := by
    intro l
    induction l with
    | nil => intro S h; exact h
    | cons x l ih => intro S h; exact ih _ (insI_sorted h)
  exact this l [] (by simp)
theorem sortI_len (l : List Int) : (sortI l).length = l.length := by
  have : ∀ (l S : List Int), (l.foldl (fun a x => insI x a) S).length = S.length + l.length := by
    intro l
    induction l with
    | nil => intro S; simp
    | cons x l ih => intro S; simp only [List.foldl_cons, ih, insI_len, List.length_cons]; omega
  have h := this l []
  simpa [sortI] using h
/-- in the midst of an insertion -/
def midI (S : List Int) (x : Int) (R : List Int) (j : Nat) : List Int := S.take j ++ x :: (S.drop j ++ R)
theorem midI_len (S : List Int) (x : Int) (R : List Int) (j : Nat) (hj : j ≤ S.length) : (midI S x R j).length = S.length + 1 + R.length := by simp [midI]; omega
theorem midI_at {S : List Int} {x : Int} {R : List Int} {j : Nat} (hj : j ≤ S.length) : (midI S x R j).getD j 0 = x := by
  simp only [midI, List.getD]
  rw [List.getElem?_append_right (by rw [List.length_take]; omega), List.length_take, show j - min j S.length = 0 by omega]; rfl
theorem midI_before {S : List Int} {x : Int} {R : List Int} {s : Nat} (hs : s < S.length) : (midI S x R (s + 1)).getD s 0 = S.getD s 0 := by
  simp only [midI, List.getD]
  rw [List.getElem?_append_left (by rw [List.length_take]; omega), List.getElem?_take, if_pos (by omega)]
theorem midI_swap {S : List Int} {x : Int} {R : List Int} {s : Nat} (hs : s < S.length) : ((midI S x R (s + 1)).set (s + 1) (S.getD s 0)).set s x = midI S x R s := by
  have hl : (S.take (s + 1)).length = s + 1 := by rw [List.length_take]; omega
  have e1 : S.take (s + 1) = S.take s ++ [S[s]] := List.take_succ_eq_append_getElem hs
  have e2 : S.drop s = S[s] :: S.drop (s + 1) := List.drop_eq_getElem_cons hs
  have e3 : S.getD s 0 = S[s] := by simp [List.getD, hs]
  unfold midI
  rw [List.set_append_right _ _ (by omega), hl, Nat.sub_self, List.set_cons_zero, e1, e2, e3, List.append_assoc]
  rw [List.set_append_right _ _ (by rw [List.length_take]; omega), List.length_take, show s - min s S.length = 0 by omega]
  simp only [List.set_cons_zero, List.cons_append, List.nil_append]
theorem midI_done {S : List Int} {x : Int} {R : List Int} {j : Nat} (hA : ∀ y ∈ S.take j, ¬ x < y) (hB : ∀ y ∈ S.drop j, x < y) : midI S x R j = insI x S ++ R := by
  have h := insI_split hA hB
  rw [List.take_append_drop] at h
  rw [h, midI]; simp
theorem midI_start (S : List Int) (x : Int) (R : List Int) : midI S x R S.length = S ++ x :: R := by simp [midI]

set_option maxHeartbeats 4000000 in
theorem srt_insertion (B g cap n : Nat) (xs : List Int) (w : World) (hn : xs.length = n) (hn12 : n ≤ 12) (hown : Own w B g cap xs) :
    Calls Tryz.prog 200 #[(Value.slice (some ⟨g, 0, none⟩) n cap), .int .i64 0, .int .i64 n] w (fun e w' => e = .returned (.tuple #[]) ∧ Own w' B g cap (sortI xs) ∧ w.grownBy w' (some g)) := by
  go_enter Tryz.func200, Tryz.ntmps200
  go_wp2
  go_loopw [6, 7] (fun i _ wr => ∃ t : Nat, 1 ≤ t ∧ t ≤ n + 1 ∧ i = .int .i64 t ∧ Own wr B g cap (sortI (xs.take t) ++ xs.drop t) ∧ w.grownBy wr (some g)) (fun i _ _ => 14 - (intOf i).toNat)
  case atStart =>
    refine ⟨1, by omega, by omega, rfl, ?_, World.grownBy.refl _ _⟩
    match xs, hown with
    | [], h => exact h
    | x :: l, h => exact h
  case round =>
    obtain ⟨t, ht1, ht, rfl, ho, hg⟩ := hrel
    by_cases hlt : t < n
    · have hltI : (t : Int) < (n : Int) := by omega
      have htx : t < xs.length := by omega
      have hdrop : xs.drop t = xs[t] :: xs.drop (t + 1) := List.drop_eq_getElem_cons htx
      have hSl : (sortI (xs.take t)).length = t := by rw [sortI_len, List.length_take]; omega
      have hSs := sortI_sorted (xs.take t)
      have hsn : sortI (xs.take (t + 1)) = insI xs[t] (sortI (xs.take t)) := by rw [List.take_succ_eq_append_getElem htx, sortI_snoc]
      have hRl : (xs.drop (t + 1)).length + t + 1 = n := by simp; omega
      rw [hdrop, ← midI_start, hSl] at ho
      generalize hS : sortI (xs.take t) = S at *
      generalize hx : xs[t] = x at *
      generalize hR : xs.drop (t + 1) = R at *
      have Hsn := Lib.hid hsn; have HSs := Lib.hid hSs; have HSl := Lib.hid hSl; have HRl := Lib.hid hRl; have HR := Lib.hid hR
      clear hsn hSs hSl hRl hS hx hR hdrop
      go_wp2
      go_loopw [7] (fun j wr => ∃ k : Nat, k ≤ t ∧ j = .int .i64 k ∧ Own wr B g cap (midI S x R k) ∧ Hid (∀ y ∈ S.drop k, x < y) ∧ w.grownBy wr (some g)) (fun j _ => (intOf j).toNat)
      case atStart => exact ⟨t, Nat.le_refl _, rfl, ho, by intro y hy; rw [List.drop_of_length_le (by rw [HSl.out]; omega)] at hy; simp at hy, hg⟩
      case round =>
        obtain ⟨k, hk, rfl, ho2, hall, hg2⟩ := hrel
        have hml := midI_len S x R k (by rw [HSl.out]; exact hk)
        have hdone : Hid ((∀ y ∈ S.take k, ¬ x < y) → midI S x R k = sortI (xs.take (t + 1)) ++ xs.drop (t + 1)) := fun h => by rw [midI_done h hall.out, Hsn.out, HR.out]
        by_cases hk0 : k = 0
        · have hM : midI S x R k = sortI (xs.take (t + 1)) ++ xs.drop (t + 1) := hdone.out (by intro y hy; rw [hk0] at hy; simp at hy)
          have hkI : decide ((0 : Int) < (k : Int)) = false := by simp only [decide_eq_false_iff_not]; omega
          have hkN : decide (0 < k) = false := by simp only [decide_eq_false_iff_not]; omega
          have hkM : (k : Int) ≤ 0 := by omega
          have HM := Lib.hid hM
          clear hM hk0 hml
          go_wp2
          go_quiet (fail)
          go_wp2
          go_roundw
          case rel => exact ⟨t + 1, by omega, by omega, by go_num, by rw [← HM.out]; exact ho2.drewN nq, grown_drewN hg2 nq⟩
          case measure => simp [intOf]; omega
        · obtain ⟨s, rfl⟩ : ∃ s, k = s + 1 := ⟨k - 1, by omega⟩
          have hsS : s < S.length := by rw [HSl.out]; omega
          have q1 := ho2.cell (s + 1) (by rw [hml]; omega)
          have q0 := ho2.cell s (by rw [hml]; omega)
          rw [midI_at (by omega)] at q1
          rw [midI_before hsS] at q0
          have hgt : (0 : Int) < (s : Int) + 1 := by omega
          have hwr : IntKind.i64.wrap ((s : Int) + 1 - 1) = (s : Int) := by rw [show (s : Int) + 1 - 1 = s by omega]; exact IntWalk.i64_in _ (by omega)
          have hsn2 : s + 1 < n := by omega
          have hsn3 : s < n := by omega
          by_cases hxy : x < S.getD s 0
          · have hsw := midI_swap (S := S) (x := x) (R := R) hsS
            have hall2 : ∀ y ∈ S.drop s, x < y := by
              intro y hy
              rw [List.drop_eq_getElem_cons hsS] at hy
              rcases List.mem_cons.1 hy with e | e
              · rw [e]; simpa [List.getD, hsS] using hxy
              · exact hall.out y e
            have f1 := ho2.frozen (s + 1)
            have f0 := ho2.frozen s
            have Hsw := Lib.hid hsw; have Hall2 := Lib.hid hall2
            clear hsw hall2 hdone hml
            generalize hy : S.getD s 0 = y at *
            have Hy := Lib.hid hy; clear hy
            go_wp2
            go_quiet ((go_at_call 206; first | exact Calls.quiet_of (srt_Less _ _ _) | exact Reads.quiet4 (srt_Less _ _ _)))
            go_wp2
            have hset := (ho2.drewN (nq + 1)).set2 (s + 1) s y x
            rw [Hsw.out] at hset
            have Hset := Lib.hid hset
            clear hset
            go_region
            all_goals
              go_wp2
              go_roundw
              case rel =>
                refine ⟨s, by omega, by go_num, Hset.out.1, Hall2.out, ?_⟩
                exact World.grownBy.trans' (grown_drewN hg2 (nq + 1)) Hset.out.2
              case measure => simp [intOf]
          · have hM : midI S x R (s + 1) = sortI (xs.take (t + 1)) ++ xs.drop (t + 1) := hdone.out (by
              intro y hy
              obtain ⟨u, hu, rfl⟩ := List.getElem_of_mem hy
              rw [List.length_take] at hu
              rw [List.getElem_take]
              have h1 : S[u] ≤ S[s] := by
                by_cases e : u = s
                · subst e; exact Int.le_refl _
                · exact List.pairwise_iff_getElem.1 HSs.out u s (by omega) hsS (by omega)
              have h2 : S.getD s 0 = S[s] := by simp [List.getD, hsS]
              omega)
            have HM := Lib.hid hM
            have hxy' : S.getD s 0 ≤ x := by omega
            clear hM hml hdone hxy
            generalize S.getD s 0 = y at *
            go_wp2
            go_quiet ((go_at_call 206; first | exact Calls.quiet_of (srt_Less _ _ _) | exact Reads.quiet4 (srt_Less _ _ _)))
            go_wp2
            go_roundw
            case rel => exact ⟨t + 1, by omega, by omega, by go_num, by rw [← HM.out]; exact ho2.drewN nq, grown_drewN hg2 nq⟩
            case measure => simp [intOf]; omega
    · have h1 : xs.drop t = [] := List.drop_eq_nil_of_le (by omega)
      have h2 : xs.take t = xs := List.take_of_length_le (by omega)
      rw [h1, h2, List.append_nil] at ho
      clear h1 h2
      go_wp2
      go_end0
      exact ⟨rfl, ho, hg⟩

set_option maxRecDepth 100000 in
set_option maxHeartbeats 2000000 in
theorem srt_Len64 (n : Nat) (w : World) (hn : n ≤ 12) : Calls Tryz.prog 187 #[.int .u64 n] w (fun e w' => ∃ b : Int, e = .returned (.int .i64 b) ∧ ∃ m, w' = w.drewN m) := by
  have : n = 0 ∨ n = 1 ∨ n = 2 ∨ n = 3 ∨ n = 4 ∨ n = 5 ∨ n = 6 ∨ n = 7 ∨ n = 8 ∨ n = 9 ∨ n = 10 ∨ n = 11 ∨ n = 12 := by omega
  rcases this with rfl | rfl | rfl | rfl | rfl | rfl | rfl | rfl | rfl | rfl | rfl | rfl | rfl
  all_goals
    go_enter Tryz.func187, Tryz.ntmps187
    go_wp2
    go_ret
    exact ⟨_, rfl, (by first | exact ⟨_, rfl⟩ | exact ⟨0, rfl⟩ | exact still2 _ _ _ | exact still3 _ _ _ _)⟩

theorem srt_Len (n : Nat) (w : World) (hn : n ≤ 12) : Calls Tryz.prog 182 #[.int .u64 n] w (fun e w' => ∃ b : Int, e = .returned (.int .i64 b) ∧ ∃ m, w' = w.drewN m) := by
  go_enter Tryz.func182, Tryz.ntmps182
  go_wp2_with fail
  refine (srt_Len64 n w hn).mono ?_
  rintro e w1 ⟨b, rfl, m1, rfl⟩
  go_wp2_with fail
  go_ret
  exact ⟨b, rfl, m1, rfl⟩

set_option maxHeartbeats 2000000 in
theorem srt_pdq (B g cap n : Nat) (b : Int) (xs : List Int) (w : World) (hn : xs.length = n) (hn12 : n ≤ 12) (hown : Own w B g cap xs) :
    Calls Tryz.prog 181 #[(Value.slice (some ⟨g, 0, none⟩) n cap), .int .i64 0, .int .i64 n, .int .i64 b] w (fun e w' => e = .returned (.tuple #[]) ∧ Own w' B g cap (sortI xs) ∧ w.grownBy w' (some g)) := by
  go_enter Tryz.func181, Tryz.ntmps181
  go_wp2_with fail
  refine wp_loop_rounds 1 ?_
  rw [rounds_succ]
  go_wp2_with fail
  refine (srt_insertion B g cap n xs w hn hn12 hown).mono ?_
  rintro e w1 ⟨rfl, ho1, hg1⟩
  go_wp2_with fail
  first | go_end0 | refine bodyPost_ret (results_none rfl _ _ _) rfl ?_
  exact ⟨rfl, ho1, hg1⟩

set_option maxHeartbeats 2000000 in
theorem srt_Sort (B g cap n : Nat) (xs : List Int) (w : World) (hn : xs.length = n) (hn12 : n ≤ 12) (hown : Own w B g cap xs) :
    Calls Tryz.prog 156 #[(Value.slice (some ⟨g, 0, none⟩) n cap)] w (fun e w' => e = .returned (.tuple #[]) ∧ Own w' B g cap (sortI xs) ∧ w.grownBy w' (some g)) := by
  go_enter Tryz.func156, Tryz.ntmps156
  go_wp2_with fail
  refine (srt_Len n w hn12).mono ?_
  rintro e w1 ⟨b, rfl, m1, rfl⟩
  go_wp2_with fail
  refine (srt_pdq B g cap n b xs (w.drewN m1) hn hn12 (hown.drewN m1)).mono ?_
  rintro e w2 ⟨rfl, ho2, hg2⟩
  go_wp2_with fail
  go_end0
  exact ⟨rfl, ho2, ⟨hg2.os, hg2.tape, hg2.output, hg2.size, hg2.block⟩⟩
end Go.Proofs.YtobeigdjhepedaaGreatDoor
