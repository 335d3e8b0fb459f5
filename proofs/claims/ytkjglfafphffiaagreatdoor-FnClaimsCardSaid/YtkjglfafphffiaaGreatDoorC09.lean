/- DrM -/
import Derived.Test.YtkjglfafphffiaaGreatDoorC03
import Derived.Test.YtkjglfafphffiaaGreatDoorC07
import Derived.Test.YtkjglfafphffiaaGreatDoorC08
namespace Go.Proofs.YtkjglfafphffiaaGreatDoor
set_option maxRecDepth 100000
open Go.RowKit
def tyStr (k : Nat) : Value := .string ⟨(types17.getD k tyD).1.toArray⟩
def DrewT (w : World) (B p : Nat) (a : Option Addr) (n c : Nat) (ks : List Nat) (e : Ending) (w' : World) : Prop :=
  ∃ k, k ∈ ks ∧ e = .returned (tyStr k) ∧ Cur w' p a n c ∧ CodeV w' B a n ∧ Only p (p + 1) w w'
set_option maxHeartbeats 1000000 in
theorem spec_l1Pick_any (B p : Nat) (a : Option Addr) (n c g m : Nat) (ks : List Nat) (w : World) (hm : ks.length = m) (h1 : 1 ≤ m) (h256 : m ≤ 256) (hn : n ≤ 1048577) (hc : CodeV w B a n) (hp : B ≤ p) (hcur : Cur w p a n c) (hpg : p < g) (hg : g < w.heap.size)
    (hs : ∀ j, j < m → w.cell? ⟨g, j, none⟩ = some (tyStr (ks.getD j 0))) :
    Calls Tryz.prog 170 #[.pointer (some ⟨p, 0, none⟩), (Value.slice (some ⟨g, 0, none⟩) m m)] w (DrewT w B p a n c ks) := by
  have hcall := spec_l1Below_any B p a n c m w (by omega) hn hc hp hcur
  have Hcall := Lib.hid hcall; have Hs := Lib.hid hs; have Hm := Lib.hid hm
  clear hcall hs hc hcur hm
  go_enter Tryz.func170, Tryz.ntmps170
  go_wp2_with fail
  refine Hcall.out.mono ?_
  rintro e w1 ⟨x, hx, rfl, hcur, hc, hO⟩
  obtain ⟨j, rfl⟩ : ∃ j : Nat, x = j := ⟨x.toNat, by omega⟩
  have hj : j < m := by omega
  have hq : w1.cell? ⟨g, j, none⟩ = some (tyStr (ks.getD j 0)) := (World.cell?_of_block (a := ⟨g, j, none⟩) (hO.block g hg (.inr (by omega)))).trans (Hs.out j hj)
  have hk : ks.getD j 0 ∈ ks := by
    have : j < ks.length := by rw [Hm.out]; exact hj
    simp [List.getD, this]
  generalize ks.getD j 0 = k at *
  have Hk := Lib.hid hk
  clear hk hx
  go_wp2_with fail
  go_ret
  exact ⟨k, Hk.out, rfl, hcur, hc, hO⟩
theorem OwnRows.only' {w w' : World} {B p g cap : Nat} {rs : List RowRef} (h : OwnRows w B g cap rs) (k : Only p (p + 1) w w') (hp : p < B) : OwnRows w' B g cap rs :=
  ⟨h.1.same (k.block g h.1.lt (.inr (by have := h.1.base; omega))), fun r hr => (h.2.1 r hr).same (k.block r.1 (h.2.1 r hr).lt (.inr (by have := (h.2.1 r hr).base; omega))), h.2.2⟩
def DrewM (w : World) (B p : Nat) (a : Option Addr) (n c : Nat) (P : List (List Int) → Prop) (e : Ending) (w' : World) : Prop :=
  ∃ (g cap : Nat) (rs : List RowRef), e = .returned (Value.slice (some ⟨g, 0, none⟩) rs.length cap) ∧ OwnRows w' w.heap.size g cap rs ∧ P (contents rs) ∧ Cur w' p a n c ∧ CodeV w' B a n ∧ Only p (p + 1) w w'
def finK : List Nat := [0, 1, 1, 2, 2, 4, 4, 5, 7, 11]
def infK : List Nat := [12, 13, 15, 16, 14, 9, 3]
def finM : List (List (List Int)) := (finK.map fun k => (types17.getD k tyD).2) ++ ([0, 1, 4, 11].map fun k => joinC (types17.getD k tyD).2 [[2]])
def SqR (rows : List (List Int)) : Prop := (1 ≤ rows.length ∧ rows.length ≤ 4) ∧ ∀ j, j < rows.length → (rows.getD j []).length = rows.length
theorem finM_isC : ∀ x ∈ finM, IsC x := by decide +kernel
theorem finM_join : ∀ k ∈ finK, (types17.getD k tyD).2.length < 3 → joinC (types17.getD k tyD).2 [[2]] ∈ finM := by decide +kernel
theorem isC_sqr {x : List (List Int)} (h : IsC x) : SqR x := ⟨⟨h.1, h.2.1⟩, h.2.2.1⟩
theorem lits_fin (w : World) : ∀ j, j < 10 → (w.alloc (.cells #[.string ⟨#[65, 49]⟩, .string ⟨#[65, 50]⟩, .string ⟨#[65, 50]⟩, .string ⟨#[65, 51]⟩, .string ⟨#[65, 51]⟩, .string ⟨#[66, 50]⟩, .string ⟨#[66, 50]⟩, .string ⟨#[66, 51]⟩, .string ⟨#[67, 51]⟩, .string ⟨#[71, 50]⟩] 9)).cell? ⟨w.heap.size, j, none⟩ = some (tyStr (finK.getD j 0))
  | 0, _ => by rw [cell_of_cells (heap_alloc_new _ _)]; rfl
  | 1, _ => by rw [cell_of_cells (heap_alloc_new _ _)]; rfl
  | 2, _ => by rw [cell_of_cells (heap_alloc_new _ _)]; rfl
  | 3, _ => by rw [cell_of_cells (heap_alloc_new _ _)]; rfl
  | 4, _ => by rw [cell_of_cells (heap_alloc_new _ _)]; rfl
  | 5, _ => by rw [cell_of_cells (heap_alloc_new _ _)]; rfl
  | 6, _ => by rw [cell_of_cells (heap_alloc_new _ _)]; rfl
  | 7, _ => by rw [cell_of_cells (heap_alloc_new _ _)]; rfl
  | 8, _ => by rw [cell_of_cells (heap_alloc_new _ _)]; rfl
  | 9, _ => by rw [cell_of_cells (heap_alloc_new _ _)]; rfl
  | j + 10, h => absurd h (by omega)
theorem lits_inf (w : World) : ∀ j, j < 7 → (w.alloc (.cells #[.string ⟨#[65, 49, 126]⟩, .string ⟨#[65, 50, 126]⟩, .string ⟨#[67, 50, 126]⟩, .string ⟨#[71, 50, 126]⟩, .string ⟨#[65, 51, 126]⟩, .string ⟨#[68, 52]⟩, .string ⟨#[65, 52]⟩] 9)).cell? ⟨w.heap.size, j, none⟩ = some (tyStr (infK.getD j 0))
  | 0, _ => by rw [cell_of_cells (heap_alloc_new _ _)]; rfl
  | 1, _ => by rw [cell_of_cells (heap_alloc_new _ _)]; rfl
  | 2, _ => by rw [cell_of_cells (heap_alloc_new _ _)]; rfl
  | 3, _ => by rw [cell_of_cells (heap_alloc_new _ _)]; rfl
  | 4, _ => by rw [cell_of_cells (heap_alloc_new _ _)]; rfl
  | 5, _ => by rw [cell_of_cells (heap_alloc_new _ _)]; rfl
  | 6, _ => by rw [cell_of_cells (heap_alloc_new _ _)]; rfl
  | j + 7, h => absurd h (by omega)
set_option maxHeartbeats 4000000 in
theorem spec_l2Finite_any (B p : Nat) (a : Option Addr) (n c : Nat) (w : World) (hn : n ≤ 1048577) (hc : CodeV w B a n) (hp : B ≤ p) (hcur : Cur w p a n c) :
    Calls Tryz.prog 165 #[.pointer (some ⟨p, 0, none⟩)] w (DrewM w B p a n c fun x => x ∈ finM) := by
  have hps := hcur.lt
  obtain ⟨w1, hw1⟩ : ∃ w1, w1 = w.alloc (.cells #[.string ⟨#[65, 49]⟩, .string ⟨#[65, 50]⟩, .string ⟨#[65, 50]⟩, .string ⟨#[65, 51]⟩, .string ⟨#[65, 51]⟩, .string ⟨#[66, 50]⟩, .string ⟨#[66, 50]⟩, .string ⟨#[66, 51]⟩, .string ⟨#[67, 51]⟩, .string ⟨#[71, 50]⟩] 9) := ⟨_, rfl⟩
  have hb1 : Below w.heap.size w w1 := by rw [hw1]; exact (Below.refl _ _).alloc (Nat.le_refl _) _
  have hcall := spec_l1Pick_any B p a n c w.heap.size 10 finK w1 rfl (by omega) (by omega) hn (hc.below' hb1 (by omega)) hp (hcur.below' hb1 hps) hps (by rw [hw1]; show w.heap.size < (w.heap.push _).size; rw [Array.size_push]; omega) (by rw [hw1]; exact lits_fin w)
  have HT := Lib.hid (fun k (hk : k < 17) W => spec_TypeCartan_ok k hk W)
  rw [hw1] at hcall
  have Hcall := Lib.hid hcall; have Hw1 := Lib.hid hw1
  clear hcall hw1 hc hcur
  go_enter Tryz.func165, Tryz.ntmps165
  go_wp2_with fail
  refine Hcall.out.mono ?_
  rintro e w2 ⟨k, hk, rfl, hcur2, hc2, hO2⟩
  rw [← Hw1.out] at hO2
  have hOn2 : Only p (p + 1) w w2 := Only.trans (Only.of_below p (p + 1) hb1) hO2
  have hs12 : w.heap.size ≤ w2.heap.size := hOn2.size
  have hps2 : p < w2.heap.size := Nat.lt_of_lt_of_le hps hs12
  have hk17 : k < 17 := by revert k; decide
  have hmem : (types17.getD k tyD).2 ∈ finM := List.mem_append_left _ (List.mem_map.2 ⟨k, hk, rfl⟩)
  have hjoin : (types17.getD k tyD).2.length < 3 → joinC (types17.getD k tyD).2 [[2]] ∈ finM := finM_join k hk
  have hisC := finM_isC _ hmem
  have hT := HT.out k hk17 w2
  have HT2 := Lib.hid (show Calls Tryz.prog 169 #[tyStr k] w2 (GotRowsB w2 (types17.getD k tyD).2 true) from hT)
  have Hmem := Lib.hid hmem; have Hjoin := Lib.hid hjoin; have HC := Lib.hid hisC
  clear hT hmem hjoin hisC hO2 Hcall Hw1 hk
  generalize (types17.getD k tyD).2 = X at *
  go_wp2_with fail
  refine HT2.out.mono ?_
  rintro e w3 ⟨g3, c3, rs, rfl, hcon, hO3, hb3⟩
  have hcur3 := hcur2.below' hb3 (by have := hcur2.lt; omega)
  have hc3 := hc2.below' hb3 (by have := hcur2.lt; omega)
  have hOn3 : Only p (p + 1) w w3 := hOn2.below' hb3 hs12
  have hl : X.length = rs.length := by rw [← hcon, contents_length]
  have Hl := Lib.hid hl; have Hcon := Lib.hid hcon
  rw [hl]
  clear hl hcon hcur2 hc2 hOn2 HT2
  obtain ⟨m, hm⟩ : ∃ m, rs.length = m := ⟨_, rfl⟩
  rw [hm]
  have Hm := Lib.hid hm; clear hm
  have hm4 : m ≤ 4 := by rw [← Hm.out, ← Hl.out]; exact HC.out.2.1
  by_cases h3 : m < 3
  · have hmI : (m : Int) < 3 := by omega
    have hcall := spec_l1Once_any B p a n c 4 w3 (by omega) hn hc3 hp hcur3
    have Hcall := Lib.hid hcall
    have hcur3' := hcur3.lt
    clear hcall hc3 hcur3
    go_wp2_with fail
    refine Hcall.out.mono ?_
    rintro e w4 ⟨b, rfl, hcur4, hc4, hO4⟩
    have hp3 : p < w3.heap.size := by have := hcur3'; omega
    have hOn4 : Only p (p + 1) w w4 := Only.trans hOn3 hO4
    have hg34 : g3 < w3.heap.size := hO3.lt
    have hO34 : OwnRows w4 w2.heap.size g3 c3 rs := hO3.only' hO4 hps2
    clear hO4
    cases b with
    | false =>
      go_wp2_with fail
      go_ret
      exact ⟨g3, c3, rs, by rw [Hm.out]; rfl, hO34.mono hs12, by rw [Hcon.out]; exact Hmem.out, hcur4, hc4, hOn4⟩
    | true =>
      have hT := HT.out 0 (by omega) w4
      have HT2 := Lib.hid (show Calls Tryz.prog 169 #[.string ⟨#[65, 49]⟩] w4 (GotRowsB w4 [[2]] true) from hT)
      clear hT
      go_wp2_with fail
      refine HT2.out.mono ?_
      rintro e w5 ⟨g5, c5, rs5, rfl, hcon5, hO5, hb5⟩
      have hcur5 := hcur4.below' hb5 hcur4.lt
      have hc5 := hc4.below' hb5 (by have := hcur4.lt; omega)
      have hOn5 : Only p (p + 1) w w5 := hOn4.below' hb5 hOn4.size
      have hO35 := hO34.below hb5
      have hJ := spec_JoinCartans_ok g3 0 m c3 g5 0 1 c5 X [[2]] w5 (by rw [Hl.out, Hm.out]) rfl HC.out (by decide) (by omega) hO35.lt hO5.lt (by rw [← Hcon.out]; exact hO35.rows2) (by rw [← hcon5]; exact hO5.rows2)
      have HJ := Lib.hid hJ
      have hxl : X.length < 3 := by rw [Hl.out, Hm.out]; exact h3
      have hmj := Hjoin.out hxl
      have Hmj := Lib.hid hmj
      clear hJ hmj HT2 hcur4 hc4 hOn4 hO34 hcon5
      generalize joinC X [[2]] = J at *
      go_wp2_with fail
      refine HJ.out.mono ?_
      rintro e w6 ⟨g6, c6, rs6, rfl, hcon6, hO6, hb6⟩
      have hcur6 := hcur5.below' hb6 hcur5.lt
      have hc6 := hc5.below' hb6 (by have := hcur5.lt; omega)
      have hOn6 : Only p (p + 1) w w6 := hOn5.below' hb6 hOn5.size
      have hl6 : J.length = rs6.length := by rw [← hcon6, contents_length]
      rw [hl6]
      go_wp2_with fail
      go_ret
      exact ⟨g6, c6, rs6, rfl, hO6.mono hOn5.size, by rw [hcon6]; exact Hmj.out, hcur6, hc6, hOn6⟩
  · have hmI : ¬ (m : Int) < 3 := by omega
    go_wp2_with fail
    go_ret
    exact ⟨g3, c3, rs, by rw [Hm.out]; rfl, hO3.mono hs12, by rw [Hcon.out]; exact Hmem.out, hcur3, hc3, hOn3⟩
theorem ty_isC (k : Nat) (hk : k < 17) : IsC (types17.getD k tyD).2 := types_isC' hk
theorem setM_sqr {c : List (List Int)} (h : SqR c) (i j : Nat) (x : Int) : SqR (setM c i j x) := by
  obtain ⟨⟨h1, h2⟩, h3⟩ := h
  refine ⟨by rw [setM_length]; exact ⟨h1, h2⟩, fun k hk => ?_⟩
  rw [setM_length] at hk ⊢
  unfold setM
  by_cases e : i = k
  · subst e
    simp [List.getD, hk]
    have := h3 i hk
    simpa [List.getD, hk] using this
  · have := h3 k hk
    simp only [List.getD] at *
    rw [List.getElem?_set_ne e]
    exact this
set_option maxHeartbeats 4000000 in
theorem spec_l2Infinite_any (B p : Nat) (a : Option Addr) (n c : Nat) (w : World) (hn : n ≤ 1048577) (hc : CodeV w B a n) (hp : B ≤ p) (hcur : Cur w p a n c) :
    Calls Tryz.prog 164 #[.pointer (some ⟨p, 0, none⟩)] w (DrewM w B p a n c SqR) := by
  have hps := hcur.lt
  obtain ⟨w1, hw1⟩ : ∃ w1, w1 = w.alloc (.cells #[.string ⟨#[65, 49, 126]⟩, .string ⟨#[65, 50, 126]⟩, .string ⟨#[67, 50, 126]⟩, .string ⟨#[71, 50, 126]⟩, .string ⟨#[65, 51, 126]⟩, .string ⟨#[68, 52]⟩, .string ⟨#[65, 52]⟩] 9) := ⟨_, rfl⟩
  have hb1 : Below w.heap.size w w1 := by rw [hw1]; exact (Below.refl _ _).alloc (Nat.le_refl _) _
  have hcall := spec_l1Pick_any B p a n c w.heap.size 7 infK w1 rfl (by omega) (by omega) hn (hc.below' hb1 (by omega)) hp (hcur.below' hb1 hps) hps (by rw [hw1]; show w.heap.size < (w.heap.push _).size; rw [Array.size_push]; omega) (by rw [hw1]; exact lits_inf w)
  have HT := Lib.hid (fun k (hk : k < 17) W => spec_TypeCartan_ok k hk W)
  rw [hw1] at hcall
  have Hcall := Lib.hid hcall; have Hw1 := Lib.hid hw1
  clear hcall hw1 hc hcur
  go_enter Tryz.func164, Tryz.ntmps164
  go_wp2_with fail
  refine Hcall.out.mono ?_
  rintro e w2 ⟨k, hk, rfl, hcur2, hc2, hO2⟩
  rw [← Hw1.out] at hO2
  have hOn2 : Only p (p + 1) w w2 := Only.trans (Only.of_below p (p + 1) hb1) hO2
  have hs12 : w.heap.size ≤ w2.heap.size := hOn2.size
  have hps2 : p < w2.heap.size := Nat.lt_of_lt_of_le hps hs12
  have hk17 : k < 17 := by revert k; decide
  have hsq := isC_sqr (ty_isC k hk17)
  have HT2 := Lib.hid (show Calls Tryz.prog 169 #[tyStr k] w2 (GotRowsB w2 (types17.getD k tyD).2 true) from HT.out k hk17 w2)
  have HSq := Lib.hid hsq
  clear hsq hO2 Hcall Hw1 hk hk17 HT
  generalize (types17.getD k tyD).2 = X at *
  go_wp2_with fail
  refine HT2.out.mono ?_
  rintro e w3 ⟨g3, c3, rs, rfl, hcon, hO3, hb3⟩
  have hcur3 := hcur2.below' hb3 (by have := hcur2.lt; omega)
  have hc3 := hc2.below' hb3 (by have := hcur2.lt; omega)
  have hOn3 : Only p (p + 1) w w3 := hOn2.below' hb3 hs12
  have hl : X.length = rs.length := by rw [← hcon, contents_length]
  have Hl := Lib.hid hl; have Hcon := Lib.hid hcon
  rw [hl]
  clear hl hcon hcur2 hc2 hOn2 HT2
  obtain ⟨m, hm⟩ : ∃ m, rs.length = m := ⟨_, rfl⟩
  rw [hm]
  have Hm := Lib.hid hm; clear hm
  have hm4 : m ≤ 4 := by rw [← Hm.out, ← Hl.out]; exact HSq.out.1.2
  have hm1 : 1 ≤ m := by rw [← Hm.out, ← Hl.out]; exact HSq.out.1.1
  have Hcall := Lib.hid (spec_l1Once_any B p a n c 3 w3 (by omega) hn hc3 hp hcur3)
  have hcur3' := hcur3.lt
  clear hc3 hcur3
  go_wp2_with fail
  refine Hcall.out.mono ?_
  rintro e w4 ⟨b, rfl, hcur4, hc4, hO4⟩
  have hOn4 : Only p (p + 1) w w4 := Only.trans hOn3 hO4
  have hO34 : OwnRows w4 w2.heap.size g3 c3 rs := hO3.only' hO4 hps2
  clear hO4 hO3 hOn3
  cases b with
  | false =>
    go_wp2_with fail
    go_ret
    exact ⟨g3, c3, rs, by rw [Hm.out]; rfl, hO34.mono hs12, by rw [Hcon.out]; exact HSq.out, hcur4, hc4, hOn4⟩
  | true =>
    have Hc1 := Lib.hid (spec_l1Below_any B p a n c m w4 (by omega) hn hc4 hp hcur4)
    clear hc4 hcur4
    go_wp2_with fail
    refine Hc1.out.mono ?_
    rintro e w5 ⟨i, hi, rfl, hcur5, hc5, hO5⟩
    have hOn5 : Only p (p + 1) w w5 := Only.trans hOn4 hO5
    have hO35 : OwnRows w5 w2.heap.size g3 c3 rs := hO34.only' hO5 hps2
    have Hc2 := Lib.hid (spec_l1Below_any B p a n c m w5 (by omega) hn hc5 hp hcur5)
    clear hO5 hO34 hOn4 hcur5 hc5
    go_wp2_with fail
    refine Hc2.out.mono ?_
    rintro e w6 ⟨j, hj, rfl, hcur6, hc6, hO6⟩
    have hOn6 : Only p (p + 1) w w6 := Only.trans hOn5 hO6
    have hO36 : OwnRows w6 w2.heap.size g3 c3 rs := hO35.only' hO6 hps2
    clear hO6 hO35 hOn5
    by_cases hij : i = j
    · subst hij
      go_wp2_with fail
      go_ret
      exact ⟨g3, c3, rs, by rw [Hm.out]; rfl, hO36.mono hs12, by rw [Hcon.out]; exact HSq.out, hcur6, hc6, hOn6⟩
    · have hijI : (i != j) = true := by simp [hij]
      obtain ⟨i', rfl⟩ : ∃ i' : Nat, i = i' := ⟨i.toNat, by omega⟩
      obtain ⟨j', rfl⟩ : ∃ j' : Nat, j = j' := ⟨j.toNat, by omega⟩
      have hij' : i' ≠ j' := fun e => hij (by rw [e])
      have Hc3 := Lib.hid (spec_l1Below_any B p a n c 3 w6 (by omega) hn hc6 hp hcur6)
      clear hcur6 hc6
      go_wp2_with fail
      refine Hc3.out.mono ?_
      rintro e w7 ⟨x, hx, rfl, hcur7, hc7, hO7⟩
      have hOn7 : Only p (p + 1) w w7 := Only.trans hOn6 hO7
      have hO37 : OwnRows w7 w2.heap.size g3 c3 rs := hO36.only' hO7 hps2
      have e1 : IntKind.i64.wrap (-1 - x) = -1 - x := IntWalk.i64_in _ (by omega)
      have Hc4 := Lib.hid (spec_l1Below_any B p a n c 3 w7 (by omega) hn hc7 hp hcur7)
      clear hO7 hO36 hOn6 hcur7 hc7
      go_wp2_with fail
      refine Hc4.out.mono ?_
      rintro e w8 ⟨y, hy, rfl, hcur8, hc8, hO8⟩
      have hOn8 : Only p (p + 1) w w8 := Only.trans hOn7 hO8
      have hO38 : OwnRows w8 w2.heap.size g3 c3 rs := hO37.only' hO8 hps2
      have e2 : IntKind.i64.wrap (-1 - y) = -1 - y := IntWalk.i64_in _ (by omega)
      have hS := spec_l2Set_ok g3 0 m c3 i' j' (-1 - x) (-1 - y) X w8 (by rw [Hl.out, Hm.out]) hm4 (fun k hk => by rw [HSq.out.2 k hk, Hl.out, Hm.out]) (by omega) (by omega) hij' hO38.lt (by rw [← Hcon.out]; exact hO38.rows2)
      have HS := Lib.hid hS
      clear hO8 hO37 hOn7 hS
      go_wp2_with fail
      refine HS.out.mono ?_
      rintro e w9 ⟨g9, c9, rs9, rfl, hcon9, hO9, hb9⟩
      have hcur9 := hcur8.below' hb9 hcur8.lt
      have hc9 := hc8.below' hb9 (by have := hcur8.lt; omega)
      have hOn9 : Only p (p + 1) w w9 := hOn8.below' hb9 hOn8.size
      have hsq9 : SqR (contents rs9) := by rw [hcon9]; exact setM_sqr (setM_sqr HSq.out _ _ _) _ _ _
      have Hsq9 := Lib.hid hsq9
      have hl9 : (setM (setM X i' j' (-1 - x)) j' i' (-1 - y)).length = rs9.length := by rw [← hcon9, contents_length]
      rw [hl9]
      clear hcon9 hsq9 hl9
      go_wp2_with fail
      go_ret
      exact ⟨g9, c9, rs9, rfl, hO9.mono hOn8.size, Hsq9.out, hcur9, hc9, hOn9⟩
set_option maxHeartbeats 1000000 in
theorem spec_l2Drawn_any (B p : Nat) (a : Option Addr) (n c : Nat) (w : World) (hn : n ≤ 1048577) (hc : CodeV w B a n) (hp : B ≤ p) (hcur : Cur w p a n c) :
    Calls Tryz.prog 153 #[.pointer (some ⟨p, 0, none⟩)] w (DrewM w B p a n c SqR) := by
  have Hcall := Lib.hid (spec_l1Once_any B p a n c 3 w (by omega) hn hc hp hcur)
  clear hc hcur
  go_enter Tryz.func153, Tryz.ntmps153
  go_wp2_with fail
  refine Hcall.out.mono ?_
  rintro e w1 ⟨b, rfl, hcur1, hc1, hO1⟩
  cases b with
  | false =>
    have HC := Lib.hid (spec_l2Finite_any B p a n c w1 hn hc1 hp hcur1)
    clear hc1 hcur1
    go_wp2_with fail
    refine HC.out.mono ?_
    rintro e w2 ⟨g, cap, rs, rfl, ho, hm, hcur2, hc2, hO2⟩
    have Hm := Lib.hid (isC_sqr (finM_isC _ hm))
    clear hm
    go_wp2_with fail
    go_ret
    exact ⟨g, cap, rs, rfl, ho.mono hO1.size, Hm.out, hcur2, hc2, Only.trans hO1 hO2⟩
  | true =>
    have HC := Lib.hid (spec_l2Infinite_any B p a n c w1 hn hc1 hp hcur1)
    clear hc1 hcur1
    go_wp2_with fail
    refine HC.out.mono ?_
    rintro e w2 ⟨g, cap, rs, rfl, ho, hm, hcur2, hc2, hO2⟩
    have Hm := Lib.hid hm
    clear hm
    go_wp2_with fail
    go_ret
    exact ⟨g, cap, rs, rfl, ho.mono hO1.size, Hm.out, hcur2, hc2, Only.trans hO1 hO2⟩
structure MatR (w : World) (B g cap : Nat) (rows : List (List Int)) : Prop where
  base : B ≤ g
  lt : g < w.heap.size
  capLe : rows.length ≤ cap
  few : rows.length ≤ 5
  row : ∀ j, j < rows.length → ∃ gj oj cj, w.cell? ⟨g, j, none⟩ = some (Value.slice (some ⟨gj, oj, none⟩) ((rows.getD j []).length) cj) ∧ (rows.getD j []).length ≤ cj ∧ B ≤ gj ∧ gj < w.heap.size ∧ Cells w gj oj (rows.getD j []) ∧ (rows.getD j []).length ≤ 5
theorem MatR.rows2 {w : World} {B g cap : Nat} {rows : List (List Int)} (h : MatR w B g cap rows) : Rows2 w g 0 rows := fun j hj => by
  obtain ⟨gj, oj, cj, h1, h2, -, h4, h5, -⟩ := h.row j hj
  exact ⟨gj, oj, cj, by rw [Nat.zero_add]; exact h1, h2, h4, h5⟩
theorem MatR.rl {w : World} {B g cap : Nat} {rows : List (List Int)} (h : MatR w B g cap rows) : ∀ j, j < rows.length → (rows.getD j []).length ≤ 1048576 := fun j hj => by
  obtain ⟨_, _, _, _, _, _, _, _, h6⟩ := h.row j hj
  omega
theorem MatR.of_same {w w' : World} {B g cap : Nat} {rows : List (List Int)} (h : MatR w B g cap rows) (hz : w.heap.size ≤ w'.heap.size) (hs : ∀ k, B ≤ k → k < w.heap.size → w'.heap[k]? = w.heap[k]?) : MatR w' B g cap rows :=
  ⟨h.base, Nat.lt_of_lt_of_le h.lt hz, h.capLe, h.few, fun j hj => by
    obtain ⟨gj, oj, cj, h1, h2, h3, h4, h5, h6⟩ := h.row j hj
    exact ⟨gj, oj, cj, (World.cell?_of_block (a := ⟨g, j, none⟩) (hs g h.base h.lt)).trans h1, h2, h3, Nat.lt_of_lt_of_le h4 hz, fun i hi => (World.cell?_of_block (a := ⟨gj, oj + i, none⟩) (hs gj h3 h4)).trans (h5 i hi), h6⟩⟩
theorem MatR.only {w w' : World} {B p g cap : Nat} {rows : List (List Int)} (h : MatR w B g cap rows) (k : Only p (p + 1) w w') (hp : p < B) : MatR w' B g cap rows :=
  h.of_same k.size fun j h1 h2 => k.block j h2 (.inr (by omega))
theorem MatR.below {w w' : World} {B g cap : Nat} {rows : List (List Int)} (h : MatR w B g cap rows) (k : Below w.heap.size w w') : MatR w' B g cap rows :=
  h.of_same k.size fun j _ h2 => k.block j h2
theorem MatR.mono {w : World} {B B' g cap : Nat} {rows : List (List Int)} (h : MatR w B g cap rows) (hB : B' ≤ B) : MatR w B' g cap rows :=
  ⟨Nat.le_trans hB h.base, h.lt, h.capLe, h.few, fun j hj => by
    obtain ⟨gj, oj, cj, h1, h2, h3, h4, h5, h6⟩ := h.row j hj
    exact ⟨gj, oj, cj, h1, h2, Nat.le_trans hB h3, h4, h5, h6⟩⟩
theorem MatR.of_own {w : World} {B g cap : Nat} {rs : List RowRef} (h : OwnRows w B g cap rs) (h5 : rs.length ≤ 5) (hl : ∀ j, j < (contents rs).length → ((contents rs).getD j []).length ≤ 5) : MatR w B g cap (contents rs) := by
  refine ⟨h.base, h.lt, by rw [contents_length]; exact h.capLe, by rw [contents_length]; exact h5, fun j hj => ?_⟩
  have hl5 := hl j hj
  have hj' : j < rs.length := by rw [← contents_length]; exact hj
  have hcl : (contents rs).getD j [] = rs[j].2.2 := by simp [contents, List.getD, hj']
  have ho := h.2.1 rs[j] (List.getElem_mem _)
  rw [hcl] at hl5 ⊢
  refine ⟨rs[j].1, 0, rs[j].2.1, ?_, ho.capLe, ho.base, ho.lt, ho.cells, hl5⟩
  rw [h.1.cell j (by simpa using hj')]
  simp [rowVal]
theorem OwnRows.put2 {w : World} {B g cap : Nat} {rs : List RowRef} (h : OwnRows w B g cap rs) {i : Nat} {r : RowRef} (hr : Own w B r.1 r.2.1 r.2.2) (hn : ∀ s ∈ rs, s.1 ≠ r.1) :
    OwnRows (w.setCell ⟨g, i, none⟩ (rowVal r)) B g cap (rs.set i r) ∧ w.grownBy (w.setCell ⟨g, i, none⟩ (rowVal r)) (some g) := by
  have s1 := h.1.set i (rowVal r)
  have hk : ∀ s : RowRef, Own w B s.1 s.2.1 s.2.2 → Own (w.setCell ⟨g, i, none⟩ (rowVal r)) B s.1 s.2.1 s.2.2 := fun s hs => hs.grown s1.2 (fun e => h.1.ne hs.toV (by decide) (Option.some.inj e).symm)
  refine ⟨⟨by rw [List.map_set]; exact s1.1, fun s hs => ?_, ?_⟩, s1.2⟩
  · rcases List.mem_or_eq_of_mem_set hs with q | q
    · exact hk s (h.2.1 s q)
    · rw [q]; exact hk r hr
  · rw [List.map_set]
    have hp := List.pairwise_iff_getElem.1 h.2.2
    refine List.pairwise_iff_getElem.2 fun x y hx hy hxy => ?_
    simp only [List.length_set] at hx hy
    have hx' : x < rs.length := by simpa using hx
    have hy' : y < rs.length := by simpa using hy
    simp only [List.getElem_set, List.getElem_map]
    by_cases h1 : i = x
    · rw [if_pos h1, if_neg (show ¬ i = y by omega)]
      exact fun e => hn _ (List.getElem_mem hy') e.symm
    · rw [if_neg h1]
      by_cases h2 : i = y
      · rw [if_pos h2]; exact hn _ (List.getElem_mem hx')
      · rw [if_neg h2]
        have := hp x y hx hy hxy
        simpa using this
def DrewA (w : World) (B p : Nat) (a : Option Addr) (n c : Nat) (e : Ending) (w' : World) : Prop :=
  ∃ (g cap : Nat) (rows : List (List Int)), e = .returned (Value.slice (some ⟨g, 0, none⟩) rows.length cap) ∧ MatR w' w.heap.size g cap rows ∧ Cur w' p a n c ∧ CodeV w' B a n ∧ Only p (p + 1) w w'
theorem sqr_five {rows : List (List Int)} (h : SqR rows) : ∀ j, j < rows.length → (rows.getD j []).length ≤ 5 := fun j hj => by have := h.2 j hj; have := h.1.2; omega
set_option maxHeartbeats 1000000 in
theorem spec_l1PickInt_any (B p : Nat) (a : Option Addr) (n c g m : Nat) (vs : List Int) (w : World) (hm : vs.length = m) (h1 : 1 ≤ m) (h256 : m ≤ 256) (hn : n ≤ 1048577) (hc : CodeV w B a n) (hp : B ≤ p) (hcur : Cur w p a n c) (hpg : p < g) (hg : g < w.heap.size)
    (hs : Cells w g 0 vs) :
    Calls Tryz.prog 154 #[.pointer (some ⟨p, 0, none⟩), (Value.slice (some ⟨g, 0, none⟩) m m)] w fun e w' => ∃ x : Int, e = .returned (.int .i64 x) ∧ Cur w' p a n c ∧ CodeV w' B a n ∧ Only p (p + 1) w w' := by
  have hcall := spec_l1Below_any B p a n c m w (by omega) hn hc hp hcur
  have Hcall := Lib.hid hcall; have Hs := Lib.hid hs; have Hm := Lib.hid hm
  clear hcall hs hc hcur hm
  go_enter Tryz.func154, Tryz.ntmps154
  go_wp2_with fail
  refine Hcall.out.mono ?_
  rintro e w1 ⟨x, hx, rfl, hcur, hc, hO⟩
  obtain ⟨j, rfl⟩ : ∃ j : Nat, x = j := ⟨x.toNat, by omega⟩
  have hj : j < m := by omega
  have hq : w1.cell? ⟨g, j, none⟩ = some (.int .i64 (vs.getD j 0)) := by
    have := (World.cell?_of_block (a := ⟨g, 0 + j, none⟩) (hO.block g hg (.inr (by omega)))).trans (Hs.out j (by rw [Hm.out]; exact hj))
    rwa [Nat.zero_add] at this
  generalize vs.getD j 0 = k at *
  clear hx
  go_wp2_with fail
  go_ret
  exact ⟨k, rfl, hcur, hc, hO⟩
end Go.Proofs.YtkjglfafphffiaaGreatDoor
