/- The laws' draws of matrices: names of types, matrices of finite and of any groups, spoiled ones: contracts. The laws' draw of any matrix, spoiled at times: contract. The laws' draws of matrices and words for the polynomials of pairs: contracts. slices.Equal, slices.Reverse, ReverseWord, IsPalindrome: contracts. -/
import Derived.Test.YtdedkfbiookofaaGreatDoorK02
import Derived.Test.YtdedkfbiookofaaGreatDoorK15
import Derived.Test.YtdedkfbiookofaaGreatDoorK12
import Derived.Test.YtdedkfbiookofaaGreatDoorK48
import Derived.Deep.RegionHeld3
import Derived.Test.YtdedkfbiookofaaGreatDoorK41
import Derived.Test.YtdedkfbiookofaaGreatDoorK01
namespace Go.Proofs.YtdedkfbiookofaaGreatDoor
set_option maxRecDepth 100000
open Go.RowKit
/-- the names of types, by their numbers -/
def tyStr (k : Nat) : Value := .string ⟨(types17.getD k tyD).1.toArray⟩
def DrewT (w : World) (B p : Nat) (a : Option Addr) (n c : Nat) (ks : List Nat) (e : Ending) (w' : World) : Prop :=
  ∃ k, k ∈ ks ∧ e = .returned (tyStr k) ∧ Cur w' p a n c ∧ CodeV w' B a n ∧ Only p (p + 1) w w'
set_option maxHeartbeats 1000000 in
theorem spec_l1Pick_any (B p : Nat) (a : Option Addr) (n c g m : Nat) (ks : List Nat) (w : World) (hm : ks.length = m) (h1 : 1 ≤ m) (h256 : m ≤ 256) (hn : n ≤ 1048576) (hc : CodeV w B a n) (hp : B ≤ p) (hcur : Cur w p a n c) (hpg : p < g) (hg : g < w.heap.size)
    (hs : ∀ j, j < m → w.cell? ⟨g, j, none⟩ = some (tyStr (ks.getD j 0))) :
    Calls Tryz.prog 121 #[.pointer (some ⟨p, 0, none⟩), (Value.slice (some ⟨g, 0, none⟩) m m)] w (DrewT w B p a n c ks) := by
  have hcall := spec_l1Below_any B p a n c m w (by omega) hn hc hp hcur
  have Hcall := Lib.hid hcall; have Hs := Lib.hid hs; have Hm := Lib.hid hm
  clear hcall hs hc hcur hm
  go_enter Tryz.func121, Tryz.ntmps121
  go_wp2_with fail
  refine Hcall.out.mono ?_
  rintro e w1 ⟨x, hx, rfl, hcur, hc, hO⟩
  obtain ⟨j, rfl⟩ : ∃ j : Nat, x = j := ⟨x.toNat, by omega⟩
  have hj : j < m := by omega
  have hq : w1.cell? ⟨g, j, none⟩ = some (tyStr (ks.getD j 0)) := (World.cell?_of_block (a := ⟨g, j, none⟩) (hO.block g hg (.inr (by omega)))).trans (Hs.out j hj)
  have hk : ks.getD j 0 ∈ ks := by
    have : j < ks.length := by rw [Hm.out]; exact hj
    simp [List.getD, this]
  generalize ks.getD j 0 = k at *
  have Hk := Lib.hid hk
  clear hk hx
  go_wp2_with fail
  go_ret
  exact ⟨k, Hk.out, rfl, hcur, hc, hO⟩
theorem OwnRows.only' {w w' : World} {B p g cap : Nat} {rs : List RowRef} (h : OwnRows w B g cap rs) (k : Only p (p + 1) w w') (hp : p < B) : OwnRows w' B g cap rs :=
  ⟨h.1.same (k.block g h.1.lt (.inr (by have := h.1.base; omega))), fun r hr => (h.2.1 r hr).same (k.block r.1 (h.2.1 r hr).lt (.inr (by have := (h.2.1 r hr).base; omega))), h.2.2⟩
/-- a matrix is drawn -/
def DrewM (w : World) (B p : Nat) (a : Option Addr) (n c : Nat) (P : List (List Int) → Prop) (e : Ending) (w' : World) : Prop :=
  ∃ (g cap : Nat) (rs : List RowRef), e = .returned (Value.slice (some ⟨g, 0, none⟩) rs.length cap) ∧ OwnRows w' w.heap.size g cap rs ∧ P (contents rs) ∧ Cur w' p a n c ∧ CodeV w' B a n ∧ Only p (p + 1) w w'
def finK : List Nat := [0, 1, 1, 2, 2, 4, 4, 5, 7, 11]
def infK : List Nat := [12, 13, 15, 16, 14, 9, 3]
/-- what is drawn of finite groups -/
def finM : List (List (List Int)) := (finK.map fun k => (types17.getD k tyD).2) ++ ([0, 1, 4, 11].map fun k => joinC (types17.getD k tyD).2 [[2]])
def SqR (rows : List (List Int)) : Prop := (1 ≤ rows.length ∧ rows.length ≤ 4) ∧ ∀ j, j < rows.length → (rows.getD j []).length = rows.length
theorem finM_isC : ∀ x ∈ finM, IsC x := by decide +kernel
theorem finM_join : ∀ k ∈ finK, (types17.getD k tyD).2.length < 3 → joinC (types17.getD k tyD).2 [[2]] ∈ finM := by decide +kernel
theorem isC_sqr {x : List (List Int)} (h : IsC x) : SqR x := ⟨⟨h.1, h.2.1⟩, h.2.2.1⟩
theorem lits_fin (w : World) : ∀ j, j < 10 → (w.alloc (.cells #[.string ⟨#[65, 49]⟩, .string ⟨#[65, 50]⟩, .string ⟨#[65, 50]⟩, .string ⟨#[65, 51]⟩, .string ⟨#[65, 51]⟩, .string ⟨#[66, 50]⟩, .string ⟨#[66, 50]⟩, .string ⟨#[66, 51]⟩, .string ⟨#[67, 51]⟩, .string ⟨#[71, 50]⟩] 9)).cell? ⟨w.heap.size, j, none⟩ = some (tyStr (finK.getD j 0))
  | 0, _ => by rw [cell_of_cells (heap_alloc_new _ _)]; rfl
  | 1, _ => by rw [cell_of_cells (heap_alloc_new _ _)]; rfl
  | 2, _ => by rw [cell_of_cells (heap_alloc_new _ _)]; rfl
  | 3, _ => by rw [cell_of_cells (heap_alloc_new _ _)]; rfl
  | 4, _ => by rw [cell_of_cells (heap_alloc_new _ _)]; rfl
  | 5, _ => by rw [cell_of_cells (heap_alloc_new _ _)]; rfl
  | 6, _ => by rw [cell_of_cells (heap_alloc_new _ _)]; rfl
  | 7, _ => by rw [cell_of_cells (heap_alloc_new _ _)]; rfl
  | 8, _ => by rw [cell_of_cells (heap_alloc_new _ _)]; rfl
  | 9, _ => by rw [cell_of_cells (heap_alloc_new _ _)]; rfl
  | j + 10, h => absurd h (by omega)
theorem lits_inf (w : World) : ∀ j, j < 7 → (w.alloc (.cells #[.string ⟨#[65, 49, 126]⟩, .string ⟨#[65, 50, 126]⟩, .string ⟨#[67, 50, 126]⟩, .string ⟨#[71, 50, 126]⟩, .string ⟨#[65, 51, 126]⟩, .string ⟨#[68, 52]⟩, .string ⟨#[65, 52]⟩] 9)).cell? ⟨w.heap.size, j, none⟩ = some (tyStr (infK.getD j 0))
  | 0, _ => by rw [cell_of_cells (heap_alloc_new _ _)]; rfl
  | 1, _ => by rw [cell_of_cells (heap_alloc_new _ _)]; rfl
  | 2, _ => by rw [cell_of_cells (heap_alloc_new _ _)]; rfl
  | 3, _ => by rw [cell_of_cells (heap_alloc_new _ _)]; rfl
  | 4, _ => by rw [cell_of_cells (heap_alloc_new _ _)]; rfl
  | 5, _ => by rw [cell_of_cells (heap_alloc_new _ _)]; rfl
  | 6, _ => by rw [cell_of_cells (heap_alloc_new _ _)]; rfl
  | j + 7, h => absurd h (by omega)
set_option maxHeartbeats 4000000 in
theorem spec_l2Finite_any (B p : Nat) (a : Option Addr) (n c : Nat) (w : World) (hn : n ≤ 1048576) (hc : CodeV w B a n) (hp : B ≤ p) (hcur : Cur w p a n c) :
    Calls Tryz.prog 174 #[.pointer (some ⟨p, 0, none⟩)] w (DrewM w B p a n c fun x => x ∈ finM) := by
  have hps := hcur.lt
  obtain ⟨w1, hw1⟩ : ∃ w1, w1 = w.alloc (.cells #[.string ⟨#[65, 49]⟩, .string ⟨#[65, 50]⟩, .string ⟨#[65, 50]⟩, .string ⟨#[65, 51]⟩, .string ⟨#[65, 51]⟩, .string ⟨#[66, 50]⟩, .string ⟨#[66, 50]⟩, .string ⟨#[66, 51]⟩, .string ⟨#[67, 51]⟩, .string ⟨#[71, 50]⟩] 9) := ⟨_, rfl⟩
  have hb1 : Below w.heap.size w w1 := by rw [hw1]; exact (Below.refl _ _).alloc (Nat.le_refl _) _
  have hcall := spec_l1Pick_any B p a n c w.heap.size 10 finK w1 rfl (by omega) (by omega) hn (hc.below' hb1 (by omega)) hp (hcur.below' hb1 hps) hps (by rw [hw1]; show w.heap.size < (w.heap.push _).size; rw [Array.size_push]; omega) (by rw [hw1]; exact lits_fin w)
  have HT := Lib.hid (fun k (hk : k < 17) W => spec_TypeCartan_ok k hk W)
  rw [hw1] at hcall
  have Hcall := Lib.hid hcall; have Hw1 := Lib.hid hw1
  clear hcall hw1 hc hcur
  go_enter Tryz.func174, Tryz.ntmps174
  go_wp2_with fail
  refine Hcall.out.mono ?_
  rintro e w2 ⟨k, hk, rfl, hcur2, hc2, hO2⟩
  rw [← Hw1.out] at hO2
  have hOn2 : Only p (p + 1) w w2 := Only.trans (Only.of_below p (p + 1) hb1) hO2
  have hs12 : w.heap.size ≤ w2.heap.size := hOn2.size
  have hps2 : p < w2.heap.size := Nat.lt_of_lt_of_le hps hs12
  have hk17 : k < 17 := by revert k; decide
  have hmem : (types17.getD k tyD).2 ∈ finM := List.mem_append_left _ (List.mem_map.2 ⟨k, hk, rfl⟩)
  have hjoin : (types17.getD k tyD).2.length < 3 → joinC (types17.getD k tyD).2 [[2]] ∈ finM := finM_join k hk
  have hisC := finM_isC _ hmem
  have hT := HT.out k hk17 w2
  have HT2 := Lib.hid (show Calls Tryz.prog 120 #[tyStr k] w2 (GotRowsB w2 (types17.getD k tyD).2 true) from hT)
  have Hmem := Lib.hid hmem; have Hjoin := Lib.hid hjoin; have HC := Lib.hid hisC
  clear hT hmem hjoin hisC hO2 Hcall Hw1 hk
  generalize (types17.getD k tyD).2 = X at *
  go_wp2_with fail
  refine HT2.out.mono ?_
  rintro e w3 ⟨g3, c3, rs, rfl, hcon, hO3, hb3⟩
  have hcur3 := hcur2.below' hb3 (by have := hcur2.lt; omega)
  have hc3 := hc2.below' hb3 (by have := hcur2.lt; omega)
  have hOn3 : Only p (p + 1) w w3 := hOn2.below' hb3 hs12
  have hl : X.length = rs.length := by rw [← hcon, contents_length]
  have Hl := Lib.hid hl; have Hcon := Lib.hid hcon
  rw [hl]
  clear hl hcon hcur2 hc2 hOn2 HT2
  obtain ⟨m, hm⟩ : ∃ m, rs.length = m := ⟨_, rfl⟩
  rw [hm]
  have Hm := Lib.hid hm; clear hm
  have hm4 : m ≤ 4 := by rw [← Hm.out, ← Hl.out]; exact HC.out.2.1
  by_cases h3 : m < 3
  · have hmI : (m : Int) < 3 := by omega
    have hcall := spec_l1Once_any B p a n c 4 w3 (by omega) hn hc3 hp hcur3
    have Hcall := Lib.hid hcall
    have hcur3' := hcur3.lt
    clear hcall hc3 hcur3
    go_wp2_with fail
    refine Hcall.out.mono ?_
    rintro e w4 ⟨b, rfl, hcur4, hc4, hO4⟩
    have hp3 : p < w3.heap.size := by have := hcur3'; omega
    have hOn4 : Only p (p + 1) w w4 := Only.trans hOn3 hO4
    have hg34 : g3 < w3.heap.size := hO3.lt
    have hO34 : OwnRows w4 w2.heap.size g3 c3 rs := hO3.only' hO4 hps2
    clear hO4
    cases b with
    | false =>
      go_wp2_with fail
      go_ret
      exact ⟨g3, c3, rs, by rw [Hm.out]; rfl, hO34.mono hs12, by rw [Hcon.out]; exact Hmem.out, hcur4, hc4, hOn4⟩
    | true =>
      have hT := HT.out 0 (by omega) w4
      have HT2 := Lib.hid (show Calls Tryz.prog 120 #[.string ⟨#[65, 49]⟩] w4 (GotRowsB w4 [[2]] true) from hT)
      clear hT
      go_wp2_with fail
      refine HT2.out.mono ?_
      rintro e w5 ⟨g5, c5, rs5, rfl, hcon5, hO5, hb5⟩
      have hcur5 := hcur4.below' hb5 hcur4.lt
      have hc5 := hc4.below' hb5 (by have := hcur4.lt; omega)
      have hOn5 : Only p (p + 1) w w5 := hOn4.below' hb5 hOn4.size
      have hO35 := hO34.below hb5
      have hJ := spec_JoinCartans_ok g3 0 m c3 g5 0 1 c5 X [[2]] w5 (by rw [Hl.out, Hm.out]) rfl HC.out (by decide) (by omega) hO35.lt hO5.lt (by rw [← Hcon.out]; exact hO35.rows2) (by rw [← hcon5]; exact hO5.rows2)
      have HJ := Lib.hid hJ
      have hxl : X.length < 3 := by rw [Hl.out, Hm.out]; exact h3
      have hmj := Hjoin.out hxl
      have Hmj := Lib.hid hmj
      clear hJ hmj HT2 hcur4 hc4 hOn4 hO34 hcon5
      generalize joinC X [[2]] = J at *
      go_wp2_with fail
      refine HJ.out.mono ?_
      rintro e w6 ⟨g6, c6, rs6, rfl, hcon6, hO6, hb6⟩
      have hcur6 := hcur5.below' hb6 hcur5.lt
      have hc6 := hc5.below' hb6 (by have := hcur5.lt; omega)
      have hOn6 : Only p (p + 1) w w6 := hOn5.below' hb6 hOn5.size
      have hl6 : J.length = rs6.length := by rw [← hcon6, contents_length]
      rw [hl6]
      go_wp2_with fail
      go_ret
      exact ⟨g6, c6, rs6, rfl, hO6.mono hOn5.size, by rw [hcon6]; exact Hmj.out, hcur6, hc6, hOn6⟩
  · have hmI : ¬ (m : Int) < 3 := by omega
    go_wp2_with fail
    go_ret
    exact ⟨g3, c3, rs, by rw [Hm.out]; rfl, hO3.mono hs12, by rw [Hcon.out]; exact Hmem.out, hcur3, hc3, hOn3⟩
theorem ty_isC (k : Nat) (hk : k < 17) : IsC (types17.getD k tyD).2 := types_isC' hk
theorem setM_sqr {c : List (List Int)} (h : SqR c) (i j : Nat) (x : Int) : SqR (setM c i j x) := by
  obtain ⟨⟨h1, h2⟩, h3⟩ := h
  refine ⟨by rw [setM_length]; exact ⟨h1, h2⟩, fun k hk => ?_⟩
  rw [setM_length] at hk ⊢
  unfold setM
  by_cases e : i = k
  · subst e
    simp [List.getD, hk]
    have := h3 i hk
    simpa [List.getD, hk] using this
  · have := h3 k hk
    simp only [List.getD] at *
    rw [List.getElem?_set_ne e]
    exact this
set_option maxHeartbeats 4000000 in
theorem spec_l2Infinite_any (B p : Nat) (a : Option Addr) (n c : Nat) (w : World) (hn : n ≤ 1048576) (hc : CodeV w B a n) (hp : B ≤ p) (hcur : Cur w p a n c) :
    Calls Tryz.prog 173 #[.pointer (some ⟨p, 0, none⟩)] w (DrewM w B p a n c SqR) := by
  have hps := hcur.lt
  obtain ⟨w1, hw1⟩ : ∃ w1, w1 = w.alloc (.cells #[.string ⟨#[65, 49, 126]⟩, .string ⟨#[65, 50, 126]⟩, .string ⟨#[67, 50, 126]⟩, .string ⟨#[71, 50, 126]⟩, .string ⟨#[65, 51, 126]⟩, .string ⟨#[68, 52]⟩, .string ⟨#[65, 52]⟩] 9) := ⟨_, rfl⟩
  have hb1 : Below w.heap.size w w1 := by rw [hw1]; exact (Below.refl _ _).alloc (Nat.le_refl _) _
  have hcall := spec_l1Pick_any B p a n c w.heap.size 7 infK w1 rfl (by omega) (by omega) hn (hc.below' hb1 (by omega)) hp (hcur.below' hb1 hps) hps (by rw [hw1]; show w.heap.size < (w.heap.push _).size; rw [Array.size_push]; omega) (by rw [hw1]; exact lits_inf w)
  have HT := Lib.hid (fun k (hk : k < 17) W => spec_TypeCartan_ok k hk W)
  rw [hw1] at hcall
  have Hcall := Lib.hid hcall; have Hw1 := Lib.hid hw1
  clear hcall hw1 hc hcur
  go_enter Tryz.func173, Tryz.ntmps173
  go_wp2_with fail
  refine Hcall.out.mono ?_
  rintro e w2 ⟨k, hk, rfl, hcur2, hc2, hO2⟩
  rw [← Hw1.out] at hO2
  have hOn2 : Only p (p + 1) w w2 := Only.trans (Only.of_below p (p + 1) hb1) hO2
  have hs12 : w.heap.size ≤ w2.heap.size := hOn2.size
  have hps2 : p < w2.heap.size := Nat.lt_of_lt_of_le hps hs12
  have hk17 : k < 17 := by revert k; decide
  have hsq := isC_sqr (ty_isC k hk17)
  have HT2 := Lib.hid (show Calls Tryz.prog 120 #[tyStr k] w2 (GotRowsB w2 (types17.getD k tyD).2 true) from HT.out k hk17 w2)
  have HSq := Lib.hid hsq
  clear hsq hO2 Hcall Hw1 hk hk17 HT
  generalize (types17.getD k tyD).2 = X at *
  go_wp2_with fail
  refine HT2.out.mono ?_
  rintro e w3 ⟨g3, c3, rs, rfl, hcon, hO3, hb3⟩
  have hcur3 := hcur2.below' hb3 (by have := hcur2.lt; omega)
  have hc3 := hc2.below' hb3 (by have := hcur2.lt; omega)
  have hOn3 : Only p (p + 1) w w3 := hOn2.below' hb3 hs12
  have hl : X.length = rs.length := by rw [← hcon, contents_length]
  have Hl := Lib.hid hl; have Hcon := Lib.hid hcon
  rw [hl]
  clear hl hcon hcur2 hc2 hOn2 HT2
  obtain ⟨m, hm⟩ : ∃ m, rs.length = m := ⟨_, rfl⟩
  rw [hm]
  have Hm := Lib.hid hm; clear hm
  have hm4 : m ≤ 4 := by rw [← Hm.out, ← Hl.out]; exact HSq.out.1.2
  have hm1 : 1 ≤ m := by rw [← Hm.out, ← Hl.out]; exact HSq.out.1.1
  have Hcall := Lib.hid (spec_l1Once_any B p a n c 3 w3 (by omega) hn hc3 hp hcur3)
  have hcur3' := hcur3.lt
  clear hc3 hcur3
  go_wp2_with fail
  refine Hcall.out.mono ?_
  rintro e w4 ⟨b, rfl, hcur4, hc4, hO4⟩
  have hOn4 : Only p (p + 1) w w4 := Only.trans hOn3 hO4
  have hO34 : OwnRows w4 w2.heap.size g3 c3 rs := hO3.only' hO4 hps2
  clear hO4 hO3 hOn3
  cases b with
  | false =>
    go_wp2_with fail
    go_ret
    exact ⟨g3, c3, rs, by rw [Hm.out]; rfl, hO34.mono hs12, by rw [Hcon.out]; exact HSq.out, hcur4, hc4, hOn4⟩
  | true =>
    have Hc1 := Lib.hid (spec_l1Below_any B p a n c m w4 (by omega) hn hc4 hp hcur4)
    clear hc4 hcur4
    go_wp2_with fail
    refine Hc1.out.mono ?_
    rintro e w5 ⟨i, hi, rfl, hcur5, hc5, hO5⟩
    have hOn5 : Only p (p + 1) w w5 := Only.trans hOn4 hO5
    have hO35 : OwnRows w5 w2.heap.size g3 c3 rs := hO34.only' hO5 hps2
    have Hc2 := Lib.hid (spec_l1Below_any B p a n c m w5 (by omega) hn hc5 hp hcur5)
    clear hO5 hO34 hOn4 hcur5 hc5
    go_wp2_with fail
    refine Hc2.out.mono ?_
    rintro e w6 ⟨j, hj, rfl, hcur6, hc6, hO6⟩
    have hOn6 : Only p (p + 1) w w6 := Only.trans hOn5 hO6
    have hO36 : OwnRows w6 w2.heap.size g3 c3 rs := hO35.only' hO6 hps2
    clear hO6 hO35 hOn5
    by_cases hij : i = j
    · subst hij
      go_wp2_with fail
      go_ret
      exact ⟨g3, c3, rs, by rw [Hm.out]; rfl, hO36.mono hs12, by rw [Hcon.out]; exact HSq.out, hcur6, hc6, hOn6⟩
    · have hijI : (i != j) = true := by simp [hij]
      obtain ⟨i', rfl⟩ : ∃ i' : Nat, i = i' := ⟨i.toNat, by omega⟩
      obtain ⟨j', rfl⟩ : ∃ j' : Nat, j = j' := ⟨j.toNat, by omega⟩
      have hij' : i' ≠ j' := fun e => hij (by rw [e])
      have Hc3 := Lib.hid (spec_l1Below_any B p a n c 3 w6 (by omega) hn hc6 hp hcur6)
      clear hcur6 hc6
      go_wp2_with fail
      refine Hc3.out.mono ?_
      rintro e w7 ⟨x, hx, rfl, hcur7, hc7, hO7⟩
      have hOn7 : Only p (p + 1) w w7 := Only.trans hOn6 hO7
      have hO37 : OwnRows w7 w2.heap.size g3 c3 rs := hO36.only' hO7 hps2
      have e1 : IntKind.i64.wrap (-1 - x) = -1 - x := IntWalk.i64_in _ (by omega)
      have Hc4 := Lib.hid (spec_l1Below_any B p a n c 3 w7 (by omega) hn hc7 hp hcur7)
      clear hO7 hO36 hOn6 hcur7 hc7
      go_wp2_with fail
      refine Hc4.out.mono ?_
      rintro e w8 ⟨y, hy, rfl, hcur8, hc8, hO8⟩
      have hOn8 : Only p (p + 1) w w8 := Only.trans hOn7 hO8
      have hO38 : OwnRows w8 w2.heap.size g3 c3 rs := hO37.only' hO8 hps2
      have e2 : IntKind.i64.wrap (-1 - y) = -1 - y := IntWalk.i64_in _ (by omega)
      have hS := spec_l2Set_ok g3 0 m c3 i' j' (-1 - x) (-1 - y) X w8 (by rw [Hl.out, Hm.out]) hm4 (fun k hk => by rw [HSq.out.2 k hk, Hl.out, Hm.out]) (by omega) (by omega) hij' hO38.lt (by rw [← Hcon.out]; exact hO38.rows2)
      have HS := Lib.hid hS
      clear hO8 hO37 hOn7 hS
      go_wp2_with fail
      refine HS.out.mono ?_
      rintro e w9 ⟨g9, c9, rs9, rfl, hcon9, hO9, hb9⟩
      have hcur9 := hcur8.below' hb9 hcur8.lt
      have hc9 := hc8.below' hb9 (by have := hcur8.lt; omega)
      have hOn9 : Only p (p + 1) w w9 := hOn8.below' hb9 hOn8.size
      have hsq9 : SqR (contents rs9) := by rw [hcon9]; exact setM_sqr (setM_sqr HSq.out _ _ _) _ _ _
      have Hsq9 := Lib.hid hsq9
      have hl9 : (setM (setM X i' j' (-1 - x)) j' i' (-1 - y)).length = rs9.length := by rw [← hcon9, contents_length]
      rw [hl9]
      clear hcon9 hsq9 hl9
      go_wp2_with fail
      go_ret
      exact ⟨g9, c9, rs9, rfl, hO9.mono hOn8.size, Hsq9.out, hcur9, hc9, hOn9⟩
set_option maxHeartbeats 1000000 in
theorem spec_l2Drawn_any (B p : Nat) (a : Option Addr) (n c : Nat) (w : World) (hn : n ≤ 1048576) (hc : CodeV w B a n) (hp : B ≤ p) (hcur : Cur w p a n c) :
    Calls Tryz.prog 152 #[.pointer (some ⟨p, 0, none⟩)] w (DrewM w B p a n c SqR) := by
  have Hcall := Lib.hid (spec_l1Once_any B p a n c 3 w (by omega) hn hc hp hcur)
  clear hc hcur
  go_enter Tryz.func152, Tryz.ntmps152
  go_wp2_with fail
  refine Hcall.out.mono ?_
  rintro e w1 ⟨b, rfl, hcur1, hc1, hO1⟩
  cases b with
  | false =>
    have HC := Lib.hid (spec_l2Finite_any B p a n c w1 hn hc1 hp hcur1)
    clear hc1 hcur1
    go_wp2_with fail
    refine HC.out.mono ?_
    rintro e w2 ⟨g, cap, rs, rfl, ho, hm, hcur2, hc2, hO2⟩
    have Hm := Lib.hid (isC_sqr (finM_isC _ hm))
    clear hm
    go_wp2_with fail
    go_ret
    exact ⟨g, cap, rs, rfl, ho.mono hO1.size, Hm.out, hcur2, hc2, Only.trans hO1 hO2⟩
  | true =>
    have HC := Lib.hid (spec_l2Infinite_any B p a n c w1 hn hc1 hp hcur1)
    clear hc1 hcur1
    go_wp2_with fail
    refine HC.out.mono ?_
    rintro e w2 ⟨g, cap, rs, rfl, ho, hm, hcur2, hc2, hO2⟩
    have Hm := Lib.hid hm
    clear hm
    go_wp2_with fail
    go_ret
    exact ⟨g, cap, rs, rfl, ho.mono hO1.size, Hm.out, hcur2, hc2, Only.trans hO1 hO2⟩
/-- a matrix that is read: few short rows, all of blocks from B on -/
structure MatR (w : World) (B g cap : Nat) (rows : List (List Int)) : Prop where
  base : B ≤ g
  lt : g < w.heap.size
  capLe : rows.length ≤ cap
  few : rows.length ≤ 5
  row : ∀ j, j < rows.length → ∃ gj oj cj, w.cell? ⟨g, j, none⟩ = some (Value.slice (some ⟨gj, oj, none⟩) ((rows.getD j []).length) cj) ∧ (rows.getD j []).length ≤ cj ∧ B ≤ gj ∧ gj < w.heap.size ∧ Cells w gj oj (rows.getD j []) ∧ (rows.getD j []).length ≤ 5
theorem MatR.rows2 {w : World} {B g cap : Nat} {rows : List (List Int)} (h : MatR w B g cap rows) : Rows2 w g 0 rows := fun j hj => by
  obtain ⟨gj, oj, cj, h1, h2, -, h4, h5, -⟩ := h.row j hj
  exact ⟨gj, oj, cj, by rw [Nat.zero_add]; exact h1, h2, h4, h5⟩
theorem MatR.rl {w : World} {B g cap : Nat} {rows : List (List Int)} (h : MatR w B g cap rows) : ∀ j, j < rows.length → (rows.getD j []).length ≤ 1048576 := fun j hj => by
  obtain ⟨_, _, _, _, _, _, _, _, h6⟩ := h.row j hj
  omega
theorem MatR.of_same {w w' : World} {B g cap : Nat} {rows : List (List Int)} (h : MatR w B g cap rows) (hz : w.heap.size ≤ w'.heap.size) (hs : ∀ k, B ≤ k → k < w.heap.size → w'.heap[k]? = w.heap[k]?) : MatR w' B g cap rows :=
  ⟨h.base, Nat.lt_of_lt_of_le h.lt hz, h.capLe, h.few, fun j hj => by
    obtain ⟨gj, oj, cj, h1, h2, h3, h4, h5, h6⟩ := h.row j hj
    exact ⟨gj, oj, cj, (World.cell?_of_block (a := ⟨g, j, none⟩) (hs g h.base h.lt)).trans h1, h2, h3, Nat.lt_of_lt_of_le h4 hz, fun i hi => (World.cell?_of_block (a := ⟨gj, oj + i, none⟩) (hs gj h3 h4)).trans (h5 i hi), h6⟩⟩
theorem MatR.only {w w' : World} {B p g cap : Nat} {rows : List (List Int)} (h : MatR w B g cap rows) (k : Only p (p + 1) w w') (hp : p < B) : MatR w' B g cap rows :=
  h.of_same k.size fun j h1 h2 => k.block j h2 (.inr (by omega))
theorem MatR.below {w w' : World} {B g cap : Nat} {rows : List (List Int)} (h : MatR w B g cap rows) (k : Below w.heap.size w w') : MatR w' B g cap rows :=
  h.of_same k.size fun j _ h2 => k.block j h2
theorem MatR.mono {w : World} {B B' g cap : Nat} {rows : List (List Int)} (h : MatR w B g cap rows) (hB : B' ≤ B) : MatR w B' g cap rows :=
  ⟨Nat.le_trans hB h.base, h.lt, h.capLe, h.few, fun j hj => by
    obtain ⟨gj, oj, cj, h1, h2, h3, h4, h5, h6⟩ := h.row j hj
    exact ⟨gj, oj, cj, h1, h2, Nat.le_trans hB h3, h4, h5, h6⟩⟩
theorem MatR.of_own {w : World} {B g cap : Nat} {rs : List RowRef} (h : OwnRows w B g cap rs) (h5 : rs.length ≤ 5) (hl : ∀ j, j < (contents rs).length → ((contents rs).getD j []).length ≤ 5) : MatR w B g cap (contents rs) := by
  refine ⟨h.base, h.lt, by rw [contents_length]; exact h.capLe, by rw [contents_length]; exact h5, fun j hj => ?_⟩
  have hl5 := hl j hj
  have hj' : j < rs.length := by rw [← contents_length]; exact hj
  have hcl : (contents rs).getD j [] = rs[j].2.2 := by simp [contents, List.getD, hj']
  have ho := h.2.1 rs[j] (List.getElem_mem _)
  rw [hcl] at hl5 ⊢
  refine ⟨rs[j].1, 0, rs[j].2.1, ?_, ho.capLe, ho.base, ho.lt, ho.cells, hl5⟩
  rw [h.1.cell j (by simpa using hj')]
  simp [rowVal]
theorem OwnRows.put2 {w : World} {B g cap : Nat} {rs : List RowRef} (h : OwnRows w B g cap rs) {i : Nat} {r : RowRef} (hr : Own w B r.1 r.2.1 r.2.2) (hn : ∀ s ∈ rs, s.1 ≠ r.1) :
    OwnRows (w.setCell ⟨g, i, none⟩ (rowVal r)) B g cap (rs.set i r) ∧ w.grownBy (w.setCell ⟨g, i, none⟩ (rowVal r)) (some g) := by
  have s1 := h.1.set i (rowVal r)
  have hk : ∀ s : RowRef, Own w B s.1 s.2.1 s.2.2 → Own (w.setCell ⟨g, i, none⟩ (rowVal r)) B s.1 s.2.1 s.2.2 := fun s hs => hs.grown s1.2 (fun e => h.1.ne hs.toV (by decide) (Option.some.inj e).symm)
  refine ⟨⟨by rw [List.map_set]; exact s1.1, fun s hs => ?_, ?_⟩, s1.2⟩
  · rcases List.mem_or_eq_of_mem_set hs with q | q
    · exact hk s (h.2.1 s q)
    · rw [q]; exact hk r hr
  · rw [List.map_set]
    have hp := List.pairwise_iff_getElem.1 h.2.2
    refine List.pairwise_iff_getElem.2 fun x y hx hy hxy => ?_
    simp only [List.length_set] at hx hy
    have hx' : x < rs.length := by simpa using hx
    have hy' : y < rs.length := by simpa using hy
    simp only [List.getElem_set, List.getElem_map]
    by_cases h1 : i = x
    · rw [if_pos h1, if_neg (show ¬ i = y by omega)]
      exact fun e => hn _ (List.getElem_mem hy') e.symm
    · rw [if_neg h1]
      by_cases h2 : i = y
      · rw [if_pos h2]; exact hn _ (List.getElem_mem hx')
      · rw [if_neg h2]
        have := hp x y hx hy hxy
        simpa using this
def DrewA (w : World) (B p : Nat) (a : Option Addr) (n c : Nat) (e : Ending) (w' : World) : Prop :=
  ∃ (g cap : Nat) (rows : List (List Int)), e = .returned (Value.slice (some ⟨g, 0, none⟩) rows.length cap) ∧ MatR w' w.heap.size g cap rows ∧ Cur w' p a n c ∧ CodeV w' B a n ∧ Only p (p + 1) w w'
theorem sqr_five {rows : List (List Int)} (h : SqR rows) : ∀ j, j < rows.length → (rows.getD j []).length ≤ 5 := fun j hj => by have := h.2 j hj; have := h.1.2; omega
set_option maxHeartbeats 1000000 in
theorem spec_l1PickInt_any (B p : Nat) (a : Option Addr) (n c g m : Nat) (vs : List Int) (w : World) (hm : vs.length = m) (h1 : 1 ≤ m) (h256 : m ≤ 256) (hn : n ≤ 1048576) (hc : CodeV w B a n) (hp : B ≤ p) (hcur : Cur w p a n c) (hpg : p < g) (hg : g < w.heap.size)
    (hs : Cells w g 0 vs) :
    Calls Tryz.prog 153 #[.pointer (some ⟨p, 0, none⟩), (Value.slice (some ⟨g, 0, none⟩) m m)] w fun e w' => ∃ x : Int, e = .returned (.int .i64 x) ∧ Cur w' p a n c ∧ CodeV w' B a n ∧ Only p (p + 1) w w' := by
  have hcall := spec_l1Below_any B p a n c m w (by omega) hn hc hp hcur
  have Hcall := Lib.hid hcall; have Hs := Lib.hid hs; have Hm := Lib.hid hm
  clear hcall hs hc hcur hm
  go_enter Tryz.func153, Tryz.ntmps153
  go_wp2_with fail
  refine Hcall.out.mono ?_
  rintro e w1 ⟨x, hx, rfl, hcur, hc, hO⟩
  obtain ⟨j, rfl⟩ : ∃ j : Nat, x = j := ⟨x.toNat, by omega⟩
  have hj : j < m := by omega
  have hq : w1.cell? ⟨g, j, none⟩ = some (.int .i64 (vs.getD j 0)) := by
    have := (World.cell?_of_block (a := ⟨g, 0 + j, none⟩) (hO.block g hg (.inr (by omega)))).trans (Hs.out j (by rw [Hm.out]; exact hj))
    rwa [Nat.zero_add] at this
  generalize vs.getD j 0 = k at *
  clear hx
  go_wp2_with fail
  go_ret
  exact ⟨k, rfl, hcur, hc, hO⟩
end Go.Proofs.YtdedkfbiookofaaGreatDoor
namespace Go.Proofs.YtdedkfbiookofaaGreatDoor
set_option maxRecDepth 100000
open Go.RowKit
theorem MatR.cutRow {w : World} {B g cap m i : Nat} {rs : List RowRef} (P : OwnRows w B g cap rs) (hl : rs.length = m) (hm4 : m ≤ 4) (hr : ∀ j, j < m → ((contents rs).getD j []).length = m) (hi : i < m) (g4 o4 c' : Nat) (Y : List Int)
    (hY : Y.length ≤ 5) (hYc : Y.length ≤ c') (hg4 : B ≤ g4) (hg4l : g4 < w.heap.size) (hne : g4 ≠ g) (hc : Cells w g4 o4 Y) :
    MatR (w.setCell ⟨g, i, none⟩ (Value.slice (some ⟨g4, o4, none⟩) Y.length c')) B g cap ((contents rs).set i Y) := by
  have hz : (w.setCell ⟨g, i, none⟩ (Value.slice (some ⟨g4, o4, none⟩) Y.length c')).heap.size = w.heap.size := by simp [World.setCell]
  have hb : ∀ k, k ≠ g → (w.setCell ⟨g, i, none⟩ (Value.slice (some ⟨g4, o4, none⟩) Y.length c')).heap[k]? = w.heap[k]? := fun k hk => Below.heap_setCell w ⟨g, i, none⟩ _ k hk
  have s1 := P.1.set i (Value.slice (some ⟨g4, o4, none⟩) Y.length c')
  have hcl : (contents rs).length = m := by rw [contents_length]; exact hl
  refine ⟨P.base, by rw [hz]; exact P.lt, by rw [List.length_set, hcl]; have := P.capLe; omega, by rw [List.length_set, hcl]; omega, fun j hj => ?_⟩
  rw [List.length_set, hcl] at hj
  have hjr : j < rs.length := by omega
  have hcell := s1.1.cell j (by rw [List.length_set, List.length_map]; exact hjr)
  by_cases e : i = j
  · subst e
    have e2 : ((contents rs).set i Y).getD i [] = Y := by simp [List.getD, hcl, hi]
    rw [e2]
    refine ⟨g4, o4, c', ?_, hYc, hg4, by rw [hz]; exact hg4l, fun t ht => (World.cell?_of_block (a := ⟨g4, o4 + t, none⟩) (hb g4 hne)).trans (hc t ht), hY⟩
    rw [hcell]
    simp
  · have e2 : ((contents rs).set i Y).getD j [] = (contents rs).getD j [] := by simp only [List.getD]; rw [List.getElem?_set_ne e]
    have ho := P.2.1 rs[j] (List.getElem_mem _)
    have hgj : rs[j].1 ≠ g := fun h => P.1.ne ho.toV (by decide) h.symm
    have e3 : (contents rs).getD j [] = rs[j].2.2 := by simp [contents, List.getD, hjr]
    have hlj := hr j hj
    rw [e2]
    rw [e3] at hlj ⊢
    refine ⟨rs[j].1, 0, rs[j].2.1, ?_, ho.capLe, ho.base, by rw [hz]; exact ho.lt, fun t ht => (World.cell?_of_block (a := ⟨rs[j].1, 0 + t, none⟩) (hb _ hgj)).trans (ho.cells t ht), by omega⟩
    rw [hcell, List.getElem_set_ne e]
    simp [rowVal]
set_option maxHeartbeats 4000000 in
theorem spec_l2Any_any (B p : Nat) (a : Option Addr) (n c : Nat) (w : World) (hn : n ≤ 1048576) (hc : CodeV w B a n) (hp : B ≤ p) (hcur : Cur w p a n c) :
    Calls Tryz.prog 123 #[.pointer (some ⟨p, 0, none⟩)] w (DrewA w B p a n c) := by
  have hps := hcur.lt
  have Hcall := Lib.hid (spec_l2Drawn_any B p a n c w hn hc hp hcur)
  clear hc hcur
  go_enter Tryz.func123, Tryz.ntmps123
  go_wp2_with fail
  refine Hcall.out.mono ?_
  rintro e w1 ⟨g, cap, rs, rfl, hO1, hsq, hcur1, hc1, hOn1⟩
  have Hsq := Lib.hid hsq
  have hs1 := hOn1.size
  have hm4 : rs.length ≤ 4 := by have := hsq.1.2; rwa [contents_length] at this
  have hm1 : 1 ≤ rs.length := by have := hsq.1.1; rwa [contents_length] at this
  have Hon := Lib.hid (spec_l1Once_any B p a n c 12 w1 (by omega) hn hc1 hp hcur1)
  clear hsq hc1 hcur1 Hcall
  go_wp2_with fail
  refine Hon.out.mono ?_
  rintro e w2 ⟨b, rfl, hcur2, hc2, hO2⟩
  have hOn2 : Only p (p + 1) w w2 := Only.trans hOn1 hO2
  have hR2 : OwnRows w2 w.heap.size g cap rs := hO1.only' hO2 hps
  clear hO1 hO2 hOn1 Hon
  cases b with
  | false =>
    have hM := MatR.of_own hR2 (by omega) (sqr_five Hsq.out)
    have HM := Lib.hid hM
    clear hM
    go_wp2_with fail
    go_ret
    exact ⟨g, cap, contents rs, by rw [contents_length]; rfl, HM.out, hcur2, hc2, hOn2⟩
  | true =>
    have Hb := Lib.hid (spec_l1Below_any B p a n c rs.length w2 (by omega) hn hc2 hp hcur2)
    clear hc2 hcur2
    go_wp2_with fail
    refine Hb.out.mono ?_
    rintro e w3 ⟨i0, hi, rfl, hcur3, hc3, hO3⟩
    obtain ⟨i, rfl⟩ : ∃ i : Nat, i0 = i := ⟨i0.toNat, by omega⟩
    have hi : i < rs.length := by omega
    have hOn3 : Only p (p + 1) w w3 := Only.trans hOn2 hO3
    have hR3 : OwnRows w3 w.heap.size g cap rs := hR2.only' hO3 hps
    clear hO3 hR2 hOn2 Hb
    -- the row is cloned
    have hrow := hR3.2.1 rs[i] (List.getElem_mem _)
    have hq : w3.cell? ⟨g, i, none⟩ = some (rowVal rs[i]) := by rw [hR3.1.cell i (by simpa using hi)]; simp
    have hfz := hR3.1.frozen i
    have hlen : rs[i].2.2.length = rs.length := by
      have := Hsq.out.2 i (by rw [contents_length]; exact hi)
      simp [contents, List.getD, hi] at this
      exact this
    obtain ⟨gr, cr, R, hRi⟩ : ∃ gr cr R, rs[i] = (gr, cr, R) := ⟨_, _, _, rfl⟩
    rw [hRi] at hrow hq hlen
    simp only at hrow hlen
    obtain ⟨m, hm⟩ : ∃ m, rs.length = m := ⟨_, rfl⟩
    rw [hm] at hlen
    have hq' : w3.cell? ⟨g, i, none⟩ = some (Value.slice (some ⟨gr, 0, none⟩) m cr) := by rw [hq]; unfold rowVal; simp only [hlen]
    have hE := (Below.refl w3.heap.size w3).alloc (Nat.le_refl _) (.cells #[] 3)
    have q1' := (hE.cell (p := ⟨g, i, none⟩) hR3.lt).trans hq'
    have Hm := Lib.hid hm; have Hlen := Lib.hid hlen; have HRi := Lib.hid hRi
    rw [hm] at hm4 hm1 hi
    rw [hm]
    have hmI : (i : Int) < (m : Int) := by omega
    clear hq hE hm hlen hRi
    go_wp2_with (at_builtin; refine wpList_clone rfl _ _ rfl gr 0 m cr R Hlen.out hrow.lt hrow.cells rfl rfl (by rw [Hlen.out]; omega) ?_)
    intro g4 c4 w4 ho4 hb4
    have hR4 := hR3.below hb4
    have hcur4 := hcur3.below' hb4 hcur3.lt
    have hc4 := hc3.below' hb4 (by have := hcur3.lt; omega)
    have hOn4 : Only p (p + 1) w w4 := hOn3.below' hb4 hOn3.size
    have hne4 : ∀ s ∈ rs, s.1 ≠ g4 := fun s hs e => by have h1 := (hR3.2.1 s hs).lt; have h2 := ho4.base; omega
    have ho4' := ho4.mono hOn3.size
    have x0 := hR4.1.cell i (by simp [Hm.out]; exact hi)
    have y0 := hR4.1.frozen i
    have P := hR4.put2 (i := i) (r := (g4, c4, R)) ho4' hne4
    have hrv : rowVal (g4, c4, R) = (Value.slice (some ⟨g4, 0, none⟩) m c4) := by unfold rowVal; rw [Hlen.out]
    rw [hrv] at P
    have hg4w : w.heap.size ≤ g := hR4.base
    have hgp : p < g := by omega
    have hOn5 : Only p (p + 1) w (w4.setCell ⟨g, i, none⟩ (Value.slice (some ⟨g4, 0, none⟩) m c4)) := Only.grown hOn4 P.2 hg4w
    have hcur5 := hcur4.grown P.2 hgp
    have hc5 := hc4.grown P.2 (by omega)
    obtain ⟨P1, -⟩ := P
    have HL5 : Hid ((rs.set i (g4, c4, R)).length = m) := Lib.hid (by rw [List.length_set]; exact Hm.out)
    have HC5 : Hid (∀ j, j < m → ((contents (rs.set i (g4, c4, R))).getD j []).length = m) := Lib.hid (fun j hj => by
      have e : contents (rs.set i (g4, c4, R)) = contents rs := by
        unfold contents
        rw [List.map_set]
        have hil : i < rs.length := by rw [Hm.out]; exact hi
        have e2 : (rs.map fun r => r.2.2)[i]? = some R := by rw [List.getElem?_map, List.getElem?_eq_getElem hil, HRi.out]; rfl
        apply List.ext_getElem?
        intro t
        by_cases ht : i = t
        · subst ht; rw [List.getElem?_set_self (by simpa using hil), e2]
        · rw [List.getElem?_set_ne ht]
      rw [e]
      have := Hsq.out.2 j (by rw [contents_length, Hm.out]; exact hj)
      rw [this, contents_length, Hm.out])
    obtain ⟨w5, hw5⟩ : ∃ w5, w5 = w4.setCell ⟨g, i, none⟩ (Value.slice (some ⟨g4, 0, none⟩) m c4) := ⟨_, rfl⟩
    rw [← hw5] at P1 hOn5 hcur5 hc5
    have Hw5 := Lib.hid hw5
    generalize hrs5 : rs.set i (g4, c4, R) = rs5 at *
    clear hw5 hR4 hcur4 hc4 hOn4 hR3 hcur3 hc3 hOn3 hb4 ho4 hrow q1' hq' hrv hne4
    have HR5 : Hid (∀ h : i < rs5.length, rs5[i] = (g4, c4, R)) := Lib.hid (fun h => by subst hrs5; simp)
    clear hrs5
    have Ht := Lib.hid (spec_l1Below_any B p a n c 3 w5 (by omega) hn hc5 hp hcur5)
    clear hc5 hcur5
    go_wp2_with fail
    clear x0 y0
    rw [← Hw5.out]
    refine Ht.out.mono ?_
    rintro e w6 ⟨t, ht, rfl, hcur6, hc6, hO6⟩
    have hOn6 : Only p (p + 1) w w6 := Only.trans hOn5 hO6
    have P6 : OwnRows w6 w.heap.size g cap rs5 := P1.only' hO6 hps
    clear hO6 P1 hOn5 Ht Hw5 Hsq HRi
    have hi5 : i < rs5.length := by rw [HL5.out]; exact hi
    have hri := HR5.out hi5
    have hrow := P6.2.1 rs5[i] (List.getElem_mem _)
    have hcell : w6.cell? ⟨g, i, none⟩ = some (Value.slice (some ⟨g4, 0, none⟩) m c4) := by
      rw [P6.1.cell i (by simpa using hi5)]
      simp only [List.getElem_map, hri]
      unfold rowVal
      rw [Hlen.out]
    have hfz6 := P6.1.frozen i
    rw [hri] at hrow
    simp only at hrow
    have hgl := P6.lt
    have hMat : ∀ (w' : World) (rs' : List RowRef), OwnRows w' w.heap.size g cap rs' → (contents rs').length = m → (∀ j, j < m → ((contents rs').getD j []).length = m) → MatR w' w.heap.size g cap (contents rs') := fun w' rs' h hl hr => MatR.of_own h (by rw [contents_length] at hl; omega) (fun j hj => by have := hr j (by rw [← hl]; exact hj); omega)
    have ht3 : t = 0 ∨ t = 1 ∨ t = 2 := by omega
    rcases ht3 with rfl | rfl | rfl
    · -- a number is spoiled
      obtain ⟨gr2, cr2, -, hbr, hlr, hner, hcr, hcl, hset⟩ := P6.setMat rfl i (by rw [contents_length]; exact hi5)
      have e1 : (gr2 : Nat) = g4 ∧ cr2 = c4 := by
        have := hcr.symm.trans hcell
        simp at this
        exact ⟨this.1, this.2.2⟩
      obtain ⟨rfl, rfl⟩ := e1
      have hz := hcl 0 (by rw [HC5.out i hi]; omega)
      generalize ((contents rs5).getD i []).getD 0 0 = z0 at *
      have hg4p : p < gr2 := by omega
      have K : ∀ W : World, w6.heap.size ≤ W.heap.size → (∀ k, k < w6.heap.size → (k < p ∨ p + 1 ≤ k) → W.heap[k]? = w6.heap[k]?) → (W.cell? ⟨g, i, none⟩ = some (Value.slice (some ⟨gr2, 0, none⟩) m cr2) ∧ W.cell? ⟨gr2, 0, none⟩ = some (.int .i64 z0) ∧ W.frozen? ⟨gr2, 0, none⟩ = false) := fun W _ hs =>
        ⟨(World.cell?_of_block (a := ⟨g, i, none⟩) (hs g hgl (.inr (by omega)))).trans hcell, (World.cell?_of_block (a := ⟨gr2, 0, none⟩) (hs gr2 hlr (.inr (by omega)))).trans hz.1, (World.frozen?_of_block (a := ⟨gr2, 0, none⟩) (hs gr2 hlr (.inr (by omega)))).trans hz.2⟩
      have BA : Below w6.heap.size w6 (w6.drew.alloc (.cells #[.int .i64 (-4), .int .i64 1, .int .i64 0, .int .i64 2] 3)) := (Below.drew (Below.refl _ _)).alloc (Nat.le_refl _) _
      have hcurA := hcur6.below' BA hcur6.lt
      have hcA := hc6.below' BA (by have := hcur6.lt; omega)
      have HpI := Lib.hid (spec_l1PickInt_any B p a n c w6.heap.size 4 [-4, 1, 0, 2] _ rfl (by omega) (by omega) hn hcA hp hcurA hcur6.lt (by show w6.heap.size < (w6.heap.push _).size; rw [Array.size_push]; omega) (fun j hj => by
        have : j = 0 ∨ j = 1 ∨ j = 2 ∨ j = 3 := by simp at hj; omega
        rcases this with rfl | rfl | rfl | rfl <;> exact (cell_of_cells (heap_alloc_new w6.drew _) _).trans rfl))
      have k0 := K w6.drew (Nat.le_refl _) (fun _ _ _ => rfl)
      have kA := K _ BA.size (fun k hk _ => BA.block k hk)
      have kB : ∀ W, Only p (p + 1) (w6.drew.alloc (.cells #[.int .i64 (-4), .int .i64 1, .int .i64 0, .int .i64 2] 3)) W → (W.cell? ⟨g, i, none⟩ = some (Value.slice (some ⟨gr2, 0, none⟩) m cr2) ∧ W.cell? ⟨gr2, 0, none⟩ = some (.int .i64 z0) ∧ W.frozen? ⟨gr2, 0, none⟩ = false) := fun W hW =>
        K W (Nat.le_trans BA.size hW.size) (fun k hk hd => (hW.block k (Nat.lt_of_lt_of_le hk BA.size) hd).trans (BA.block k hk))
      have HBA := Lib.hid BA
      have hm0I : (0 : Int) < (m : Int) := by omega
      have hm0N : 0 < m := by omega
      have hm0D : decide (0 < m) = true := decide_eq_true hm0N
      have kS : ∀ (W : World) (v : Value), W.cell? ⟨g, i, none⟩ = some (Value.slice (some ⟨gr2, 0, none⟩) m cr2) → (W.setCell ⟨gr2, 0, none⟩ v).cell? ⟨g, i, none⟩ = some (Value.slice (some ⟨gr2, 0, none⟩) m cr2) := fun W v h => (World.cell?_of_block (a := ⟨g, i, none⟩) (Below.heap_setCell W ⟨gr2, 0, none⟩ v g hner)).trans h
      clear hcurA hcA BA hz K
      go_wp2_with fail
      go_region_held3 (fun W => W.cell? ⟨g, i, none⟩ = some (Value.slice (some ⟨gr2, 0, none⟩) m cr2))
        (first | exact k0.1 | exact kA.1 | exact (kB _ hOA).1 | exact kS _ _ (kB _ hOA).1)
        (first | (go_at_call 153; refine HpI.out.mono ?_; rintro e w7 ⟨x, rfl, hcur7, hc7, hOA⟩; obtain ⟨f1, f2, f3⟩ := kB _ hOA))
      have hb7 : Only p (p + 1) w6 w7 := Only.trans (Only.of_below p (p + 1) HBA.out) hOA
      have P7 : OwnRows w7 w.heap.size g cap rs5 := (P6.below HBA.out).only' hOA hps
      obtain ⟨gr3, cr3, -, hbr3, hlr3, hner3, hcr3, hcl3, hset3⟩ := P7.setMat rfl i (by rw [contents_length]; exact hi5)
      have e3 : gr3 = gr2 := by
        have := hcr3.symm.trans f1
        simp at this
        exact this.1
      subst e3
      obtain ⟨rs8, -, hcon8, hl8, hO8, hg8⟩ := hset3 0 x
      have hcur8 := hcur7.grown hg8 hg4p
      have hc8 := hc7.grown hg8 (by omega)
      have hOn8 : Only p (p + 1) w (w7.setCell ⟨gr3, 0, none⟩ (.int .i64 x)) := Only.grown (Only.trans hOn6 hb7) hg8 hbr
      have hM := hMat _ rs8 hO8 (by rw [hcon8, setM_length, contents_length, HL5.out]) (fun j hj => by
        rw [hcon8]
        unfold setM
        by_cases e : i = j
        · subst e
          have := HC5.out i hi
          simp [List.getD, contents_length, hi5] at this ⊢
          exact this
        · have := HC5.out j hj
          simp only [List.getD] at this ⊢
          rw [List.getElem?_set_ne e]; exact this)
      have HM := Lib.hid hM
      have hlen8 : (contents rs8).length = m := by rw [contents_length, hl8, HL5.out]
      have Hlen8 := Lib.hid hlen8
      clear hM hlen8 hset3 hcl3 f1 f2 f3 k0 kA kB kS hO8 hset hcl P7
      go_wp2_with fail
      go_ret
      exact ⟨g, cap, contents rs8, by rw [Hlen8.out]; rfl, HM.out, hcur8, hc8, hOn8⟩
    · -- a row is cut
      have x0 := hcell
      have b1 : (1 : Int) ≤ (m : Int) := by omega
      have b2 : (m : Int) ≤ (c4 : Int) := by have := hrow.capLe; rw [Hlen.out] at this; omega
      have b3 : (1 : Int) ≤ (c4 : Int) := by omega
      have hne4 : g4 ≠ g := fun h => P6.1.ne hrow.toV (by decide) h.symm
      have hYl : (R.drop 1).length = m - 1 := by rw [List.length_drop, Hlen.out]
      have HYl := Lib.hid hYl
      have hPs : ∀ v, w6.grownBy (w6.setCell ⟨g, i, none⟩ v) (some g) := fun v => (P6.1.set i v).2
      have hcurS := fun v => hcur6.grown (hPs v) hgp
      have hcS := fun v => hc6.grown (hPs v) (by omega)
      have hOnS := fun v => Only.grown hOn6 (hPs v) hg4w
      have hL : Hid (((contents rs5).set i (R.drop 1)).length = m) := Lib.hid (by rw [List.length_set, contents_length, HL5.out])
      have hM1 := Lib.hid (MatR.cutRow P6 HL5.out hm4 HC5.out hi g4 1 (c4 - 1) (R.drop 1) (by omega) (by omega) hrow.base hrow.lt hne4 (hrow.cells.drop 1))
      have hM0 : Hid (c4 = 1 → MatR (w6.setCell ⟨g, i, none⟩ (Value.slice (some ⟨g4, 0, none⟩) (m - 1) 0)) w.heap.size g cap ((contents rs5).set i (R.drop 1))) := Lib.hid (fun h => by
        have e : R.drop 1 = [] := List.drop_eq_nil_of_le (by rw [Hlen.out]; omega)
        have := MatR.cutRow P6 HL5.out hm4 HC5.out hi g4 0 0 [] (by simp) (by simp) hrow.base hrow.lt hne4 (fun t ht => absurd ht (by simp))
        rw [e]
        rw [show m - 1 = ([] : List Int).length by simp; omega]
        exact this)
      rw [HYl.out] at hM1
      clear hPs hYl hMat
      go_wp2_with fail
      all_goals go_ret
      · rename_i h
        exact ⟨g, cap, (contents rs5).set i (R.drop 1), by rw [hL.out]; rfl, hM0.out h, hcurS _, hcS _, hOnS _⟩
      · exact ⟨g, cap, (contents rs5).set i (R.drop 1), by rw [hL.out]; rfl, hM1.out, hcurS _, hcS _, hOnS _⟩
    · -- a row more
      have hcur7 := hcur6.below' ((Below.refl w6.heap.size w6).alloc (Nat.le_refl _) (.cells #[.int .i64 2] 3)) hcur6.lt
      have hR7 : OwnRows (w6.alloc (.cells #[.int .i64 2] 3)) w.heap.size g cap rs5 := P6.below ((Below.refl _ _).alloc (Nat.le_refl _) _)
      have ho7 : Own (w6.alloc (.cells #[.int .i64 2] 3)) w6.heap.size w6.heap.size 1 [2] := Own.new _ (Nat.le_refl _)
      have hOn7 : Only p (p + 1) w (w6.alloc (.cells #[.int .i64 2] 3)) := hOn6.below' ((Below.refl w6.heap.size w6).alloc (Nat.le_refl _) _) hOn6.size
      have hc7 := hc6.below' ((Below.refl w6.heap.size w6).alloc (Nat.le_refl _) (.cells #[.int .i64 2] 3)) (by have := hcur6.lt; omega)
      have hne7 : ∀ s ∈ rs5, s.1 ≠ w6.heap.size := fun s hs e => by have := (P6.2.1 s hs).lt; omega
      have ho7' := ho7.mono hOn6.size
      obtain ⟨w7, hw7⟩ : ∃ w7, w7 = w6.alloc (.cells #[.int .i64 2] 3) := ⟨_, rfl⟩
      rw [← hw7] at hcur7 hR7 ho7' hOn7 hc7
      have Hw7 := Lib.hid hw7
      go_wp2_with (at_builtin; refine wpList_append_row (w := w6.alloc (.cells #[.int .i64 2] 3)) rfl _ _ rfl w.heap.size g cap m (w6.heap.size + 1) rs5 (w6.heap.size, 1, [2]) _ HL5.out rfl (by show (w6.heap.push _).size = _; rw [Array.size_push]) (by rw [← Hw7.out]; exact hR7) (by rw [← Hw7.out]; exact ho7') hne7 rfl rfl (by omega) ?_)
      intro g8 c8 w8 hO8 hg8 hor8
      rw [← Hw7.out] at hg8
      have hcur8 := hcur7.grown hg8 hgp
      have hc8 := hc7.grown hg8 (by omega)
      have hOn8 : Only p (p + 1) w w8 := Only.grown hOn7 hg8 hg4w
      have hl8 : (rs5 ++ [(w6.heap.size, 1, [2])]).length = m + 1 := by rw [List.length_append, HL5.out]; rfl
      have hM := MatR.of_own hO8 (by omega) (fun j hj => by
        rw [contents_length, hl8] at hj
        have e : contents (rs5 ++ [(w6.heap.size, 1, [2])]) = contents rs5 ++ [[2]] := by simp [contents]
        rw [e]
        by_cases hjm : j < m
        · have := HC5.out j hjm
          simp only [List.getD] at this ⊢
          rw [List.getElem?_append_left (by rw [contents_length, HL5.out]; exact hjm)]
          omega
        · obtain rfl : j = m := by omega
          simp [List.getD, contents_length, HL5.out])
      have HM := Lib.hid hM; have Hl8 := Lib.hid hl8
      clear hM hl8 hO8 hg8
      go_wp2_with fail
      go_ret
      exact ⟨g8, c8, _, by rw [contents_length, Hl8.out]; rfl, HM.out, hcur8, hc8, hOn8⟩
end Go.Proofs.YtdedkfbiookofaaGreatDoor
namespace Go.Proofs.YtdedkfbiookofaaGreatDoor
set_option maxRecDepth 100000
open Go.RowKit
set_option maxHeartbeats 1000000 in
theorem spec_l5Word_gen (B p : Nat) (a : Option Addr) (n c : Nat) (gx ox nx cx most : Nat) (w : World) (hN : nx ≤ 5) (hmost : most ≤ 12) (hn : n ≤ 1048576) (hc : CodeV w B a n) (hp : B ≤ p) (hcur : Cur w p a n c) :
    Calls Tryz.prog 84 #[.pointer (some ⟨p, 0, none⟩), (Value.slice (some ⟨gx, ox, none⟩) nx cx), .int .i64 (most : Int)] w (DrewL w B p a n c most (max 1 (nx : Int))) := by
  have hps := hcur.lt
  obtain ⟨M, hM⟩ : ∃ M : Int, max 1 (nx : Int) = M := ⟨_, rfl⟩
  have hM1 : 1 ≤ M ∧ M ≤ 5 := by omega
  rw [hM]
  obtain ⟨M0, hM0⟩ : ∃ M0 : Int, (nx : Int) = M0 := ⟨_, rfl⟩
  rw [hM0] at hM
  have eW : IntKind.i64.wrap ((most : Int) + 1) = (most : Int) + 1 := IntWalk.i64_in _ (by omega)
  have K := Lib.hid (fun (W : World) (hc : CodeV W B a n) (hcur : Cur W p a n c) => spec_l1Below_any B p a n c ((most : Int) + 1) W (by omega) hn hc hp hcur)
  have K2 := Lib.hid (fun (W : World) (hc : CodeV W B a n) (hcur : Cur W p a n c) => spec_l1Below_any B p a n c M W (by omega) hn hc hp hcur)
  have O0 : Only p (p + 1) w (w.alloc (.cells #[] 3)) := Only.of_below _ _ ((Below.refl w.heap.size w).alloc (Nat.le_refl _) _)
  have C0 := hc.only O0 hp
  have U0 : Cur (w.alloc (.cells #[] 3)) p a n c := by obtain ⟨i, x, hi, hb⟩ := hcur; exact ⟨i, x, hi, (((Below.refl w.heap.size w).alloc (Nat.le_refl _) _).block p hps).trans hb⟩
  have hE : Own (w.alloc (.cells #[] 3)) w.heap.size w.heap.size 0 [] := Own.empty (Nat.le_refl _)
  clear hc hcur
  go_enter Tryz.func84, Tryz.ntmps84
  go_wp2_with fail
  refine (K.out _ C0 U0).mono ?_
  rintro e w1 ⟨x, hx, rfl, hcur1, hc1, hO1⟩
  have hE1 := hE.only hO1 (.inr (by omega))
  have hO := O0.trans hO1
  clear C0 U0 hE O0 hO1
  go_wp2_with fail
  go_loopw [7, 8] (fun lv kv wr => ∃ (k m g2 c2 : Nat) (xs : List Int), k + m ≤ most ∧ kv = .int .i64 k ∧ lv = (Value.slice (some ⟨g2, 0, none⟩) m c2) ∧ Hid (xs.length = m) ∧ Hid (∀ y ∈ xs, 0 ≤ y ∧ y < M) ∧ p < g2 ∧ Own wr w.heap.size g2 c2 xs ∧ Cur wr p a n c ∧ CodeV wr B a n ∧ Only p (p + 1) w wr) (fun _ kv _ => (intOf kv).toNat)
  case atStart => exact ⟨x.toNat, 0, w.heap.size, 0, [], by omega, by congr 1; omega, rfl, rfl, by simp [Hid], hps, hE1, hcur1, hc1, hO⟩
  case round =>
    clear hE1 hcur1 hc1 hO
    obtain ⟨k, m, g2, c2, xs, hkm, rfl, rfl, hml, hall, hpg, hown, hcur, hc, hO⟩ := hrel
    by_cases hlt : 0 < k
    · have hltI : (0 : Int) < (k : Int) := by omega
      have hcall := Lib.hid (K2.out wr hc hcur)
      clear hc hcur
      go_wp2_with fail
      try rw [hM]
      with_reducible refine hcall.out.mono ?_
      all_goals
        rintro e w2 ⟨y, hy, rfl, hcur2, hc2, hO2⟩
        have hown2 := hown.only hO2 (.inr (by omega))
        have hO' := hO.trans hO2
        clear hown hO hO2 hcall
        go_wp2_with (at_builtin; refine wpList_append_int_n (w := w2) rfl _ _ rfl w.heap.size g2 c2 m xs y hml.out hown2 rfl rfl (by omega) ?_)
        intro g3 c3 w3 ho3 hg3 hor3
        have hgs := hown2.base
        have hO3 : Only p (p + 1) w w3 := ⟨hg3.os.trans hO'.os, hg3.tape.trans hO'.tape, hg3.output.trans hO'.output, Nat.le_trans hO'.size hg3.size, fun j hj hd => (hg3.block j (Nat.lt_of_lt_of_le hj hO'.size) (by intro e; cases e; omega)).trans (hO'.block j hj hd)⟩
        have hcur3 : Cur w3 p a n c := by obtain ⟨i, z, hi, hb⟩ := hcur2; exact ⟨i, z, hi, (hg3.block p (lt_of_block hb) (by intro e; cases e; omega)).trans hb⟩
        have hc3 : CodeV w3 B a n := hc2.only (p := p + 1) (E := g2 + 1) ⟨hg3.os, hg3.tape, hg3.output, hg3.size, fun j hj hd => hg3.block j hj (by intro e; cases e; omega)⟩ (by omega)
        have hps2 := hcur2.lt
        have hl3 : Hid ((xs ++ [y]).length = m + 1) := Lib.hid (by rw [List.length_append, hml.out]; rfl)
        have ha3 := Lib.hid (all_snoc hall.out hy)
        have hpg3 : p < g3 := by rcases hor3 with rfl | q <;> omega
        clear hown2 hO' hcur2 hc2 hg3 hor3
        go_wp2_with fail
        go_roundw
        case rel => exact ⟨k - 1, m + 1, g3, c3, _, by omega, by go_num, rfl, hl3.out, ha3.out, hpg3, ho3, hcur3, hc3, hO3⟩
        case measure => simp [intOf]; omega
    · obtain rfl : k = 0 := by omega
      have Hml := Lib.hid hml.out
      go_wp2_with fail
      go_ret
      exact ⟨xs, g2, c2, ⟨by have := hml.out; omega, hall.out⟩, congrArg (fun z => Ending.returned (Value.slice (some ⟨g2, 0, none⟩) z c2)) Hml.out.symm, hown, hcur, hc, hO⟩
def klK : List Nat := [0, 1, 1, 2, 2, 4, 4, 11]
theorem klK_fin : ∀ k ∈ klK, k < 17 ∧ (types17.getD k tyD).2 ∈ finM := by decide +kernel
theorem lits_kl (w : World) : ∀ j, j < 8 → (w.alloc (.cells #[.string ⟨#[65, 49]⟩, .string ⟨#[65, 50]⟩, .string ⟨#[65, 50]⟩, .string ⟨#[65, 51]⟩, .string ⟨#[65, 51]⟩, .string ⟨#[66, 50]⟩, .string ⟨#[66, 50]⟩, .string ⟨#[71, 50]⟩] 9)).cell? ⟨w.heap.size, j, none⟩ = some (tyStr (klK.getD j 0))
  | 0, _ => by rw [cell_of_cells (heap_alloc_new _ _)]; rfl
  | 1, _ => by rw [cell_of_cells (heap_alloc_new _ _)]; rfl
  | 2, _ => by rw [cell_of_cells (heap_alloc_new _ _)]; rfl
  | 3, _ => by rw [cell_of_cells (heap_alloc_new _ _)]; rfl
  | 4, _ => by rw [cell_of_cells (heap_alloc_new _ _)]; rfl
  | 5, _ => by rw [cell_of_cells (heap_alloc_new _ _)]; rfl
  | 6, _ => by rw [cell_of_cells (heap_alloc_new _ _)]; rfl
  | 7, _ => by rw [cell_of_cells (heap_alloc_new _ _)]; rfl
  | j + 8, h => by omega
set_option maxHeartbeats 1000000 in
theorem spec_l23Cartan_any (B p : Nat) (a : Option Addr) (n c : Nat) (w : World) (hn : n ≤ 1048576) (hc : CodeV w B a n) (hp : B ≤ p) (hcur : Cur w p a n c) :
    Calls Tryz.prog 83 #[.pointer (some ⟨p, 0, none⟩)] w (DrewA w B p a n c) := by
  have hps := hcur.lt
  obtain ⟨w1, hw1⟩ : ∃ w1, w1 = w.alloc (.cells #[.string ⟨#[65, 49]⟩, .string ⟨#[65, 50]⟩, .string ⟨#[65, 50]⟩, .string ⟨#[65, 51]⟩, .string ⟨#[65, 51]⟩, .string ⟨#[66, 50]⟩, .string ⟨#[66, 50]⟩, .string ⟨#[71, 50]⟩] 9) := ⟨_, rfl⟩
  have hb1 : Below w.heap.size w w1 := by rw [hw1]; exact (Below.refl _ _).alloc (Nat.le_refl _) _
  have hcall := spec_l1Pick_any B p a n c w.heap.size 8 klK w1 rfl (by omega) (by omega) hn (hc.below' hb1 (by omega)) hp (hcur.below' hb1 hps) hps (by rw [hw1]; show w.heap.size < (w.heap.push _).size; rw [Array.size_push]; omega) (by rw [hw1]; exact lits_kl w)
  have HT := Lib.hid (fun k (hk : k < 17) W => spec_TypeCartan_ok k hk W)
  have kA := Lib.hid (fun (W : World) (hc : CodeV W B a n) (hcur : Cur W p a n c) => spec_l2Any_any B p a n c W hn hc hp hcur)
  rw [hw1] at hcall
  have Hcall := Lib.hid hcall; have Hw1 := Lib.hid hw1
  clear hcall hw1 hc hcur
  go_enter Tryz.func83, Tryz.ntmps83
  go_wp2_with fail
  refine Hcall.out.mono ?_
  rintro e w2 ⟨k, hk, rfl, hcur2, hc2, hO2⟩
  rw [← Hw1.out] at hO2
  have hOn2 : Only p (p + 1) w w2 := Only.trans (Only.of_below p (p + 1) hb1) hO2
  have hs12 : w.heap.size ≤ w2.heap.size := hOn2.size
  have hps2 : p < w2.heap.size := Nat.lt_of_lt_of_le hps hs12
  obtain ⟨hk17, hmem⟩ := klK_fin k hk
  have hisC := finM_isC _ hmem
  have hT := HT.out k hk17 w2
  have HT2 := Lib.hid (show Calls Tryz.prog 120 #[tyStr k] w2 (GotRowsB w2 (types17.getD k tyD).2 true) from hT)
  have HC := Lib.hid hisC
  clear hT hisC hO2 Hcall Hw1 hk hmem
  generalize (types17.getD k tyD).2 = X at *
  go_wp2_with fail
  refine HT2.out.mono ?_
  rintro e w3 ⟨g3, c3, rs, rfl, hcon, hO3, hb3⟩
  have hcur3 := hcur2.below' hb3 (by have := hcur2.lt; omega)
  have hc3 := hc2.below' hb3 (by have := hcur2.lt; omega)
  have hOn3 : Only p (p + 1) w w3 := hOn2.below' hb3 hs12
  have hl : X.length = rs.length := by rw [← hcon, contents_length]
  have Hl := Lib.hid hl; have Hcon := Lib.hid hcon
  rw [hl]
  have Hon := Lib.hid (spec_l1Once_any B p a n c 12 w3 (by omega) hn hc3 hp hcur3)
  have hO3' := hO3.mono hs12
  clear hl hcon hcur2 hc2 hOn2 HT2 hc3 hcur3 hO3
  go_wp2_with fail
  refine Hon.out.mono ?_
  rintro e w4 ⟨b, rfl, hcur4, hc4, hO4⟩
  have hOn4 : Only p (p + 1) w w4 := Only.trans hOn3 hO4
  have hR4 : OwnRows w4 w.heap.size g3 c3 rs := hO3'.only' hO4 hps
  clear hO3' hO4 hOn3 Hon
  cases b with
  | true =>
    have K := Lib.hid (kA.out w4 hc4 hcur4)
    have hz := hOn4.size
    clear hcur4 hc4 hR4
    go_wp2_with fail
    refine K.out.mono ?_
    rintro e w5 ⟨g, cap, rows, rfl, hM, hcur5, hc5, hO5⟩
    have HM := Lib.hid hM
    clear hM
    go_wp2_with fail
    go_ret
    exact ⟨g, cap, rows, rfl, HM.out.mono hz, hcur5, hc5, hOn4.trans hO5⟩
  | false =>
    have hsq : SqR (contents rs) := by rw [Hcon.out]; exact isC_sqr HC.out
    have HM := Lib.hid (MatR.of_own hR4 (by rw [← Hl.out]; have := HC.out.2.1; omega) (sqr_five hsq))
    clear hR4 hsq
    go_wp2_with fail
    go_ret
    exact ⟨g3, c3, contents rs, by rw [contents_length]; rfl, HM.out, hcur4, hc4, hOn4⟩
/-- a matrix and two words are drawn -/
def Drew2 (w : World) (e : Ending) (w' : World) : Prop :=
  ∃ (g cap g1 c1 g2 c2 : Nat) (R : List (List Int)) (u v : List Int), e = .returned (.tuple #[(Value.slice (some ⟨g, 0, none⟩) R.length cap), (Value.slice (some ⟨g1, 0, none⟩) u.length c1), (Value.slice (some ⟨g2, 0, none⟩) v.length c2)]) ∧ MatR w' w.heap.size g cap R ∧ Own w' w.heap.size g1 c1 u ∧ Own w' w.heap.size g2 c2 v ∧ (u.length ≤ 12 ∧ v.length ≤ 12) ∧ Below w.heap.size w w'
def Drew1 (w : World) (e : Ending) (w' : World) : Prop :=
  ∃ (g cap g2 c2 : Nat) (R : List (List Int)) (v : List Int), e = .returned (.tuple #[(Value.slice (some ⟨g, 0, none⟩) R.length cap), (Value.slice (some ⟨g2, 0, none⟩) v.length c2)]) ∧ MatR w' w.heap.size g cap R ∧ Own w' w.heap.size g2 c2 v ∧ v.length ≤ 12 ∧ Below w.heap.size w w'
section
variable (a : Option Addr) (n c : Nat) (w : World) (hn : n ≤ 1048576) (hc : CodeV w w.heap.size a n)
include hn hc
set_option maxHeartbeats 1000000 in
theorem spec_l23Two_any : Calls Tryz.prog 42 #[.slice a n c] w (Drew2 w) := by
  have h1 := Lib.hid (spec_l1New_any a n c w hn hc)
  have Hc := Lib.hid hc
  clear hc
  go_enter Tryz.func42, Tryz.ntmps42
  go_wp2_with fail
  refine h1.out.mono ?_
  rintro e w1 ⟨p, hp, rfl, hcur, hb1⟩
  have hc1 := Hc.out.below hb1
  have hps := hcur.lt
  have k1 := Lib.hid (spec_l23Cartan_any w.heap.size p a n c w1 hn hc1 hp hcur)
  clear hcur hc1
  go_wp2_with fail
  refine k1.out.mono ?_
  rintro e w2 ⟨g, cap, rows, rfl, hM, hcur2, hc2, hO2⟩
  have hM5 := hM.few
  have HM := Lib.hid hM
  have hb2 := Below.only hb1 hO2 hp (Nat.le_refl _)
  have hps2 := hcur2.lt
  have k2 := Lib.hid (spec_l5Word_gen w.heap.size p a n c g 0 rows.length cap 2 w2 hM5 (by omega) hn hc2 hp hcur2)
  clear hM hcur2 hc2
  go_wp2_with fail
  refine k2.out.mono ?_
  rintro e w3 ⟨xs, g3, c3, ⟨hxl, -⟩, rfl, ho3, hcur3, hc3, hO3⟩
  have hb3 := Below.only hb2 hO3 hp (Nat.le_refl _)
  have hM3 := Lib.hid (HM.out.only hO3 hps)
  have hps3 := hcur3.lt
  have k3 := Lib.hid (spec_l5Word_gen w.heap.size p a n c g 0 rows.length cap 7 w3 hM5 (by omega) hn hc3 hp hcur3)
  have Ho3 := Lib.hid ho3
  clear HM hcur3 hc3 ho3 k2
  go_wp2_with fail
  refine k3.out.mono ?_
  rintro e w4 ⟨ys, g4, c4, ⟨hyl, -⟩, rfl, ho4, hcur4, hc4, hO4⟩
  have hb4 := Below.only hb3 hO4 hp (Nat.le_refl _)
  have hM4 := Lib.hid ((hM3.out.only hO4 hps).mono hb1.size)
  have Ho34 := Lib.hid ((Ho3.out.only hO4 (.inr (by have := Ho3.out.base; omega))).mono hb2.size)
  have Ho4 := Lib.hid (ho4.mono hb3.size)
  clear hM3 ho4 hcur4 hc4 Ho3
  go_wp2_with fail
  go_ret3
  exact ⟨g, cap, g3, c3, g4, c4, rows, xs, ys, rfl, hM4.out, Ho34.out, Ho4.out, ⟨by omega, by omega⟩, hb4⟩
set_option maxHeartbeats 1000000 in
theorem spec_l23One_any : Calls Tryz.prog 60 #[.slice a n c] w (Drew1 w) := by
  have h1 := Lib.hid (spec_l1New_any a n c w hn hc)
  have Hc := Lib.hid hc
  clear hc
  go_enter Tryz.func60, Tryz.ntmps60
  go_wp2_with fail
  refine h1.out.mono ?_
  rintro e w1 ⟨p, hp, rfl, hcur, hb1⟩
  have hc1 := Hc.out.below hb1
  have hps := hcur.lt
  have k1 := Lib.hid (spec_l23Cartan_any w.heap.size p a n c w1 hn hc1 hp hcur)
  clear hcur hc1
  go_wp2_with fail
  refine k1.out.mono ?_
  rintro e w2 ⟨g, cap, rows, rfl, hM, hcur2, hc2, hO2⟩
  have hM5 := hM.few
  have HM := Lib.hid hM
  have hb2 := Below.only hb1 hO2 hp (Nat.le_refl _)
  have hps2 := hcur2.lt
  have k2 := Lib.hid (spec_l5Word_gen w.heap.size p a n c g 0 rows.length cap 7 w2 hM5 (by omega) hn hc2 hp hcur2)
  clear hM hcur2 hc2
  go_wp2_with fail
  refine k2.out.mono ?_
  rintro e w3 ⟨xs, g3, c3, ⟨hxl, -⟩, rfl, ho3, hcur3, hc3, hO3⟩
  have hb3 := Below.only hb2 hO3 hp (Nat.le_refl _)
  have hM3 := Lib.hid ((HM.out.only hO3 hps).mono hb1.size)
  have Ho3 := Lib.hid (ho3.mono hb2.size)
  clear HM hcur3 hc3 ho3 k2
  go_wp2_with fail
  go_ret2
  exact ⟨g, cap, g3, c3, rows, xs, rfl, hM3.out, Ho3.out, by omega, hb3⟩
theorem spec_DrawKLPolynomial_any : Calls Tryz.prog 6 #[.slice a n c] w (Drew2 w) := by
  have h1 := Lib.hid (spec_l23Two_any a n c w hn hc)
  clear hc
  go_enter Tryz.func6, Tryz.ntmps6
  go_wp2_with fail
  refine h1.out.mono ?_
  rintro e w1 ⟨g, cap, g1, c1, g2, c2, R, u, v, rfl, hM, ho1, ho2, hl, hb⟩
  have HM := Lib.hid hM; have H1 := Lib.hid ho1; have H2 := Lib.hid ho2; have Hl := Lib.hid hl; have Hb := Lib.hid hb
  clear hM ho1 ho2 hl hb
  go_wp2_with fail
  go_ret3
  exact ⟨g, cap, g1, c1, g2, c2, R, u, v, rfl, HM.out, H1.out, H2.out, Hl.out, Hb.out⟩
theorem spec_DrawMuOf_any : Calls Tryz.prog 19 #[.slice a n c] w (Drew2 w) := by
  have h1 := Lib.hid (spec_l23Two_any a n c w hn hc)
  clear hc
  go_enter Tryz.func19, Tryz.ntmps19
  go_wp2_with fail
  refine h1.out.mono ?_
  rintro e w1 ⟨g, cap, g1, c1, g2, c2, R, u, v, rfl, hM, ho1, ho2, hl, hb⟩
  have HM := Lib.hid hM; have H1 := Lib.hid ho1; have H2 := Lib.hid ho2; have Hl := Lib.hid hl; have Hb := Lib.hid hb
  clear hM ho1 ho2 hl hb
  go_wp2_with fail
  go_ret3
  exact ⟨g, cap, g1, c1, g2, c2, R, u, v, rfl, HM.out, H1.out, H2.out, Hl.out, Hb.out⟩
theorem spec_DrawKLRow_any : Calls Tryz.prog 22 #[.slice a n c] w (Drew1 w) := by
  have h1 := Lib.hid (spec_l23One_any a n c w hn hc)
  clear hc
  go_enter Tryz.func22, Tryz.ntmps22
  go_wp2_with fail
  refine h1.out.mono ?_
  rintro e w1 ⟨g, cap, g2, c2, R, v, rfl, hM, ho2, hl, hb⟩
  have HM := Lib.hid hM; have H2 := Lib.hid ho2; have Hl := Lib.hid hl; have Hb := Lib.hid hb
  clear hM ho2 hl hb
  go_wp2_with fail
  go_ret2
  exact ⟨g, cap, g2, c2, R, v, rfl, HM.out, H2.out, Hl.out, Hb.out⟩
theorem spec_DrawCanonicalBasis_any : Calls Tryz.prog 24 #[.slice a n c] w (Drew1 w) := by
  have h1 := Lib.hid (spec_l23One_any a n c w hn hc)
  clear hc
  go_enter Tryz.func24, Tryz.ntmps24
  go_wp2_with fail
  refine h1.out.mono ?_
  rintro e w1 ⟨g, cap, g2, c2, R, v, rfl, hM, ho2, hl, hb⟩
  have HM := Lib.hid hM; have H2 := Lib.hid ho2; have Hl := Lib.hid hl; have Hb := Lib.hid hb
  clear hM ho2 hl hb
  go_wp2_with fail
  go_ret2
  exact ⟨g, cap, g2, c2, R, v, rfl, HM.out, H2.out, Hl.out, Hb.out⟩
theorem spec_DrawBettiOf_any : Calls Tryz.prog 27 #[.slice a n c] w (Drew1 w) := by
  have h1 := Lib.hid (spec_l23One_any a n c w hn hc)
  clear hc
  go_enter Tryz.func27, Tryz.ntmps27
  go_wp2_with fail
  refine h1.out.mono ?_
  rintro e w1 ⟨g, cap, g2, c2, R, v, rfl, hM, ho2, hl, hb⟩
  have HM := Lib.hid hM; have H2 := Lib.hid ho2; have Hl := Lib.hid hl; have Hb := Lib.hid hb
  clear hM ho2 hl hb
  go_wp2_with fail
  go_ret2
  exact ⟨g, cap, g2, c2, R, v, rfl, HM.out, H2.out, Hl.out, Hb.out⟩
end
end Go.Proofs.YtdedkfbiookofaaGreatDoor
namespace Go.Proofs.YtdedkfbiookofaaGreatDoor
set_option maxRecDepth 100000
open Go.RowKit
set_option maxHeartbeats 400000 in
theorem impl_IsPalindrome_any (g o n c : Nat) (xs : List Int) (w : World) (hn : xs.length = n) (hx : xs.length ≤ 1099511627776) (hg : g < w.heap.size) (hc : Cells w g o xs) :
    Calls Tryz.prog 32 #[(Value.slice (some ⟨g, o, none⟩) n c)] w fun e w' => e = .returned (.bool (decide (xs = xs.reverse))) ∧ Below w.heap.size w w' := by
  subst hn
  go_enter Tryz.func32, Tryz.ntmps32
  go_wp2_with fail
  refine (impl_ReverseWord_any g o _ c xs _ rfl hx hg hc).mono ?_
  rintro e w1 ⟨g1, c1, rfl, ho, hb⟩
  go_wp2_with fail
  refine (slices_Equal_any g o _ c g1 0 _ c1 xs xs.reverse _ rfl (by simp) hx (by simpa using hx) (hc.below hb hg) ho.cells).mono ?_
  rintro e w2 ⟨rfl, m, rfl⟩
  go_wp2_with fail
  go_ret
  exact ⟨rfl, below_drewN hb m⟩
end Go.Proofs.YtdedkfbiookofaaGreatDoor
