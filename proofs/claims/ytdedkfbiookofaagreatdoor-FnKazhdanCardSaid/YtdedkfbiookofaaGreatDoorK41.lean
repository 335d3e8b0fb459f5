/- Groups of at most 24 elements: what the kernel has found, in words; arrows and cells. Plain law. The reference's KLRow and KLPolynomial: contracts. The polynomial of two words as both have it is one. Plain law. Where elements stand in the list of all; rows of polynomials. Plain law. slices.Reverse, ReverseWord: contracts. Words read backwards by the reference: contract. The weak order: what both compute is one. Plain law. Contracts of both. The reference's l15Below, IsBruhatBelow, SubwordOf, l34Drops: contracts. Printed by mkbrus.py. -/
import Derived.Test.YtdedkfbiookofaaGreatDoorK40
import Derived.Test.YtdedkfbiookofaaGreatDoorK34
import Derived.Test.YtdedkfbiookofaaGreatDoorK38
import Derived.Test.YtdedkfbiookofaaGreatDoorK08
import Derived.Test.YtdedkfbiookofaaGreatDoorK00
import Derived.Test.YtdedkfbiookofaaGreatDoorK21
import Derived.Test.YtdedkfbiookofaaGreatDoorK11
import Derived.Test.YtdedkfbiookofaaGreatDoorK20
import Derived.Test.YtdedkfbiookofaaGreatDoorK04
import Derived.Test.YtdedkfbiookofaaGreatDoorK06
import Derived.Test.YtdedkfbiookofaaGreatDoorK02
import Derived.Test.YtdedkfbiookofaaGreatDoorK14
import Derived.Deep.RegionWith
import Derived.Deep.Cut
import Derived.Deep.CutRange
namespace Go.Proofs.YtdedkfbiookofaaGreatDoor
set_option maxRecDepth 100000
open Go.RowKit Game
theorem klB_klC {c : List (List Int)} (h : klB c = true) : klC c = true := by
  have hf := klB_fin h
  have hs : szO c = prodT (nameL c) := if_pos hf
  have h1 := kl_fin (fin_isC hf) hf
  unfold kl24 at h1
  rw [Bool.or_eq_true] at h1
  rcases h1 with h1 | h1
  · have := of_decide_eq_true h1
    have := klB_24 h
    omega
  · exact h1
theorem klB_grp {c : List (List Int)} (h : klB c = true) : Grp c := grp_few (klB_few h)
theorem klB_elA {c : List (List Int)} (h : klB c = true) : grpB c = true ∧ elA c = elemL c := by
  have h1 := (klB_iff c).1 h
  have h2 := (grp_iff c).2 ⟨h1.1, by omega⟩
  exact ⟨h2, if_pos h2⟩
theorem klB_leftT {c : List (List Int)} (h : klB c = true) : leftT c = ltab c (elemL c) (elemL c).length := by
  unfold leftT; rw [(klB_elA h).2]
structure KlFound (c : List (List Int)) : Prop where
  facts : klFacts c.length (elemL c) (leftT c) = true
  tab : tabI (elemL c) (leftT c) = trP (elemL c).length (rowsS (elemL c) (leftT c))
  arr : arrI c.length (elemL c) (leftT c) (tabI (elemL c) (leftT c)) = arrS c (elemL c) (rowsS (elemL c) (leftT c))
  cells : cellSTo (matB (arrI c.length (elemL c) (leftT c) (tabI (elemL c) (leftT c))) (elemL c).length) (elemL c).length (elemL c).length = (cellITo (matB (arrI c.length (elemL c) (leftT c) (tabI (elemL c) (leftT c))) (elemL c).length) (elemL c).length (elemL c).length).2
theorem klFound {c : List (List Int)} (h : klB c = true) : KlFound c := by
  have h1 := klB_klC h
  unfold klC klAll at h1
  rw [← klB_leftT h] at h1
  rw [Bool.and_eq_true, Bool.and_eq_true, Bool.and_eq_true] at h1
  obtain ⟨a, b, d, e⟩ := h1
  exact ⟨a, of_decide_eq_true b, of_decide_eq_true d, of_decide_eq_true e⟩
theorem klOk_of {c : List (List Int)} (h : klB c = true) : KlOk c.length (elemL c).length (elemL c) (leftT c) := by
  have hG := klB_grp h
  have hl := klB_len h
  have hF := klFound h
  have hT := klB_leftT h
  have hword : ∀ k, k < (elemL c).length → ∃ W : List Nat, (elemL c).getD k [] = intsOf W ∧ W.length ≤ 9 := fun k hk => by
    obtain ⟨n, W, -, e, h9, hW⟩ := elem_at (klB_few h) hk
    exact ⟨W, e, by omega⟩
  have hsh : ∀ x, lenA (elemL c) x ≤ 24 := fun x => by
    unfold lenA
    by_cases hx : x < (elemL c).length
    · obtain ⟨W, e, h9⟩ := hword x hx
      rw [e, intsOf_length]; omega
    · simp [List.getD, Nat.not_lt.1 hx]
  have hrow : ∀ x, x < (elemL c).length → (leftT c).getD x [] = lrow c (elemL c) ((elemL c).getD x []) c.length := fun x hx => by
    rw [hT]; unfold ltab
    rw [List.take_length]
    simp [List.getD, hx]
  exact {
    len := rfl
    tlen := by rw [hT, ltab_length (Nat.le_refl _)]
    few := hl.1
    rank := hG.hC.2.1
    short := hsh
    head := kl_head hF.facts
    letter := fun v hv _ => by
      obtain ⟨W, e, -⟩ := hword v hv
      unfold headA
      rw [e]
      cases W with
      | nil => rfl
      | cons a W => show ((a : Nat) : Int) = (((a : Nat) : Int).toNat : Int); rw [Int.toNat_natCast]
    row := fun x hx => by rw [hrow x hx, lrow_length]
    tab := fun x s hx hs => by
      have hmem : (elemL c).getD x [] ∈ elemL c := by simp [List.getD, hx]
      have hi := left_mem hG hmem hs
      have h0 := idx_nonneg.2 hi
      have h1 := idx_lt (L := elemL c) (v := nfI c ([(s : Int)] ++ (elemL c).getD x []))
      have e : ((leftT c).getD x []).getD s 0 = idxL (elemL c) (nfI c ([(s : Int)] ++ (elemL c).getD x [])) := by
        rw [hrow x hx]; unfold lrow; simp [List.getD, hs]
      unfold tabA
      rw [e]
      omega }
theorem elem_isWord {c : List (List Int)} (h : klB c = true) {k : Nat} (hk : k < (elemL c).length) : isWordB c ((elemL c).getD k []) = true := by
  obtain ⟨n, W, hW, e, h9, -⟩ := elem_at (klB_few h) hk
  rw [e]; exact elt_word (klB_grp h).hC hW h9
end Go.Proofs.YtdedkfbiookofaaGreatDoor
namespace Go.Proofs.YtdedkfbiookofaaGreatDoor
set_option maxRecDepth 100000
open Go.RowKit Game
theorem nf_mem {c : List (List Int)} (hG : Grp c) {v : List Int} (h : Lets c 30 v) : nfI c v ∈ elemL c := by
  obtain ⟨W, hW, he⟩ := nfI_ex h
  rw [he]
  exact (hG.mem _).2 ⟨_, W, ⟨hW.self, rfl⟩, rfl⟩
theorem idx_place {L : List (List Int)} {v : List Int} (h : v ∈ L) : ∃ k : Nat, idxL L v = (k : Int) ∧ k < L.length := by
  rcases idxFrom_spec v L 0 with ⟨-, hn⟩ | ⟨j, hj, e, -⟩
  · exact absurd h hn
  · exact ⟨j, by unfold idxL; rw [e, Nat.zero_add], hj⟩
/-- where an element stands -/
def ixK (c : List (List Int)) (v : List Int) : Nat := (idxL (elemL c) (nfI c v)).toNat
theorem ixK_at {c : List (List Int)} (hG : Grp c) {v : List Int} (h : WordOk c v) : idxL (elemL c) (nfI c v) = (ixK c v : Int) ∧ ixK c v < (elemL c).length := by
  obtain ⟨k, e, hk⟩ := idx_place (nf_mem hG (h.lets.mono (show 15 ≤ 30 by omega)))
  unfold ixK
  rw [e, Int.toNat_natCast]
  exact ⟨rfl, hk⟩
/-- the row of an element, as the reference has it -/
def klRow (c : List (List Int)) (v : List Int) : List (List Int) := (rowsTo (elemL c) (leftT c) (ixK c v)).getD (ixK c v) []
def GotRow (w : World) (row : List (List Int)) (e : Ending) (w' : World) : Prop :=
  ∃ g cap, e = .returned (.tuple #[(Value.slice (some ⟨g, 0, none⟩) row.length cap), .bool true]) ∧ g < w'.heap.size ∧ Rows2 w' g 0 row ∧ Below w.heap.size w w'
theorem GotRow.mk' {w w' : World} {row : List (List Int)} {n : Nat} (g cap : Nat) (hn : row.length = n) (hg : g < w'.heap.size) (hr : Rows2 w' g 0 row) (hb : Below w.heap.size w w') : GotRow w row (.returned (.tuple #[(Value.slice (some ⟨g, 0, none⟩) n cap), .bool true])) w' := by
  subst hn; exact ⟨g, cap, rfl, hg, hr, hb⟩
set_option maxHeartbeats 1000000 in
theorem spec_KLRow_no (gc oc n cc : Nat) (v0 : Value) (c : List (List Int)) (w : World) (hn : c.length = n) (hx : c.length ≤ 1048576) (hrl : ∀ j, j < c.length → (c.getD j []).length ≤ 1048576) (hk : klB c = false) (hgc : gc < w.heap.size) (hr : Rows2 w gc oc c) :
    Calls Tryz.prog 14 #[(Value.slice (some ⟨gc, oc, none⟩) n cc), v0] w (fun e w' => ∃ g cap, e = .returned (.tuple #[(Value.slice (some ⟨g, 0, none⟩) 0 cap), .bool false]) ∧ Below w.heap.size w w') := by
  have hc := spec_l23Ready_any gc oc n cc c w hn hx hrl hgc hr
  rw [hk, show klL c = [] from if_neg (by rw [hk]; decide)] at hc
  have Hc := Lib.hid hc
  clear hc hr hrl
  go_enter Tryz.func14, Tryz.ntmps14
  go_wp2_with fail
  refine Hc.out.mono ?_
  rintro e w1 ⟨g1, c1, rs1, rfl, -, -, hb1⟩
  go_wp2_with fail
  go_ret2
  exact ⟨_, 0, rfl, hb1.alloc hb1.size _⟩
set_option maxHeartbeats 1000000 in
theorem spec_KLRow_yes (gc oc n cc g2 o2 n2 c2 : Nat) (c : List (List Int)) (v : List Int) (w : World) (hn : c.length = n) (hn2 : v.length = n2) (hk : klB c = true) (hB : WordOk c v) (hgc : gc < w.heap.size) (hg2 : g2 < w.heap.size) (hr : Rows2 w gc oc c) (hv : Cells w g2 o2 v) :
    Calls Tryz.prog 14 #[(Value.slice (some ⟨gc, oc, none⟩) n cc), (Value.slice (some ⟨g2, o2, none⟩) n2 c2)] w (GotRow w (klRow c v)) := by
  have H := klOk_of hk
  have hG := klB_grp hk
  have hC := hG.hC
  have hn4 := hC.2.1
  have hlb := hB.few
  have hrl : ∀ j, j < c.length → (c.getD j []).length ≤ 1048576 := fun j hj => by rw [hC.2.2.1 j hj]; omega
  have hc := spec_l23Ready_any gc oc n cc c w hn (by omega) hrl hgc hr
  rw [hk, show klL c = elemL c from if_pos hk] at hc
  have Hc := Lib.hid hc
  have I2 := Lib.hid (fun (W : World) (hb : Below w.heap.size w W) => by
    have := spec_IsWord_any gc oc n cc g2 o2 n2 c2 c v W hn hn2 (by omega) hrl (by omega) (hr.below hb hgc) (hv.below hb hg2)
    rw [hB.isWord] at this
    exact this)
  have K2 := Lib.hid (fun (W : World) (hb : Below w.heap.size w W) => spec_l8Normal_any gc oc n cc g2 o2 n2 c2 c v (nfI c v) W hn hn2 hC (by omega) hB.inr (nfI_ok (hB.lets.mono (show 15 ≤ 30 by omega))).norm (Nat.lt_of_lt_of_le hgc hb.size) (Nat.lt_of_lt_of_le hg2 hb.size) (hr.below hb hgc) (hv.below hb hg2))
  obtain ⟨hix, hlt⟩ := ixK_at hG hB
  have hfew := hG.few
  have hyf := (nfI_ok (hB.lets.mono (show 15 ≤ 30 by omega))).len
  have helen := elem_len hG
  have KI := Lib.hid (fun (W : World) (g cp g' cp' m : Nat) (hm : (nfI c v).length = m) (hL : Rows2 W g 0 (elemL c)) (hy : Cells W g' 0 (nfI c v)) => by
    have := spec_IndexOf_any g 0 (elemL c).length cp g' 0 m cp' (elemL c) (nfI c v) W rfl hm (by omega) (fun j hj => by have := helen _ (show (elemL c).getD j [] ∈ elemL c by simp [List.getD, hj]); omega) hL hy
    rw [hix] at this
    exact this)
  have KR := Lib.hid (fun (W : World) (g cp : Nat) (hb : Below w.heap.size w W) (hg : g < W.heap.size) (hL : Rows2 W g 0 (elemL c)) => spec_l23Rows_ok gc oc n cc g cp (elemL c).length (ixK c v) c (elemL c) W hn hC H hlt (Nat.lt_of_lt_of_le hgc hb.size) (hr.below hb hgc) hg hL)
  have hrow := rowsTo_row (L := elemL c) (T := leftT c) (ixK c v) (ixK c v) (Nat.le_refl _)
  have hrl2 := rowsTo_length (elemL c) (leftT c) (ixK c v)
  have hdef : GotRow w (klRow c v) = GotRow w ((rowsTo (elemL c) (leftT c) (ixK c v)).getD (ixK c v) []) := rfl
  rw [hdef]
  generalize rowsTo (elemL c) (leftT c) (ixK c v) = R at *
  generalize nfI c v = y at *
  generalize ixK c v = i at *
  generalize elemL c = L at *
  obtain ⟨N, hN⟩ : ∃ N, L.length = N := ⟨_, rfl⟩
  obtain ⟨m, hm⟩ : ∃ m, y.length = m := ⟨_, rfl⟩
  rw [hN] at KI KR hrow hlt
  have HN := Lib.hid hN; have Hm := Lib.hid hm
  have kI := Lib.hid (fun (W : World) (g cp g' cp' : Nat) (hL : Rows2 W g 0 L) (hy : Cells W g' 0 y) => KI.out W g cp g' cp' m hm hL hy)
  have b1 : (i : Int) < (R.length : Int) := by omega
  have HR := Lib.hid hrl2; have Hrow := Lib.hid hrow
  clear hr hv hB hC hG H hrl hc hn4 hlb hix hlt hfew hyf helen KI hrow hrl2 hdef hN hm hk
  go_enter Tryz.func14, Tryz.ntmps14
  go_wp2_with fail
  refine Hc.out.mono ?_
  rintro e w1 ⟨g1, c1, rs1, rfl, hcr, hO, hb1⟩
  rw [HN.out]
  have hL1 : Rows2 w1 g1 0 L := by rw [← hcr]; exact hO.rows2
  have hg1 := hO.1.lt
  go_wp2_with fail
  refine (I2.out w1 hb1).mono ?_
  rintro e w2 ⟨rfl, hs2⟩
  have hb2 := below_still (Below.refl w1.heap.size w1) hs2
  have hB2 := hb1.trans (hb2.mono hb1.size)
  go_wp2_with fail
  refine (K2.out w2 hB2).mono ?_
  rintro e w3 ⟨gy, cy, rfl, hoy, hb3⟩
  rw [Hm.out]
  have hB3 := hB2.trans (hb3.mono hB2.size)
  have hL2 := hL1.below hb2 hg1
  have hg2' := Nat.lt_of_lt_of_le hg1 hb2.size
  have hL3 := hL2.below hb3 hg2'
  have hg3 := Nat.lt_of_lt_of_le hg2' hb3.size
  go_wp2_with fail
  refine (kI.out w3 g1 c1 gy cy hL3 hoy.cells).mono ?_
  rintro e w4 ⟨rfl, hs4⟩
  have hb4 := below_still (Below.refl w3.heap.size w3) hs4
  have hB4 := hB3.trans (hb4.mono hB3.size)
  go_wp2_with fail
  refine (KR.out w4 g1 c1 hB4 (Nat.lt_of_lt_of_le hg3 hb4.size) (hL3.below hb4 hg3)).mono ?_
  rintro e w5 ⟨gR, cR, rr, rfl, hcR, hoR, hb5⟩
  have hB5 := hB4.trans (hb5.mono hB4.size)
  obtain ⟨gi, ci, q1, q2, q3⟩ := RowAt.of3 (i := i) hoR hcR (by omega) Hrow.out
  go_wp2_with fail
  go_ret2
  exact GotRow.mk' gi ci Hrow.out q2 q3 hB5
/-- the polynomial of two words, as the reference has it, where there is one -/
def klP (c : List (List Int)) (a b : List Int) : List Int := if klB c = true then (klRow c b).getD (ixK c a) [] else []
set_option maxHeartbeats 1000000 in
theorem spec_KLPolynomial_ok (gc oc n cc g1 o1 n1 c1 g2 o2 n2 c2 : Nat) (c : List (List Int)) (a b : List Int) (w : World) (hn : c.length = n) (hn1 : a.length = n1) (hn2 : b.length = n2) (hA : WordOk c a) (hB : WordOk c b) (hgc : gc < w.heap.size) (hg1 : g1 < w.heap.size) (hg2 : g2 < w.heap.size)
    (hr : Rows2 w gc oc c) (hc1 : Cells w g1 o1 a) (hc2 : Cells w g2 o2 b) :
    Calls Tryz.prog 8 #[(Value.slice (some ⟨gc, oc, none⟩) n cc), (Value.slice (some ⟨g1, o1, none⟩) n1 c1), (Value.slice (some ⟨g2, o2, none⟩) n2 c2)] w (GotIntsB w (klP c a b) (klB c)) := by
  have hC := hA.isC
  have hn4 := hC.2.1
  have hrl : ∀ j, j < c.length → (c.getD j []).length ≤ 1048576 := fun j hj => by rw [hC.2.2.1 j hj]; omega
  cases hk : klB c with
  | false =>
    rw [show klP c a b = [] from if_neg (by rw [hk]; decide)]
    have Hc := Lib.hid (spec_KLRow_no gc oc n cc (Value.slice (some ⟨g2, o2, none⟩) n2 c2) c w hn (by omega) hrl hk hgc hr)
    clear hr hc1 hc2 hA hB hk hrl
    go_enter Tryz.func8, Tryz.ntmps8
    go_wp2_with fail
    refine Hc.out.mono ?_
    rintro e w1 ⟨g3, c3, rfl, hb1⟩
    go_wp2_with fail
    go_ret2
    exact ⟨_, 0, rfl, Own.empty hb1.size, hb1.alloc hb1.size _⟩
  | true =>
    have H := klOk_of hk
    have hG := klB_grp hk
    have hla := hA.few
    rw [show klP c a b = (klRow c b).getD (ixK c a) [] from if_pos hk]
    have HR := Lib.hid (spec_KLRow_yes gc oc n cc g2 o2 n2 c2 c b w hn hn2 hk hB hgc hg2 hr hc2)
    have I1 := Lib.hid (fun (W : World) (hb : Below w.heap.size w W) => by
      have := spec_IsWord_any gc oc n cc g1 o1 n1 c1 c a W hn hn1 (by omega) hrl (by omega) (hr.below hb hgc) (hc1.below hb hg1)
      rw [hA.isWord] at this
      exact this)
    have Hc := Lib.hid (fun (W : World) (hb : Below w.heap.size w W) => by
      have := spec_l23Ready_any gc oc n cc c W hn (by omega) hrl (Nat.lt_of_lt_of_le hgc hb.size) (hr.below hb hgc)
      rw [hk, show klL c = elemL c from if_pos hk] at this
      exact this)
    have K1 := Lib.hid (fun (W : World) (hb : Below w.heap.size w W) => spec_l8Normal_any gc oc n cc g1 o1 n1 c1 c a (nfI c a) W hn hn1 hC (by omega) hA.inr (nfI_ok (hA.lets.mono (show 15 ≤ 30 by omega))).norm (Nat.lt_of_lt_of_le hgc hb.size) (Nat.lt_of_lt_of_le hg1 hb.size) (hr.below hb hgc) (hc1.below hb hg1))
    obtain ⟨hix, hlt⟩ := ixK_at hG hA
    have hlb := (ixK_at hG hB).2
    have hrowl : (klRow c b).length = (elemL c).length := rowsTo_row _ _ (Nat.le_refl _)
    have hpl : ((klRow c b).getD (ixK c a) []).length ≤ 1000 := by
      have h1 := klRows_len H (ixK c b) hlb (ixK c b) (ixK c a)
      have h2 := H.few
      unfold pol at h1
      unfold klRow
      omega
    have hfew := hG.few
    have hyf := (nfI_ok (hA.lets.mono (show 15 ≤ 30 by omega))).len
    have helen := elem_len hG
    have KI := Lib.hid (fun (W : World) (g cp g' cp' m : Nat) (hm : (nfI c a).length = m) (hL : Rows2 W g 0 (elemL c)) (hy : Cells W g' 0 (nfI c a)) => by
      have := spec_IndexOf_any g 0 (elemL c).length cp g' 0 m cp' (elemL c) (nfI c a) W rfl hm (by omega) (fun j hj => by have := helen _ (show (elemL c).getD j [] ∈ elemL c by simp [List.getD, hj]); omega) hL hy
      rw [hix] at this
      exact this)
    generalize nfI c a = y at *
    generalize ixK c a = i at *
    generalize klRow c b = row at *
    generalize elemL c = L at *
    obtain ⟨N, hN⟩ : ∃ N, L.length = N := ⟨_, rfl⟩
    obtain ⟨m, hm⟩ : ∃ m, y.length = m := ⟨_, rfl⟩
    obtain ⟨mp, hmp⟩ : ∃ m, (row.getD i []).length = m := ⟨_, rfl⟩
    rw [hN] at KI hrowl hlt
    rw [hmp] at hpl
    have HN := Lib.hid hN; have Hm := Lib.hid hm; have Hmp := Lib.hid hmp; have Hrl := Lib.hid hrowl
    have kI := Lib.hid (fun (W : World) (g cp g' cp' : Nat) (hL : Rows2 W g 0 L) (hy : Cells W g' 0 y) => KI.out W g cp g' cp' m hm hL hy)
    have b1 : (i : Int) < (N : Int) := by omega
    clear hr hc1 hc2 hA hB hC hG H hrl hn4 hla hix hlt hlb hfew hyf helen KI hN hm hk
    go_enter Tryz.func8, Tryz.ntmps8
    go_wp2_with fail
    refine HR.out.mono ?_
    rintro e w1 ⟨gr, cr, rfl, hgr, hrow, hb1⟩
    rw [Hrl.out]
    go_wp2_with fail
    refine (I1.out w1 hb1).mono ?_
    rintro e w2 ⟨rfl, hs2⟩
    have hb2 := below_still (Below.refl w1.heap.size w1) hs2
    have hB2 := hb1.trans (hb2.mono hb1.size)
    have hrow2 := hrow.below hb2 hgr
    have hgr2 := Nat.lt_of_lt_of_le hgr hb2.size
    go_wp2_with fail
    refine (Hc.out w2 hB2).mono ?_
    rintro e w3 ⟨gL, cL, rs1, rfl, hcr, hO, hb3⟩
    rw [HN.out]
    have hL3 : Rows2 w3 gL 0 L := by rw [← hcr]; exact hO.rows2
    have hgL := hO.1.lt
    have hB3 := hB2.trans (hb3.mono hB2.size)
    have hrow3 := hrow2.below hb3 hgr2
    have hgr3 := Nat.lt_of_lt_of_le hgr2 hb3.size
    have hal : Below w3.heap.size w3 (w3.alloc (.cells #[] 3)) := (Below.refl _ _).alloc (Nat.le_refl _) _
    have hoE : Own (w3.alloc (.cells #[] 3)) w.heap.size w3.heap.size 0 [] := Own.empty hB3.size
    have hB4 := hB3.trans (hal.mono hB3.size)
    go_wp2_with fail
    refine (K1.out _ hB4).mono ?_
    have hL4 := hL3.below hal hgL
    have hgL4 := Nat.lt_of_lt_of_le hgL hal.size
    have hrow4 := hrow3.below hal hgr3
    have hgr4 := Nat.lt_of_lt_of_le hgr3 hal.size
    generalize w3.alloc (.cells #[] 3) = w4 at *
    rintro e w5 ⟨gy, cy, rfl, hoy, hb5⟩
    rw [Hm.out]
    have hB5 := hB4.trans (hb5.mono hB4.size)
    go_wp2_with fail
    refine (kI.out w5 gL cL gy cy (hL4.below hb5 hgL4) hoy.cells).mono ?_
    rintro e w6 ⟨rfl, hs6⟩
    have hb6 := below_still (Below.refl w5.heap.size w5) hs6
    have hB6 := hB5.trans (hb6.mono hB5.size)
    have hrow6 := (hrow4.below hb5 hgr4).below hb6 (Nat.lt_of_lt_of_le hgr4 hb5.size)
    have hoE6 := (hoE.below hb5 hoE.lt).below hb6 (Nat.lt_of_lt_of_le hoE.lt hb5.size)
    obtain ⟨gp, op, cp, q1, q2, q3, q4⟩ := hrow6 i (by omega)
    rw [Hmp.out, Nat.zero_add] at q1
    go_wp2_with (at_builtin; refine wpList_append_ints_n rfl _ _ rfl w.heap.size w3.heap.size 0 0 [] rfl hoE6 gp op mp cp (row.getD i []) Hmp.out q4 rfl rfl (by omega) ?_)
    intro gZ cZ w7 hoZ hgZ hor
    have hB7 : Below w.heap.size w w7 := hB6.grown hgZ hB6.size (by intro t ht; cases ht; exact hoE6.base)
    go_wp2_with fail
    go_ret2
    exact GotIntsB.mk' gZ cZ Hmp.out hoZ hB7
end Go.Proofs.YtdedkfbiookofaaGreatDoor
namespace Go.Proofs.YtdedkfbiookofaaGreatDoor
set_option maxRecDepth 100000
open Go.RowKit Game
theorem rowsTo_pre {L T : List (List Int)} {t i : Nat} (h : i ≤ t) : ∀ d, (rowsTo L T (t + d)).getD i [] = (rowsTo L T t).getD i []
  | 0 => rfl
  | d + 1 => by
    have hl := rowsTo_length L T (t + d)
    rw [← Nat.add_assoc, rowsTo_succ, List.getD, List.getElem?_append_left (by omega)]
    exact rowsTo_pre h d
theorem klP_tab {c : List (List Int)} {a b : List Int} (hk : klB c = true) (hA : WordOk c a) (hB : WordOk c b) : klP c a b = pol (tabI (elemL c) (leftT c)) (ixK c a) (ixK c b) := by
  have hG := klB_grp hk
  have ha := (ixK_at hG hA).2
  have hb := (ixK_at hG hB).2
  rw [(klFound hk).tab, show klP c a b = (klRow c b).getD (ixK c a) [] from if_pos hk]
  generalize ixK c a = i at *
  have e1 : pol (trP (elemL c).length (rowsS (elemL c) (leftT c))) i (ixK c b) = pol (rowsS (elemL c) (leftT c)) (ixK c b) i := by
    unfold trP
    generalize rowsS (elemL c) (leftT c) = R
    unfold pol
    simp [List.getD, ha, hb]
  rw [e1]
  unfold pol rowsS klRow
  obtain ⟨d, hd⟩ : ∃ d, (elemL c).length - 1 = ixK c b + d := ⟨(elemL c).length - 1 - ixK c b, by omega⟩
  rw [hd, rowsTo_pre (Nat.le_refl _)]
end Go.Proofs.YtdedkfbiookofaaGreatDoor
namespace Go.Proofs.YtdedkfbiookofaaGreatDoor
set_option maxRecDepth 100000
open Go.RowKit Game
theorem idx_getD {L : List (List Int)} {v : List Int} (h : v ∈ L) : L.getD (idxL L v).toNat [] = v := by
  rcases idxFrom_spec v L 0 with ⟨-, hn⟩ | ⟨j, hj, e, he⟩
  · exact absurd h hn
  · unfold idxL; rw [e, Nat.zero_add, Int.toNat_natCast]; exact he.1
theorem ixK_elem {c : List (List Int)} (hG : Grp c) {a : List Int} (hA : WordOk c a) : (elemL c).getD (ixK c a) [] = nfI c a := idx_getD (nf_mem hG (hA.lets.mono (show 15 ≤ 30 by omega)))
theorem klP_rows {c : List (List Int)} {a b : List Int} (hk : klB c = true) (hB : WordOk c b) : klP c a b = pol (rowsS (elemL c) (leftT c)) (ixK c b) (ixK c a) := by
  have hG := klB_grp hk
  have hb := (ixK_at hG hB).2
  rw [show klP c a b = (klRow c b).getD (ixK c a) [] from if_pos hk]
  unfold pol rowsS klRow
  obtain ⟨d, hd⟩ : ∃ d, (elemL c).length - 1 = ixK c b + d := ⟨(elemL c).length - 1 - ixK c b, by omega⟩
  rw [hd, rowsTo_pre (Nat.le_refl _)]
theorem muI_S (L : List (List Int)) (p : List Int) (z v : Nat) : muI L p z v = muS p ((lenA L v : Int) - (lenA L z : Int)) := by
  unfold muI muS
  by_cases h1 : lenA L v ≤ lenA L z
  · rw [if_pos (.inl h1)]
    by_cases h2 : lenA L v = lenA L z
    · rw [if_pos (.inl (by omega))]
    · rw [if_pos (.inr (.inr (by omega)))]
  · obtain ⟨d, hd⟩ : ∃ d : Nat, lenA L v = lenA L z + d := ⟨lenA L v - lenA L z, by omega⟩
    have e1 : lenA L v - lenA L z = d := by omega
    have e2 : (lenA L v : Int) - (lenA L z : Int) = (d : Int) := by omega
    have hd0 : 0 < d := by omega
    rw [e1, e2]
    by_cases h2 : d % 2 = 0
    · rw [if_pos (.inr (.inl h2)), if_pos (.inl (by omega))]
    · have e3 : ((d : Int) - 1) / 2 = (((d - 1) / 2 : Nat) : Int) := by omega
      rw [e3]
      by_cases h3 : p.length ≤ (d - 1) / 2
      · rw [if_pos (.inr (.inr h3)), if_pos (.inr (.inl (by omega)))]
      · rw [if_neg (by omega), if_neg (by omega), Int.toNat_natCast]
end Go.Proofs.YtdedkfbiookofaaGreatDoor
namespace Go.Proofs.YtdedkfbiookofaaGreatDoor
set_option maxRecDepth 100000
open Go.RowKit
/-- the first k and the last k exchanged -/
def revAt (xs : List Int) (k : Nat) : List Int := (List.range xs.length).map fun t => if t < k ∨ xs.length - k ≤ t then xs.getD (xs.length - 1 - t) 0 else xs.getD t 0
theorem revAt_length (xs : List Int) (k : Nat) : (revAt xs k).length = xs.length := by simp [revAt]
theorem revAt_getD (xs : List Int) (k t : Nat) (ht : t < xs.length) : (revAt xs k).getD t 0 = if t < k ∨ xs.length - k ≤ t then xs.getD (xs.length - 1 - t) 0 else xs.getD t 0 := by
  simp [revAt, List.getD, ht]
theorem revAt_zero (xs : List Int) : revAt xs 0 = xs := by
  apply List.ext_getElem (revAt_length _ _)
  intro t h1 h2
  have := revAt_getD xs 0 t h2
  rw [if_neg (by omega)] at this
  simpa [List.getD, h1, h2] using this
theorem revAt_done (xs : List Int) (k : Nat) (h : xs.length ≤ 2 * k + 1) : revAt xs k = xs.reverse := by
  apply List.ext_getElem (by simp [revAt_length])
  intro t h1 h2
  have ht : t < xs.length := by rw [revAt_length] at h1; exact h1
  have e := revAt_getD xs k t ht
  have h3 : (revAt xs k)[t] = (revAt xs k).getD t 0 := by simp [List.getD, h1]
  rw [h3, e, List.getElem_reverse]
  split
  · simp [List.getD, show xs.length - 1 - t < xs.length by omega]
  · have : xs.length - 1 - t = t := by omega
    simp [List.getD, ht, this]
theorem revAt_succ (xs : List Int) (k : Nat) (h : 2 * k + 1 < xs.length) :
    ((revAt xs k).set k ((revAt xs k).getD (xs.length - 1 - k) 0)).set (xs.length - 1 - k) ((revAt xs k).getD k 0) = revAt xs (k + 1) := by
  rw [revAt_getD _ _ _ (by omega), revAt_getD _ _ _ (by omega)]
  apply List.ext_getElem (by simp [revAt_length])
  intro t h1 h2
  have ht : t < xs.length := by rw [revAt_length] at h2; exact h2
  have h3 : (revAt xs (k + 1))[t] = (revAt xs (k + 1)).getD t 0 := by simp [List.getD, h2]
  rw [h3, revAt_getD _ _ _ ht, List.getElem_set, List.getElem_set]
  have h4 : t < (revAt xs k).length := by rw [revAt_length]; exact ht
  have h5 : (revAt xs k)[t] = (revAt xs k).getD t 0 := by simp [List.getD, h4]
  rw [h5, revAt_getD _ _ _ ht]
  by_cases a : xs.length - 1 - k = t
  · rw [if_pos a, if_neg (by omega), if_pos (by omega), show xs.length - 1 - t = k by omega]
  · rw [if_neg a]
    by_cases b : k = t
    · subst b
      rw [if_pos rfl, if_neg (by omega), if_pos (by omega)]
    · rw [if_neg b]
      by_cases c : t < k ∨ xs.length - k ≤ t
      · rw [if_pos c, if_pos (by omega)]
      · rw [if_neg c, if_neg (by omega)]
theorem rev_set {xs : List Int} {k : Nat} (h : 2 * k + 1 < xs.length) :
    ((revAt xs k).set k ((revAt xs k)[xs.length - 1 - k]'(by rw [revAt_length]; omega))).set (xs.length - 1 - k) ((revAt xs k)[k]'(by rw [revAt_length]; omega)) = revAt xs (k + 1) := by
  rw [← revAt_succ xs k h]
  have l1 : k < (revAt xs k).length := by rw [revAt_length]; omega
  have l2 : xs.length - 1 - k < (revAt xs k).length := by rw [revAt_length]; omega
  have e1 : (revAt xs k).getD k 0 = (revAt xs k)[k] := by simp [List.getD, l1]
  have e2 : (revAt xs k).getD (xs.length - 1 - k) 0 = (revAt xs k)[xs.length - 1 - k] := by simp [List.getD, l2]
  rw [e1, e2]
set_option maxHeartbeats 400000 in
theorem slices_Reverse_any (B g n c : Nat) (xs : List Int) (w : World) (hn : xs.length = n) (hx : xs.length ≤ 1099511627776) (hown : Own w B g c xs) :
    Calls Tryz.prog 109 #[(Value.slice (some ⟨g, 0, none⟩) n c)] w fun e w' => e = .returned (.tuple #[]) ∧ Own w' B g c xs.reverse ∧ w.grownBy w' (some g) := by
  subst hn
  have e0 : IntKind.i64.wrap ((xs.length : Int) - 1) = (xs.length : Int) - 1 := IntWalk.i64_in _ (by omega)
  go_enter Tryz.func109, Tryz.ntmps109
  go_wp2
  go_loopw [2, 3] (fun i j wr => ∃ k : Nat, 2 * k ≤ xs.length ∧ i = .int .i64 k ∧ j = .int .i64 ((xs.length : Int) - 1 - k) ∧ Own wr B g c (revAt xs k) ∧ w.grownBy wr (some g)) (fun i _ _ => xs.length - (intOf i).toNat)
  case atStart => exact ⟨0, Nat.zero_le _, rfl, by simp, by rw [revAt_zero]; exact hown, World.grownBy.refl _ _⟩
  case round =>
    obtain ⟨k, hk, rfl, rfl, ho, hg⟩ := hrel
    by_cases hlt : 2 * k + 1 < xs.length
    · have l1 : k < (revAt xs k).length := by rw [revAt_length]; omega
      have l2 : xs.length - 1 - k < (revAt xs k).length := by rw [revAt_length]; omega
      have h1 := ho.cell k l1
      have h2 := ho.cell (xs.length - 1 - k) l2
      have f1 := ho.frozen k
      have f2 := ho.frozen (xs.length - 1 - k)
      have i1 : ((xs.length : Int) - 1 - k).toNat = xs.length - 1 - k := by omega
      have i2 : (0 : Int) ≤ (xs.length : Int) - 1 - k := by omega
      have hne : k ≠ xs.length - 1 - k := by omega
      go_wp2
      go_region
      all_goals go_wp2
      all_goals
        go_roundw
        case rel =>
          have hs := ho.set2 k (xs.length - 1 - k) ((revAt xs k)[xs.length - 1 - k]) ((revAt xs k)[k])
          rw [rev_set hlt] at hs
          exact ⟨k + 1, by omega, by go_num, by go_num, hs.1.drew, grown_drew (World.grownBy.trans' hg hs.2)⟩
        case measure => simp [intOf]; omega
    · go_wp2
      go_end0
      rw [revAt_done xs k (by omega)] at ho
      exact ⟨rfl, ho, hg⟩
set_option maxHeartbeats 400000 in
theorem impl_ReverseWord_any (g o n c : Nat) (xs : List Int) (w : World) (hn : xs.length = n) (hx : xs.length ≤ 1099511627776) (hg : g < w.heap.size) (hc : Cells w g o xs) :
    Calls Tryz.prog 68 #[(Value.slice (some ⟨g, o, none⟩) n c)] w (GotInts w xs.reverse) := by
  subst hn
  go_enter Tryz.func68, Tryz.ntmps68
  go_wp2_with (at_builtin; refine wpList_clone rfl _ _ rfl g o _ c xs rfl hg hc rfl rfl hx ?_)
  intro g1 c1 w1 ho hb
  go_wp2_with fail
  refine (slices_Reverse_any _ g1 _ c1 xs _ rfl hx ho).mono ?_
  rintro e w2 ⟨rfl, ho2, hg2⟩
  go_wp2
  go_ret
  exact GotInts.mk' g1 c1 (by simp) ho2 (hb.grown hg2 hb.size (by intro k hk; cases hk; exact ho.base))
end Go.Proofs.YtdedkfbiookofaaGreatDoor
namespace Go.Proofs.YtdedkfbiookofaaGreatDoor
set_option maxRecDepth 100000
open Go.RowKit Game
set_option maxHeartbeats 1000000 in
theorem spec_ReverseWord_any (g o n c : Nat) (xs : List Int) (w : World) (hn : xs.length = n) (hx : xs.length ≤ 1048576) (hg : g < w.heap.size) (hc : Cells w g o xs) :
    Calls Tryz.prog 12 #[(Value.slice (some ⟨g, o, none⟩) n c)] w (GotInts w xs.reverse) := by
  subst hn
  have ew : IntKind.i64.wrap ((xs.length : Int) - 1) = (xs.length : Int) - 1 := IntWalk.i64_in _ (by omega)
  have Hc := Lib.hid hc
  clear hc
  go_enter Tryz.func12, Tryz.ntmps12
  go_wp2_with fail
  go_loopw [3, 4] (fun ov iv wr => ∃ (k g2 c2 : Nat), k ≤ xs.length ∧ iv = .int .i64 ((xs.length : Int) - 1 - k) ∧ ov = (Value.slice (some ⟨g2, 0, none⟩) k c2) ∧ Own wr w.heap.size g2 c2 (xs.reverse.take k) ∧ Below w.heap.size w wr) (fun _ iv _ => (intOf iv + 1).toNat)
  case atStart => exact ⟨0, w.heap.size, 0, Nat.zero_le _, by go_num, rfl, Own.empty (Nat.le_refl _), (Below.refl _ _).alloc (Nat.le_refl _) _⟩
  case round =>
    obtain ⟨k, g2, c2, hk, rfl, rfl, ho, hb⟩ := hrel
    have hrl : (xs.reverse.take k).length = k := by rw [List.length_take, List.length_reverse]; omega
    by_cases hlt : k < xs.length
    · obtain ⟨t, ht⟩ : ∃ t : Nat, (xs.length : Int) - 1 - k = t := ⟨((xs.length : Int) - 1 - k).toNat, by omega⟩
      have htl : t < xs.length := by omega
      have q1 := (Hc.out.below hb hg) t htl
      have hs : xs.reverse.take (k + 1) = xs.reverse.take k ++ [xs.getD t 0] := by
        rw [List.take_succ_eq_append_getElem (by rw [List.length_reverse]; exact hlt)]
        rw [List.getElem_reverse]
        have : xs.length - 1 - k = t := by omega
        simp [this, List.getD, htl]
      generalize xs.getD t 0 = z at *
      have Hs := Lib.hid hs
      have e1 : IntKind.i64.wrap ((t : Int) - 1) = (t : Int) - 1 := IntWalk.i64_in _ (by omega)
      have t0 : (0 : Int) ≤ (t : Int) := by omega
      rw [ht]
      clear hs
      go_wp2_with (at_builtin; refine wpList_append_int_n (w := wr) rfl _ _ rfl w.heap.size g2 c2 k (xs.reverse.take k) z hrl ho rfl rfl (by omega) ?_)
      intro g6 c6 w6 ho6 hg6 hor6
      have hb6 : Below w.heap.size w w6 := hb.grown hg6 hb.size (by intro t ht; cases ht; exact ho.base)
      rw [← Hs.out] at ho6
      clear ho hb hg6 hor6 q1 hrl
      go_wp2_with fail
      go_roundw
      case rel => exact ⟨k + 1, g6, c6, by omega, congrArg _ (by omega), rfl, ho6, hb6⟩
      case measure => simp [intOf]
    · obtain rfl : k = xs.length := by omega
      have d0 : ¬ (0 : Int) ≤ (xs.length : Int) - 1 - (xs.length : Int) := by omega
      rw [List.take_of_length_le (by rw [List.length_reverse]; exact Nat.le_refl _)] at ho
      go_wp2_with fail
      go_ret
      exact GotInts.mk' g2 c2 (by rw [List.length_reverse]) ho hb
end Go.Proofs.YtdedkfbiookofaaGreatDoor
namespace Go.Proofs.YtdedkfbiookofaaGreatDoor
set_option maxRecDepth 100000
open Go.RowKit Game
theorem rev_act {A : Mat} {n : Nat} (hC : Car A n) {a b : List Nat} (ha : ∀ i ∈ a, i < n) (hb : ∀ i ∈ b, i < n) (h : ∀ u, Game.act A a u = Game.act A b u) (u : Vec) : Game.act A a.reverse u = Game.act A b.reverse u := by
  have h1 := act_rev hC (y := b.reverse) (fun i hi => hb i (List.mem_reverse.1 hi)) u
  rw [List.reverse_reverse] at h1
  have h2 := act_rev hC ha (Game.act A b.reverse u)
  rw [h, h1] at h2
  exact h2
/-- the rest behind a prefix, as both see it -/
theorem weak_nf {c : List (List Int)} {a b : List Int} (hA : WordOk c a) (hB : WordOk c b) : nfI c (a.reverse ++ b) = nfI c ((nfI c a).reverse ++ nfI c b) := by
  obtain ⟨W, hW, eW⟩ := nfI_ex (hA.lets.mono (show 15 ≤ 30 by omega))
  obtain ⟨X, hX, eX⟩ := nfI_ex (hB.lets.mono (show 15 ≤ 30 by omega))
  have hC := hA.isC
  have hnA := (nw_nf hA).lets
  have hnB := (nw_nf hB).lets
  have rv : ∀ {z : List Int}, Lets c 15 z → Lets c 15 z.reverse := fun hz => lets_of hC (by rw [List.length_reverse]; exact hz.few) fun x hx => hz.mem x (List.mem_reverse.1 hx)
  apply nfI_img
  apply toV_inj (by rw [imI_length, imI_length])
  rw [imI_act ((rv hA.lets).app hB.lets) (by decide), imI_act ((rv hnA).app hnB) (by decide), List.map_append, List.map_append, act_append, act_append, List.map_reverse, List.map_reverse, eW, eX]
  have e1 : ∀ l : List Nat, (intsOf l).map Int.toNat = l := fun l => by
    induction l with
    | nil => rfl
    | cons x l ih => show Int.toNat (x : Int) :: (intsOf l).map Int.toNat = _; rw [ih, Int.toNat_natCast]
  rw [e1, e1, hX.act, rev_act (car_of hC) hA.lets.nats_lt hW.lt hW.act]
end Go.Proofs.YtdedkfbiookofaaGreatDoor
namespace Go.Proofs.YtdedkfbiookofaaGreatDoor
set_option maxRecDepth 100000
open Go.RowKit Game
/-- the reference's way to the answer -/
theorem below_far {c : List (List Int)} {V U : List Int} (hU : Nw c U) (hV : Lets c 15 V) (h : V.length < U.length) : decide (subU c V U = []) = false := by
  apply decide_eq_false
  intro e
  have := subU_len V hV.mem hU
  rw [e] at this
  simp at this
  omega
set_option maxHeartbeats 1500000 in
theorem spec_l15Below_any (c : List (List Int)) (gc oc n cc : Nat) (hn : c.length = n) : ∀ (k : Nat) (U V : List Int) (gU oU mU cU gV oV cV : Nat) (w : World), V.length = k → U.length = mU → Nw c U → Lets c 15 V → k ≤ cV → gc < w.heap.size → gU < w.heap.size → gV < w.heap.size → Rows2 w gc oc c → Cells w gU oU U → Cells w gV oV V →
    Calls Tryz.prog 52 #[(Value.slice (some ⟨gc, oc, none⟩) n cc), (Value.slice (some ⟨gU, oU, none⟩) mU cU), (Value.slice (some ⟨gV, oV, none⟩) k cV)] w (Gives w (.bool (decide (subU c V U = []))))
  | 0, U, V, gU, oU, mU, cU, gV, oV, cV, w, hVk, hmU, hU, hV, hcap, hgc, hgU, hgV, hr, hu, hv => by
    obtain rfl : V = [] := List.length_eq_zero_iff.1 hVk
    have hd : ((mU : Int) == 0) = decide (subU c [] U = []) := by
      rw [Bool.eq_iff_iff, beq_iff_eq, decide_eq_true_eq]
      show _ ↔ U = []
      rw [← List.length_eq_zero_iff, hmU]; omega
    generalize decide (subU c [] U = []) = r at *
    have Hd := Lib.hid hd
    clear hd hr hu hv hU hV hVk hmU
    go_enter Tryz.func52, Tryz.ntmps52
    go_wp2_with fail
    go_ret
    exact ⟨ret_bool Hd.out, Below.refl _ _⟩
  | k + 1, U, V, gU, oU, mU, cU, gV, oV, cV, w, hVk, hmU, hU, hV, hcap, hgc, hgU, hgV, hr, hu, hv => by
    by_cases hfar : k + 1 < mU
    · have hd := below_far hU hV (by omega)
      rw [hd]
      have hb : ((mU : Int) == 0) = false := by rw [beq_eq_false_iff_ne]; omega
      have hI : ((k : Int) + 1) < (mU : Int) := by omega
      clear hd hr hu hv hU hV hVk hmU
      go_enter Tryz.func52, Tryz.ntmps52
      go_wp2_with fail
      go_ret
      exact ⟨ret_bool (by first | rfl | exact hb), Below.refl _ _⟩
    cases V with
    | nil => simp at hVk
    | cons s V =>
    have hsi := hV.mem s (by simp)
    obtain ⟨sn, rfl⟩ : ∃ t : Nat, s = t := ⟨s.toNat, by omega⟩
    have hsn : sn < c.length := by omega
    have hVk' : V.length = k := by simpa using hVk
    have hV' : Lets c 15 V := lets_of hV.isC (by have := hV.few; rw [List.length_cons] at this; omega) fun x hx => hV.mem x (by simp [hx])
    have hC := hV.isC
    have hu15 := hU.lets.few
    have hv15 := hV'.few
    have q1 : w.cell? ⟨gV, oV, none⟩ = some (.int .i64 sn) := hv 0 (by simp)
    have hvT : Cells w gV (oV + 1) V := fun j hj => by
      have := hv (j + 1) (by simpa using hj)
      rw [show oV + 1 + j = oV + (j + 1) by omega, this]; simp [List.getD]
    have hS := hU.sub (i := (sn : Int)) (by omega) (by omega)
    have kI := Lib.hid (spec_l8Image_any gc oc n cc gU oU mU cU c U w hn hmU hC (by omega) hU.lets.inr hgc hgU hr hu)
    have hIl := Lib.hid (imI_length c U)
    have qI := Lib.hid (fun (W : World) (B2 g2 c2 : Nat) (ho : Own W B2 g2 c2 (imI c U)) => ho.cell sn (by rw [imI_length]; exact hsn))
    have hans : subU c ((sn : Int) :: V) U = subU c V (subN c U (sn : Int)) := rfl
    rw [hans]
    have hyes := Lib.hid (fun h => subN_neg (c := c) (U := U) (i := sn) h)
    have hno := Lib.hid (fun h => subN_pos (c := c) (U := U) (i := sn) h)
    have kC := Lib.hid (fun (W : World) (hb : Below w.heap.size w W) =>
      show Calls Tryz.prog 96 #[(Value.slice (some ⟨W.heap.size, 0, none⟩) 1 1), (Value.slice (some ⟨gU, oU, none⟩) mU cU)] (W.alloc (.cells #[.int .i64 sn] 3)) (GotInts (W.alloc (.cells #[.int .i64 sn] 3)) ((sn : Int) :: U)) from
        spec_ConcatWords_any W.heap.size 0 1 1 gU oU mU cU [(sn : Int)] U _ rfl hmU (by simp) (by omega) (by simp) (by have := hb.size; simp; omega) (Own.new (B := W.heap.size) (sn : Int) (Nat.le_refl _)).cells ((hu.below hb hgU).below ((Below.refl W.heap.size W).alloc (Nat.le_refl _) _) (Nat.lt_of_lt_of_le hgU hb.size)))
    have hUc := Lib.hid (hU.cons hsn)
    have kN := Lib.hid (fun (W : World) (B2 g2 c2 m2 : Nat) (hm2 : ((sn : Int) :: U).length = m2) (hb : Below w.heap.size w W) (ho : Own W B2 g2 c2 ((sn : Int) :: U)) => spec_l8Normal_any gc oc n cc g2 0 m2 c2 c ((sn : Int) :: U) (nfI c ((sn : Int) :: U)) W hn hm2 hC (by rw [List.length_cons]; omega) (hUc.out.mono (show 16 ≤ 16 by omega)).inr (nfI_ok (hUc.out.mono (by omega))).norm (Nat.lt_of_lt_of_le hgc hb.size) ho.lt (hr.below hb hgc) ho.cells)
    have hlU : Hid (((sn : Int) :: U).length = mU + 1) := Lib.hid (by rw [List.length_cons, hmU])
    have qv := Lib.hid (fun (W : World) (hb : Below w.heap.size w W) => (hb.cell (p := ⟨gV, oV, none⟩) hgV).trans q1)
    have IH := Lib.hid (fun (X : List Int) (hX : Nw c X) (gX oX mX cX oV2 cV2 : Nat) (W : World) (hmX : X.length = mX) (hcap2 : k ≤ cV2) (hb : Below w.heap.size w W) (hgX : gX < W.heap.size) (hx : Cells W gX oX X) (hv2 : Cells W gV oV2 V) => spec_l15Below_any c gc oc n cc hn k X V gX oX mX cX gV oV2 cV2 W hVk' hmX hX hV' hcap2 (Nat.lt_of_lt_of_le hgc hb.size) hgX (Nat.lt_of_lt_of_le hgV hb.size) (hr.below hb hgc) hx hv2)
    have HvT := Lib.hid (fun (W : World) (hb : Below w.heap.size w W) => hvT.below hb hgV)
    have Hu := Lib.hid (fun (W : World) (hb : Below w.heap.size w W) => hu.below hb hgU)
    have HU := Lib.hid hU; have HS := Lib.hid hS; have HmU := Lib.hid hmU
    have H0 : Hid (cV = 1 → Cells w gV oV V) := Lib.hid (fun h => by
      have : V = [] := List.length_eq_zero_iff.1 (by omega)
      subst this; intro j hj; simp at hj)
    have H0' := Lib.hid (fun (h : cV = 1) (W : World) (hb : Below w.heap.size w W) => (H0.out h).below hb hgV)
    have b1 : (0 : Int) ≤ (sn : Int) := by omega
    have b2 : (sn : Int) < (c.length : Int) := by omega
    have b3 : (mU : Int) ≤ (k : Int) + 1 := by omega
    have bz : (((k : Int) + 1) == 0) = false := by rw [beq_eq_false_iff_ne]; omega
    have hbD : Below w.heap.size w w.drew := Below.drew (Below.refl _ _)
    have q1d : w.drew.cell? ⟨gV, oV, none⟩ = some (.int .i64 sn) := q1
    have kId := Lib.hid (show Calls Tryz.prog 95 #[(Value.slice (some ⟨gc, oc, none⟩) n cc), (Value.slice (some ⟨gU, oU, none⟩) mU cU)] w.drew (GotInts w.drew (actW c U (onesL c.length))) from spec_l8Image_any gc oc n cc gU oU mU cU c U w.drew hn hmU hC (by omega) hU.lets.inr hgc hgU (hr.drewN 1) hu)
    clear hV hV' hVk hVk' hsi hr hu hv hvT hU hS hans hmU hC hfar kI H0
    by_cases hz : (imI c U).getD sn 0 < 0
    · have hi := hyes.out hz
      rw [hi]
      rw [hi] at HS
      generalize (imI c U).getD sn 0 = z at *
      have d1 : decide (z < 0) = true := decide_eq_true (by omega)
      clear hi hyes hno hz
      go_enter Tryz.func52, Tryz.ntmps52
      go_wp2_with fail
      go_cut [28] from 7 (fun bv wx => bv = .bool true ∧ Below w.heap.size w wx)
      case first =>
        go_region_with (first
          | (go_at_call 95; refine kId.out.mono ?_; rintro e wA ⟨gA, cA, rfl, hoA, hbA⟩; rw [show (actW c U (onesL c.length)).length = c.length from hIl.out]; have hcA := qI.out _ _ _ _ hoA; have p1A := keepCell hbA q1d))
        all_goals (try go_wp2_with fail)
        all_goals go_meet
        all_goals exact ⟨rfl, hbD.trans (hbA.mono hbD.size)⟩
      case rest =>
        obtain ⟨rfl, hb⟩ := hcut
        clear kId hbD q1d q1
        by_cases hcap1 : cV = 1
        · obtain rfl : k = 0 := by omega
          have HvV := Lib.hid (fun W hW => H0'.out hcap1 W hW)
          subst hcap1
          have hcC := Lib.hid (kC.out wc hb)
          have p1 := qv.out wc hb
          go_wp2_with fail
          refine hcC.out.mono ?_
          rintro e wD ⟨gD, cD, rfl, hoD, hbD2⟩
          have hbE := hb.alloc hb.size (.cells #[.int .i64 sn] 3)
          have hbF := hbE.trans (hbD2.mono hbE.size)
          rw [hlU.out]
          have hN := Lib.hid (kN.out wD _ gD cD (mU + 1) hlU.out hbF hoD)
          clear hbE hbD2 hb hcC hoD p1
          go_wp2_with fail
          refine hN.out.mono ?_
          rintro e wG ⟨gG, cG, rfl, hoG, hbG⟩
          have hB := hbF.trans (hbG.mono hbF.size)
          obtain ⟨mG, hmG⟩ : ∃ mG, (nfI c ((sn : Int) :: U)).length = mG := ⟨_, rfl⟩
          rw [hmG]
          have HmG := Lib.hid hmG
          clear hbF hbG hN hmG
          have hIH := Lib.hid (IH.out _ HS.out gG 0 mG cG oV 0 wG HmG.out (by omega) hB hoG.lt hoG.cells (HvV.out _ hB))
          go_wp2_with fail
          refine hIH.out.mono ?_
          rintro e wZ ⟨rfl, hbZ⟩
          go_wp2_with fail
          go_ret
          exact ⟨rfl, hB.trans (hbZ.mono hB.size)⟩
        · have hcap3 : ¬ cV = 1 := hcap1
          have hcC := Lib.hid (kC.out wc hb)
          have p1 := qv.out wc hb
          go_wp2_with fail
          refine hcC.out.mono ?_
          rintro e wD ⟨gD, cD, rfl, hoD, hbD2⟩
          have hbE := hb.alloc hb.size (.cells #[.int .i64 sn] 3)
          have hbF := hbE.trans (hbD2.mono hbE.size)
          rw [hlU.out]
          have hN := Lib.hid (kN.out wD _ gD cD (mU + 1) hlU.out hbF hoD)
          clear hbE hbD2 hb hcC hoD p1
          go_wp2_with fail
          refine hN.out.mono ?_
          rintro e wG ⟨gG, cG, rfl, hoG, hbG⟩
          have hB := hbF.trans (hbG.mono hbF.size)
          obtain ⟨mG, hmG⟩ : ∃ mG, (nfI c ((sn : Int) :: U)).length = mG := ⟨_, rfl⟩
          rw [hmG]
          have HmG := Lib.hid hmG
          clear hbF hbG hN hmG
          have hIH := Lib.hid (IH.out _ HS.out gG 0 mG cG (oV + 1) (cV - 1) wG HmG.out (by omega) hB hoG.lt hoG.cells (HvT.out _ hB))
          go_wp2_with fail
          refine hIH.out.mono ?_
          rintro e wZ ⟨rfl, hbZ⟩
          go_wp2_with fail
          go_ret
          exact ⟨rfl, hB.trans (hbZ.mono hB.size)⟩
    · have hi := hno.out hz
      rw [hi]
      generalize (imI c U).getD sn 0 = z at *
      have d1 : decide (z < 0) = false := decide_eq_false (by omega)
      clear hi hyes hno hz
      go_enter Tryz.func52, Tryz.ntmps52
      go_wp2_with fail
      go_cut [28] from 7 (fun bv wx => bv = .bool false ∧ Below w.heap.size w wx)
      case first =>
        go_region_with (first
          | (go_at_call 95; refine kId.out.mono ?_; rintro e wA ⟨gA, cA, rfl, hoA, hbA⟩; rw [show (actW c U (onesL c.length)).length = c.length from hIl.out]; have hcA := qI.out _ _ _ _ hoA; have p1A := keepCell hbA q1d))
        all_goals (try go_wp2_with fail)
        all_goals go_meet
        all_goals exact ⟨rfl, hbD.trans (hbA.mono hbD.size)⟩
      case rest =>
        obtain ⟨rfl, hb⟩ := hcut
        clear kId hbD q1d q1
        by_cases hcap1 : cV = 1
        · obtain rfl : k = 0 := by omega
          have HvV := Lib.hid (fun W hW => H0'.out hcap1 W hW)
          subst hcap1
          have hB := hb
          have hIH := Lib.hid (IH.out _ HU.out gU oU mU cU oV 0 wc HmU.out (by omega) hB (Nat.lt_of_lt_of_le hgU hB.size) (Hu.out _ hB) (HvV.out _ hB))
          go_wp2_with fail
          refine hIH.out.mono ?_
          rintro e wZ ⟨rfl, hbZ⟩
          go_wp2_with fail
          go_ret
          exact ⟨rfl, hB.trans (hbZ.mono hB.size)⟩
        · have hcap3 : ¬ cV = 1 := hcap1
          have hB := hb
          have hIH := Lib.hid (IH.out _ HU.out gU oU mU cU (oV + 1) (cV - 1) wc HmU.out (by omega) hB (Nat.lt_of_lt_of_le hgU hB.size) (Hu.out _ hB) (HvT.out _ hB))
          go_wp2_with fail
          refine hIH.out.mono ?_
          rintro e wZ ⟨rfl, hbZ⟩
          go_wp2_with fail
          go_ret
          exact ⟨rfl, hB.trans (hbZ.mono hB.size)⟩
set_option maxHeartbeats 2000000 in
theorem spec_IsBruhatBelow_ok (gc oc n cc g1 o1 n1 c1 g2 o2 n2 c2 : Nat) (c : List (List Int)) (a b : List Int) (w : World) (hn : c.length = n) (hn1 : a.length = n1) (hn2 : b.length = n2) (hA : WordOk c a) (hB : WordOk c b) (hgc : gc < w.heap.size) (hg1 : g1 < w.heap.size) (hg2 : g2 < w.heap.size)
    (hr : Rows2 w gc oc c) (h1 : Cells w g1 o1 a) (h2 : Cells w g2 o2 b) :
    Calls Tryz.prog 11 #[(Value.slice (some ⟨gc, oc, none⟩) n cc), (Value.slice (some ⟨g1, o1, none⟩) n1 c1), (Value.slice (some ⟨g2, o2, none⟩) n2 c2)] w (Gives w (.bool (bruB c a b))) := by
  have hla := hA.few
  have hlb := hB.few
  have hn4 := hA.isC.2.1
  have hcl := hA.isC.2.2.1
  have hnA := nw_nf hA
  have hnB := nw_nf hB
  have i1 := spec_IsWord_any gc oc n cc g1 o1 n1 c1 c a w hn hn1 (by omega) (fun j hj => by have := hcl j hj; omega) (by omega) hr h1
  have i2 := fun W (hs : ∃ q, W = w.drewN q) => spec_IsWord_any gc oc n cc g2 o2 n2 c2 c b W hn hn2 (by omega) (fun j hj => by have := hcl j hj; omega) (by omega) (hr.still hs) (h2.still hs)
  rw [hA.isWord] at i1
  rw [hB.isWord] at i2
  have I1 := Lib.hid i1; have I2 := Lib.hid i2
  have K1 := Lib.hid (fun (W : World) (hb : Below w.heap.size w W) => spec_l8Normal_any gc oc n cc g1 o1 n1 c1 c a (nfI c a) W hn hn1 hA.isC (by omega) hA.inr (nfI_ok (hA.lets.mono (show 15 ≤ 30 by omega))).norm (Nat.lt_of_lt_of_le hgc hb.size) (Nat.lt_of_lt_of_le hg1 hb.size) (hr.below hb hgc) (h1.below hb hg1))
  have K2 := Lib.hid (fun (W : World) (hb : Below w.heap.size w W) => spec_l8Normal_any gc oc n cc g2 o2 n2 c2 c b (nfI c b) W hn hn2 hB.isC (by omega) hB.inr (nfI_ok (hB.lets.mono (show 15 ≤ 30 by omega))).norm (Nat.lt_of_lt_of_le hgc hb.size) (Nat.lt_of_lt_of_le hg2 hb.size) (hr.below hb hgc) (h2.below hb hg2))
  have K3 := Lib.hid (fun (W : World) (gA cA gB cB B1 B2 : Nat) (hb : Below w.heap.size w W) (hoA : Own W B1 gA cA (nfI c a)) (hoB : Own W B2 gB cB (nfI c b)) => spec_l15Below_any c gc oc n cc hn (nfI c b).length (nfI c a) (nfI c b) gA 0 (nfI c a).length cA gB 0 cB W rfl rfl hnA hnB.lets hoB.capLe (Nat.lt_of_lt_of_le hgc hb.size) hoA.lt hoB.lt (hr.below hb hgc) hoA.cells hoB.cells)
  rw [show bruB c a b = decide (subU c (nfI c b) (nfI c a) = []) from rfl]
  generalize decide (subU c (nfI c b) (nfI c a) = []) = r at *
  obtain ⟨mA, hmA⟩ : ∃ m, (nfI c a).length = m := ⟨_, rfl⟩
  obtain ⟨mB, hmB⟩ : ∃ m, (nfI c b).length = m := ⟨_, rfl⟩
  rw [hmA, hmB] at K3
  have HmA := Lib.hid hmA; have HmB := Lib.hid hmB
  clear i1 i2 hr h1 h2 hA hB hnA hnB hn hn1 hn2 hla hlb hcl hn4 hmA hmB
  go_enter Tryz.func11, Tryz.ntmps11
  go_wp2_with fail
  refine I1.out.mono ?_
  rintro e v1 ⟨rfl, hs1⟩
  go_wp2_with fail
  refine (I2.out v1 hs1).mono ?_
  rintro e v2 ⟨rfl, hs2⟩
  have hb0 := below_still (below_still (Below.refl w.heap.size w) hs1) hs2
  go_wp2_with fail
  refine (K1.out v2 hb0).mono ?_
  rintro e w1 ⟨gA, cA, rfl, hoA, hb1⟩
  have hB1 := hb0.trans (hb1.mono hb0.size)
  rw [HmA.out]
  go_wp2_with fail
  refine (K2.out w1 hB1).mono ?_
  rintro e w2 ⟨gB, cB, rfl, hoB, hb2⟩
  have hB2 := hB1.trans (hb2.mono hB1.size)
  rw [HmB.out]
  go_wp2_with fail
  refine (K3.out w2 gA cA gB cB _ _ hB2 (hoA.below hb2 hoA.lt) hoB).mono ?_
  rintro e w3 ⟨rfl, hb3⟩
  have hB3 := hB2.trans (hb3.mono hB2.size)
  go_wp2_with fail
  go_ret
  exact ⟨rfl, hB3⟩
end Go.Proofs.YtdedkfbiookofaaGreatDoor
