/- Groups of at most 24 elements: what the kernel has found, in words; arrows and cells. Plain law. The reference's KLRow and KLPolynomial: contracts. The polynomial of two words as both have it is one. Plain law. The numbers of the polynomials fit 64 bits. Plain law. The program's ConcatWords, CoxeterElement, CoxeterNumber: contracts. slices.Reverse, ReverseWord: contracts. Words read backwards by the reference: contract. -/
import Derived.Test.YtdedkfbiookofaaGreatDoorM39
import Derived.Test.YtdedkfbiookofaaGreatDoorM31
import Derived.Test.YtdedkfbiookofaaGreatDoorM36
import Derived.Test.YtdedkfbiookofaaGreatDoorM14
import Derived.Test.YtdedkfbiookofaaGreatDoorM03
import Derived.Test.YtdedkfbiookofaaGreatDoorM17
import Derived.Test.YtdedkfbiookofaaGreatDoorM29
import Derived.Test.YtdedkfbiookofaaGreatDoorM07
import Derived.Test.YtdedkfbiookofaaGreatDoorM11
import Derived.Test.YtdedkfbiookofaaGreatDoorM06
import Derived.Test.YtdedkfbiookofaaGreatDoorM00
namespace Go.Proofs.YtdedkfbiookofaaGreatDoor
set_option maxRecDepth 100000
open Go.RowKit Game
theorem klB_klC {c : List (List Int)} (h : klB c = true) : klC c = true := by
  have hf := klB_fin h
  have hs : szO c = prodT (nameL c) := if_pos hf
  have h1 := kl_fin (fin_isC hf) hf
  unfold kl24 at h1
  rw [Bool.or_eq_true] at h1
  rcases h1 with h1 | h1
  · have := of_decide_eq_true h1
    have := klB_24 h
    omega
  · exact h1
theorem klB_grp {c : List (List Int)} (h : klB c = true) : Grp c := grp_few (klB_few h)
theorem klB_elA {c : List (List Int)} (h : klB c = true) : grpB c = true ∧ elA c = elemL c := by
  have h1 := (klB_iff c).1 h
  have h2 := (grp_iff c).2 ⟨h1.1, by omega⟩
  exact ⟨h2, if_pos h2⟩
theorem klB_leftT {c : List (List Int)} (h : klB c = true) : leftT c = ltab c (elemL c) (elemL c).length := by
  unfold leftT; rw [(klB_elA h).2]
structure KlFound (c : List (List Int)) : Prop where
  facts : klFacts c.length (elemL c) (leftT c) = true
  tab : tabI (elemL c) (leftT c) = trP (elemL c).length (rowsS (elemL c) (leftT c))
  arr : arrI c.length (elemL c) (leftT c) (tabI (elemL c) (leftT c)) = arrS c (elemL c) (rowsS (elemL c) (leftT c))
  cells : cellSTo (matB (arrI c.length (elemL c) (leftT c) (tabI (elemL c) (leftT c))) (elemL c).length) (elemL c).length (elemL c).length = (cellITo (matB (arrI c.length (elemL c) (leftT c) (tabI (elemL c) (leftT c))) (elemL c).length) (elemL c).length (elemL c).length).2
theorem klFound {c : List (List Int)} (h : klB c = true) : KlFound c := by
  have h1 := klB_klC h
  unfold klC klAll at h1
  rw [← klB_leftT h] at h1
  rw [Bool.and_eq_true, Bool.and_eq_true, Bool.and_eq_true] at h1
  obtain ⟨a, b, d, e⟩ := h1
  exact ⟨a, of_decide_eq_true b, of_decide_eq_true d, of_decide_eq_true e⟩
theorem klOk_of {c : List (List Int)} (h : klB c = true) : KlOk c.length (elemL c).length (elemL c) (leftT c) := by
  have hG := klB_grp h
  have hl := klB_len h
  have hF := klFound h
  have hT := klB_leftT h
  have hword : ∀ k, k < (elemL c).length → ∃ W : List Nat, (elemL c).getD k [] = intsOf W ∧ W.length ≤ 9 := fun k hk => by
    obtain ⟨n, W, -, e, h9, hW⟩ := elem_at (klB_few h) hk
    exact ⟨W, e, by omega⟩
  have hsh : ∀ x, lenA (elemL c) x ≤ 24 := fun x => by
    unfold lenA
    by_cases hx : x < (elemL c).length
    · obtain ⟨W, e, h9⟩ := hword x hx
      rw [e, intsOf_length]; omega
    · simp [List.getD, Nat.not_lt.1 hx]
  have hrow : ∀ x, x < (elemL c).length → (leftT c).getD x [] = lrow c (elemL c) ((elemL c).getD x []) c.length := fun x hx => by
    rw [hT]; unfold ltab
    rw [List.take_length]
    simp [List.getD, hx]
  exact {
    len := rfl
    tlen := by rw [hT, ltab_length (Nat.le_refl _)]
    few := hl.1
    rank := hG.hC.2.1
    short := hsh
    head := kl_head hF.facts
    letter := fun v hv _ => by
      obtain ⟨W, e, -⟩ := hword v hv
      unfold headA
      rw [e]
      cases W with
      | nil => rfl
      | cons a W => show ((a : Nat) : Int) = (((a : Nat) : Int).toNat : Int); rw [Int.toNat_natCast]
    row := fun x hx => by rw [hrow x hx, lrow_length]
    tab := fun x s hx hs => by
      have hmem : (elemL c).getD x [] ∈ elemL c := by simp [List.getD, hx]
      have hi := left_mem hG hmem hs
      have h0 := idx_nonneg.2 hi
      have h1 := idx_lt (L := elemL c) (v := nfI c ([(s : Int)] ++ (elemL c).getD x []))
      have e : ((leftT c).getD x []).getD s 0 = idxL (elemL c) (nfI c ([(s : Int)] ++ (elemL c).getD x [])) := by
        rw [hrow x hx]; unfold lrow; simp [List.getD, hs]
      unfold tabA
      rw [e]
      omega }
end Go.Proofs.YtdedkfbiookofaaGreatDoor
namespace Go.Proofs.YtdedkfbiookofaaGreatDoor
set_option maxRecDepth 100000
open Go.RowKit Game
theorem nf_mem {c : List (List Int)} (hG : Grp c) {v : List Int} (h : Lets c 30 v) : nfI c v ∈ elemL c := by
  obtain ⟨W, hW, he⟩ := nfI_ex h
  rw [he]
  exact (hG.mem _).2 ⟨_, W, ⟨hW.self, rfl⟩, rfl⟩
theorem idx_place {L : List (List Int)} {v : List Int} (h : v ∈ L) : ∃ k : Nat, idxL L v = (k : Int) ∧ k < L.length := by
  rcases idxFrom_spec v L 0 with ⟨-, hn⟩ | ⟨j, hj, e, -⟩
  · exact absurd h hn
  · exact ⟨j, by unfold idxL; rw [e, Nat.zero_add], hj⟩
/-- where an element stands -/
def ixK (c : List (List Int)) (v : List Int) : Nat := (idxL (elemL c) (nfI c v)).toNat
theorem ixK_at {c : List (List Int)} (hG : Grp c) {v : List Int} (h : WordOk c v) : idxL (elemL c) (nfI c v) = (ixK c v : Int) ∧ ixK c v < (elemL c).length := by
  obtain ⟨k, e, hk⟩ := idx_place (nf_mem hG (h.lets.mono (show 15 ≤ 30 by omega)))
  unfold ixK
  rw [e, Int.toNat_natCast]
  exact ⟨rfl, hk⟩
/-- the row of an element, as the reference has it -/
def klRow (c : List (List Int)) (v : List Int) : List (List Int) := (rowsTo (elemL c) (leftT c) (ixK c v)).getD (ixK c v) []
def GotRow (w : World) (row : List (List Int)) (e : Ending) (w' : World) : Prop :=
  ∃ g cap, e = .returned (.tuple #[(Value.slice (some ⟨g, 0, none⟩) row.length cap), .bool true]) ∧ g < w'.heap.size ∧ Rows2 w' g 0 row ∧ Below w.heap.size w w'
theorem GotRow.mk' {w w' : World} {row : List (List Int)} {n : Nat} (g cap : Nat) (hn : row.length = n) (hg : g < w'.heap.size) (hr : Rows2 w' g 0 row) (hb : Below w.heap.size w w') : GotRow w row (.returned (.tuple #[(Value.slice (some ⟨g, 0, none⟩) n cap), .bool true])) w' := by
  subst hn; exact ⟨g, cap, rfl, hg, hr, hb⟩
set_option maxHeartbeats 1000000 in
theorem spec_KLRow_no (gc oc n cc : Nat) (v0 : Value) (c : List (List Int)) (w : World) (hn : c.length = n) (hx : c.length ≤ 1048576) (hrl : ∀ j, j < c.length → (c.getD j []).length ≤ 1048576) (hk : klB c = false) (hgc : gc < w.heap.size) (hr : Rows2 w gc oc c) :
    Calls Tryz.prog 14 #[(Value.slice (some ⟨gc, oc, none⟩) n cc), v0] w (fun e w' => ∃ g cap, e = .returned (.tuple #[(Value.slice (some ⟨g, 0, none⟩) 0 cap), .bool false]) ∧ Below w.heap.size w w') := by
  have hc := spec_l23Ready_any gc oc n cc c w hn hx hrl hgc hr
  rw [hk, show klL c = [] from if_neg (by rw [hk]; decide)] at hc
  have Hc := Lib.hid hc
  clear hc hr hrl
  go_enter Tryz.func14, Tryz.ntmps14
  go_wp2_with fail
  refine Hc.out.mono ?_
  rintro e w1 ⟨g1, c1, rs1, rfl, -, -, hb1⟩
  go_wp2_with fail
  go_ret2
  exact ⟨_, 0, rfl, hb1.alloc hb1.size _⟩
set_option maxHeartbeats 1000000 in
theorem spec_KLRow_yes (gc oc n cc g2 o2 n2 c2 : Nat) (c : List (List Int)) (v : List Int) (w : World) (hn : c.length = n) (hn2 : v.length = n2) (hk : klB c = true) (hB : WordOk c v) (hgc : gc < w.heap.size) (hg2 : g2 < w.heap.size) (hr : Rows2 w gc oc c) (hv : Cells w g2 o2 v) :
    Calls Tryz.prog 14 #[(Value.slice (some ⟨gc, oc, none⟩) n cc), (Value.slice (some ⟨g2, o2, none⟩) n2 c2)] w (GotRow w (klRow c v)) := by
  have H := klOk_of hk
  have hG := klB_grp hk
  have hC := hG.hC
  have hn4 := hC.2.1
  have hlb := hB.few
  have hrl : ∀ j, j < c.length → (c.getD j []).length ≤ 1048576 := fun j hj => by rw [hC.2.2.1 j hj]; omega
  have hc := spec_l23Ready_any gc oc n cc c w hn (by omega) hrl hgc hr
  rw [hk, show klL c = elemL c from if_pos hk] at hc
  have Hc := Lib.hid hc
  have I2 := Lib.hid (fun (W : World) (hb : Below w.heap.size w W) => by
    have := spec_IsWord_any gc oc n cc g2 o2 n2 c2 c v W hn hn2 (by omega) hrl (by omega) (hr.below hb hgc) (hv.below hb hg2)
    rw [hB.isWord] at this
    exact this)
  have K2 := Lib.hid (fun (W : World) (hb : Below w.heap.size w W) => spec_l8Normal_any gc oc n cc g2 o2 n2 c2 c v (nfI c v) W hn hn2 hC (by omega) hB.inr (nfI_ok (hB.lets.mono (show 15 ≤ 30 by omega))).norm (Nat.lt_of_lt_of_le hgc hb.size) (Nat.lt_of_lt_of_le hg2 hb.size) (hr.below hb hgc) (hv.below hb hg2))
  obtain ⟨hix, hlt⟩ := ixK_at hG hB
  have hfew := hG.few
  have hyf := (nfI_ok (hB.lets.mono (show 15 ≤ 30 by omega))).len
  have helen := elem_len hG
  have KI := Lib.hid (fun (W : World) (g cp g' cp' m : Nat) (hm : (nfI c v).length = m) (hL : Rows2 W g 0 (elemL c)) (hy : Cells W g' 0 (nfI c v)) => by
    have := spec_IndexOf_any g 0 (elemL c).length cp g' 0 m cp' (elemL c) (nfI c v) W rfl hm (by omega) (fun j hj => by have := helen _ (show (elemL c).getD j [] ∈ elemL c by simp [List.getD, hj]); omega) hL hy
    rw [hix] at this
    exact this)
  have KR := Lib.hid (fun (W : World) (g cp : Nat) (hb : Below w.heap.size w W) (hg : g < W.heap.size) (hL : Rows2 W g 0 (elemL c)) => spec_l23Rows_ok gc oc n cc g cp (elemL c).length (ixK c v) c (elemL c) W hn hC H hlt (Nat.lt_of_lt_of_le hgc hb.size) (hr.below hb hgc) hg hL)
  have hrow := rowsTo_row (L := elemL c) (T := leftT c) (ixK c v) (ixK c v) (Nat.le_refl _)
  have hrl2 := rowsTo_length (elemL c) (leftT c) (ixK c v)
  have hdef : GotRow w (klRow c v) = GotRow w ((rowsTo (elemL c) (leftT c) (ixK c v)).getD (ixK c v) []) := rfl
  rw [hdef]
  generalize rowsTo (elemL c) (leftT c) (ixK c v) = R at *
  generalize nfI c v = y at *
  generalize ixK c v = i at *
  generalize elemL c = L at *
  obtain ⟨N, hN⟩ : ∃ N, L.length = N := ⟨_, rfl⟩
  obtain ⟨m, hm⟩ : ∃ m, y.length = m := ⟨_, rfl⟩
  rw [hN] at KI KR hrow hlt
  have HN := Lib.hid hN; have Hm := Lib.hid hm
  have kI := Lib.hid (fun (W : World) (g cp g' cp' : Nat) (hL : Rows2 W g 0 L) (hy : Cells W g' 0 y) => KI.out W g cp g' cp' m hm hL hy)
  have b1 : (i : Int) < (R.length : Int) := by omega
  have HR := Lib.hid hrl2; have Hrow := Lib.hid hrow
  clear hr hv hB hC hG H hrl hc hn4 hlb hix hlt hfew hyf helen KI hrow hrl2 hdef hN hm hk
  go_enter Tryz.func14, Tryz.ntmps14
  go_wp2_with fail
  refine Hc.out.mono ?_
  rintro e w1 ⟨g1, c1, rs1, rfl, hcr, hO, hb1⟩
  rw [HN.out]
  have hL1 : Rows2 w1 g1 0 L := by rw [← hcr]; exact hO.rows2
  have hg1 := hO.1.lt
  go_wp2_with fail
  refine (I2.out w1 hb1).mono ?_
  rintro e w2 ⟨rfl, hs2⟩
  have hb2 := below_still (Below.refl w1.heap.size w1) hs2
  have hB2 := hb1.trans (hb2.mono hb1.size)
  go_wp2_with fail
  refine (K2.out w2 hB2).mono ?_
  rintro e w3 ⟨gy, cy, rfl, hoy, hb3⟩
  rw [Hm.out]
  have hB3 := hB2.trans (hb3.mono hB2.size)
  have hL2 := hL1.below hb2 hg1
  have hg2' := Nat.lt_of_lt_of_le hg1 hb2.size
  have hL3 := hL2.below hb3 hg2'
  have hg3 := Nat.lt_of_lt_of_le hg2' hb3.size
  go_wp2_with fail
  refine (kI.out w3 g1 c1 gy cy hL3 hoy.cells).mono ?_
  rintro e w4 ⟨rfl, hs4⟩
  have hb4 := below_still (Below.refl w3.heap.size w3) hs4
  have hB4 := hB3.trans (hb4.mono hB3.size)
  go_wp2_with fail
  refine (KR.out w4 g1 c1 hB4 (Nat.lt_of_lt_of_le hg3 hb4.size) (hL3.below hb4 hg3)).mono ?_
  rintro e w5 ⟨gR, cR, rr, rfl, hcR, hoR, hb5⟩
  have hB5 := hB4.trans (hb5.mono hB4.size)
  obtain ⟨gi, ci, q1, q2, q3⟩ := RowAt.of3 (i := i) hoR hcR (by omega) Hrow.out
  go_wp2_with fail
  go_ret2
  exact GotRow.mk' gi ci Hrow.out q2 q3 hB5
/-- the polynomial of two words, as the reference has it, where there is one -/
def klP (c : List (List Int)) (a b : List Int) : List Int := if klB c = true then (klRow c b).getD (ixK c a) [] else []
set_option maxHeartbeats 1000000 in
theorem spec_KLPolynomial_ok (gc oc n cc g1 o1 n1 c1 g2 o2 n2 c2 : Nat) (c : List (List Int)) (a b : List Int) (w : World) (hn : c.length = n) (hn1 : a.length = n1) (hn2 : b.length = n2) (hA : WordOk c a) (hB : WordOk c b) (hgc : gc < w.heap.size) (hg1 : g1 < w.heap.size) (hg2 : g2 < w.heap.size)
    (hr : Rows2 w gc oc c) (hc1 : Cells w g1 o1 a) (hc2 : Cells w g2 o2 b) :
    Calls Tryz.prog 8 #[(Value.slice (some ⟨gc, oc, none⟩) n cc), (Value.slice (some ⟨g1, o1, none⟩) n1 c1), (Value.slice (some ⟨g2, o2, none⟩) n2 c2)] w (GotIntsB w (klP c a b) (klB c)) := by
  have hC := hA.isC
  have hn4 := hC.2.1
  have hrl : ∀ j, j < c.length → (c.getD j []).length ≤ 1048576 := fun j hj => by rw [hC.2.2.1 j hj]; omega
  cases hk : klB c with
  | false =>
    rw [show klP c a b = [] from if_neg (by rw [hk]; decide)]
    have Hc := Lib.hid (spec_KLRow_no gc oc n cc (Value.slice (some ⟨g2, o2, none⟩) n2 c2) c w hn (by omega) hrl hk hgc hr)
    clear hr hc1 hc2 hA hB hk hrl
    go_enter Tryz.func8, Tryz.ntmps8
    go_wp2_with fail
    refine Hc.out.mono ?_
    rintro e w1 ⟨g3, c3, rfl, hb1⟩
    go_wp2_with fail
    go_ret2
    exact ⟨_, 0, rfl, Own.empty hb1.size, hb1.alloc hb1.size _⟩
  | true =>
    have H := klOk_of hk
    have hG := klB_grp hk
    have hla := hA.few
    rw [show klP c a b = (klRow c b).getD (ixK c a) [] from if_pos hk]
    have HR := Lib.hid (spec_KLRow_yes gc oc n cc g2 o2 n2 c2 c b w hn hn2 hk hB hgc hg2 hr hc2)
    have I1 := Lib.hid (fun (W : World) (hb : Below w.heap.size w W) => by
      have := spec_IsWord_any gc oc n cc g1 o1 n1 c1 c a W hn hn1 (by omega) hrl (by omega) (hr.below hb hgc) (hc1.below hb hg1)
      rw [hA.isWord] at this
      exact this)
    have Hc := Lib.hid (fun (W : World) (hb : Below w.heap.size w W) => by
      have := spec_l23Ready_any gc oc n cc c W hn (by omega) hrl (Nat.lt_of_lt_of_le hgc hb.size) (hr.below hb hgc)
      rw [hk, show klL c = elemL c from if_pos hk] at this
      exact this)
    have K1 := Lib.hid (fun (W : World) (hb : Below w.heap.size w W) => spec_l8Normal_any gc oc n cc g1 o1 n1 c1 c a (nfI c a) W hn hn1 hC (by omega) hA.inr (nfI_ok (hA.lets.mono (show 15 ≤ 30 by omega))).norm (Nat.lt_of_lt_of_le hgc hb.size) (Nat.lt_of_lt_of_le hg1 hb.size) (hr.below hb hgc) (hc1.below hb hg1))
    obtain ⟨hix, hlt⟩ := ixK_at hG hA
    have hlb := (ixK_at hG hB).2
    have hrowl : (klRow c b).length = (elemL c).length := rowsTo_row _ _ (Nat.le_refl _)
    have hpl : ((klRow c b).getD (ixK c a) []).length ≤ 1000 := by
      have h1 := klRows_len H (ixK c b) hlb (ixK c b) (ixK c a)
      have h2 := H.few
      unfold pol at h1
      unfold klRow
      omega
    have hfew := hG.few
    have hyf := (nfI_ok (hA.lets.mono (show 15 ≤ 30 by omega))).len
    have helen := elem_len hG
    have KI := Lib.hid (fun (W : World) (g cp g' cp' m : Nat) (hm : (nfI c a).length = m) (hL : Rows2 W g 0 (elemL c)) (hy : Cells W g' 0 (nfI c a)) => by
      have := spec_IndexOf_any g 0 (elemL c).length cp g' 0 m cp' (elemL c) (nfI c a) W rfl hm (by omega) (fun j hj => by have := helen _ (show (elemL c).getD j [] ∈ elemL c by simp [List.getD, hj]); omega) hL hy
      rw [hix] at this
      exact this)
    generalize nfI c a = y at *
    generalize ixK c a = i at *
    generalize klRow c b = row at *
    generalize elemL c = L at *
    obtain ⟨N, hN⟩ : ∃ N, L.length = N := ⟨_, rfl⟩
    obtain ⟨m, hm⟩ : ∃ m, y.length = m := ⟨_, rfl⟩
    obtain ⟨mp, hmp⟩ : ∃ m, (row.getD i []).length = m := ⟨_, rfl⟩
    rw [hN] at KI hrowl hlt
    rw [hmp] at hpl
    have HN := Lib.hid hN; have Hm := Lib.hid hm; have Hmp := Lib.hid hmp; have Hrl := Lib.hid hrowl
    have kI := Lib.hid (fun (W : World) (g cp g' cp' : Nat) (hL : Rows2 W g 0 L) (hy : Cells W g' 0 y) => KI.out W g cp g' cp' m hm hL hy)
    have b1 : (i : Int) < (N : Int) := by omega
    clear hr hc1 hc2 hA hB hC hG H hrl hn4 hla hix hlt hlb hfew hyf helen KI hN hm hk
    go_enter Tryz.func8, Tryz.ntmps8
    go_wp2_with fail
    refine HR.out.mono ?_
    rintro e w1 ⟨gr, cr, rfl, hgr, hrow, hb1⟩
    rw [Hrl.out]
    go_wp2_with fail
    refine (I1.out w1 hb1).mono ?_
    rintro e w2 ⟨rfl, hs2⟩
    have hb2 := below_still (Below.refl w1.heap.size w1) hs2
    have hB2 := hb1.trans (hb2.mono hb1.size)
    have hrow2 := hrow.below hb2 hgr
    have hgr2 := Nat.lt_of_lt_of_le hgr hb2.size
    go_wp2_with fail
    refine (Hc.out w2 hB2).mono ?_
    rintro e w3 ⟨gL, cL, rs1, rfl, hcr, hO, hb3⟩
    rw [HN.out]
    have hL3 : Rows2 w3 gL 0 L := by rw [← hcr]; exact hO.rows2
    have hgL := hO.1.lt
    have hB3 := hB2.trans (hb3.mono hB2.size)
    have hrow3 := hrow2.below hb3 hgr2
    have hgr3 := Nat.lt_of_lt_of_le hgr2 hb3.size
    have hal : Below w3.heap.size w3 (w3.alloc (.cells #[] 3)) := (Below.refl _ _).alloc (Nat.le_refl _) _
    have hoE : Own (w3.alloc (.cells #[] 3)) w.heap.size w3.heap.size 0 [] := Own.empty hB3.size
    have hB4 := hB3.trans (hal.mono hB3.size)
    go_wp2_with fail
    refine (K1.out _ hB4).mono ?_
    have hL4 := hL3.below hal hgL
    have hgL4 := Nat.lt_of_lt_of_le hgL hal.size
    have hrow4 := hrow3.below hal hgr3
    have hgr4 := Nat.lt_of_lt_of_le hgr3 hal.size
    generalize w3.alloc (.cells #[] 3) = w4 at *
    rintro e w5 ⟨gy, cy, rfl, hoy, hb5⟩
    rw [Hm.out]
    have hB5 := hB4.trans (hb5.mono hB4.size)
    go_wp2_with fail
    refine (kI.out w5 gL cL gy cy (hL4.below hb5 hgL4) hoy.cells).mono ?_
    rintro e w6 ⟨rfl, hs6⟩
    have hb6 := below_still (Below.refl w5.heap.size w5) hs6
    have hB6 := hB5.trans (hb6.mono hB5.size)
    have hrow6 := (hrow4.below hb5 hgr4).below hb6 (Nat.lt_of_lt_of_le hgr4 hb5.size)
    have hoE6 := (hoE.below hb5 hoE.lt).below hb6 (Nat.lt_of_lt_of_le hoE.lt hb5.size)
    obtain ⟨gp, op, cp, q1, q2, q3, q4⟩ := hrow6 i (by omega)
    rw [Hmp.out, Nat.zero_add] at q1
    go_wp2_with (at_builtin; refine wpList_append_ints_n rfl _ _ rfl w.heap.size w3.heap.size 0 0 [] rfl hoE6 gp op mp cp (row.getD i []) Hmp.out q4 rfl rfl (by omega) ?_)
    intro gZ cZ w7 hoZ hgZ hor
    have hB7 : Below w.heap.size w w7 := hB6.grown hgZ hB6.size (by intro t ht; cases ht; exact hoE6.base)
    go_wp2_with fail
    go_ret2
    exact GotIntsB.mk' gZ cZ Hmp.out hoZ hB7
end Go.Proofs.YtdedkfbiookofaaGreatDoor
namespace Go.Proofs.YtdedkfbiookofaaGreatDoor
set_option maxRecDepth 100000
open Go.RowKit Game
theorem rowsTo_pre {L T : List (List Int)} {t i : Nat} (h : i ≤ t) : ∀ d, (rowsTo L T (t + d)).getD i [] = (rowsTo L T t).getD i []
  | 0 => rfl
  | d + 1 => by
    have hl := rowsTo_length L T (t + d)
    rw [← Nat.add_assoc, rowsTo_succ, List.getD, List.getElem?_append_left (by omega)]
    exact rowsTo_pre h d
theorem klP_tab {c : List (List Int)} {a b : List Int} (hk : klB c = true) (hA : WordOk c a) (hB : WordOk c b) : klP c a b = pol (tabI (elemL c) (leftT c)) (ixK c a) (ixK c b) := by
  have hG := klB_grp hk
  have ha := (ixK_at hG hA).2
  have hb := (ixK_at hG hB).2
  rw [(klFound hk).tab, show klP c a b = (klRow c b).getD (ixK c a) [] from if_pos hk]
  generalize ixK c a = i at *
  have e1 : pol (trP (elemL c).length (rowsS (elemL c) (leftT c))) i (ixK c b) = pol (rowsS (elemL c) (leftT c)) (ixK c b) i := by
    unfold trP
    generalize rowsS (elemL c) (leftT c) = R
    unfold pol
    simp [List.getD, ha, hb]
  rw [e1]
  unfold pol rowsS klRow
  obtain ⟨d, hd⟩ : ∃ d, (elemL c).length - 1 = ixK c b + d := ⟨(elemL c).length - 1 - ixK c b, by omega⟩
  rw [hd, rowsTo_pre (Nat.le_refl _)]
end Go.Proofs.YtdedkfbiookofaaGreatDoor
namespace Go.Proofs.YtdedkfbiookofaaGreatDoor
set_option maxRecDepth 100000
open Go.RowKit Game
theorem i64s_nil : I64s [] := fun _ h => absurd h (by simp)
theorem i64s_one : I64s [1] := fun _ h => by rw [List.mem_singleton] at h; subst h; decide
theorem i64s_getD {a : List Int} (h : I64s a) (i : Nat) : (Lit.int .i64 (a.getD i 0)).wf = true := by
  by_cases hi : i < a.length
  · exact h _ (by simp [List.getD, hi])
  · rw [show a.getD i 0 = 0 by simp [List.getD, Nat.le_of_not_lt hi]]; decide
theorem i64s_trim {a : List Int} (h : I64s a) : I64s (trim a) := fun x hx => h x (List.mem_of_mem_take hx)
theorem i64s_add {a : List Int} (h : I64s a) (b : List Int) : I64s (addP a b) := by
  refine i64s_trim fun x hx => ?_
  obtain ⟨i, -, rfl⟩ := List.mem_map.1 hx
  split
  · exact wrap64_wf _
  · exact i64s_getD h i
theorem i64s_app0 {a : List Int} (h : I64s a) (k : Nat) : I64s (List.replicate k 0 ++ a) := fun x hx => by
  rcases List.mem_append.1 hx with h1 | h1
  · rw [(List.mem_replicate.1 h1).2]; decide
  · exact h x h1
theorem i64s_shI {a : List Int} (h : I64s a) (k : Nat) : I64s (shI a k) := by
  unfold shI
  split
  · exact i64s_nil
  · exact i64s_app0 (i64s_trim h) k
theorem i64s_shS {a : List Int} (h : I64s a) (k : Nat) : I64s (shS a k) := by rw [← sh_eq]; exact i64s_shI h k
theorem i64s_rI (c : List (List Int)) : ∀ V x, I64s (rI c V x)
  | [], x => by
    unfold rI; split
    · exact i64s_one
    · exact i64s_nil
  | t :: V, x => by
    unfold rI; split
    · exact i64s_rI c V _
    · exact i64s_add (i64s_shI (i64s_rI c V _) 1) _
theorem i64s_fold {L T : List (List Int)} {R : List (List (List Int))} {u n k s : Nat} : ∀ (zs : List Nat) {p : List Int}, I64s p → I64s (zs.foldl (zStepS L T R u n k s) p)
  | [], _, h => h
  | z :: zs, p, h => by
    rw [List.foldl_cons]
    refine i64s_fold zs ?_
    unfold zStepS
    split
    · exact i64s_add h _
    · exact h
theorem i64s_nextZ {L T : List (List Int)} {R : List (List (List Int))} (hR : ∀ i u, I64s (pol R i u)) (n u t : Nat) : I64s (nextZ L T R n u t) := by
  refine i64s_fold _ ?_
  unfold nextS0
  split
  · exact i64s_add (hR _ _) _
  · exact i64s_add (i64s_shS (hR _ _) 1) _
theorem i64s_rows (L T : List (List Int)) : ∀ t i u, I64s (pol (rowsTo L T t) i u)
  | 0, i, u => by
    show I64s ((([firstTo L.length]).getD i []).getD u [])
    rcases i with _ | i
    · show I64s ((firstTo L.length).getD u [])
      by_cases hu : u < L.length
      · rw [show (firstTo L.length).getD u [] = if u = 0 then [1] else [] by simp [firstTo, List.getD, hu]]
        split
        · exact i64s_one
        · exact i64s_nil
      · rw [show (firstTo L.length).getD u [] = [] by simp [firstTo, List.getD, hu]]; exact i64s_nil
    · rw [show (([firstTo L.length]).getD (i + 1) []).getD u [] = [] by simp [List.getD]]; exact i64s_nil
  | t + 1, i, u => by
    have hl := rowsTo_length L T t
    have ih := i64s_rows L T t
    by_cases e : i < t + 1
    · rw [show pol (rowsTo L T (t + 1)) i u = pol (rowsTo L T t) i u by
        unfold pol; rw [rowsTo_succ]; congr 1; rw [List.getD, List.getElem?_append_left (by omega)]; rfl]
      exact ih i u
    · by_cases e2 : i = t + 1
      · subst e2
        rw [show pol (rowsTo L T (t + 1)) (t + 1) u = (nextTo' L T (rowsTo L T t) (t + 1) L.length).getD u [] by
          unfold pol; rw [rowsTo_succ]; congr 1; rw [← hl]; simp [List.getD]]
        by_cases hu : u < L.length
        · rw [show (nextTo' L T (rowsTo L T t) (t + 1) L.length).getD u [] = nextZ L T (rowsTo L T t) (t + 1) u (tabA T (t + 1) (headA L (t + 1))) by simp [nextTo', List.getD, hu]]
          exact i64s_nextZ ih _ _ _
        · rw [show (nextTo' L T (rowsTo L T t) (t + 1) L.length).getD u [] = [] by simp [nextTo', List.getD, hu]]; exact i64s_nil
      · rw [show pol (rowsTo L T (t + 1)) i u = [] by
          unfold pol
          rw [show (rowsTo L T (t + 1)).getD i [] = [] by rw [List.getD, List.getElem?_eq_none (by rw [rowsTo_length]; omega)]; rfl]
          rfl]
        exact i64s_nil
theorem i64s_klP (c : List (List Int)) (a b : List Int) : I64s (klP c a b) := by
  unfold klP
  split
  · exact i64s_rows _ _ _ _ _
  · exact i64s_nil
end Go.Proofs.YtdedkfbiookofaaGreatDoor
namespace Go.Proofs.YtdedkfbiookofaaGreatDoor
set_option maxRecDepth 100000
open Go.RowKit Game
set_option maxHeartbeats 1000000 in
theorem impl_ConcatWords_any (g1 o1 n1 c1 g2 o2 n2 c2 : Nat) (xs ys : List Int) (w : World) (hn1 : xs.length = n1) (hn2 : ys.length = n2) (hl1 : 1 ≤ xs.length + ys.length) (hx : xs.length ≤ 10000) (hy : ys.length ≤ 10000)
    (hk1 : n1 ≤ c1) (hk2 : n2 ≤ c2) (hg1 : g1 < w.heap.size) (hg2 : g2 < w.heap.size) (hc1 : Cells w g1 o1 xs) (hc2 : Cells w g2 o2 ys) :
    Calls Tryz.prog 114 #[(Value.slice (some ⟨g1, o1, none⟩) n1 c1), (Value.slice (some ⟨g2, o2, none⟩) n2 c2)] w (GotInts w (xs ++ ys)) := by
  let W := w.alloc (.cells #[] 3)
  have hbW : Below w.heap.size w W := (Below.refl _ _).alloc (Nat.le_refl _) _
  have hC := Lib.hid (show Calls Tryz.prog 142 #[(Value.slice (some ⟨W.heap.size, 0, none⟩) 3 3)] (W.alloc (.cells #[(Value.slice (some ⟨w.heap.size, 0, none⟩) 0 0), (Value.slice (some ⟨g1, o1, none⟩) n1 c1), (Value.slice (some ⟨g2, o2, none⟩) n2 c2)] 25)) (GotInts (W.alloc (.cells #[(Value.slice (some ⟨w.heap.size, 0, none⟩) 0 0), (Value.slice (some ⟨g1, o1, none⟩) n1 c1), (Value.slice (some ⟨g2, o2, none⟩) n2 c2)] 25)) (xs ++ ys)) by
      have hal := (Below.refl W.heap.size W).alloc (Nat.le_refl _) (.cells #[(Value.slice (some ⟨w.heap.size, 0, none⟩) 0 0), (Value.slice (some ⟨g1, o1, none⟩) n1 c1), (Value.slice (some ⟨g2, o2, none⟩) n2 c2)] 25)
      have hnew := heap_alloc_new W (.cells #[(Value.slice (some ⟨w.heap.size, 0, none⟩) 0 0), (Value.slice (some ⟨g1, o1, none⟩) n1 c1), (Value.slice (some ⟨g2, o2, none⟩) n2 c2)] 25)
      have hlen : lensTo [[], xs, ys] [[], xs, ys].length = xs.length + ys.length := by
        simp only [List.length_cons, List.length_nil, lensTo, List.getD_cons_zero, List.getD_cons_succ]; omega
      have hcat : catTo [[], xs, ys] [[], xs, ys].length = xs ++ ys := by simp [catTo]
      have hW2 := hbW.trans (hal.mono hbW.size)
      have hszW : W.heap.size = w.heap.size + 1 := by simp [W]
      have hsz : (W.alloc (.cells #[(Value.slice (some ⟨w.heap.size, 0, none⟩) 0 0), (Value.slice (some ⟨g1, o1, none⟩) n1 c1), (Value.slice (some ⟨g2, o2, none⟩) n2 c2)] 25)).heap.size = W.heap.size + 1 := by simp
      have hres := slices_Concat_any W.heap.size 0 3 3 [[], xs, ys] (W.alloc (.cells #[(Value.slice (some ⟨w.heap.size, 0, none⟩) 0 0), (Value.slice (some ⟨g1, o1, none⟩) n1 c1), (Value.slice (some ⟨g2, o2, none⟩) n2 c2)] 25)) rfl (by simp) (by rw [hlen]; omega) (by rw [hlen]; omega) (by rw [hsz]; omega) (by
        intro j hj
        have hj' : j = 0 ∨ j = 1 ∨ j = 2 := by simp at hj; omega
        rcases hj' with rfl | rfl | rfl
        · exact ⟨w.heap.size, 0, 0, (threeCells hnew).1, Nat.le_refl _, by rw [hsz, hszW]; omega, fun k hk => absurd hk (by simp)⟩
        · refine ⟨g1, o1, c1, ?_, ?_, Nat.lt_of_lt_of_le hg1 hW2.size, hc1.below hW2 hg1⟩
          · show World.cell? _ _ = some (Value.slice (some ⟨g1, o1, none⟩) xs.length c1)
            rw [hn1]; exact (threeCells hnew).2.1
          · show xs.length ≤ c1
            omega
        · refine ⟨g2, o2, c2, ?_, ?_, Nat.lt_of_lt_of_le hg2 hW2.size, hc2.below hW2 hg2⟩
          · show World.cell? _ _ = some (Value.slice (some ⟨g2, o2, none⟩) ys.length c2)
            rw [hn2]; exact (threeCells hnew).2.2
          · show ys.length ≤ c2
            omega)
      rw [hcat] at hres
      exact hres)
  have hb2 : Below w.heap.size w (W.alloc (.cells #[(Value.slice (some ⟨w.heap.size, 0, none⟩) 0 0), (Value.slice (some ⟨g1, o1, none⟩) n1 c1), (Value.slice (some ⟨g2, o2, none⟩) n2 c2)] 25)) := hbW.alloc hbW.size _
  have Hb2 := Lib.hid hb2
  have hszW : W.heap.size = w.heap.size + 1 := by simp [W]
  rw [hszW] at hC
  clear hb2 hbW hc1 hc2 hszW
  go_enter Tryz.func114, Tryz.ntmps114
  go_wp2_with fail
  refine hC.out.mono ?_
  rintro e w4 ⟨g4, c4, rfl, ho4, hb4⟩
  go_wp2_with fail
  go_ret
  exact GotInts.mk' g4 c4 (by rw [List.length_append, hn1, hn2]) (ho4.mono Hb2.out.size) (Hb2.out.trans (hb4.mono Hb2.out.size))
end Go.Proofs.YtdedkfbiookofaaGreatDoor
namespace Go.Proofs.YtdedkfbiookofaaGreatDoor
set_option maxRecDepth 100000
open Go.RowKit
/-- the first k and the last k exchanged -/
def revAt (xs : List Int) (k : Nat) : List Int := (List.range xs.length).map fun t => if t < k ∨ xs.length - k ≤ t then xs.getD (xs.length - 1 - t) 0 else xs.getD t 0
theorem revAt_length (xs : List Int) (k : Nat) : (revAt xs k).length = xs.length := by simp [revAt]
theorem revAt_getD (xs : List Int) (k t : Nat) (ht : t < xs.length) : (revAt xs k).getD t 0 = if t < k ∨ xs.length - k ≤ t then xs.getD (xs.length - 1 - t) 0 else xs.getD t 0 := by
  simp [revAt, List.getD, ht]
theorem revAt_zero (xs : List Int) : revAt xs 0 = xs := by
  apply List.ext_getElem (revAt_length _ _)
  intro t h1 h2
  have := revAt_getD xs 0 t h2
  rw [if_neg (by omega)] at this
  simpa [List.getD, h1, h2] using this
theorem revAt_done (xs : List Int) (k : Nat) (h : xs.length ≤ 2 * k + 1) : revAt xs k = xs.reverse := by
  apply List.ext_getElem (by simp [revAt_length])
  intro t h1 h2
  have ht : t < xs.length := by rw [revAt_length] at h1; exact h1
  have e := revAt_getD xs k t ht
  have h3 : (revAt xs k)[t] = (revAt xs k).getD t 0 := by simp [List.getD, h1]
  rw [h3, e, List.getElem_reverse]
  split
  · simp [List.getD, show xs.length - 1 - t < xs.length by omega]
  · have : xs.length - 1 - t = t := by omega
    simp [List.getD, ht, this]
theorem revAt_succ (xs : List Int) (k : Nat) (h : 2 * k + 1 < xs.length) :
    ((revAt xs k).set k ((revAt xs k).getD (xs.length - 1 - k) 0)).set (xs.length - 1 - k) ((revAt xs k).getD k 0) = revAt xs (k + 1) := by
  rw [revAt_getD _ _ _ (by omega), revAt_getD _ _ _ (by omega)]
  apply List.ext_getElem (by simp [revAt_length])
  intro t h1 h2
  have ht : t < xs.length := by rw [revAt_length] at h2; exact h2
  have h3 : (revAt xs (k + 1))[t] = (revAt xs (k + 1)).getD t 0 := by simp [List.getD, h2]
  rw [h3, revAt_getD _ _ _ ht, List.getElem_set, List.getElem_set]
  have h4 : t < (revAt xs k).length := by rw [revAt_length]; exact ht
  have h5 : (revAt xs k)[t] = (revAt xs k).getD t 0 := by simp [List.getD, h4]
  rw [h5, revAt_getD _ _ _ ht]
  by_cases a : xs.length - 1 - k = t
  · rw [if_pos a, if_neg (by omega), if_pos (by omega), show xs.length - 1 - t = k by omega]
  · rw [if_neg a]
    by_cases b : k = t
    · subst b
      rw [if_pos rfl, if_neg (by omega), if_pos (by omega)]
    · rw [if_neg b]
      by_cases c : t < k ∨ xs.length - k ≤ t
      · rw [if_pos c, if_pos (by omega)]
      · rw [if_neg c, if_neg (by omega)]
theorem rev_set {xs : List Int} {k : Nat} (h : 2 * k + 1 < xs.length) :
    ((revAt xs k).set k ((revAt xs k)[xs.length - 1 - k]'(by rw [revAt_length]; omega))).set (xs.length - 1 - k) ((revAt xs k)[k]'(by rw [revAt_length]; omega)) = revAt xs (k + 1) := by
  rw [← revAt_succ xs k h]
  have l1 : k < (revAt xs k).length := by rw [revAt_length]; omega
  have l2 : xs.length - 1 - k < (revAt xs k).length := by rw [revAt_length]; omega
  have e1 : (revAt xs k).getD k 0 = (revAt xs k)[k] := by simp [List.getD, l1]
  have e2 : (revAt xs k).getD (xs.length - 1 - k) 0 = (revAt xs k)[xs.length - 1 - k] := by simp [List.getD, l2]
  rw [e1, e2]
set_option maxHeartbeats 400000 in
theorem slices_Reverse_any (B g n c : Nat) (xs : List Int) (w : World) (hn : xs.length = n) (hx : xs.length ≤ 1099511627776) (hown : Own w B g c xs) :
    Calls Tryz.prog 109 #[(Value.slice (some ⟨g, 0, none⟩) n c)] w fun e w' => e = .returned (.tuple #[]) ∧ Own w' B g c xs.reverse ∧ w.grownBy w' (some g) := by
  subst hn
  have e0 : IntKind.i64.wrap ((xs.length : Int) - 1) = (xs.length : Int) - 1 := IntWalk.i64_in _ (by omega)
  go_enter Tryz.func109, Tryz.ntmps109
  go_wp2
  go_loopw [2, 3] (fun i j wr => ∃ k : Nat, 2 * k ≤ xs.length ∧ i = .int .i64 k ∧ j = .int .i64 ((xs.length : Int) - 1 - k) ∧ Own wr B g c (revAt xs k) ∧ w.grownBy wr (some g)) (fun i _ _ => xs.length - (intOf i).toNat)
  case atStart => exact ⟨0, Nat.zero_le _, rfl, by simp, by rw [revAt_zero]; exact hown, World.grownBy.refl _ _⟩
  case round =>
    obtain ⟨k, hk, rfl, rfl, ho, hg⟩ := hrel
    by_cases hlt : 2 * k + 1 < xs.length
    · have l1 : k < (revAt xs k).length := by rw [revAt_length]; omega
      have l2 : xs.length - 1 - k < (revAt xs k).length := by rw [revAt_length]; omega
      have h1 := ho.cell k l1
      have h2 := ho.cell (xs.length - 1 - k) l2
      have f1 := ho.frozen k
      have f2 := ho.frozen (xs.length - 1 - k)
      have i1 : ((xs.length : Int) - 1 - k).toNat = xs.length - 1 - k := by omega
      have i2 : (0 : Int) ≤ (xs.length : Int) - 1 - k := by omega
      have hne : k ≠ xs.length - 1 - k := by omega
      go_wp2
      go_region
      all_goals go_wp2
      all_goals
        go_roundw
        case rel =>
          have hs := ho.set2 k (xs.length - 1 - k) ((revAt xs k)[xs.length - 1 - k]) ((revAt xs k)[k])
          rw [rev_set hlt] at hs
          exact ⟨k + 1, by omega, by go_num, by go_num, hs.1.drew, grown_drew (World.grownBy.trans' hg hs.2)⟩
        case measure => simp [intOf]; omega
    · go_wp2
      go_end0
      rw [revAt_done xs k (by omega)] at ho
      exact ⟨rfl, ho, hg⟩
set_option maxHeartbeats 400000 in
theorem impl_ReverseWord_any (g o n c : Nat) (xs : List Int) (w : World) (hn : xs.length = n) (hx : xs.length ≤ 1099511627776) (hg : g < w.heap.size) (hc : Cells w g o xs) :
    Calls Tryz.prog 68 #[(Value.slice (some ⟨g, o, none⟩) n c)] w (GotInts w xs.reverse) := by
  subst hn
  go_enter Tryz.func68, Tryz.ntmps68
  go_wp2_with (at_builtin; refine wpList_clone rfl _ _ rfl g o _ c xs rfl hg hc rfl rfl hx ?_)
  intro g1 c1 w1 ho hb
  go_wp2_with fail
  refine (slices_Reverse_any _ g1 _ c1 xs _ rfl hx ho).mono ?_
  rintro e w2 ⟨rfl, ho2, hg2⟩
  go_wp2
  go_ret
  exact GotInts.mk' g1 c1 (by simp) ho2 (hb.grown hg2 hb.size (by intro k hk; cases hk; exact ho.base))
end Go.Proofs.YtdedkfbiookofaaGreatDoor
namespace Go.Proofs.YtdedkfbiookofaaGreatDoor
set_option maxRecDepth 100000
open Go.RowKit Game
set_option maxHeartbeats 1000000 in
theorem spec_ReverseWord_any (g o n c : Nat) (xs : List Int) (w : World) (hn : xs.length = n) (hx : xs.length ≤ 1048576) (hg : g < w.heap.size) (hc : Cells w g o xs) :
    Calls Tryz.prog 12 #[(Value.slice (some ⟨g, o, none⟩) n c)] w (GotInts w xs.reverse) := by
  subst hn
  have ew : IntKind.i64.wrap ((xs.length : Int) - 1) = (xs.length : Int) - 1 := IntWalk.i64_in _ (by omega)
  have Hc := Lib.hid hc
  clear hc
  go_enter Tryz.func12, Tryz.ntmps12
  go_wp2_with fail
  go_loopw [3, 4] (fun ov iv wr => ∃ (k g2 c2 : Nat), k ≤ xs.length ∧ iv = .int .i64 ((xs.length : Int) - 1 - k) ∧ ov = (Value.slice (some ⟨g2, 0, none⟩) k c2) ∧ Own wr w.heap.size g2 c2 (xs.reverse.take k) ∧ Below w.heap.size w wr) (fun _ iv _ => (intOf iv + 1).toNat)
  case atStart => exact ⟨0, w.heap.size, 0, Nat.zero_le _, by go_num, rfl, Own.empty (Nat.le_refl _), (Below.refl _ _).alloc (Nat.le_refl _) _⟩
  case round =>
    obtain ⟨k, g2, c2, hk, rfl, rfl, ho, hb⟩ := hrel
    have hrl : (xs.reverse.take k).length = k := by rw [List.length_take, List.length_reverse]; omega
    by_cases hlt : k < xs.length
    · obtain ⟨t, ht⟩ : ∃ t : Nat, (xs.length : Int) - 1 - k = t := ⟨((xs.length : Int) - 1 - k).toNat, by omega⟩
      have htl : t < xs.length := by omega
      have q1 := (Hc.out.below hb hg) t htl
      have hs : xs.reverse.take (k + 1) = xs.reverse.take k ++ [xs.getD t 0] := by
        rw [List.take_succ_eq_append_getElem (by rw [List.length_reverse]; exact hlt)]
        rw [List.getElem_reverse]
        have : xs.length - 1 - k = t := by omega
        simp [this, List.getD, htl]
      generalize xs.getD t 0 = z at *
      have Hs := Lib.hid hs
      have e1 : IntKind.i64.wrap ((t : Int) - 1) = (t : Int) - 1 := IntWalk.i64_in _ (by omega)
      have t0 : (0 : Int) ≤ (t : Int) := by omega
      rw [ht]
      clear hs
      go_wp2_with (at_builtin; refine wpList_append_int_n (w := wr) rfl _ _ rfl w.heap.size g2 c2 k (xs.reverse.take k) z hrl ho rfl rfl (by omega) ?_)
      intro g6 c6 w6 ho6 hg6 hor6
      have hb6 : Below w.heap.size w w6 := hb.grown hg6 hb.size (by intro t ht; cases ht; exact ho.base)
      rw [← Hs.out] at ho6
      clear ho hb hg6 hor6 q1 hrl
      go_wp2_with fail
      go_roundw
      case rel => exact ⟨k + 1, g6, c6, by omega, congrArg _ (by omega), rfl, ho6, hb6⟩
      case measure => simp [intOf]
    · obtain rfl : k = xs.length := by omega
      have d0 : ¬ (0 : Int) ≤ (xs.length : Int) - 1 - (xs.length : Int) := by omega
      rw [List.take_of_length_le (by rw [List.length_reverse]; exact Nat.le_refl _)] at ho
      go_wp2_with fail
      go_ret
      exact GotInts.mk' g2 c2 (by rw [List.length_reverse]) ho hb
end Go.Proofs.YtdedkfbiookofaaGreatDoor
