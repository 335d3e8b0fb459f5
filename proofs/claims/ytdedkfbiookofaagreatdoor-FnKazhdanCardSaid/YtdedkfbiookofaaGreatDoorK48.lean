/- The reference's CanonicalBasis: contract. The program's BettiOf, CanonicalBasis: contracts. Two matrices side by side. append of n zeros ('append(xs, make([]int, n)...)') to a list of the call's own. JoinCartans (the reference's): contract. -/
import Derived.Test.YtdedkfbiookofaaGreatDoorK47
import Derived.Test.YtdedkfbiookofaaGreatDoorK46
import Derived.Test.YtdedkfbiookofaaGreatDoorK11
import Derived.Test.YtdedkfbiookofaaGreatDoorK00
import Derived.Lib.AppendZeros
import Derived.Test.YtdedkfbiookofaaGreatDoorK02
import Derived.Test.YtdedkfbiookofaaGreatDoorK14
import Derived.Deep.RegionHeld3
import Derived.Deep.OwnRows
import Derived.Test.YtdedkfbiookofaaGreatDoorK12
namespace Go.Proofs.YtdedkfbiookofaaGreatDoor
set_option maxRecDepth 100000
open Go.RowKit Game
attribute [local go_sem ↓] Go.wp_at_zero Go.wp_at_succ
/-- the terms of the first elements whose polynomials hold something -/
def cbTo (L row : List (List Int)) : Nat → List (List Int × List Int)
  | 0 => []
  | t + 1 => cbTo L row t ++ (if row.getD t [] = [] then [] else [(L.getD t [], row.getD t [])])
def cbL (c : List (List Int)) (v : List Int) : List (List Int × List Int) := if krB c v = true then cbTo (elemL c) (klRow c v) (elemL c).length else []
theorem cbTo_mem {L row : List (List Int)} : ∀ t, ∀ x ∈ cbTo L row t, ∃ j, j < t ∧ x = (L.getD j [], row.getD j [])
  | 0, x, h => by simp [cbTo] at h
  | t + 1, x, h => by
    rw [cbTo] at h
    rcases List.mem_append.1 h with h | h
    · obtain ⟨j, hj, e⟩ := cbTo_mem t x h
      exact ⟨j, by omega, e⟩
    · split at h
      · simp at h
      · rw [List.mem_singleton] at h
        exact ⟨t, by omega, h⟩
theorem cbTo_len {L row : List (List Int)} : ∀ t, (cbTo L row t).length ≤ t
  | 0 => by simp [cbTo]
  | t + 1 => by
    rw [cbTo, List.length_append]
    have := cbTo_len (L := L) (row := row) t
    split <;> simp <;> omega
theorem asc_at {L : List (List Int)} (h : Asc L) {j u : Nat} (hj : j < u) (hu : u < L.length) : 0 < wordCmp (L.getD u []) (L.getD j []) := by
  have h1 : wordCmp L[j] L[u] < 0 := List.pairwise_iff_getElem.1 h j u (by omega) hu hj
  have h2 := wordCmp_anti L[j] L[u]
  rw [show L.getD u [] = L[u] by simp [List.getD, hu], show L.getD j [] = L[j] by simp [List.getD, show j < L.length by omega]]
  omega
def GotTerms (w : World) (xs : List (List Int × List Int)) (b : Bool) (e : Ending) (w' : World) : Prop :=
  ∃ g cap ts, e = .returned (.tuple #[(Value.slice (some ⟨g, 0, none⟩) xs.length cap), .bool b]) ∧ contT ts = xs ∧ OwnT w' w.heap.size g cap ts ∧ Below w.heap.size w w'
theorem GotTerms.mk' {w w' : World} {xs : List (List Int × List Int)} {b : Bool} {n : Nat} (g cap : Nat) (ts : List TRef) (hn : ts.length = n) (hc : contT ts = xs) (ho : OwnT w' w.heap.size g cap ts) (hb : Below w.heap.size w w') : GotTerms w xs b (.returned (.tuple #[(Value.slice (some ⟨g, 0, none⟩) n cap), .bool b])) w' := by
  subst hn
  exact ⟨g, cap, ts, by rw [← hc]; simp [contT], hc, ho, hb⟩
set_option maxHeartbeats 2000000 in
theorem spec_CanonicalBasis_any (gc oc n cc g2 o2 n2 c2 : Nat) (c : List (List Int)) (v : List Int) (w : World) (hn : c.length = n) (hn2 : v.length = n2) (hx : c.length ≤ 1048576) (hrl : ∀ j, j < c.length → (c.getD j []).length ≤ 1048576) (hl : v.length ≤ 1048576) (hgc : gc < w.heap.size) (hg2 : g2 < w.heap.size) (hr : Rows2 w gc oc c) (hv : Cells w g2 o2 v) :
    Calls Tryz.prog 26 #[(Value.slice (some ⟨gc, oc, none⟩) n cc), (Value.slice (some ⟨g2, o2, none⟩) n2 c2)] w (GotTerms w (cbL c v) (krB c v)) := by
  have HR := Lib.hid (spec_KLRow_any gc oc n cc g2 o2 n2 c2 c v w hn hn2 hx hrl hl hgc hg2 hr hv)
  cases hk : krB c v with
  | false =>
    rw [show cbL c v = [] from if_neg (by rw [hk]; decide)]
    rw [hk] at HR
    clear hr hv hrl hk
    generalize krL c v = row at *
    go_enter Tryz.func26, Tryz.ntmps26
    go_wp2_with fail
    refine HR.out.mono ?_
    rintro e w1 ⟨g3, c3, rfl, -, -, hb1⟩
    go_wp2_with fail
    go_ret2
    exact GotTerms.mk' _ 0 [] rfl rfl (OwnT.empty hb1.size) (hb1.alloc hb1.size _)
  | true =>
    obtain ⟨h1, h2⟩ := krB_yes hk
    rw [show cbL c v = cbTo (elemL c) (klRow c v) (elemL c).length from if_pos hk]
    rw [hk, show krL c v = klRow c v from if_pos hk] at HR
    have hc := fun (W : World) (hb : Below w.heap.size w W) => spec_l23Ready_any gc oc n cc c W hn hx hrl (Nat.lt_of_lt_of_le hgc hb.size) (hr.below hb hgc)
    rw [h1, show klL c = elemL c from if_pos h1] at hc
    have Hc := Lib.hid hc
    have H := klOk_of h1
    have hrow := row_few h1 h2
    have hsh := H.short
    have hN24 := H.few
    have hrl2 := klRow_length (c := c) (b := v)
    have hasc := (klB_grp h1).asc
    clear hr hv hc hrl hk h1 h2 H
    generalize klRow c v = row at *
    generalize elemL c = L at *
    have hlast := fun (u : Nat) (hu : u < L.length) (ts : List TRef) (ht : contT ts = cbTo L row u) => show (∀ t ∈ ts, 0 < wordCmp (L.getD u []) t.1.xs) ∧ (∀ t ∈ ts, t.1.xs.length ≤ 1048576 ∧ t.2.xs.length ≤ 1048576) by
      have key : ∀ t ∈ ts, ∃ j, j < u ∧ t.1.xs = L.getD j [] ∧ t.2.xs = row.getD j [] := fun t h => by
        have hm : (t.1.xs, t.2.xs) ∈ cbTo L row u := by rw [← ht]; exact List.mem_map_of_mem h
        obtain ⟨j, hj, e⟩ := cbTo_mem u _ hm
        simp only [Prod.mk.injEq] at e
        exact ⟨j, hj, e.1, e.2⟩
      refine ⟨fun t h => ?_, fun t h => ?_⟩
      · obtain ⟨j, hj, e, -⟩ := key t h
        rw [e]; exact asc_at hasc hj hu
      · obtain ⟨j, hj, e, e2⟩ := key t h
        rw [e, e2]
        have q1 := hsh j
        have q2 := hrow j
        unfold lenA at q1
        omega
    obtain ⟨N, hN⟩ : ∃ N, L.length = N := ⟨_, rfl⟩
    rw [hN] at hrl2 hN24 ⊢ hlast
    have HN := Lib.hid hN; have Hrl := Lib.hid hrl2; have Hrow := Lib.hid hrow; have Hsh := Lib.hid hsh; have Hla := Lib.hid hlast
    have Hlen := Lib.hid (fun t => cbTo_len (L := L) (row := row) t)
    have Hsu : Hid (∀ t, cbTo L row (t + 1) = cbTo L row t ++ (if row.getD t [] = [] then [] else [(L.getD t [], row.getD t [])])) := Lib.hid (fun _ => rfl)
    clear hN hrl2 hrow hsh hlast hasc
    go_enter Tryz.func26, Tryz.ntmps26
    go_wp2_with fail
    refine HR.out.mono ?_
    rintro e w1 ⟨g3, c3, rfl, hg3, hR1, hb1⟩
    rw [Hrl.out]
    go_wp2_with fail
    refine (Hc.out w1 hb1).mono ?_
    rintro e w2 ⟨g4, c4, rs4, rfl, hcr, hO4, hb2⟩
    rw [HN.out]
    have hB2 := hb1.trans (hb2.mono hb1.size)
    have hL2 : Rows2 w2 g4 0 L := by rw [← hcr]; exact hO4.rows2
    have hg4 := hO4.1.lt
    have hR2 := hR1.below hb2 hg3
    have hg3' := Nat.lt_of_lt_of_le hg3 hb2.size
    clear hcr hO4 hR1 hg3 hb2 hb1 HR Hc
    obtain ⟨w3, hw3⟩ : ∃ w3, w3 = w2.alloc (.cells #[] 70) := ⟨_, rfl⟩
    have ho3 : OwnT w3 w2.heap.size w2.heap.size 0 [] := by rw [hw3]; exact OwnT.empty (Nat.le_refl _)
    have hb3 : Below w2.heap.size w2 w3 := by rw [hw3]; exact (Below.refl _ _).alloc (Nat.le_refl _) _
    go_wp2_with fail
    rw [← hw3]
    clear hw3
    generalize hE : w2.heap.size = E at *
    go_loopw [10, 11] (fun pv uv wr => ∃ (u g c m : Nat) (ts : List TRef), u ≤ N ∧ uv = .int .i64 (u : Nat) ∧ m ≤ u ∧ pv = (Value.slice (some ⟨g, 0, none⟩) m c) ∧ Hid (ts.length = m) ∧ Hid (contT ts = cbTo L row u) ∧ OwnT wr E g c ts ∧ Below E w2 wr) (fun _ uv _ => N - (intOf uv).toNat)
    case atStart => exact ⟨0, E, 0, 0, [], Nat.zero_le _, rfl, Nat.le_refl _, rfl, rfl, rfl, ho3, hb3⟩
    case round =>
      clear ho3 hb3
      obtain ⟨u, g, cp, m, ts, hu, rfl, hmu, rfl, htl, htc, ho, hb⟩ := hrel
      by_cases hlt : u < N
      · have hb' : Below w2.heap.size w2 wr := by rw [hE]; exact hb
        obtain ⟨ga, oa, ca, a1, a2, a3, a4⟩ := (hR2.below hb' (by omega)) u (by rw [Hrl.out]; exact hlt)
        obtain ⟨gb, ob, cb, b1, b2, b3, b4⟩ := (hL2.below hb' (by omega)) u (by rw [HN.out]; exact hlt)
        rw [Nat.zero_add] at a1 b1
        have q1 := Hrow.out u
        have q2 := Hsh.out u
        unfold lenA at q2
        have hsu := Hsu.out u
        have hla := Hla.out u hlt ts htc.out
        have hEs := hb.size
        have hge := ho.base; have hgl := ho.lt
        have hCl : ∀ W, Below wr.heap.size wr W → W.cell? ⟨g4, u, none⟩ = some (Value.slice (some ⟨gb, ob, none⟩) ((L.getD u []).length) cb) ∧ W.cell? ⟨g3, u, none⟩ = some (Value.slice (some ⟨ga, oa, none⟩) ((row.getD u []).length) ca) := fun W h => ⟨(h.cell (p := ⟨g4, u, none⟩) (by show g4 < wr.heap.size; omega)).trans b1, (h.cell (p := ⟨g3, u, none⟩) (by show g3 < wr.heap.size; omega)).trans a1⟩
        have HCl := Lib.hid hCl
        have Hsu2 := Lib.hid hsu
        have Hlen2 := Lib.hid (Hlen.out (u + 1))
        generalize hnxE : cbTo L row (u + 1) = nx at *
        have HnxE := Lib.hid hnxE
        clear hnxE
        generalize row.getD u [] = p1 at *
        generalize L.getD u [] = e1 at *
        have K1 := Lib.hid (fun (W : World) (h : Below wr.heap.size wr W) => spec_l21Put_last g cp m gb ob e1.length cb ga oa p1.length ca E ts e1 p1 W htl.out rfl rfl (by omega) (by omega) (by omega) hla.2 hla.1 (ho.below h) (Nat.lt_of_lt_of_le b3 h.size) (Nat.lt_of_lt_of_le a3 h.size) (b4.below h b3) (a4.below h a3))
        have hd1 : Below wr.heap.size wr wr.drew := Below.drew (Below.refl _ _)
        clear hCl a1 a2 a3 a4 b1 b2 b3 b4 hsu hb' ho hla
        go_wp2_with fail
        go_region_held3 (fun W => W.cell? ⟨g4, u, none⟩ = some (Value.slice (some ⟨gb, ob, none⟩) e1.length cb) ∧ W.cell? ⟨g3, u, none⟩ = some (Value.slice (some ⟨ga, oa, none⟩) p1.length ca))
          (first | with_reducible exact HCl.out _ hd1 | with_reducible exact HCl.out _ hXA)
          ((go_at_call 62; (with_reducible refine (K1.out _ hd1).mono ?_); rintro e wB ⟨gA, cA, us, rfl, huc, hoA, hbA⟩; have hXA := hd1.trans (hbA.mono hd1.size)))
        have hul : us.length = (contT ts ++ (if p1 = [] then [] else [(e1, p1)])).length := by rw [← huc]; simp [contT]
        have hnx : contT us = nx := by rw [huc, Hsu2.out, htc.out]
        have hum : us.length ≤ u + 1 := by
          have := Hlen2.out
          rw [← hnx] at this
          simpa [contT] using this
        have Hnx := Lib.hid hnx
        have hoB' : OwnT wB E gA cA us := hoA.mono (by have := hd1.size; omega)
        have hbB' : Below E w2 wB := hb.trans (hXA.mono (by omega))
        clear hoA hbA hXA hb HCl K1 hul huc hnx
        go_wp2_with fail
        go_roundw
        case rel => exact ⟨u + 1, gA, cA, us.length, us, by omega, by go_num, hum, rfl, rfl, Lib.hid (by rw [HnxE.out]; exact Hnx.out), hoB', hbB'⟩
        case measure => simp [intOf]; omega
      · obtain rfl : u = N := by omega
        go_wp2_with fail
        go_ret2
        exact GotTerms.mk' g cp ts htl.out htc.out (ho.mono (by rw [← hE]; exact hB2.size)) (hB2.trans ((show Below w2.heap.size w2 wr by rw [hE]; exact hb).mono hB2.size))
end Go.Proofs.YtdedkfbiookofaaGreatDoor
namespace Go.Proofs.YtdedkfbiookofaaGreatDoor
set_option maxRecDepth 100000
open Go.RowKit Game
attribute [local go_sem ↓] Go.wp_at_zero Go.wp_at_succ
set_option maxHeartbeats 2000000 in
theorem impl_BettiOf_gen (gc oc n cc : Nat) (vv : Value) (c : List (List Int)) (b : List Int) (w : World) (hn : c.length = n) (hx : c.length ≤ 1048576) (hrl : ∀ j, j < c.length → (c.getD j []).length ≤ 1048576) (hgc : gc < w.heap.size) (hr : Rows2 w gc oc c) (hv : WordV w c (Value.slice (some ⟨gc, oc, none⟩) n cc) vv b) (hm : MaxL w) :
    Calls Tryz.prog 28 #[(Value.slice (some ⟨gc, oc, none⟩) n cc), vv] w (GotInts w (btL c b)) := by
  have HR := Lib.hid (impl_KLRow_gen gc oc n cc vv c b w hn hx hrl hgc hr hv hm)
  cases hk : krB c b with
  | false =>
    rw [show btL c b = [] from if_neg (by rw [hk]; decide)]
    rw [hk] at HR
    clear hr hv hrl hk hm
    generalize krL c b = row at *
    go_enter Tryz.func28, Tryz.ntmps28
    go_wp2_with fail
    refine HR.out.mono ?_
    rintro e w1 ⟨g3, c3, rs3, rfl, -, -, hb1⟩
    go_wp2_with fail
    go_ret
    exact ⟨_, 0, rfl, Own.empty hb1.size, hb1.alloc hb1.size _⟩
  | true =>
    obtain ⟨h1, h2⟩ := krB_yes hk
    rw [show btL c b = btTo (elemL c) (klRow c b) (elemL c).length from if_pos hk]
    rw [hk, show krL c b = klRow c b from if_pos hk] at HR
    have hE := fun (W : World) (hb : Below w.heap.size w W) => impl_ElementsOf_any gc oc n cc c W hn hx hrl (Nat.lt_of_lt_of_le hgc hb.size) (hr.below hb hgc) (hm.below hb)
    rw [(klB_elA h1).1, (klB_elA h1).2] at hE
    have He := Lib.hid hE
    have H := klOk_of h1
    have hrow := row_few h1 h2
    have hsh := H.short
    have hN24 := H.few
    have hrl2 := klRow_length (c := c) (b := b)
    have hbt := btTo_len hsh hrow
    clear hr hv hE hrl hk h1 h2 H hm
    generalize klRow c b = row at *
    generalize elemL c = L at *
    obtain ⟨N, hN⟩ : ∃ N, L.length = N := ⟨_, rfl⟩
    rw [hN] at hrl2 hN24 ⊢
    have HN := Lib.hid hN; have Hrl := Lib.hid hrl2; have Hrow := Lib.hid hrow; have Hsh := Lib.hid hsh; have Hbt := Lib.hid hbt
    have Hsu : Hid (∀ t, btTo L row (t + 1) = addP (btTo L row t) (shI (row.getD t []) (lenA L t))) := Lib.hid (fun t => by rw [btTo_succ, sh_eq])
    have Hz : Hid (btTo L row 0 = []) := Lib.hid rfl
    clear hN hrl2 hrow hsh hbt
    go_enter Tryz.func28, Tryz.ntmps28
    go_wp2_with fail
    refine HR.out.mono ?_
    rintro e w1 ⟨g3, c3, rs3, rfl, hc3, hO3, hb1⟩
    rw [Hrl.out]
    go_wp2_with fail
    refine (He.out w1 hb1).mono ?_
    rintro e w2 ⟨g4, c4, rs4, rfl, hcr, hO4, hb2⟩
    rw [HN.out]
    have hB2 := hb1.trans (hb2.mono hb1.size)
    have hL2 : Rows2 w2 g4 0 L := by rw [← hcr]; exact hO4.rows2
    have hR1 : Rows2 w1 g3 0 row := by rw [← hc3]; exact hO3.rows2
    have hg3 := hO3.1.lt
    have hg4 := hO4.1.lt
    have hR2 := hR1.below hb2 hg3
    have hg3' := Nat.lt_of_lt_of_le hg3 hb2.size
    clear hcr hO4 hc3 hO3 hR1 hg3 hb2 hb1 HR He
    obtain ⟨w3, hw3⟩ : ∃ w3, w3 = w2.alloc (.cells #[] 3) := ⟨_, rfl⟩
    have ho3 : Own w3 w2.heap.size w2.heap.size 0 (btTo L row 0) := by rw [hw3, Hz.out]; exact Own.empty (Nat.le_refl _)
    have hb3 : Below w2.heap.size w2 w3 := by rw [hw3]; exact (Below.refl _ _).alloc (Nat.le_refl _) _
    go_wp2_with fail
    rw [← hw3]
    clear hw3
    generalize hE : w2.heap.size = E at *
    go_loopw [9, 29] (fun pv uv wr => ∃ (u g c : Nat), u ≤ N ∧ uv = .int .i64 (u : Nat) ∧ pv = (Value.slice (some ⟨g, 0, none⟩) ((btTo L row u).length) c) ∧ Own wr E g c (btTo L row u) ∧ Below E w2 wr) (fun _ uv _ => N - (intOf uv).toNat)
    case atStart => exact ⟨0, E, 0, Nat.zero_le _, rfl, rfl, ho3, hb3⟩
    case round =>
      clear ho3 hb3
      obtain ⟨u, g, cp, hu, rfl, rfl, ho, hb⟩ := hrel
      by_cases hlt : u < N
      · have hb' : Below w2.heap.size w2 wr := by rw [hE]; exact hb
        obtain ⟨ga, oa, ca, a1, a2, a3, a4⟩ := (hR2.below hb' (by omega)) u (by rw [Hrl.out]; exact hlt)
        obtain ⟨gb, ob, cb, b1, -, -, -⟩ := (hL2.below hb' (by omega)) u (by rw [HN.out]; exact hlt)
        rw [Nat.zero_add] at a1 b1
        have q1 := Hrow.out u
        have q2 := Hsh.out u
        have q3 := Hbt.out u
        have hsu := Hsu.out u
        have hEs := hb.size
        have hge := ho.base; have hgl := ho.lt; have hgc' := ho.capLe
        change wr.cell? _ = some (Value.slice (some ⟨_, _, none⟩) (lenA L u) _) at b1
        have hI1 : (u : Int) < (N : Int) := by omega
        generalize lenA L u = lu at *
        generalize row.getD u [] = p1 at *
        generalize hnx : btTo L row (u + 1) = nx at *
        have Hnx := Lib.hid hnx
        clear hnx
        generalize btTo L row u = s0 at *
        have K1 := Lib.hid (show Calls Tryz.prog 64 #[(Value.slice (some ⟨ga, oa, none⟩) p1.length ca), .int .i64 (lu : Int)] wr (GotInts wr (shI p1 lu)) from impl_shifted_any ga oa p1.length ca lu p1 wr rfl (by omega) a2 (by omega) a3 a4)
        have K2 := Lib.hid (fun (W : World) (gA cA B : Nat) (h : Below wr.heap.size wr W) (hA : Own W B gA cA (shI p1 lu)) => show Calls Tryz.prog 63 #[(Value.slice (some ⟨g, 0, none⟩) s0.length cp), (Value.slice (some ⟨gA, 0, none⟩) ((shI p1 lu).length) cA)] W (GotInts W (addP s0 (shI p1 lu))) from impl_AddPoly_any g 0 s0.length cp gA 0 (shI p1 lu).length cA s0 (shI p1 lu) W rfl rfl (by omega) (by have := shI_le p1 lu; omega) (Nat.lt_of_lt_of_le hgl h.size) hA.lt (ho.below h hgl).cells hA.cells)
        rw [← hsu] at K2
        generalize shI p1 lu = A at *
        clear a2 a3 a4 hsu hb' ho
        go_wp2_with fail
        refine K1.out.mono ?_
        rintro e wB ⟨gA, cA, rfl, hoA, hbA⟩
        go_wp2_with fail
        refine (K2.out wB gA cA _ hbA hoA).mono ?_
        rintro e wC ⟨gB, cB, rfl, hoB, hbB⟩
        have hXB := hbA.trans (hbB.mono hbA.size)
        have hoB' : Own wC E gB cB nx := hoB.mono (by have := hbA.size; omega)
        have hbB' : Below E w2 wC := hb.trans (hXB.mono (by omega))
        clear hoB hbB hXB hoA hbA hb K1 K2
        go_wp2_with fail
        go_roundw
        case rel => exact ⟨u + 1, gB, cB, by omega, by go_num, by rw [Hnx.out], by rw [Hnx.out]; exact hoB', hbB'⟩
        case measure => simp [intOf]; omega
      · obtain rfl : u = N := by omega
        go_wp2_with fail
        go_ret
        exact ⟨g, cp, rfl, ho.mono (by rw [← hE]; exact hB2.size), hB2.trans ((show Below w2.heap.size w2 wr by rw [hE]; exact hb).mono hB2.size)⟩
set_option maxHeartbeats 2000000 in
theorem impl_CanonicalBasis_gen (gc oc n cc : Nat) (vv : Value) (c : List (List Int)) (b : List Int) (w : World) (hn : c.length = n) (hx : c.length ≤ 1048576) (hrl : ∀ j, j < c.length → (c.getD j []).length ≤ 1048576) (hgc : gc < w.heap.size) (hr : Rows2 w gc oc c) (hv : WordV w c (Value.slice (some ⟨gc, oc, none⟩) n cc) vv b) (hm : MaxL w) :
    Calls Tryz.prog 25 #[(Value.slice (some ⟨gc, oc, none⟩) n cc), vv] w (GotTerms w (cbL c b) (krB c b)) := by
  have HR := Lib.hid (impl_KLRow_gen gc oc n cc vv c b w hn hx hrl hgc hr hv hm)
  cases hk : krB c b with
  | false =>
    rw [show cbL c b = [] from if_neg (by rw [hk]; decide)]
    rw [hk] at HR
    clear hr hv hrl hk hm
    generalize krL c b = row at *
    go_enter Tryz.func25, Tryz.ntmps25
    go_wp2_with fail
    refine HR.out.mono ?_
    rintro e w1 ⟨g3, c3, rs3, rfl, -, -, hb1⟩
    go_wp2_with fail
    go_ret2
    exact GotTerms.mk' _ 0 [] rfl rfl (OwnT.empty hb1.size) (hb1.alloc hb1.size _)
  | true =>
    obtain ⟨h1, h2⟩ := krB_yes hk
    rw [show cbL c b = cbTo (elemL c) (klRow c b) (elemL c).length from if_pos hk]
    rw [hk, show krL c b = klRow c b from if_pos hk] at HR
    have hE := fun (W : World) (hb : Below w.heap.size w W) => impl_ElementsOf_any gc oc n cc c W hn hx hrl (Nat.lt_of_lt_of_le hgc hb.size) (hr.below hb hgc) (hm.below hb)
    rw [(klB_elA h1).1, (klB_elA h1).2] at hE
    have He := Lib.hid hE
    have hN24 := (klOk_of h1).few
    have hrl2 := klRow_length (c := c) (b := b)
    clear hr hv hE hrl hk h1 h2 hm
    generalize klRow c b = row at *
    generalize elemL c = L at *
    obtain ⟨N, hN⟩ : ∃ N, L.length = N := ⟨_, rfl⟩
    rw [hN] at hrl2 hN24 ⊢
    have HN := Lib.hid hN; have Hrl := Lib.hid hrl2
    have Hlen := Lib.hid (fun t => cbTo_len (L := L) (row := row) t)
    have Hsu : Hid (∀ t, cbTo L row (t + 1) = cbTo L row t ++ (if row.getD t [] = [] then [] else [(L.getD t [], row.getD t [])])) := Lib.hid (fun _ => rfl)
    clear hN hrl2
    go_enter Tryz.func25, Tryz.ntmps25
    go_wp2_with fail
    refine HR.out.mono ?_
    rintro e w1 ⟨g3, c3, rs3, rfl, hc3, hO3, hb1⟩
    rw [Hrl.out]
    go_wp2_with fail
    refine (He.out w1 hb1).mono ?_
    rintro e w2 ⟨g4, c4, rs4, rfl, hcr, hO4, hb2⟩
    rw [HN.out]
    have hB2 := hb1.trans (hb2.mono hb1.size)
    have hL2 : Rows2 w2 g4 0 L := by rw [← hcr]; exact hO4.rows2
    have hR1 : Rows2 w1 g3 0 row := by rw [← hc3]; exact hO3.rows2
    have hg3 := hO3.1.lt
    have hg4 := hO4.1.lt
    have hR2 := hR1.below hb2 hg3
    have hg3' := Nat.lt_of_lt_of_le hg3 hb2.size
    clear hcr hO4 hc3 hO3 hR1 hg3 hb2 hb1 HR He
    obtain ⟨w3, hw3⟩ : ∃ w3, w3 = w2.alloc (.cells #[] 70) := ⟨_, rfl⟩
    have ho3 : OwnT w3 w2.heap.size w2.heap.size 0 [] := by rw [hw3]; exact OwnT.empty (Nat.le_refl _)
    have hb3 : Below w2.heap.size w2 w3 := by rw [hw3]; exact (Below.refl _ _).alloc (Nat.le_refl _) _
    go_wp2_with fail
    rw [← hw3]
    clear hw3
    have HR2 := Lib.hid hR2; have HL2 := Lib.hid hL2
    have HB2 := Lib.hid hB2
    clear hR2 hL2 hB2
    obtain ⟨E, hE⟩ : ∃ E, w2.heap.size = E := ⟨_, rfl⟩
    rw [hE] at ho3 hb3 hg3' hg4
    have HE := Lib.hid hE
    clear hE
    go_loopw [10, 30] (fun pv uv wr => ∃ (u g c m : Nat) (ts : List TRef), u ≤ N ∧ uv = .int .i64 (u : Nat) ∧ m ≤ u ∧ pv = (Value.slice (some ⟨g, 0, none⟩) m c) ∧ Hid (ts.length = m) ∧ Hid (contT ts = cbTo L row u) ∧ OwnT wr E g c ts ∧ Below E w2 wr) (fun _ uv _ => N - (intOf uv).toNat)
    case atStart => exact ⟨0, E, 0, 0, [], Nat.zero_le _, rfl, Nat.le_refl _, by rw [HE.out], rfl, rfl, ho3, hb3⟩
    case round =>
      clear ho3 hb3
      obtain ⟨u, g, cp, m, ts, hu, rfl, hmu, rfl, htl, htc, ho, hb⟩ := hrel
      by_cases hlt : u < N
      · have hb' : Below w2.heap.size w2 wr := by rw [HE.out]; exact hb
        have hge := ho.base; have hgl := ho.lt
        have hE2 := HE.out
        obtain ⟨ga, oa, ca, x1, -, x3, x4⟩ := HR2.out u (by rw [Hrl.out]; exact hlt)
        obtain ⟨gb, ob, cb, y1, -, y3, y4⟩ := HL2.out u (by rw [HN.out]; exact hlt)
        rw [Nat.zero_add] at x1 y1
        have hgna : ga ≠ g := by omega
        have hgnb : gb ≠ g := by omega
        have a1 := (hb'.cell (p := ⟨g3, u, none⟩) (by show g3 < w2.heap.size; omega)).trans x1
        have b1 := (hb'.cell (p := ⟨g4, u, none⟩) (by show g4 < w2.heap.size; omega)).trans y1
        have a3 := Nat.lt_of_lt_of_le x3 hb'.size
        have b3 := Nat.lt_of_lt_of_le y3 hb'.size
        have a4 := x4.below hb' x3
        have b4 := y4.below hb' y3
        have hEw : E ≤ wr.heap.size := by rw [← hE2]; exact hb'.size
        clear x1 x3 x4 y1 y3 y4 hE2
        have hsu := Hsu.out u
        have hI1 : (u : Int) < (N : Int) := by omega
        have Hsu2 := Lib.hid hsu
        generalize hnxE : cbTo L row (u + 1) = nx at *
        have HnxE := Lib.hid hnxE
        clear hnxE hsu
        generalize row.getD u [] = p1 at *
        generalize L.getD u [] = e1 at *
        by_cases hp : p1 = []
        · subst hp
          have Hnx : Hid (contT ts = nx) := Lib.hid (by rw [Hsu2.out, htc.out, if_pos rfl, List.append_nil])
          go_wp2_with fail
          go_roundw
          case rel => exact ⟨u + 1, g, cp, m, ts, by omega, by go_num, by omega, rfl, htl, Lib.hid (by rw [HnxE.out]; exact Hnx.out), ho, hb⟩
          case measure => simp [intOf]; omega
        · obtain ⟨np, hnp⟩ : ∃ k, p1.length = k := ⟨_, rfl⟩
          obtain ⟨ne, hne⟩ : ∃ k, e1.length = k := ⟨_, rfl⟩
          have hpos : 0 < np := by rw [← hnp]; exact List.length_pos_iff.2 hp
          rw [hnp] at a1; rw [hne] at b1
          have Hp := Lib.hid hp; have Hnp := Lib.hid hnp; have Hne := Lib.hid hne
          clear hp hnp hne
          go_wp2_with (at_builtin; refine wpList_append_term rfl _ _ rfl E g cp m wr.heap.size ts (⟨gb, ob, cb, e1⟩, ⟨ga, oa, ca, p1⟩) (Value.slice (some ⟨gb, ob, none⟩) ne cb) (Value.slice (some ⟨ga, oa, none⟩) np ca) wr _ htl.out (by unfold SRef.v; rw [Hne.out]) (by unfold SRef.v; rw [Hnp.out]) (by rfl) (by rfl) ho ⟨b3, b4⟩ ⟨a3, a4⟩ hgnb hgna (by rfl) (by rfl) (by omega) ?_)
          intro g6 c6 w6 ho6 hg6 hor6
          have hB6 : Below E w2 w6 := hb.grown hg6 hEw (by intro t ht; cases ht; exact hge)
          have hul6 : Hid ((ts ++ [((⟨gb, ob, cb, e1⟩, ⟨ga, oa, ca, p1⟩) : TRef)]).length = m + 1) := Lib.hid (by rw [List.length_append, htl.out]; rfl)
          have huc6 : Hid (contT (ts ++ [((⟨gb, ob, cb, e1⟩, ⟨ga, oa, ca, p1⟩) : TRef)]) = nx) := Lib.hid (by rw [contT_append, htc.out, Hsu2.out, if_neg Hp.out]; rfl)
          clear ho hb hg6 a3 a4 b3 b4 hb'
          go_wp2_with fail
          go_roundw
          case rel => exact ⟨u + 1, g6, c6, m + 1, _, by omega, by go_num, by omega, rfl, hul6, Lib.hid (by rw [HnxE.out]; exact huc6.out), ho6, hB6⟩
          case measure => simp [intOf]; omega
      · obtain rfl : u = N := by omega
        go_wp2_with fail
        go_ret2
        have hE2 := HE.out
        exact GotTerms.mk' g cp ts htl.out htc.out (ho.mono (by rw [← hE2]; exact HB2.out.size)) (HB2.out.trans ((show Below w2.heap.size w2 wr by rw [hE2]; exact hb).mono HB2.out.size))
end Go.Proofs.YtdedkfbiookofaaGreatDoor
namespace Go.Proofs.YtdedkfbiookofaaGreatDoor
set_option maxRecDepth 100000
open Go.RowKit
def joinC (a b : List (List Int)) : List (List Int) := (a.map fun r => r ++ List.replicate b.length 0) ++ b.map fun r => List.replicate a.length 0 ++ r
end Go.Proofs.YtdedkfbiookofaaGreatDoor
namespace Go.Proofs.YtdedkfbiookofaaGreatDoor
set_option maxRecDepth 100000
open Go.RowKit
theorem zeroCells_ints (n : Nat) : Builtin.zeroCells #[Value.int .i64 0] n = ((List.replicate n (0 : Int)).map (Value.int .i64)).toArray := by
  unfold Builtin.zeroCells
  apply Array.ext
  · simp
  · intro i h1 h2
    have : i % 1 = 0 := Nat.mod_one i
    simp [this]
theorem run_append_zeros {w : World} {B g cap : Nat} {xs : List Int} (hown : Own w B g cap xs) (n : Nat) (h0 : 0 < n) (hlen : xs.length + n ≤ 1048576) (ty : TypeId) :
    ∃ g' cap' w', (Builtin.append_ #[25, 3] ty #[(Value.slice (some ⟨g, 0, none⟩) xs.length cap), .int .i64 n]).run Tryz.prog w = .ok (Value.slice (some ⟨g', 0, none⟩) (xs.length + n) cap') w' ∧
      Own w' B g' cap' (xs ++ List.replicate n 0) ∧ w.grownBy w' (some g) := by
  obtain ⟨i0, hi, hz0, hz1, hz2⟩ := info_parts info3
  have hlt := hown.lt
  have hBg := hown.base
  obtain ⟨news, hnews⟩ : ∃ news, news = (List.replicate n (0 : Int)).map (Value.int .i64) := ⟨_, rfl⟩
  have hl : news.length = n := by rw [hnews]; simp
  have h1 : ∀ u ∈ news, u.oneCell' = true := by rw [hnews]; exact ints_oneCell _ _
  have hzc : Builtin.zeroCells #[Value.int .i64 0] n = news.toArray := by rw [hnews]; exact zeroCells_ints n
  have hw : IntKind.i64.wrap (n : Int) = n := by rw [IntKind.wrap_i64]; omega
  have hneg : ¬ ((n : Int) < 0) := by omega
  have h48i : ¬ (281474976710656 < (n : Int) * (i0.bytes : Int)) := by rw [hz2]; omega
  have hns : ¬ (n * i0.size = 0) := by rw [hz1]; omega
  have hn0 : n ≠ 0 := by omega
  rcases hown.2 with ⟨h', _⟩ | ⟨g1, cap1, cur, hv, hb, hh, hn, hm, hs, htk⟩
  · simp at h'
  simp only [Value.slice.injEq, Option.some.injEq, Addr.mk.injEq, and_true, true_and] at hv
  obtain ⟨rfl, rfl⟩ := hv
  have hcs : cur.size = cap := by rw [hs, Nat.mul_one]
  have hxl : (xs.map (Value.int .i64)).length = xs.length := by simp
  have hall : (xs ++ List.replicate n (0 : Int)).map (Value.int .i64) = xs.map (Value.int .i64) ++ news := by rw [List.map_append, hnews]
  by_cases hroom : xs.length + n ≤ cap
  · have hst := run_storeCells_at Tryz.prog g (xs.length * i0.size) 3 news 0 cur w hh (by rw [hz1, hl]; omega) h1
    simp only [Nat.add_zero] at hst
    have hr : (Builtin.append_ #[25, 3] ty #[(Value.slice (some ⟨g, 0, none⟩) xs.length cap), .int .i64 n]).run Tryz.prog w = .ok (Value.slice (some ⟨g, 0, none⟩) (xs.length + n) cap) (w.setRow g (cur.toList.take (xs.length * i0.size) ++ news ++ cur.toList.drop (xs.length * i0.size + news.length)).toArray) := by
      simp [Builtin.append_, run_underlying Tryz.underlying25, run_underlying Tryz.underlying3, sizeOf, typeInfo, zeroValue, hi, hz0, asInt, asIntOf, hw, hneg, h48i, hroom, hns, Addr.add_lit, hst, hzc, Value.cells]
    refine ⟨g, cap, _, hr, ?_, ⟨rfl, rfl, rfl, by simp, fun k _ hk => setRow_other w g k _ (fun e => hk (by rw [e]))⟩⟩
    unfold Own
    rw [hall, List.length_append, List.length_replicate]
    refine ⟨by rw [List.length_append, hxl, hl, Nat.mul_one], .inr ⟨g, cap, _, rfl, hb, setRow_heap w g cur _ _ _ hh, hroom, hm, ?_, ?_⟩⟩
    · simp only [List.size_toArray, List.length_append, List.length_take, List.length_drop, Array.length_toList, hz1, hl]
      omega
    · rw [hz1, Nat.mul_one, Nat.mul_one]
      rw [Nat.mul_one] at htk
      rw [htk]
      show List.take (xs.length + n) ((xs.map (Value.int .i64) ++ news) ++ _) = _
      rw [show xs.length + n = (xs.map (Value.int .i64) ++ news).length by rw [List.length_append, hxl, hl]]
      exact List.take_left
  · have hroom' : ¬ (xs.length + n ≤ cap) := hroom
    have h63' : ¬ (9223372036854775807 < ((xs.length : Int) + (n : Int))) := by omega
    have hfit := growslice_fits (need := xs.length + n) (old := cap) (bytes := i0.bytes) (by omega) (by rw [hz2]; omega)
    have h48' : ¬ (281474976710656 < Builtin.nextslicecap (xs.length + n) cap * i0.bytes) := by omega
    have hfo := run_firstCells_some (P := Tryz.prog) w.drew i0.size xs.length ⟨g, 0, none⟩ xs.length cap (xs.map (Value.int .i64)) (by rw [hz1, hxl, Nat.mul_one]) (by simpa using World.ownsRow.cells hown rfl)
    have hge := grownCap_ge w (xs.length + n) cap 3
    have hcm : grownCap w (xs.length + n) cap 3 ≤ maxLen := grownCap_le_maxLen w (xs.length + n) cap _ (by unfold maxLen; omega)
    have hr : (Builtin.append_ #[25, 3] ty #[(Value.slice (some ⟨g, 0, none⟩) xs.length cap), .int .i64 n]).run Tryz.prog w = .ok (Value.slice (some ⟨w.heap.size, 0, none⟩) (xs.length + n) (grownCap w (xs.length + n) cap 3))
        (w.drew.alloc (.cells ((xs.map (Value.int .i64)).toArray ++ news.toArray ++ Builtin.zeroCells #[Value.int .i64 0] (grownCap w (xs.length + n) cap 3 - (xs.length + n))) 3)) := by
      simp [Builtin.append_, run_underlying Tryz.underlying25, run_underlying Tryz.underlying3, sizeOf, typeInfo, zeroValue, hi, hz0, asInt, asIntOf, hw, hneg, h48i, hroom', h63', h48', hns, Question.forced, hfo, newRow, grownCap, hzc, Value.cells]
      first | done | (congr 2; apply Array.ext'; simp [List.append_assoc])
    refine ⟨w.heap.size, _, _, hr, ?_, ⟨rfl, rfl, rfl, by simp, fun k hk _ => heap_alloc_old w.drew _ hk⟩⟩
    unfold Own
    rw [hall, List.length_append, List.length_replicate]
    refine ⟨by rw [List.length_append, hxl, hl, Nat.mul_one], .inr ⟨w.heap.size, _, _, rfl, by omega, heap_alloc_new w.drew _, hge, hcm, ?_, ?_⟩⟩
    · simp only [Array.size_append, List.size_toArray, size_zeroCells, hxl, hl]
      simp
      omega
    · simp only [Array.toList_append, List.append_assoc]
      rw [← List.append_assoc, Nat.mul_one, show xs.length + n = (xs.map (Value.int .i64) ++ news).length by rw [List.length_append, hxl, hl]]
      exact List.take_left
theorem wpList_append_zeros {w : World} {ops : Array Oper} {rest : List Oper} {o : Oper} {a : Act} {Q : Exit → Act → World → Prop} (hgd : o.guard = none) (s x : Operand)
    (ho : o.op = .call { callee := .builtin .append, args := #[s, x], argTypes := #[25, 3] })
    (B g cap m n : Nat) (xs : List Int) (hm : xs.length = m) (hown : Own w B g cap xs) (h0 : 0 < n) (hlen : m + n ≤ 1048576) (hs : a.eval s = (Value.slice (some ⟨g, 0, none⟩) m cap)) (hx : a.eval x = .int .i64 n)
    (h : ∀ g' cap' w', Own w' B g' cap' (xs ++ List.replicate n 0) → w.grownBy w' (some g) → wpList Tryz.prog ops Q rest (a.put o.dst (Value.slice (some ⟨g', 0, none⟩) (m + n) cap')) w') :
    wpList Tryz.prog ops Q (o :: rest) a w := by
  subst hm
  obtain ⟨g', cap', w', hr, h2, h3⟩ := run_append_zeros hown n h0 hlen o.type
  exact Lib.wpList_append_run w hgd s x _ _ ho _ _ hs hx _ _ hr (h g' cap' w' h2 h3)
end Go.Proofs.YtdedkfbiookofaaGreatDoor
namespace Go.Proofs.YtdedkfbiookofaaGreatDoor
set_option maxRecDepth 100000
open Go.RowKit
theorem own_made (w : World) (n : Nat) (hn : n ≤ 1099511627776) : Own (w.alloc (.cells (madeCells #[.int .i64 0] n) 3)) w.heap.size w.heap.size n (List.replicate n 0) := by
  obtain ⟨i0, hi, hz0, hz1, hz2⟩ := info_parts info3
  obtain ⟨w', hrun, r1, r2⟩ := run_make_full (P := Tryz.prog) w w.heap.size 25 3 i0 (.int .i64 0) 1 Tryz.underlying25 hi hz0 hz1 .i64 .i64 n (by rw [hz2]; omega) (by unfold maxLen; omega) (Nat.le_refl _)
  have h2 := run_make_row' (P := Tryz.prog) 25 3 (.int .i64 0) 8 Tryz.underlying25 info3 rfl .i64 .i64 n (by omega) (by omega) w
  rw [h2] at hrun
  obtain rfl : w' = w.alloc (.cells (madeCells #[.int .i64 0] n) 3) := by simp at hrun; exact hrun.symm
  unfold Own
  rw [List.length_replicate, List.map_replicate]
  have e : (madeCells (Value.int IntKind.i64 0).cells (n * 1)).toList = List.replicate n (Value.int .i64 0) := by
    rw [Nat.mul_one]; exact toList_madeCells_one _ _
  rw [← e]; exact r1
theorem joinC_length (a b : List (List Int)) : (joinC a b).length = a.length + b.length := by simp [joinC]
theorem joinC_a {a b : List (List Int)} {i : Nat} (hi : i < a.length) : (joinC a b).take (i + 1) = (joinC a b).take i ++ [a.getD i [] ++ List.replicate b.length 0] := by
  rw [List.take_succ_eq_append_getElem (by rw [joinC_length]; omega)]
  congr 2
  unfold joinC
  rw [List.getElem_append_left (by simpa using hi)]
  simp [List.getD, hi]
theorem joinC_b {a b : List (List Int)} {i : Nat} (hi : i < b.length) : (joinC a b).take (a.length + i + 1) = (joinC a b).take (a.length + i) ++ [List.replicate a.length 0 ++ b.getD i []] := by
  rw [List.take_succ_eq_append_getElem (by rw [joinC_length]; omega)]
  congr 2
  unfold joinC
  rw [List.getElem_append_right (by simp)]
  simp [List.getD, hi]
set_option maxHeartbeats 4000000 in
theorem spec_JoinCartans_ok (ga oa na ca gb ob nb cb : Nat) (a b : List (List Int)) (w : World) (hna : a.length = na) (hnb : b.length = nb) (hA : IsC a) (hB : IsC b) (hs : na + nb ≤ 4)
    (hga : ga < w.heap.size) (hgb : gb < w.heap.size) (hra : Rows2 w ga oa a) (hrb : Rows2 w gb ob b) :
    Calls Tryz.prog 198 #[(Value.slice (some ⟨ga, oa, none⟩) na ca), (Value.slice (some ⟨gb, ob, none⟩) nb cb)] w (GotRowsB w (joinC a b) true) := by
  subst hna; subst hnb
  have ha1 := hA.1
  have hb1 := hB.1
  have hc1 := spec_IsCartan ga oa _ ca a w rfl (by omega) (fun j hj => by have := hA.2.2.1 j hj; omega) hra
  rw [decide_eq_true hA] at hc1
  have hc2 := fun m => spec_IsCartan gb ob _ cb b (w.drewN m) rfl (by omega) (fun j hj => by have := hB.2.2.1 j hj; omega) (hrb.drewN m)
  rw [decide_eq_true hB] at hc2
  have Hc1 := Lib.hid hc1; have Hc2 := Lib.hid hc2
  have HLa := Lib.hid hA.2.2.1; have HLb := Lib.hid hB.2.2.1
  have HJ := Lib.hid (joinC_length a b)
  have HJa := Lib.hid (fun i (hi : i < a.length) => joinC_a (b := b) hi)
  have HJb := Lib.hid (fun i (hi : i < b.length) => joinC_b (a := a) hi)
  have e0 : IntKind.i64.wrap ((a.length : Int) + (b.length : Int)) = (a.length : Int) + (b.length : Int) := IntWalk.i64_in _ (by omega)
  have e1 : ¬ (4 : Int) < (a.length : Int) + (b.length : Int) := by omega
  clear hc1 hc2 hA hB
  generalize joinC a b = J at *
  go_enter Tryz.func198, Tryz.ntmps198
  go_wp2_with fail
  refine Hc1.out.mono ?_
  rintro e w1 ⟨rfl, m1, rfl⟩
  go_wp2_with fail
  refine (Hc2.out m1).mono ?_
  rintro e w2 ⟨rfl, m2, rfl⟩
  have hB2 : Below w.heap.size w ((w.drewN m1).drewN m2) := below_drewN (below_drewN (Below.refl _ _) m1) m2
  generalize (w.drewN m1).drewN m2 = w2 at *
  go_wp2_with fail
  go_loopw [6, 7] (fun ov iv wr => ∃ (i g' c' : Nat) (rs : List RowRef), i ≤ a.length ∧ iv = .int .i64 i ∧ ov = (Value.slice (some ⟨g', 0, none⟩) i c') ∧ Hid (rs.length = i) ∧ Hid (contents rs = J.take i) ∧ OwnRows wr w.heap.size g' c' rs ∧ Below w.heap.size w wr) (fun _ iv _ => a.length - (intOf iv).toNat)
  case atStart => exact ⟨0, w2.heap.size, 0, [], Nat.zero_le _, rfl, rfl, rfl, rfl, (OwnRows.empty (w := w2) (Nat.le_refl _)).mono hB2.size, hB2.alloc hB2.size _⟩
  case round =>
    obtain ⟨i, g', c', rs, hi, rfl, rfl, hrs, hcon, hO, hb⟩ := hrel
    by_cases hlt : i < a.length
    · obtain ⟨gr, or, cr, q1, q2, q3, q4⟩ := (hra.below hb hga) i hlt
      have hrl := HLa.out i hlt
      have hj := HJa.out i hlt
      generalize a.getD i [] = R at *
      rw [hrl] at q1 q2
      have Hrl := Lib.hid hrl; have Hj := Lib.hid hj
      have hE := (Below.refl wr.heap.size wr).alloc (Nat.le_refl _) (.cells #[] 3)
      have q1' := (hE.cell (p := ⟨ga, oa + i, none⟩) (Nat.lt_of_lt_of_le hga hb.size)).trans q1
      clear hrl hj hE
      go_wp2_with (at_builtin; refine wpList_clone rfl _ _ rfl gr or a.length cr R Hrl.out q3 q4 rfl rfl (by rw [Hrl.out]; omega) ?_)
      intro g3 c3 w3 ho3 hb3
      have hO3 := hO.below hb3
      have hB3 := hb.trans (hb3.mono hb.size)
      have hne3 := fun s (hs : s ∈ rs) => (hO.2.1 s hs).lt
      have hbase := ho3.base
      have hgt := hO.lt
      clear hO q1 q1' q3 q4 hb3
      go_wp2_with (at_builtin; refine wpList_append_zeros rfl _ _ rfl wr.heap.size g3 c3 a.length b.length R Hrl.out ho3 (by omega) (by omega) rfl rfl ?_)
      intro g5 c5 w5 ho5 hg5
      have hgl := hO3.base
      have hO5 : OwnRows w5 w.heap.size g' c' rs := hO3.grownK2 hg5 (fun e => by omega) (fun r hr e => by have := hne3 r hr; omega)
      have hB5 : Below w.heap.size w w5 := hB3.grown hg5 hB3.size (by intro j hj; cases hj; have := hb.size; omega)
      have hne : ∀ s ∈ rs, s.1 ≠ g5 := fun s hs e => by have h1 := hne3 s hs; have h2 := ho5.base; omega
      have hl5 : (R ++ List.replicate b.length (0 : Int)).length = a.length + b.length := by rw [List.length_append, Hrl.out, List.length_replicate]
      have ho5' := ho5.mono hb.size
      generalize R ++ List.replicate b.length (0 : Int) = R2 at *
      have Hl5 := Lib.hid hl5; have Hne := Lib.hid hne
      clear hl5 hne hO3 hB3 hg5 ho3 ho5
      go_wp2_with (at_builtin; refine wpList_append_row (w := w5) rfl _ _ rfl w.heap.size g' c' i w5.heap.size rs (g5, c5, R2) _ hrs.out (by unfold rowVal; rw [Hl5.out]) rfl hO5 ho5' Hne.out rfl rfl (by omega) ?_)
      intro g6 c6 w6 hO6 hg6 hor6
      have hB6 : Below w.heap.size w w6 := hB5.grown hg6 hB5.size (by intro t ht; cases ht; exact hgl)
      have hl6 : Hid ((rs ++ [(g5, c5, R2)]).length = i + 1) := Lib.hid (by rw [List.length_append, hrs.out]; rfl)
      have hc6 : Hid (contents (rs ++ [(g5, c5, R2)]) = J.take (i + 1)) := Lib.hid (by rw [Hj.out, ← hcon.out]; simp [contents])
      clear hO5 hB5 hg6 hor6 hb
      go_wp2_with fail
      go_roundw
      case rel => exact ⟨i + 1, g6, c6, _, by omega, by go_num, rfl, hl6.out, hc6.out, hO6, hB6⟩
      case measure => simp [intOf]; omega
    · obtain rfl : i = a.length := by omega
      go_wp2_with fail
      go_loopw [6, 8] (fun ov iv wr => ∃ (i g' c' : Nat) (rs : List RowRef), i ≤ b.length ∧ iv = .int .i64 i ∧ ov = (Value.slice (some ⟨g', 0, none⟩) (a.length + i) c') ∧ Hid (rs.length = a.length + i) ∧ Hid (contents rs = J.take (a.length + i)) ∧ OwnRows wr w.heap.size g' c' rs ∧ Below w.heap.size w wr) (fun _ iv _ => b.length - (intOf iv).toNat)
      case atStart => exact ⟨0, g', c', rs, Nat.zero_le _, rfl, rfl, hrs, hcon, hO, hb⟩
      case round =>
        clear hrs hcon hO hb hi hlt
        obtain ⟨i, g', c', rs, hi, rfl, rfl, hrs, hcon, hO, hb⟩ := hrel
        by_cases hlt : i < b.length
        · obtain ⟨gr, or, cr, q1, q2, q3, q4⟩ := (hrb.below hb hgb) i hlt
          have hrl := HLb.out i hlt
          have hj := HJb.out i hlt
          generalize b.getD i [] = R at *
          rw [hrl] at q1 q2
          have Hrl := Lib.hid hrl; have Hj := Lib.hid hj
          have hgb' := Nat.lt_of_lt_of_le hgb hb.size
          have hne3 := fun s (hs : s ∈ rs) => (hO.2.1 s hs).lt
          have hgl := hO.base
          have hgt := hO.lt
          clear hrl hj
          have hmk : ∀ W : World, (Instr.makeSlice 25 (.int .i64 (a.length : Int)) (.int .i64 (a.length : Int))).run Tryz.prog W = .ok (Value.slice (some ⟨W.heap.size, 0, none⟩) a.length a.length) (W.alloc (.cells (madeCells #[.int .i64 0] a.length) 3)) := fun W => run_make_row' (P := Tryz.prog) 25 3 (.int .i64 0) 8 Tryz.underlying25 info3 rfl .i64 .i64 a.length (by omega) (by omega) W
          have B1 : Below wr.heap.size wr (wr.drew.alloc (.cells (madeCells #[.int .i64 0] a.length) 3)) := (Below.drew (Below.refl _ _)).alloc (Nat.le_refl _) _
          have ho1 : Own (wr.drew.alloc (.cells (madeCells #[.int .i64 0] a.length) 3)) wr.heap.size wr.heap.size a.length (List.replicate a.length 0) := own_made wr.drew a.length (by omega)
          generalize hcs : madeCells #[Value.int .i64 0] a.length = zs at *
          have F2 : ∀ (w1 w2 : World) (g1 : Nat), Below wr.heap.size wr w1 → wr.heap.size ≤ g1 → w1.grownBy w2 (some g1) → Below wr.heap.size wr w2 := fun w1 w2 g1 h hg h2 => h.grown h2 h.size (by intro j hj; cases hj; exact hg)
          have K : ∀ W, Below wr.heap.size wr W → W.cell? ⟨gb, ob + i, none⟩ = some (Value.slice (some ⟨gr, or, none⟩) b.length cr) := fun W hW => (hW.cell (p := ⟨gb, ob + i, none⟩) hgb').trans q1
          have l3 : (List.replicate a.length (0 : Int) ++ R).length = a.length + b.length := by rw [List.length_append, Hrl.out, List.length_replicate]
          have hrv : ∀ g2 c2 : Nat, rowVal (g2, c2, List.replicate a.length (0 : Int) ++ R) = (Value.slice (some ⟨g2, 0, none⟩) (a.length + b.length) c2) := fun g2 c2 => by unfold rowVal; rw [l3]
          have Hrv := Lib.hid hrv; have L3 := Lib.hid l3; clear hrv l3
          have FR : Hid (∀ (w2 : World) (g2 c2 : Nat), Below wr.heap.size wr w2 → Own w2 wr.heap.size g2 c2 (List.replicate a.length (0 : Int) ++ R) → OwnRows w2 w.heap.size g' c' rs ∧ Own w2 w.heap.size g2 c2 (List.replicate a.length (0 : Int) ++ R) ∧ ∀ s ∈ rs, s.1 ≠ g2) := fun w2 g2 c2 hB hO2 =>
            ⟨hO.below hB, hO2.mono hb.size, fun s hs => by have h1 := hne3 s hs; have h2 := hO2.base; omega⟩
          have neb : some gb ≠ some g' := by intro e; have := Option.some.inj e; omega
          have k0 := K wr.drew (Below.drew (Below.refl _ _))
          have ea : IntKind.i64.wrap (a.length : Int) = (a.length : Int) := IntWalk.i64_in _ (by omega)
          go_wp2_with fail
          go_region_held3 (fun W => W.cell? ⟨gb, ob + i, none⟩ = some (Value.slice (some ⟨gr, or, none⟩) b.length cr))
            (first | exact k0 | exact K _ B1 | exact K _ (F2 _ _ _ B1 ho1.base hg2) | exact K _ ((F2 _ _ _ B1 ho1.base hg2).alloc (F2 _ _ _ B1 ho1.base hg2).size _) | exact (hg3.cell (a := ⟨gb, ob + i, none⟩) (K _ (F2 _ _ _ B1 ho1.base hg2)) neb))
            (first
              | (refine step_append_ints (by rfl) _ _ (by rfl) wr.heap.size wr.heap.size a.length a.length gr or b.length cr (List.replicate a.length 0) R (by simp) Hrl.out (by exact ho1) (by exact q4.below B1 q3) (by rfl) (by rfl) (by omega) ?_; intro g2 c2 w2 ho2 hg2 hor2)
              | (refine step_append_row (w := w2) (by rfl) _ _ (by rfl) w.heap.size g' c' (a.length + i) w2.heap.size rs (g2, c2, List.replicate a.length 0 ++ R) _ hrs.out (by rw [Hrv.out]) (by rfl) (by exact (FR.out w2 g2 c2 (F2 _ _ _ B1 ho1.base hg2) ho2).1) (by exact (FR.out w2 g2 c2 (F2 _ _ _ B1 ho1.base hg2) ho2).2.1) (by exact (FR.out w2 g2 c2 (F2 _ _ _ B1 ho1.base hg2) ho2).2.2) (by rfl) (by rfl) (by omega) ?_; intro g3 c3 w3 ho3 hg3 hor3))
          have hB2 := F2 _ _ _ B1 ho1.base hg2
          have hB3 : Below w.heap.size w w3 := (hb.trans (hB2.mono hb.size)).grown hg3 (hb.trans (hB2.mono hb.size)).size (by intro j hj; cases hj; exact hgl)
          have hl6 : Hid ((rs ++ [(g2, c2, List.replicate a.length 0 ++ R)]).length = a.length + (i + 1)) := Lib.hid (by rw [List.length_append, hrs.out]; rfl)
          have hc6 : Hid (contents (rs ++ [(g2, c2, List.replicate a.length 0 ++ R)]) = J.take (a.length + (i + 1))) := Lib.hid (by rw [show a.length + (i + 1) = a.length + i + 1 by omega, Hj.out, ← hcon.out]; simp [contents])
          clear F2 K FR ho1 B1 hmk hcs ho2 hg2 hor2 hg3 hor3 hB2 k0 hO hb
          go_wp2_with fail
          go_roundw
          case rel => exact ⟨i + 1, g3, c3, _, by omega, by go_num, by rw [Nat.add_assoc], hl6.out, hc6.out, ho3, hB3⟩
          case measure => simp [intOf]; omega
        · obtain rfl : i = b.length := by omega
          have hcc := hcon.out
          rw [List.take_of_length_le (by rw [HJ.out]; exact Nat.le_refl _)] at hcc
          have Hcc := Lib.hid hcc
          clear hcc
          go_wp2_with fail
          go_ret2
          exact ⟨g', c', rs, by rw [HJ.out]; rfl, Hcc.out, hO, hb⟩
end Go.Proofs.YtdedkfbiookofaaGreatDoor
