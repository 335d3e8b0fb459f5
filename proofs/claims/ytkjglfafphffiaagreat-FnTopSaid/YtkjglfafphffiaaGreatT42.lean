/- The matrix of a chain: contracts. A number of a matrix of the call's own set. The reference's matrices of types: contracts. -/
import Derived.Test.YtkjglfafphffiaaGreatT03
import Derived.Test.YtkjglfafphffiaaGreatT26
import Derived.Test.YtkjglfafphffiaaGreatT41
namespace Go.Proofs.YtkjglfafphffiaaGreat
set_option maxRecDepth 100000
open Go.RowKit
def chainA (m : Nat) : List (List Int) := (List.range m).map fun i => (List.range m).map fun j => if i = j then 2 else if i = j + 1 ∨ j = i + 1 then -1 else 0
theorem OwnRows.grownK2 {w w' : World} {B g cap k : Nat} {rs : List RowRef} (h : OwnRows w B g cap rs) (hg : w.grownBy w' (some k)) (h1 : g ≠ k) (h2 : ∀ r ∈ rs, r.1 ≠ k) : OwnRows w' B g cap rs :=
  ⟨h.1.grown hg (by intro e; cases e; exact h1 rfl), fun r hr => (h.2.1 r hr).grown hg (by intro e; cases e; exact h2 r hr rfl), h.2.2⟩
def rowC (n k : Nat) : List Int :=
  let r1 := (List.replicate n (0 : Int)).set k 2
  let r2 := if 0 < k then r1.set (k - 1) (-1) else r1
  if k + 1 < n then r2.set (k + 1) (-1) else r2
theorem rowC_eq {n k : Nat} (hn : n ≤ 4) (hk : k < n) : (chainA n).getD k [] = rowC n k := by
  have : n = 1 ∨ n = 2 ∨ n = 3 ∨ n = 4 := by omega
  rcases this with rfl | rfl | rfl | rfl
  · obtain rfl : k = 0 := by omega
    decide
  · have : k = 0 ∨ k = 1 := by omega
    rcases this with rfl | rfl <;> decide
  · have : k = 0 ∨ k = 1 ∨ k = 2 := by omega
    rcases this with rfl | rfl | rfl <;> decide
  · have : k = 0 ∨ k = 1 ∨ k = 2 ∨ k = 3 := by omega
    rcases this with rfl | rfl | rfl | rfl <;> decide
theorem rowC_length (n k : Nat) : (rowC n k).length = n := by
  unfold rowC
  simp only
  split <;> split <;> simp
theorem chainA_length (n : Nat) : (chainA n).length = n := by simp [chainA]
theorem chainA_take {n k : Nat} (hn : n ≤ 4) (hk : k < n) : (chainA n).take (k + 1) = (chainA n).take k ++ [rowC n k] := by
  rw [List.take_succ_eq_append_getElem (by rw [chainA_length]; exact hk), ← rowC_eq hn hk]
  simp [List.getD, chainA_length, hk]
set_option maxHeartbeats 1000000 in
theorem spec_l2Chain_any (n : Nat) (w : World) (hn : n ≤ 4) : Calls Tryz.prog 148 #[.int .i64 n] w (GotRows w (chainA n)) := by
  go_enter Tryz.func148, Tryz.ntmps148
  go_wp2
  go_loopw [3, 4] (fun ov kv wr => ∃ (k g2 c2 : Nat) (rs : List RowRef), k ≤ n ∧ kv = .int .i64 k ∧ ov = (Value.slice (some ⟨g2, 0, none⟩) k c2) ∧ Hid (rs.length = k) ∧ Hid (contents rs = (chainA n).take k) ∧ OwnRows wr w.heap.size g2 c2 rs ∧ Below w.heap.size w wr) (fun _ kv _ => n - (intOf kv).toNat)
  case atStart => exact ⟨0, w.heap.size, 0, [], Nat.zero_le _, rfl, rfl, rfl, rfl, OwnRows.empty (Nat.le_refl _), (Below.refl _ _).alloc (Nat.le_refl _) _⟩
  case round =>
    obtain ⟨k, g2, c2, rs, hk, rfl, rfl, hrk, hcon, hO, hb⟩ := hrel
    by_cases hlt : k < n
    · have Ht := Lib.hid (chainA_take hn hlt)
      have Hl := Lib.hid (rowC_length n k)
      go_wp2_with (at_make; refine wpList_make_ints rfl _ _ rfl w.heap.size n _ rfl rfl rfl (by omega) hb.size ?_)
      intro w2 ho2 hg2
      have hO2 : OwnRows w2 w.heap.size g2 c2 rs := hO.below ⟨hg2.os, hg2.tape, hg2.output, hg2.size, fun j hj => hg2.block j hj (by intro e; cases e)⟩
      have hB2 : Below w.heap.size w w2 := hb.trans ⟨hg2.os, hg2.tape, hg2.output, hg2.size, fun j hj => hg2.block j (Nat.lt_of_lt_of_le hj hb.size) (by intro e; cases e)⟩
      have hne : ∀ s ∈ rs, s.1 ≠ wr.heap.size := fun s hs e => by have := (hO.2.1 s hs).lt; omega
      have hng : g2 ≠ wr.heap.size := by have := hO.lt; omega
      have hbs := hb.size
      clear hO hb hg2
      generalize wr.heap.size = gr at *
      have x0 := ho2.cell k (by simpa using hlt)
      have y0 := ho2.frozen k
      have s1 := ho2.set k 2
      have e2 : IntKind.i64.wrap ((k : Int) + 1) = (k : Int) + 1 := IntWalk.i64_in _ (by omega)
      have t2 : ((k : Int) + 1).toNat = k + 1 := by omega
      have b2 : (0 : Int) ≤ (k : Int) + 1 := by omega
      have hX : rowC n k = if k + 1 < n then (if 0 < k then ((List.replicate n (0 : Int)).set k 2).set (k - 1) (-1) else (List.replicate n (0 : Int)).set k 2).set (k + 1) (-1) else (if 0 < k then ((List.replicate n (0 : Int)).set k 2).set (k - 1) (-1) else (List.replicate n (0 : Int)).set k 2) := rfl
      have hltI : (k : Int) < (n : Int) := by omega
      by_cases h0 : 0 < k
      · by_cases h1 : k + 1 < n
        · have e1 : IntKind.i64.wrap ((k : Int) - 1) = (k : Int) - 1 := IntWalk.i64_in _ (by omega)
          have t1 : ((k : Int) - 1).toNat = k - 1 := by omega
          have b1 : (0 : Int) ≤ (k : Int) - 1 := by omega
          have b1' : (k : Int) - 1 < (n : Int) := by omega
          have z0 : (0 : Int) < (k : Int) := by omega
          have x1 := s1.1.cell (k - 1) (by simp; omega)
          have y1 := s1.1.frozen (k - 1)
          have s2 := s1.1.set (k - 1) (-1)
          have l0 : (k : Int) + 1 < (n : Int) := by omega
          have x2 := s2.1.cell (k + 1) (by simp; omega)
          have y2 := s2.1.frozen (k + 1)
          have s3 := s2.1.set (k + 1) (-1)
          have hR : rowC n k = (((List.replicate n (0 : Int)).set k 2).set (k - 1) (-1)).set (k + 1) (-1) := by rw [hX, if_pos h1, if_pos h0]
          have HR := Lib.hid hR
          have hown := s3.1
          have hgr := World.grownBy.trans' (World.grownBy.trans' s1.2 s2.2) s3.2
          rw [← hR] at hown
          have Hown := Lib.hid hown; have Hgr := Lib.hid hgr
          clear hown hgr s1 s2 s3 hR hX ho2
          have hO3 : OwnRows _ w.heap.size g2 c2 rs := hO2.grownK2 Hgr.out hng hne
          have hB3 := hB2.grown Hgr.out hB2.size (by intro j hj; cases hj; exact hbs)
          clear hO2 hB2
          go_wp2_with (at_builtin; refine wpList_append_row (w := (((w2.setCell ⟨gr, k, none⟩ (.int .i64 2)).setCell ⟨gr, k - 1, none⟩ (.int .i64 (-1))).setCell ⟨gr, k + 1, none⟩ (.int .i64 (-1)))) rfl _ _ rfl w.heap.size g2 c2 k w2.heap.size rs (gr, n, rowC n k) _ hrk.out (by unfold rowVal; rw [Hl.out]) (by simp) hO3 (Hown.out.mono (Nat.le_refl _)) hne rfl rfl (by omega) ?_)
          intro g4 c4 w4 hO4 hg4 hor4
          have hB4 : Below w.heap.size w w4 := hB3.grown hg4 hB3.size (by intro t ht; cases ht; exact hO3.base)
          have hl4 : Hid ((rs ++ [(gr, n, rowC n k)]).length = k + 1) := Lib.hid (by rw [List.length_append, hrk.out]; rfl)
          have hc4 : Hid (contents (rs ++ [(gr, n, rowC n k)]) = (chainA n).take (k + 1)) := Lib.hid (by rw [Ht.out, ← hcon.out]; simp [contents])
          clear hO3 hB3 hg4 hor4
          go_wp2_with fail
          go_roundw
          case rel => exact ⟨k + 1, g4, c4, _, by omega, by go_num, rfl, hl4.out, hc4.out, hO4, hB4⟩
          case measure => simp [intOf]; omega
        · have e1 : IntKind.i64.wrap ((k : Int) - 1) = (k : Int) - 1 := IntWalk.i64_in _ (by omega)
          have t1 : ((k : Int) - 1).toNat = k - 1 := by omega
          have b1 : (0 : Int) ≤ (k : Int) - 1 := by omega
          have b1' : (k : Int) - 1 < (n : Int) := by omega
          have z0 : (0 : Int) < (k : Int) := by omega
          have x1 := s1.1.cell (k - 1) (by simp; omega)
          have y1 := s1.1.frozen (k - 1)
          have s2 := s1.1.set (k - 1) (-1)
          have l0 : ¬ (k : Int) + 1 < (n : Int) := by omega
          have hR : rowC n k = ((List.replicate n (0 : Int)).set k 2).set (k - 1) (-1) := by rw [hX, if_neg h1, if_pos h0]
          have HR := Lib.hid hR
          have hown := s2.1
          have hgr := World.grownBy.trans' s1.2 s2.2
          rw [← hR] at hown
          have Hown := Lib.hid hown; have Hgr := Lib.hid hgr
          clear hown hgr s1 s2 hR hX ho2
          have hO3 : OwnRows _ w.heap.size g2 c2 rs := hO2.grownK2 Hgr.out hng hne
          have hB3 := hB2.grown Hgr.out hB2.size (by intro j hj; cases hj; exact hbs)
          clear hO2 hB2
          go_wp2_with (at_builtin; refine wpList_append_row (w := ((w2.setCell ⟨gr, k, none⟩ (.int .i64 2)).setCell ⟨gr, k - 1, none⟩ (.int .i64 (-1)))) rfl _ _ rfl w.heap.size g2 c2 k w2.heap.size rs (gr, n, rowC n k) _ hrk.out (by unfold rowVal; rw [Hl.out]) (by simp) hO3 (Hown.out.mono (Nat.le_refl _)) hne rfl rfl (by omega) ?_)
          intro g4 c4 w4 hO4 hg4 hor4
          have hB4 : Below w.heap.size w w4 := hB3.grown hg4 hB3.size (by intro t ht; cases ht; exact hO3.base)
          have hl4 : Hid ((rs ++ [(gr, n, rowC n k)]).length = k + 1) := Lib.hid (by rw [List.length_append, hrk.out]; rfl)
          have hc4 : Hid (contents (rs ++ [(gr, n, rowC n k)]) = (chainA n).take (k + 1)) := Lib.hid (by rw [Ht.out, ← hcon.out]; simp [contents])
          clear hO3 hB3 hg4 hor4
          go_wp2_with fail
          go_roundw
          case rel => exact ⟨k + 1, g4, c4, _, by omega, by go_num, rfl, hl4.out, hc4.out, hO4, hB4⟩
          case measure => simp [intOf]; omega
      · by_cases h1 : k + 1 < n
        · have z0 : ¬ (0 : Int) < (k : Int) := by omega
          have l0 : (k : Int) + 1 < (n : Int) := by omega
          have x2 := s1.1.cell (k + 1) (by simp; omega)
          have y2 := s1.1.frozen (k + 1)
          have s3 := s1.1.set (k + 1) (-1)
          have hR : rowC n k = ((List.replicate n (0 : Int)).set k 2).set (k + 1) (-1) := by rw [hX, if_pos h1, if_neg h0]
          have HR := Lib.hid hR
          have hown := s3.1
          have hgr := World.grownBy.trans' s1.2 s3.2
          rw [← hR] at hown
          have Hown := Lib.hid hown; have Hgr := Lib.hid hgr
          clear hown hgr s1 s3 hR hX ho2
          have hO3 : OwnRows _ w.heap.size g2 c2 rs := hO2.grownK2 Hgr.out hng hne
          have hB3 := hB2.grown Hgr.out hB2.size (by intro j hj; cases hj; exact hbs)
          clear hO2 hB2
          go_wp2_with (at_builtin; refine wpList_append_row (w := ((w2.setCell ⟨gr, k, none⟩ (.int .i64 2)).setCell ⟨gr, k + 1, none⟩ (.int .i64 (-1)))) rfl _ _ rfl w.heap.size g2 c2 k w2.heap.size rs (gr, n, rowC n k) _ hrk.out (by unfold rowVal; rw [Hl.out]) (by simp) hO3 (Hown.out.mono (Nat.le_refl _)) hne rfl rfl (by omega) ?_)
          intro g4 c4 w4 hO4 hg4 hor4
          have hB4 : Below w.heap.size w w4 := hB3.grown hg4 hB3.size (by intro t ht; cases ht; exact hO3.base)
          have hl4 : Hid ((rs ++ [(gr, n, rowC n k)]).length = k + 1) := Lib.hid (by rw [List.length_append, hrk.out]; rfl)
          have hc4 : Hid (contents (rs ++ [(gr, n, rowC n k)]) = (chainA n).take (k + 1)) := Lib.hid (by rw [Ht.out, ← hcon.out]; simp [contents])
          clear hO3 hB3 hg4 hor4
          go_wp2_with fail
          go_roundw
          case rel => exact ⟨k + 1, g4, c4, _, by omega, by go_num, rfl, hl4.out, hc4.out, hO4, hB4⟩
          case measure => simp [intOf]; omega
        · have z0 : ¬ (0 : Int) < (k : Int) := by omega
          have l0 : ¬ (k : Int) + 1 < (n : Int) := by omega
          have hR : rowC n k = (List.replicate n (0 : Int)).set k 2 := by rw [hX, if_neg h1, if_neg h0]
          have HR := Lib.hid hR
          have hown := s1.1
          have hgr := s1.2
          rw [← hR] at hown
          have Hown := Lib.hid hown; have Hgr := Lib.hid hgr
          clear hown hgr s1 hR hX ho2
          have hO3 : OwnRows _ w.heap.size g2 c2 rs := hO2.grownK2 Hgr.out hng hne
          have hB3 := hB2.grown Hgr.out hB2.size (by intro j hj; cases hj; exact hbs)
          clear hO2 hB2
          go_wp2_with (at_builtin; refine wpList_append_row (w := (w2.setCell ⟨gr, k, none⟩ (.int .i64 2))) rfl _ _ rfl w.heap.size g2 c2 k w2.heap.size rs (gr, n, rowC n k) _ hrk.out (by unfold rowVal; rw [Hl.out]) (by simp) hO3 (Hown.out.mono (Nat.le_refl _)) hne rfl rfl (by omega) ?_)
          intro g4 c4 w4 hO4 hg4 hor4
          have hB4 : Below w.heap.size w w4 := hB3.grown hg4 hB3.size (by intro t ht; cases ht; exact hO3.base)
          have hl4 : Hid ((rs ++ [(gr, n, rowC n k)]).length = k + 1) := Lib.hid (by rw [List.length_append, hrk.out]; rfl)
          have hc4 : Hid (contents (rs ++ [(gr, n, rowC n k)]) = (chainA n).take (k + 1)) := Lib.hid (by rw [Ht.out, ← hcon.out]; simp [contents])
          clear hO3 hB3 hg4 hor4
          go_wp2_with fail
          go_roundw
          case rel => exact ⟨k + 1, g4, c4, _, by omega, by go_num, rfl, hl4.out, hc4.out, hO4, hB4⟩
          case measure => simp [intOf]; omega
    · obtain rfl : k = n := by omega
      have hc := hcon.out
      rw [List.take_of_length_le (by rw [chainA_length]; exact Nat.le_refl _)] at hc
      have Hc := Lib.hid hc
      have Hl := Lib.hid (show k = (chainA k).length by rw [chainA_length])
      go_wp2_with fail
      go_ret
      exact ⟨g2, c2, rs, congrArg (fun z => Ending.returned (Value.slice (some ⟨g2, 0, none⟩) z c2)) Hl.out, Hc.out, hO, hb⟩
end Go.Proofs.YtkjglfafphffiaaGreat
namespace Go.Proofs.YtkjglfafphffiaaGreat
set_option maxRecDepth 100000
open Go.RowKit
def setM (c : List (List Int)) (i j : Nat) (x : Int) : List (List Int) := c.set i ((c.getD i []).set j x)
theorem setM_length (c : List (List Int)) (i j : Nat) (x : Int) : (setM c i j x).length = c.length := by simp [setM]
theorem OwnRows.setAt {w : World} {B g cap : Nat} {rs : List RowRef} (h : OwnRows w B g cap rs) (t : Nat) (ht : t < rs.length) (j : Nat) (z : Int) :
    OwnRows (w.setCell ⟨rs[t].1, j, none⟩ (.int .i64 z)) B g cap (rs.set t (rs[t].1, rs[t].2.1, rs[t].2.2.set j z)) ∧ w.grownBy (w.setCell ⟨rs[t].1, j, none⟩ (.int .i64 z)) (some rs[t].1) := by
  have ho := h.2.1 _ (List.getElem_mem ht)
  have hs := ho.set j z
  refine ⟨⟨?_, h.2.setRow t ht _ hs.2 hs.1⟩, hs.2⟩
  rw [rowVal_set t ht _ (by rw [List.length_set])]
  exact h.1.grown hs.2 (fun e => h.1.ne ho.toV (by decide) (Option.some.inj e))
theorem contents_getD (rs : List RowRef) (t : Nat) (ht : t < rs.length) : (contents rs).getD t [] = rs[t].2.2 := by simp [contents, List.getD, ht]
/-- the same, by what the rows hold -/
theorem OwnRows.setMat {w : World} {B g cap : Nat} {rs : List RowRef} {c : List (List Int)} (h : OwnRows w B g cap rs) (hc : contents rs = c) (t : Nat) (ht : t < c.length) : ∃ gr cr, (∃ r ∈ rs, r.1 = gr) ∧ B ≤ gr ∧ gr < w.heap.size ∧ g ≠ gr ∧
    w.cell? ⟨g, t, none⟩ = some (Value.slice (some ⟨gr, 0, none⟩) ((c.getD t []).length) cr) ∧ (∀ j, j < (c.getD t []).length → w.cell? ⟨gr, j, none⟩ = some (.int .i64 ((c.getD t []).getD j 0)) ∧ w.frozen? ⟨gr, j, none⟩ = false) ∧
    ∀ j z, ∃ rs2, (∀ r ∈ rs2, ∃ s ∈ rs, s.1 = r.1) ∧ contents rs2 = setM c t j z ∧ rs2.length = rs.length ∧ OwnRows (w.setCell ⟨gr, j, none⟩ (.int .i64 z)) B g cap rs2 ∧ w.grownBy (w.setCell ⟨gr, j, none⟩ (.int .i64 z)) (some gr) := by
  subst hc
  have ht' : t < rs.length := by simpa [contents] using ht
  have ho := h.2.1 _ (List.getElem_mem ht')
  have e := contents_getD rs t ht'
  rw [e]
  refine ⟨rs[t].1, rs[t].2.1, ⟨_, List.getElem_mem ht', rfl⟩, ho.base, ho.lt, h.1.ne ho.toV (by decide), ?_, fun j hj => ⟨ho.cell j hj, ho.frozen j⟩, fun j z => ?_⟩
  · rw [h.1.cell t (by simpa using ht')]
    simp [rowVal]
  · have h2 := h.setAt t ht' j z
    refine ⟨_, fun r hr => ?_, ?_, by rw [List.length_set], h2.1, h2.2⟩
    · rcases List.mem_or_eq_of_mem_set hr with h3 | h3
      · exact ⟨r, h3, rfl⟩
      · exact ⟨_, List.getElem_mem ht', by rw [h3]⟩
    rw [contents_setRow]
    unfold setM
    rw [e]
end Go.Proofs.YtkjglfafphffiaaGreat
namespace Go.Proofs.YtkjglfafphffiaaGreat
set_option maxRecDepth 100000
open Go.RowKit
set_option maxHeartbeats 1000000 in
theorem spec_l2Set_ok (gc oc n cc i j : Nat) (a b : Int) (c : List (List Int)) (w : World) (hn : c.length = n) (hn4 : n ≤ 4) (hsq : ∀ k, k < c.length → (c.getD k []).length = n) (hi : i < n) (hj : j < n) (hij : i ≠ j) (hgc : gc < w.heap.size) (hr : Rows2 w gc oc c) :
    Calls Tryz.prog 145 #[(Value.slice (some ⟨gc, oc, none⟩) n cc), .int .i64 i, .int .i64 j, .int .i64 a, .int .i64 b] w (GotRows w (setM (setM c i j a) j i b)) := by
  have H := Lib.hid (spec_l2Copy_any gc oc n cc c w hn (by omega) (fun k hk => by have := hsq k hk; omega) hgc hr)
  have Hn := Lib.hid hn; have Hsq := Lib.hid hsq
  clear hr hsq hgc hn
  go_enter Tryz.func145, Tryz.ntmps145
  go_wp2_with fail
  refine H.out.mono ?_
  rintro e w1 ⟨g1, c1, rs, rfl, hc, ho, hb⟩
  obtain ⟨gr, cr, -, hbr, hlr, hne, q1, q2, q3⟩ := ho.setMat hc i (by rw [Hn.out]; exact hi)
  rw [Hsq.out i (by rw [Hn.out]; exact hi)] at q1 q2
  obtain ⟨q4, q5⟩ := q2 j hj
  obtain ⟨rs2, -, hc2, hl2, ho2, hg2⟩ := q3 j a
  have hb2 := hb.grown hg2 hb.size (by intro t ht; cases ht; exact hbr)
  have hlen2 : (setM c i j a).length = n := by rw [setM_length]; exact Hn.out
  obtain ⟨gs, cs, -, hbs, hls, hne2, r1, r2, r3⟩ := ho2.setMat hc2 j (by rw [hlen2]; exact hj)
  have hrow : (setM c i j a).getD j [] = c.getD j [] := by simp [setM, List.getD, hij]
  rw [hrow, Hsq.out j (by rw [Hn.out]; exact hj)] at r1 r2
  obtain ⟨r4, r5⟩ := r2 i hi
  obtain ⟨rs3, -, hc3, hl3, ho3, hg3⟩ := r3 i b
  have hb3 := hb2.grown hg3 hb2.size (by intro t ht; cases ht; exact hbs)
  have hl : c.length = n := Hn.out
  rw [hl]
  have HO := Lib.hid ho3; have HC := Lib.hid hc3; have HB := Lib.hid hb3
  have Hlen : Hid ((setM (setM c i j a) j i b).length = n) := Lib.hid (by rw [setM_length]; exact hlen2)
  clear q2 q3 r2 r3 ho ho2 ho3 hb hb2 hb3 hc hc2 hc3 hg2 hg3 hrow hlen2 hl H hl2 hl3
  generalize (c.getD j []).getD i 0 = y1 at *
  generalize (c.getD i []).getD j 0 = y2 at *
  go_wp2_with fail
  go_ret
  exact ⟨g1, c1, rs3, congrArg (fun z => Ending.returned (Value.slice (some ⟨g1, 0, none⟩) z c1)) Hlen.out.symm, HC.out, HO.out, HB.out⟩
end Go.Proofs.YtkjglfafphffiaaGreat
