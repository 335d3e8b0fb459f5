/- The matrix of a chain: contracts. The laws' marks over values of an interval of blocks. The laws' marks over rows, read back. A number of a matrix of the call's own set. The program's matrices of types: contracts. -/
import Derived.Test.YtdedkfbiookofaaGreatDoorK02
import Derived.Test.YtdedkfbiookofaaGreatDoorK01
import Derived.Test.YtdedkfbiookofaaGreatDoorK11
namespace Go.Proofs.YtdedkfbiookofaaGreatDoor
set_option maxRecDepth 100000
open Go.RowKit
def chainA (m : Nat) : List (List Int) := (List.range m).map fun i => (List.range m).map fun j => if i = j then 2 else if i = j + 1 ∨ j = i + 1 then -1 else 0
theorem OwnRows.grownK2 {w w' : World} {B g cap k : Nat} {rs : List RowRef} (h : OwnRows w B g cap rs) (hg : w.grownBy w' (some k)) (h1 : g ≠ k) (h2 : ∀ r ∈ rs, r.1 ≠ k) : OwnRows w' B g cap rs :=
  ⟨h.1.grown hg (by intro e; cases e; exact h1 rfl), fun r hr => (h.2.1 r hr).grown hg (by intro e; cases e; exact h2 r hr rfl), h.2.2⟩
def rowC (n k : Nat) : List Int :=
  let r1 := (List.replicate n (0 : Int)).set k 2
  let r2 := if 0 < k then r1.set (k - 1) (-1) else r1
  if k + 1 < n then r2.set (k + 1) (-1) else r2
theorem rowC_eq {n k : Nat} (hn : n ≤ 4) (hk : k < n) : (chainA n).getD k [] = rowC n k := by
  have : n = 1 ∨ n = 2 ∨ n = 3 ∨ n = 4 := by omega
  rcases this with rfl | rfl | rfl | rfl
  · obtain rfl : k = 0 := by omega
    decide
  · have : k = 0 ∨ k = 1 := by omega
    rcases this with rfl | rfl <;> decide
  · have : k = 0 ∨ k = 1 ∨ k = 2 := by omega
    rcases this with rfl | rfl | rfl <;> decide
  · have : k = 0 ∨ k = 1 ∨ k = 2 ∨ k = 3 := by omega
    rcases this with rfl | rfl | rfl | rfl <;> decide
theorem rowC_length (n k : Nat) : (rowC n k).length = n := by
  unfold rowC
  simp only
  split <;> split <;> simp
theorem chainA_length (n : Nat) : (chainA n).length = n := by simp [chainA]
theorem chainA_take {n k : Nat} (hn : n ≤ 4) (hk : k < n) : (chainA n).take (k + 1) = (chainA n).take k ++ [rowC n k] := by
  rw [List.take_succ_eq_append_getElem (by rw [chainA_length]; exact hk), ← rowC_eq hn hk]
  simp [List.getD, chainA_length, hk]
set_option maxHeartbeats 1000000 in
theorem spec_l2Chain_any (n : Nat) (w : World) (hn : n ≤ 4) : Calls Tryz.prog 150 #[.int .i64 n] w (GotRows w (chainA n)) := by
  go_enter Tryz.func150, Tryz.ntmps150
  go_wp2
  go_loopw [3, 4] (fun ov kv wr => ∃ (k g2 c2 : Nat) (rs : List RowRef), k ≤ n ∧ kv = .int .i64 k ∧ ov = (Value.slice (some ⟨g2, 0, none⟩) k c2) ∧ Hid (rs.length = k) ∧ Hid (contents rs = (chainA n).take k) ∧ OwnRows wr w.heap.size g2 c2 rs ∧ Below w.heap.size w wr) (fun _ kv _ => n - (intOf kv).toNat)
  case atStart => exact ⟨0, w.heap.size, 0, [], Nat.zero_le _, rfl, rfl, rfl, rfl, OwnRows.empty (Nat.le_refl _), (Below.refl _ _).alloc (Nat.le_refl _) _⟩
  case round =>
    obtain ⟨k, g2, c2, rs, hk, rfl, rfl, hrk, hcon, hO, hb⟩ := hrel
    by_cases hlt : k < n
    · have Ht := Lib.hid (chainA_take hn hlt)
      have Hl := Lib.hid (rowC_length n k)
      go_wp2_with (at_make; refine wpList_make_ints rfl _ _ rfl w.heap.size n _ rfl rfl rfl (by omega) hb.size ?_)
      intro w2 ho2 hg2
      have hO2 : OwnRows w2 w.heap.size g2 c2 rs := hO.below ⟨hg2.os, hg2.tape, hg2.output, hg2.size, fun j hj => hg2.block j hj (by intro e; cases e)⟩
      have hB2 : Below w.heap.size w w2 := hb.trans ⟨hg2.os, hg2.tape, hg2.output, hg2.size, fun j hj => hg2.block j (Nat.lt_of_lt_of_le hj hb.size) (by intro e; cases e)⟩
      have hne : ∀ s ∈ rs, s.1 ≠ wr.heap.size := fun s hs e => by have := (hO.2.1 s hs).lt; omega
      have hng : g2 ≠ wr.heap.size := by have := hO.lt; omega
      have hbs := hb.size
      clear hO hb hg2
      generalize wr.heap.size = gr at *
      have x0 := ho2.cell k (by simpa using hlt)
      have y0 := ho2.frozen k
      have s1 := ho2.set k 2
      have e2 : IntKind.i64.wrap ((k : Int) + 1) = (k : Int) + 1 := IntWalk.i64_in _ (by omega)
      have t2 : ((k : Int) + 1).toNat = k + 1 := by omega
      have b2 : (0 : Int) ≤ (k : Int) + 1 := by omega
      have hX : rowC n k = if k + 1 < n then (if 0 < k then ((List.replicate n (0 : Int)).set k 2).set (k - 1) (-1) else (List.replicate n (0 : Int)).set k 2).set (k + 1) (-1) else (if 0 < k then ((List.replicate n (0 : Int)).set k 2).set (k - 1) (-1) else (List.replicate n (0 : Int)).set k 2) := rfl
      have hltI : (k : Int) < (n : Int) := by omega
      by_cases h0 : 0 < k
      · by_cases h1 : k + 1 < n
        · have e1 : IntKind.i64.wrap ((k : Int) - 1) = (k : Int) - 1 := IntWalk.i64_in _ (by omega)
          have t1 : ((k : Int) - 1).toNat = k - 1 := by omega
          have b1 : (0 : Int) ≤ (k : Int) - 1 := by omega
          have b1' : (k : Int) - 1 < (n : Int) := by omega
          have z0 : (0 : Int) < (k : Int) := by omega
          have x1 := s1.1.cell (k - 1) (by simp; omega)
          have y1 := s1.1.frozen (k - 1)
          have s2 := s1.1.set (k - 1) (-1)
          have l0 : (k : Int) + 1 < (n : Int) := by omega
          have x2 := s2.1.cell (k + 1) (by simp; omega)
          have y2 := s2.1.frozen (k + 1)
          have s3 := s2.1.set (k + 1) (-1)
          have hR : rowC n k = (((List.replicate n (0 : Int)).set k 2).set (k - 1) (-1)).set (k + 1) (-1) := by rw [hX, if_pos h1, if_pos h0]
          have HR := Lib.hid hR
          have hown := s3.1
          have hgr := World.grownBy.trans' (World.grownBy.trans' s1.2 s2.2) s3.2
          rw [← hR] at hown
          have Hown := Lib.hid hown; have Hgr := Lib.hid hgr
          clear hown hgr s1 s2 s3 hR hX ho2
          have hO3 : OwnRows _ w.heap.size g2 c2 rs := hO2.grownK2 Hgr.out hng hne
          have hB3 := hB2.grown Hgr.out hB2.size (by intro j hj; cases hj; exact hbs)
          clear hO2 hB2
          go_wp2_with (at_builtin; refine wpList_append_row (w := (((w2.setCell ⟨gr, k, none⟩ (.int .i64 2)).setCell ⟨gr, k - 1, none⟩ (.int .i64 (-1))).setCell ⟨gr, k + 1, none⟩ (.int .i64 (-1)))) rfl _ _ rfl w.heap.size g2 c2 k w2.heap.size rs (gr, n, rowC n k) _ hrk.out (by unfold rowVal; rw [Hl.out]) (by simp) hO3 (Hown.out.mono (Nat.le_refl _)) hne rfl rfl (by omega) ?_)
          intro g4 c4 w4 hO4 hg4 hor4
          have hB4 : Below w.heap.size w w4 := hB3.grown hg4 hB3.size (by intro t ht; cases ht; exact hO3.base)
          have hl4 : Hid ((rs ++ [(gr, n, rowC n k)]).length = k + 1) := Lib.hid (by rw [List.length_append, hrk.out]; rfl)
          have hc4 : Hid (contents (rs ++ [(gr, n, rowC n k)]) = (chainA n).take (k + 1)) := Lib.hid (by rw [Ht.out, ← hcon.out]; simp [contents])
          clear hO3 hB3 hg4 hor4
          go_wp2_with fail
          go_roundw
          case rel => exact ⟨k + 1, g4, c4, _, by omega, by go_num, rfl, hl4.out, hc4.out, hO4, hB4⟩
          case measure => simp [intOf]; omega
        · have e1 : IntKind.i64.wrap ((k : Int) - 1) = (k : Int) - 1 := IntWalk.i64_in _ (by omega)
          have t1 : ((k : Int) - 1).toNat = k - 1 := by omega
          have b1 : (0 : Int) ≤ (k : Int) - 1 := by omega
          have b1' : (k : Int) - 1 < (n : Int) := by omega
          have z0 : (0 : Int) < (k : Int) := by omega
          have x1 := s1.1.cell (k - 1) (by simp; omega)
          have y1 := s1.1.frozen (k - 1)
          have s2 := s1.1.set (k - 1) (-1)
          have l0 : ¬ (k : Int) + 1 < (n : Int) := by omega
          have hR : rowC n k = ((List.replicate n (0 : Int)).set k 2).set (k - 1) (-1) := by rw [hX, if_neg h1, if_pos h0]
          have HR := Lib.hid hR
          have hown := s2.1
          have hgr := World.grownBy.trans' s1.2 s2.2
          rw [← hR] at hown
          have Hown := Lib.hid hown; have Hgr := Lib.hid hgr
          clear hown hgr s1 s2 hR hX ho2
          have hO3 : OwnRows _ w.heap.size g2 c2 rs := hO2.grownK2 Hgr.out hng hne
          have hB3 := hB2.grown Hgr.out hB2.size (by intro j hj; cases hj; exact hbs)
          clear hO2 hB2
          go_wp2_with (at_builtin; refine wpList_append_row (w := ((w2.setCell ⟨gr, k, none⟩ (.int .i64 2)).setCell ⟨gr, k - 1, none⟩ (.int .i64 (-1)))) rfl _ _ rfl w.heap.size g2 c2 k w2.heap.size rs (gr, n, rowC n k) _ hrk.out (by unfold rowVal; rw [Hl.out]) (by simp) hO3 (Hown.out.mono (Nat.le_refl _)) hne rfl rfl (by omega) ?_)
          intro g4 c4 w4 hO4 hg4 hor4
          have hB4 : Below w.heap.size w w4 := hB3.grown hg4 hB3.size (by intro t ht; cases ht; exact hO3.base)
          have hl4 : Hid ((rs ++ [(gr, n, rowC n k)]).length = k + 1) := Lib.hid (by rw [List.length_append, hrk.out]; rfl)
          have hc4 : Hid (contents (rs ++ [(gr, n, rowC n k)]) = (chainA n).take (k + 1)) := Lib.hid (by rw [Ht.out, ← hcon.out]; simp [contents])
          clear hO3 hB3 hg4 hor4
          go_wp2_with fail
          go_roundw
          case rel => exact ⟨k + 1, g4, c4, _, by omega, by go_num, rfl, hl4.out, hc4.out, hO4, hB4⟩
          case measure => simp [intOf]; omega
      · by_cases h1 : k + 1 < n
        · have z0 : ¬ (0 : Int) < (k : Int) := by omega
          have l0 : (k : Int) + 1 < (n : Int) := by omega
          have x2 := s1.1.cell (k + 1) (by simp; omega)
          have y2 := s1.1.frozen (k + 1)
          have s3 := s1.1.set (k + 1) (-1)
          have hR : rowC n k = ((List.replicate n (0 : Int)).set k 2).set (k + 1) (-1) := by rw [hX, if_pos h1, if_neg h0]
          have HR := Lib.hid hR
          have hown := s3.1
          have hgr := World.grownBy.trans' s1.2 s3.2
          rw [← hR] at hown
          have Hown := Lib.hid hown; have Hgr := Lib.hid hgr
          clear hown hgr s1 s3 hR hX ho2
          have hO3 : OwnRows _ w.heap.size g2 c2 rs := hO2.grownK2 Hgr.out hng hne
          have hB3 := hB2.grown Hgr.out hB2.size (by intro j hj; cases hj; exact hbs)
          clear hO2 hB2
          go_wp2_with (at_builtin; refine wpList_append_row (w := ((w2.setCell ⟨gr, k, none⟩ (.int .i64 2)).setCell ⟨gr, k + 1, none⟩ (.int .i64 (-1)))) rfl _ _ rfl w.heap.size g2 c2 k w2.heap.size rs (gr, n, rowC n k) _ hrk.out (by unfold rowVal; rw [Hl.out]) (by simp) hO3 (Hown.out.mono (Nat.le_refl _)) hne rfl rfl (by omega) ?_)
          intro g4 c4 w4 hO4 hg4 hor4
          have hB4 : Below w.heap.size w w4 := hB3.grown hg4 hB3.size (by intro t ht; cases ht; exact hO3.base)
          have hl4 : Hid ((rs ++ [(gr, n, rowC n k)]).length = k + 1) := Lib.hid (by rw [List.length_append, hrk.out]; rfl)
          have hc4 : Hid (contents (rs ++ [(gr, n, rowC n k)]) = (chainA n).take (k + 1)) := Lib.hid (by rw [Ht.out, ← hcon.out]; simp [contents])
          clear hO3 hB3 hg4 hor4
          go_wp2_with fail
          go_roundw
          case rel => exact ⟨k + 1, g4, c4, _, by omega, by go_num, rfl, hl4.out, hc4.out, hO4, hB4⟩
          case measure => simp [intOf]; omega
        · have z0 : ¬ (0 : Int) < (k : Int) := by omega
          have l0 : ¬ (k : Int) + 1 < (n : Int) := by omega
          have hR : rowC n k = (List.replicate n (0 : Int)).set k 2 := by rw [hX, if_neg h1, if_neg h0]
          have HR := Lib.hid hR
          have hown := s1.1
          have hgr := s1.2
          rw [← hR] at hown
          have Hown := Lib.hid hown; have Hgr := Lib.hid hgr
          clear hown hgr s1 hR hX ho2
          have hO3 : OwnRows _ w.heap.size g2 c2 rs := hO2.grownK2 Hgr.out hng hne
          have hB3 := hB2.grown Hgr.out hB2.size (by intro j hj; cases hj; exact hbs)
          clear hO2 hB2
          go_wp2_with (at_builtin; refine wpList_append_row (w := (w2.setCell ⟨gr, k, none⟩ (.int .i64 2))) rfl _ _ rfl w.heap.size g2 c2 k w2.heap.size rs (gr, n, rowC n k) _ hrk.out (by unfold rowVal; rw [Hl.out]) (by simp) hO3 (Hown.out.mono (Nat.le_refl _)) hne rfl rfl (by omega) ?_)
          intro g4 c4 w4 hO4 hg4 hor4
          have hB4 : Below w.heap.size w w4 := hB3.grown hg4 hB3.size (by intro t ht; cases ht; exact hO3.base)
          have hl4 : Hid ((rs ++ [(gr, n, rowC n k)]).length = k + 1) := Lib.hid (by rw [List.length_append, hrk.out]; rfl)
          have hc4 : Hid (contents (rs ++ [(gr, n, rowC n k)]) = (chainA n).take (k + 1)) := Lib.hid (by rw [Ht.out, ← hcon.out]; simp [contents])
          clear hO3 hB3 hg4 hor4
          go_wp2_with fail
          go_roundw
          case rel => exact ⟨k + 1, g4, c4, _, by omega, by go_num, rfl, hl4.out, hc4.out, hO4, hB4⟩
          case measure => simp [intOf]; omega
    · obtain rfl : k = n := by omega
      have hc := hcon.out
      rw [List.take_of_length_le (by rw [chainA_length]; exact Nat.le_refl _)] at hc
      have Hc := Lib.hid hc
      have Hl := Lib.hid (show k = (chainA k).length by rw [chainA_length])
      go_wp2_with fail
      go_ret
      exact ⟨g2, c2, rs, congrArg (fun z => Ending.returned (Value.slice (some ⟨g2, 0, none⟩) z c2)) Hl.out, Hc.out, hO, hb⟩
end Go.Proofs.YtdedkfbiookofaaGreatDoor
namespace Go.Proofs.YtdedkfbiookofaaGreatDoor
set_option maxRecDepth 100000
open Go.RowKit
theorem Inner.setRow {w w' : World} {B : Nat} {rs : List RowRef} (h : Inner w B rs) (t : Nat) (ht : t < rs.length) (xs : List Int) (hg : w.grownBy w' (some rs[t].1)) (ho : Own w' B rs[t].1 rs[t].2.1 xs) :
    Inner w' B (rs.set t (rs[t].1, rs[t].2.1, xs)) := by
  have hnd := h.2
  refine ⟨fun r hr => ?_, ?_⟩
  · obtain ⟨u, hu, rfl⟩ := List.getElem_of_mem hr
    rw [List.length_set] at hu
    by_cases e : u = t
    · subst e; simpa using ho
    · rw [List.getElem_set_ne (by omega)]
      refine (h.1 rs[u] (List.getElem_mem hu)).grown hg ?_
      intro he
      have he' : rs[u].1 = rs[t].1 := Option.some.inj he
      have h1 : (rs.map (·.1))[u]'(by simpa using hu) = (rs.map (·.1))[t]'(by simpa using ht) := by simpa using he'
      have hp := List.pairwise_iff_getElem.1 hnd
      rcases Nat.lt_or_gt_of_ne e with h2 | h2
      · exact hp u t (by simpa using hu) (by simpa using ht) h2 h1
      · exact hp t u (by simpa using ht) (by simpa using hu) h2 h1.symm
  · have : (rs.set t (rs[t].1, rs[t].2.1, xs)).map (·.1) = rs.map (·.1) := by
      rw [List.map_set]
      apply List.ext_getElem (by simp)
      intro i h1 h2
      by_cases e : i = t
      · subst e; simp
      · rw [List.getElem_set_ne (by omega)]
    rw [this]; exact hnd
theorem rowVal_set {rs : List RowRef} (t : Nat) (ht : t < rs.length) (xs : List Int) (hl : xs.length = rs[t].2.2.length) : (rs.set t (rs[t].1, rs[t].2.1, xs)).map rowVal = rs.map rowVal := by
  rw [List.map_set]
  apply List.ext_getElem (by simp)
  intro i h1 h2
  by_cases e : i = t
  · subst e; simp [rowVal, hl]
  · rw [List.getElem_set_ne (by omega)]
theorem contents_setRow {rs : List RowRef} (t : Nat) (r : RowRef) : contents (rs.set t r) = (contents rs).set t r.2.2 := by simp [contents, List.map_set]
end Go.Proofs.YtdedkfbiookofaaGreatDoor
namespace Go.Proofs.YtdedkfbiookofaaGreatDoor
set_option maxRecDepth 100000
open Go.RowKit
end Go.Proofs.YtdedkfbiookofaaGreatDoor
namespace Go.Proofs.YtdedkfbiookofaaGreatDoor
set_option maxRecDepth 100000
open Go.RowKit
def setM (c : List (List Int)) (i j : Nat) (x : Int) : List (List Int) := c.set i ((c.getD i []).set j x)
theorem setM_length (c : List (List Int)) (i j : Nat) (x : Int) : (setM c i j x).length = c.length := by simp [setM]
theorem OwnRows.setAt {w : World} {B g cap : Nat} {rs : List RowRef} (h : OwnRows w B g cap rs) (t : Nat) (ht : t < rs.length) (j : Nat) (z : Int) :
    OwnRows (w.setCell ⟨rs[t].1, j, none⟩ (.int .i64 z)) B g cap (rs.set t (rs[t].1, rs[t].2.1, rs[t].2.2.set j z)) ∧ w.grownBy (w.setCell ⟨rs[t].1, j, none⟩ (.int .i64 z)) (some rs[t].1) := by
  have ho := h.2.1 _ (List.getElem_mem ht)
  have hs := ho.set j z
  refine ⟨⟨?_, h.2.setRow t ht _ hs.2 hs.1⟩, hs.2⟩
  rw [rowVal_set t ht _ (by rw [List.length_set])]
  exact h.1.grown hs.2 (fun e => h.1.ne ho.toV (by decide) (Option.some.inj e))
theorem contents_getD (rs : List RowRef) (t : Nat) (ht : t < rs.length) : (contents rs).getD t [] = rs[t].2.2 := by simp [contents, List.getD, ht]
/-- the same, by what the rows hold -/
theorem OwnRows.setMat {w : World} {B g cap : Nat} {rs : List RowRef} {c : List (List Int)} (h : OwnRows w B g cap rs) (hc : contents rs = c) (t : Nat) (ht : t < c.length) : ∃ gr cr, (∃ r ∈ rs, r.1 = gr) ∧ B ≤ gr ∧ gr < w.heap.size ∧ g ≠ gr ∧
    w.cell? ⟨g, t, none⟩ = some (Value.slice (some ⟨gr, 0, none⟩) ((c.getD t []).length) cr) ∧ (∀ j, j < (c.getD t []).length → w.cell? ⟨gr, j, none⟩ = some (.int .i64 ((c.getD t []).getD j 0)) ∧ w.frozen? ⟨gr, j, none⟩ = false) ∧
    ∀ j z, ∃ rs2, (∀ r ∈ rs2, ∃ s ∈ rs, s.1 = r.1) ∧ contents rs2 = setM c t j z ∧ rs2.length = rs.length ∧ OwnRows (w.setCell ⟨gr, j, none⟩ (.int .i64 z)) B g cap rs2 ∧ w.grownBy (w.setCell ⟨gr, j, none⟩ (.int .i64 z)) (some gr) := by
  subst hc
  have ht' : t < rs.length := by simpa [contents] using ht
  have ho := h.2.1 _ (List.getElem_mem ht')
  have e := contents_getD rs t ht'
  rw [e]
  refine ⟨rs[t].1, rs[t].2.1, ⟨_, List.getElem_mem ht', rfl⟩, ho.base, ho.lt, h.1.ne ho.toV (by decide), ?_, fun j hj => ⟨ho.cell j hj, ho.frozen j⟩, fun j z => ?_⟩
  · rw [h.1.cell t (by simpa using ht')]
    simp [rowVal]
  · have h2 := h.setAt t ht' j z
    refine ⟨_, fun r hr => ?_, ?_, by rw [List.length_set], h2.1, h2.2⟩
    · rcases List.mem_or_eq_of_mem_set hr with h3 | h3
      · exact ⟨r, h3, rfl⟩
      · exact ⟨_, List.getElem_mem ht', by rw [h3]⟩
    rw [contents_setRow]
    unfold setM
    rw [e]
end Go.Proofs.YtdedkfbiookofaaGreatDoor
namespace Go.Proofs.YtdedkfbiookofaaGreatDoor
set_option maxRecDepth 100000
open Go.RowKit
set_option maxHeartbeats 1000000 in
theorem impl_chain_any (n : Nat) (w : World) (hn : n ≤ 4) : Calls Tryz.prog 226 #[.int .i64 n] w (GotRows w (chainA n)) := by
  go_enter Tryz.func226, Tryz.ntmps226
  go_wp2
  go_loopw [3, 4, 8] (fun ov _ kv wr => ∃ (k g2 c2 : Nat) (rs : List RowRef), k ≤ n ∧ kv = .int .i64 k ∧ ov = (Value.slice (some ⟨g2, 0, none⟩) k c2) ∧ Hid (rs.length = k) ∧ Hid (contents rs = (chainA n).take k) ∧ OwnRows wr w.heap.size g2 c2 rs ∧ Below w.heap.size w wr) (fun _ _ kv _ => n - (intOf kv).toNat)
  case atStart => exact ⟨0, w.heap.size, 0, [], Nat.zero_le _, rfl, rfl, rfl, rfl, OwnRows.empty (Nat.le_refl _), (Below.refl _ _).alloc (Nat.le_refl _) _⟩
  case round =>
    obtain ⟨k, g2, c2, rs, hk, rfl, rfl, hrk, hcon, hO, hb⟩ := hrel
    by_cases hlt : k < n
    · have Ht := Lib.hid (chainA_take hn hlt)
      have Hl := Lib.hid (rowC_length n k)
      go_wp2_with (at_make; refine wpList_make_ints rfl _ _ rfl w.heap.size n _ rfl rfl rfl (by omega) hb.size ?_)
      intro w2 ho2 hg2
      have hO2 : OwnRows w2 w.heap.size g2 c2 rs := hO.below ⟨hg2.os, hg2.tape, hg2.output, hg2.size, fun j hj => hg2.block j hj (by intro e; cases e)⟩
      have hB2 : Below w.heap.size w w2 := hb.trans ⟨hg2.os, hg2.tape, hg2.output, hg2.size, fun j hj => hg2.block j (Nat.lt_of_lt_of_le hj hb.size) (by intro e; cases e)⟩
      have hne : ∀ s ∈ rs, s.1 ≠ wr.heap.size := fun s hs e => by have := (hO.2.1 s hs).lt; omega
      have hng : g2 ≠ wr.heap.size := by have := hO.lt; omega
      have hbs := hb.size
      clear hO hb hg2
      generalize wr.heap.size = gr at *
      have x0 := ho2.cell k (by simpa using hlt)
      have y0 := ho2.frozen k
      have s1 := ho2.set k 2
      have e2 : IntKind.i64.wrap ((k : Int) + 1) = (k : Int) + 1 := IntWalk.i64_in _ (by omega)
      have t2 : ((k : Int) + 1).toNat = k + 1 := by omega
      have b2 : (0 : Int) ≤ (k : Int) + 1 := by omega
      have hX : rowC n k = if k + 1 < n then (if 0 < k then ((List.replicate n (0 : Int)).set k 2).set (k - 1) (-1) else (List.replicate n (0 : Int)).set k 2).set (k + 1) (-1) else (if 0 < k then ((List.replicate n (0 : Int)).set k 2).set (k - 1) (-1) else (List.replicate n (0 : Int)).set k 2) := rfl
      have hltI : (k : Int) < (n : Int) := by omega
      by_cases h0 : 0 < k
      · by_cases h1 : k + 1 < n
        · have e1 : IntKind.i64.wrap ((k : Int) - 1) = (k : Int) - 1 := IntWalk.i64_in _ (by omega)
          have t1 : ((k : Int) - 1).toNat = k - 1 := by omega
          have b1 : (0 : Int) ≤ (k : Int) - 1 := by omega
          have b1' : (k : Int) - 1 < (n : Int) := by omega
          have z0 : (0 : Int) < (k : Int) := by omega
          have x1 := s1.1.cell (k - 1) (by simp; omega)
          have y1 := s1.1.frozen (k - 1)
          have s2 := s1.1.set (k - 1) (-1)
          have l0 : (k : Int) + 1 < (n : Int) := by omega
          have x2 := s2.1.cell (k + 1) (by simp; omega)
          have y2 := s2.1.frozen (k + 1)
          have s3 := s2.1.set (k + 1) (-1)
          have hR : rowC n k = (((List.replicate n (0 : Int)).set k 2).set (k - 1) (-1)).set (k + 1) (-1) := by rw [hX, if_pos h1, if_pos h0]
          have HR := Lib.hid hR
          have hown := s3.1
          have hgr := World.grownBy.trans' (World.grownBy.trans' s1.2 s2.2) s3.2
          rw [← hR] at hown
          have Hown := Lib.hid hown; have Hgr := Lib.hid hgr
          clear hown hgr s1 s2 s3 hR hX ho2
          have hO3 : OwnRows _ w.heap.size g2 c2 rs := hO2.grownK2 Hgr.out hng hne
          have hB3 := hB2.grown Hgr.out hB2.size (by intro j hj; cases hj; exact hbs)
          clear hO2 hB2
          go_wp2_with (at_builtin; refine wpList_append_row (w := (((w2.setCell ⟨gr, k, none⟩ (.int .i64 2)).setCell ⟨gr, k - 1, none⟩ (.int .i64 (-1))).setCell ⟨gr, k + 1, none⟩ (.int .i64 (-1)))) rfl _ _ rfl w.heap.size g2 c2 k w2.heap.size rs (gr, n, rowC n k) _ hrk.out (by unfold rowVal; rw [Hl.out]) (by simp) hO3 (Hown.out.mono (Nat.le_refl _)) hne rfl rfl (by omega) ?_)
          intro g4 c4 w4 hO4 hg4 hor4
          have hB4 : Below w.heap.size w w4 := hB3.grown hg4 hB3.size (by intro t ht; cases ht; exact hO3.base)
          have hl4 : Hid ((rs ++ [(gr, n, rowC n k)]).length = k + 1) := Lib.hid (by rw [List.length_append, hrk.out]; rfl)
          have hc4 : Hid (contents (rs ++ [(gr, n, rowC n k)]) = (chainA n).take (k + 1)) := Lib.hid (by rw [Ht.out, ← hcon.out]; simp [contents])
          clear hO3 hB3 hg4 hor4
          go_wp2_with fail
          go_roundw
          case rel => exact ⟨k + 1, g4, c4, _, by omega, by go_num, rfl, hl4.out, hc4.out, hO4, hB4⟩
          case measure => simp [intOf]; omega
        · have e1 : IntKind.i64.wrap ((k : Int) - 1) = (k : Int) - 1 := IntWalk.i64_in _ (by omega)
          have t1 : ((k : Int) - 1).toNat = k - 1 := by omega
          have b1 : (0 : Int) ≤ (k : Int) - 1 := by omega
          have b1' : (k : Int) - 1 < (n : Int) := by omega
          have z0 : (0 : Int) < (k : Int) := by omega
          have x1 := s1.1.cell (k - 1) (by simp; omega)
          have y1 := s1.1.frozen (k - 1)
          have s2 := s1.1.set (k - 1) (-1)
          have l0 : ¬ (k : Int) + 1 < (n : Int) := by omega
          have hR : rowC n k = ((List.replicate n (0 : Int)).set k 2).set (k - 1) (-1) := by rw [hX, if_neg h1, if_pos h0]
          have HR := Lib.hid hR
          have hown := s2.1
          have hgr := World.grownBy.trans' s1.2 s2.2
          rw [← hR] at hown
          have Hown := Lib.hid hown; have Hgr := Lib.hid hgr
          clear hown hgr s1 s2 hR hX ho2
          have hO3 : OwnRows _ w.heap.size g2 c2 rs := hO2.grownK2 Hgr.out hng hne
          have hB3 := hB2.grown Hgr.out hB2.size (by intro j hj; cases hj; exact hbs)
          clear hO2 hB2
          go_wp2_with (at_builtin; refine wpList_append_row (w := ((w2.setCell ⟨gr, k, none⟩ (.int .i64 2)).setCell ⟨gr, k - 1, none⟩ (.int .i64 (-1)))) rfl _ _ rfl w.heap.size g2 c2 k w2.heap.size rs (gr, n, rowC n k) _ hrk.out (by unfold rowVal; rw [Hl.out]) (by simp) hO3 (Hown.out.mono (Nat.le_refl _)) hne rfl rfl (by omega) ?_)
          intro g4 c4 w4 hO4 hg4 hor4
          have hB4 : Below w.heap.size w w4 := hB3.grown hg4 hB3.size (by intro t ht; cases ht; exact hO3.base)
          have hl4 : Hid ((rs ++ [(gr, n, rowC n k)]).length = k + 1) := Lib.hid (by rw [List.length_append, hrk.out]; rfl)
          have hc4 : Hid (contents (rs ++ [(gr, n, rowC n k)]) = (chainA n).take (k + 1)) := Lib.hid (by rw [Ht.out, ← hcon.out]; simp [contents])
          clear hO3 hB3 hg4 hor4
          go_wp2_with fail
          go_roundw
          case rel => exact ⟨k + 1, g4, c4, _, by omega, by go_num, rfl, hl4.out, hc4.out, hO4, hB4⟩
          case measure => simp [intOf]; omega
      · by_cases h1 : k + 1 < n
        · have z0 : ¬ (0 : Int) < (k : Int) := by omega
          have l0 : (k : Int) + 1 < (n : Int) := by omega
          have x2 := s1.1.cell (k + 1) (by simp; omega)
          have y2 := s1.1.frozen (k + 1)
          have s3 := s1.1.set (k + 1) (-1)
          have hR : rowC n k = ((List.replicate n (0 : Int)).set k 2).set (k + 1) (-1) := by rw [hX, if_pos h1, if_neg h0]
          have HR := Lib.hid hR
          have hown := s3.1
          have hgr := World.grownBy.trans' s1.2 s3.2
          rw [← hR] at hown
          have Hown := Lib.hid hown; have Hgr := Lib.hid hgr
          clear hown hgr s1 s3 hR hX ho2
          have hO3 : OwnRows _ w.heap.size g2 c2 rs := hO2.grownK2 Hgr.out hng hne
          have hB3 := hB2.grown Hgr.out hB2.size (by intro j hj; cases hj; exact hbs)
          clear hO2 hB2
          go_wp2_with (at_builtin; refine wpList_append_row (w := ((w2.setCell ⟨gr, k, none⟩ (.int .i64 2)).setCell ⟨gr, k + 1, none⟩ (.int .i64 (-1)))) rfl _ _ rfl w.heap.size g2 c2 k w2.heap.size rs (gr, n, rowC n k) _ hrk.out (by unfold rowVal; rw [Hl.out]) (by simp) hO3 (Hown.out.mono (Nat.le_refl _)) hne rfl rfl (by omega) ?_)
          intro g4 c4 w4 hO4 hg4 hor4
          have hB4 : Below w.heap.size w w4 := hB3.grown hg4 hB3.size (by intro t ht; cases ht; exact hO3.base)
          have hl4 : Hid ((rs ++ [(gr, n, rowC n k)]).length = k + 1) := Lib.hid (by rw [List.length_append, hrk.out]; rfl)
          have hc4 : Hid (contents (rs ++ [(gr, n, rowC n k)]) = (chainA n).take (k + 1)) := Lib.hid (by rw [Ht.out, ← hcon.out]; simp [contents])
          clear hO3 hB3 hg4 hor4
          go_wp2_with fail
          go_roundw
          case rel => exact ⟨k + 1, g4, c4, _, by omega, by go_num, rfl, hl4.out, hc4.out, hO4, hB4⟩
          case measure => simp [intOf]; omega
        · have z0 : ¬ (0 : Int) < (k : Int) := by omega
          have l0 : ¬ (k : Int) + 1 < (n : Int) := by omega
          have hR : rowC n k = (List.replicate n (0 : Int)).set k 2 := by rw [hX, if_neg h1, if_neg h0]
          have HR := Lib.hid hR
          have hown := s1.1
          have hgr := s1.2
          rw [← hR] at hown
          have Hown := Lib.hid hown; have Hgr := Lib.hid hgr
          clear hown hgr s1 hR hX ho2
          have hO3 : OwnRows _ w.heap.size g2 c2 rs := hO2.grownK2 Hgr.out hng hne
          have hB3 := hB2.grown Hgr.out hB2.size (by intro j hj; cases hj; exact hbs)
          clear hO2 hB2
          go_wp2_with (at_builtin; refine wpList_append_row (w := (w2.setCell ⟨gr, k, none⟩ (.int .i64 2))) rfl _ _ rfl w.heap.size g2 c2 k w2.heap.size rs (gr, n, rowC n k) _ hrk.out (by unfold rowVal; rw [Hl.out]) (by simp) hO3 (Hown.out.mono (Nat.le_refl _)) hne rfl rfl (by omega) ?_)
          intro g4 c4 w4 hO4 hg4 hor4
          have hB4 : Below w.heap.size w w4 := hB3.grown hg4 hB3.size (by intro t ht; cases ht; exact hO3.base)
          have hl4 : Hid ((rs ++ [(gr, n, rowC n k)]).length = k + 1) := Lib.hid (by rw [List.length_append, hrk.out]; rfl)
          have hc4 : Hid (contents (rs ++ [(gr, n, rowC n k)]) = (chainA n).take (k + 1)) := Lib.hid (by rw [Ht.out, ← hcon.out]; simp [contents])
          clear hO3 hB3 hg4 hor4
          go_wp2_with fail
          go_roundw
          case rel => exact ⟨k + 1, g4, c4, _, by omega, by go_num, rfl, hl4.out, hc4.out, hO4, hB4⟩
          case measure => simp [intOf]; omega
    · obtain rfl : k = n := by omega
      have hc := hcon.out
      rw [List.take_of_length_le (by rw [chainA_length]; exact Nat.le_refl _)] at hc
      have Hc := Lib.hid hc
      have Hl := Lib.hid (show k = (chainA k).length by rw [chainA_length])
      go_wp2_with fail
      go_ret
      exact ⟨g2, c2, rs, congrArg (fun z => Ending.returned (Value.slice (some ⟨g2, 0, none⟩) z c2)) Hl.out, Hc.out, hO, hb⟩
/-- entries set by threes -/
abbrev Tri := Nat × Nat × Int
def triD : Tri := (0, 0, 0)
def withT (c : List (List Int)) (tr : List Tri) : List (List Int) := tr.foldl (fun c t => setM c t.1 t.2.1 t.2.2) c
theorem withT_succ (c : List (List Int)) (tr : List Tri) (t : Nat) (ht : t < tr.length) : withT c (tr.take (t + 1)) = setM (withT c (tr.take t)) (tr.getD t triD).1 (tr.getD t triD).2.1 (tr.getD t triD).2.2 := by
  have e : tr.take (t + 1) = tr.take t ++ [tr[t]] := List.take_succ_eq_append_getElem ht
  have e2 : tr.getD t triD = tr[t] := by simp [List.getD, ht]
  rw [e, e2]
  unfold withT
  rw [List.foldl_append]
  rfl
def SqN (n : Nat) (c : List (List Int)) : Prop := c.length = n ∧ ∀ k, k < n → (c.getD k []).length = n
theorem SqN.set {n : Nat} {c : List (List Int)} (h : SqN n c) (i j : Nat) (x : Int) : SqN n (setM c i j x) := by
  refine ⟨by rw [setM_length]; exact h.1, fun k hk => ?_⟩
  have hi := h.2
  by_cases e : i = k
  · subst e
    have : (setM c i j x).getD i [] = (c.getD i []).set j x := by
      have hl : i < c.length := by rw [h.1]; exact hk
      simp [setM, List.getD, hl]
    rw [this, List.length_set]
    exact hi i hk
  · have : (setM c i j x).getD k [] = c.getD k [] := by simp [setM, List.getD, e]
    rw [this]
    exact hi k hk
theorem SqN.with {n : Nat} : ∀ (tr : List Tri) {c : List (List Int)}, SqN n c → SqN n (withT c tr)
  | [], _, h => h
  | t :: tr, _, h => SqN.with tr (h.set t.1 t.2.1 t.2.2)
set_option maxHeartbeats 1000000 in
theorem impl_with_ok (B g n cap ge m ce : Nat) (c0 : List (List Int)) (tr : List Tri) (E : List Int) (rs0 : List RowRef) (w : World) (hB : B ≤ w.heap.size) (hm : tr.length * 3 = m) (hm2 : tr.length ≤ 10) (hsq : SqN n c0) (hidx : ∀ t, t < tr.length → (tr.getD t triD).1 < n ∧ (tr.getD t triD).2.1 < n)
    (hE : ∀ t, t < tr.length → E.getD (t * 3) 0 = ((tr.getD t triD).1 : Int) ∧ E.getD (t * 3 + 1) 0 = ((tr.getD t triD).2.1 : Int) ∧ E.getD (t * 3 + 2) 0 = (tr.getD t triD).2.2) (hEl : E.length = tr.length * 3)
    (hc : contents rs0 = c0) (ho : OwnRows w B g cap rs0) (hge : ∀ r ∈ rs0, r.1 ≠ ge) (hcE : Cells w ge 0 E) :
    Calls Tryz.prog 227 #[(Value.slice (some ⟨g, 0, none⟩) n cap), (Value.slice (some ⟨ge, 0, none⟩) m ce)] w fun e w' => ∃ rs2, e = .returned (Value.slice (some ⟨g, 0, none⟩) n cap) ∧ contents rs2 = withT c0 tr ∧ OwnRows w' B g cap rs2 ∧ Below B w w' := by
  subst hm
  have Hsq := Lib.hid hsq; have Hidx := Lib.hid hidx; have HE := Lib.hid hE; have HEl := Lib.hid hEl
  have hst : Hid (contents rs0 = withT c0 (tr.take 0)) := Lib.hid hc
  have hge0 := Lib.hid hge; have hcE0 := Lib.hid hcE
  clear hsq hidx hE hEl hc hge hcE
  go_enter Tryz.func227, Tryz.ntmps227
  go_wp2
  go_loopw [5] (fun kv wr => ∃ (t : Nat) (rs : List RowRef), t ≤ tr.length ∧ kv = .int .i64 ((t * 3 : Nat) : Int) ∧ Hid (contents rs = withT c0 (tr.take t)) ∧ OwnRows wr B g cap rs ∧ Hid (∀ r ∈ rs, r.1 ≠ ge) ∧ Hid (Cells wr ge 0 E) ∧ Below B w wr) (fun kv _ => tr.length * 3 + 1 - (intOf kv).toNat)
  case atStart => exact ⟨0, rs0, Nat.zero_le _, rfl, hst, ho, hge0, hcE0, Below.refl _ _⟩
  case round =>
    clear hst hge0 hcE0
    obtain ⟨t, rs, ht, rfl, hst, ho, hge, hcE, hb⟩ := hrel
    by_cases hlt : t < tr.length
    · obtain ⟨hi, hj⟩ := Hidx.out t hlt
      obtain ⟨e1, e2, e3⟩ := HE.out t hlt
      have q1 := hcE.out (t * 3) (by rw [HEl.out]; omega)
      have q2 := hcE.out (t * 3 + 1) (by rw [HEl.out]; omega)
      have q3 := hcE.out (t * 3 + 2) (by rw [HEl.out]; omega)
      rw [Nat.zero_add] at q1 q2 q3
      rw [e1] at q1; rw [e2] at q2; rw [e3] at q3
      have hsqt := Hsq.out.with (tr.take t)
      have hsucc := Lib.hid (withT_succ c0 tr t hlt)
      generalize tr.getD t triD = T at *
      obtain ⟨i, j, x⟩ := T
      have hi' : i < n := hi
      have hj' : j < n := hj
      have q1' : wr.cell? ⟨ge, t * 3, none⟩ = some (.int .i64 (i : Int)) := q1
      have q2' : wr.cell? ⟨ge, t * 3 + 1, none⟩ = some (.int .i64 (j : Int)) := q2
      have q3' : wr.cell? ⟨ge, t * 3 + 2, none⟩ = some (.int .i64 x) := q3
      obtain ⟨gr, cr, ⟨r0, hr0, hr1⟩, hbr, hlr, hne, p1, p2, p3⟩ := ho.setMat hst.out i (by rw [hsqt.1]; exact hi')
      rw [hsqt.2 i hi'] at p1 p2
      obtain ⟨p4, p5⟩ := p2 j hj'
      obtain ⟨rs2, hm2, hc2, hl2, ho2, hg2⟩ := p3 j x
      have hgg : gr ≠ ge := by rw [← hr1]; exact hge.out r0 hr0
      have hb2 := hb.grown hg2 (Nat.le_trans hB hb.size) (by intro q hq; cases hq; exact hbr)
      have HC2 : Hid (contents rs2 = withT c0 (tr.take (t + 1))) := Lib.hid (by rw [hc2]; exact hsucc.out.symm)
      have HG2 : Hid (∀ r ∈ rs2, r.1 ≠ ge) := Lib.hid (fun r hr e => by obtain ⟨s, hs, e2⟩ := hm2 r hr; exact hge.out s hs (e2.trans e))
      have HE2 := Lib.hid (hcE.out.grown hg2 (fun e => hgg (Option.some.inj e).symm))
      have HO2 := Lib.hid ho2; have HB2 := Lib.hid hb2
      generalize ((withT c0 (tr.take t)).getD i []).getD j 0 = y at *
      have t1 : ((t * 3 : Nat) : Int) + 2 < ((tr.length * 3 : Nat) : Int) := by omega
      have w1 : IntKind.i64.wrap (((t * 3 : Nat) : Int) + 1) = ((t * 3 + 1 : Nat) : Int) := by rw [IntWalk.i64_in _ ⟨by omega, by omega⟩]; omega
      have w2 : IntKind.i64.wrap (((t * 3 : Nat) : Int) + 2) = ((t * 3 + 2 : Nat) : Int) := by rw [IntWalk.i64_in _ ⟨by omega, by omega⟩]; omega
      have b1 : t * 3 < tr.length * 3 := by omega
      have b2 : t * 3 + 1 < tr.length * 3 := by omega
      have b3 : t * 3 + 2 < tr.length * 3 := by omega
      generalize hT3 : t * 3 = K at *
      have HT3 := Lib.hid hT3
      clear hT3 q1 q2 q3 e1 e2 e3 hi hj p2 p3 hc2 ho2 hg2 hb2 hb ho hst hge hcE hm2 hl2 hsqt hr0 hr1
      go_wp2_with fail
      go_region
      go_wp2_with fail
      go_roundw
      case rel => exact ⟨t + 1, rs2, by omega, by have := HT3.out; simp only [Value.int.injEq, true_and]; omega, HC2, HO2.out, HG2, HE2, Below.drew HB2.out⟩
      case measure => have := HT3.out; simp [intOf]; omega
    · obtain rfl : t = tr.length := by omega
      have hfin := hst.out
      rw [List.take_length] at hfin
      have Hfin := Lib.hid hfin
      clear hst hfin
      go_wp2_with fail
      go_ret
      exact ⟨rs, rfl, Hfin.out, ho, hb⟩
end Go.Proofs.YtdedkfbiookofaaGreatDoor
