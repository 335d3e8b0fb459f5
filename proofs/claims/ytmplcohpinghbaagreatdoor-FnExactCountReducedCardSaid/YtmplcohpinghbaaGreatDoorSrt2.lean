/- slices.Sort and slices.Compact of integers of the call's own: contracts. -/
import Derived.Test.YtmplcohpinghbaaGreatDoorSortR
import Derived.Test.YtmplcohpinghbaaGreatDoorSlaz
import Derived.Test.YtmplcohpinghbaaGreatDoorAut
namespace Go.Proofs.YtmplcohpinghbaaGreatDoor
open Go.RowKit Game
open Go.Sort (Holds putRow grow)
open Go.Lib (compact compactUpTo keeps compactUpTo_succ)

theorem le_sorted (xs : List Int) : (xs.mergeSort fun x y => decide (x ≤ y)).Pairwise fun a b => a ≤ b := by
  have h := List.pairwise_mergeSort (le := fun x y : Int => decide (x ≤ y)) (fun a b c h1 h2 => by simp at *; omega) (fun a b => by simp; omega) xs
  exact h.imp (by intro a b h; simpa using h)
theorem compactTo_up {zs : List Int} (hs : zs.Pairwise fun a b => a ≤ b) : ∀ m, m ≤ zs.length → UpI (compactUpTo zs.toArray m) ∧ ∀ x, x ∈ compactUpTo zs.toArray m ↔ x ∈ zs.take m
  | 0, _ => by simp [compactUpTo, UpI]
  | m + 1, h => by
    obtain ⟨h1, h2⟩ := compactTo_up hs m (by omega)
    have hm : m < zs.length := by omega
    have e0 : zs.toArray[m]! = zs[m] := by simp [hm]
    rw [compactUpTo_succ, List.take_succ_eq_append_getElem hm, e0]
    have hp := List.pairwise_iff_getElem.1 hs
    by_cases hk : keeps zs.toArray m = true
    · rw [if_pos hk]
      have hlt : ∀ x ∈ zs.take m, x < zs[m] := by
        intro x hx
        obtain ⟨j, hj, rfl⟩ := List.getElem_of_mem hx
        rw [List.length_take] at hj
        rw [List.getElem_take]
        have hm1 : m - 1 < zs.length := by omega
        have hne : zs[m] ≠ zs[m - 1] := by
          intro e
          have e1 : zs.toArray[m - 1]! = zs[m - 1] := by simp [hm1]
          have := Go.Lib.keeps_neg (d := zs.toArray) (m := m) (by omega) (by rw [e0, e1, e])
          rw [this] at hk
          cases hk
        have a1 := hp (m - 1) m hm1 hm (by omega)
        by_cases e : j = m - 1
        · subst e; omega
        · have a2 := hp j (m - 1) (by omega) hm1 (by omega)
          omega
      refine ⟨?_, fun x => by rw [List.mem_append, List.mem_append, h2]⟩
      unfold UpI
      rw [List.pairwise_append]
      refine ⟨h1, by simp, fun a ha b hb => ?_⟩
      rw [List.mem_singleton] at hb
      subst hb
      exact hlt a ((h2 a).1 ha)
    · rw [if_neg hk, List.append_nil]
      refine ⟨h1, fun x => ?_⟩
      rw [h2, List.mem_append, List.mem_singleton]
      refine ⟨.inl, ?_⟩
      rintro (g | rfl)
      · exact g
      · have hm0 : 0 < m := by
          rcases Nat.eq_zero_or_pos m with e | e
          · subst e; exact absurd (Go.Lib.keeps_lt_one _ 0 (by omega)) hk
          · exact e
        have hm1 : m - 1 < zs.length := by omega
        have e1 : zs.toArray[m - 1]! = zs[m - 1] := by simp [hm1]
        have he : zs[m] = zs[m - 1] := by
          refine Decidable.byContradiction fun hne => hk (Go.Lib.keeps_pos (d := zs.toArray) (m := m) ?_)
          rw [e0, e1]; exact hne
        rw [he]
        exact List.mem_iff_getElem.2 ⟨m - 1, by rw [List.length_take]; omega, by rw [List.getElem_take]⟩
/-- sorted, with no number twice: what an insertion one by one gives -/
theorem sortC_eq {xs ys : List Int} (hy : UpI ys) (h : ∀ x, x ∈ ys ↔ x ∈ xs) : compact (xs.mergeSort fun x y => decide (x ≤ y)) = ys := by
  have hl : (xs.mergeSort fun x y => decide (x ≤ y)).length = xs.length := by simp
  obtain ⟨h1, h2⟩ := compactTo_up (le_sorted xs) _ (Nat.le_refl _)
  refine upI_uniq h1 hy fun x => ?_
  show x ∈ compactUpTo _ _ ↔ _
  rw [h2, List.take_length, h, (List.mergeSort_perm xs _).mem_iff]

theorem ints_Sort (B g cap n : Nat) (xs : List Int) (w : World) (hn : xs.length = n) (hl : xs.length ≤ 1048576) (ho : Own w B g cap xs) :
    Calls Tryz.prog 47 #[(Value.slice (some ⟨g, 0, none⟩) n cap)] w fun e w' => e = .returned (.tuple #[]) ∧ Own w' B g cap (xs.mergeSort fun x y => decide (x ≤ y)) ∧ w.grownBy w' (some g) := by
  subst hn
  have hown : OwnV w B 3 g cap (xs.map (Value.int .i64)) := ho.toV
  have hH : Holds (Value.int .i64) w g 0 xs.toArray := holds_of_ownV (Value.int .i64) hown
  have hcon := Any.slices_Sort_int Tryz.lays189 g 0 cap xs w hH ho.lt (by omega)
  change Calls Tryz.prog 47 _ _ _ at hcon
  refine hcon.mono ?_
  rintro e w' ⟨rfl, n, os, rfl⟩
  have hlm : (xs.mergeSort fun x y => decide (x ≤ y)).length = xs.length := by simp
  have h1 := ownV_sorted (n := n) (os := os) (ts := xs.mergeSort fun x y => decide (x ≤ y)) (Value.int .i64) hown hlm
  refine ⟨rfl, ?_, grownBy_sortedE (Value.int .i64) _⟩
  change Own (sortWorld (Value.int .i64) w g 0 n _ os) B g cap _
  unfold Own
  unfold OwnV at h1
  simpa using h1
theorem Own.prefix' {w : World} {B g cap : Nat} {xs ys : List Int} (h : Own w B g cap (xs ++ ys)) : Own w B g cap xs := by
  rcases h.2 with ⟨h', _⟩ | ⟨g', cap', cur, h', hb, hh, hn, hm, hs, htk⟩
  · simp at h'
  · simp only [Value.slice.injEq, Option.some.injEq, Addr.mk.injEq] at h'
    obtain ⟨⟨rfl, _⟩, _, rfl⟩ := h'
    refine ⟨by simp, .inr ⟨g, cap, cur, rfl, hb, hh, by simp at hn; omega, hm, hs, ?_⟩⟩
    have h2 := congrArg (List.take xs.length) htk
    rw [List.take_take] at h2
    simp only [Nat.mul_one] at *
    rw [show min xs.length (xs ++ ys).length = xs.length by simp] at h2
    rw [h2]
    simp
theorem ints_Compact (B g cap n : Nat) (xs : List Int) (w : World) (hn : xs.length = n) (hl : xs.length ≤ 1048576) (ho : Own w B g cap xs) :
    Calls Tryz.prog 48 #[(Value.slice (some ⟨g, 0, none⟩) n cap)] w fun e w' => e = .returned (Value.slice (some ⟨g, 0, none⟩) ((compact xs).length) cap) ∧ Own w' B g cap (compact xs) ∧ w.grownBy w' (some g) := by
  subst hn
  have hown : OwnV w B 3 g cap (xs.map (Value.int .i64)) := ho.toV
  have hH : Holds (Value.int .i64) w g 0 xs.toArray := holds_of_ownV (Value.int .i64) hown
  have hcon := Any.slices_Compact_int Tryz.laysNm220 g 0 cap xs w hH (by omega) ho.capLe
  change Calls Tryz.prog 48 _ _ _ at hcon
  refine hcon.mono ?_
  rintro e w' ⟨rfl, q, rfl⟩
  have hle : (compact xs).length ≤ xs.length := by
    unfold compact compactUpTo
    rw [List.length_map]
    exact Nat.le_trans (List.length_filter_le _ _) (by simp)
  have hlm : (compact xs ++ List.replicate (xs.length - (compact xs).length) 0).length = xs.length := by simp; omega
  have e0 : putRow (Value.int .i64) (Sort.ahead w q) g 0 (compact xs ++ List.replicate (xs.length - (compact xs).length) 0).toArray = sortWorld (Value.int .i64) w g 0 q (compact xs ++ List.replicate (xs.length - (compact xs).length) 0).toArray #[] := by
    unfold sortWorld; rw [Sort.grow_empty]
  rw [e0]
  have h1 := ownV_sorted (n := q) (os := #[]) (ts := compact xs ++ List.replicate (xs.length - (compact xs).length) 0) (Value.int .i64) hown hlm
  refine ⟨rfl, ?_, grownBy_sortedE (Value.int .i64) _⟩
  refine Own.prefix' (ys := List.replicate (xs.length - (compact xs).length) 0) ?_
  unfold Own
  unfold OwnV at h1
  rw [List.length_map] at h1
  exact h1
end Go.Proofs.YtmplcohpinghbaaGreatDoor
