/- clear of the end of a list of weights; a shorter list of the same block. -/
import Derived.Test.YtihfbbpkgmkbcaaG39
namespace Go.Proofs.Ytihfbbpkgmkbcaa
set_option maxRecDepth 100000
open Go.RowKit Game Stb

theorem setMany_own {E : TypeId} {k B g cap n : Nat} : ∀ (vs : List Value) (w : World) (cs : List Value) (o : Nat), OwnK w B E k g cap n cs →
    ∃ cs', OwnK (w.setCells g o vs) B E k g cap n cs' ∧ cs'.take o = cs.take o ∧ w.grownBy (w.setCells g o vs) (some g)
  | [], w, cs, o, h => ⟨cs, h, rfl, World.grownBy.refl _ _⟩
  | v :: vs, w, cs, o, h => by
    obtain ⟨h1, h2⟩ := h.set o v
    obtain ⟨cs', h3, h4, h5⟩ := setMany_own vs (w.setCell ⟨g, o, none⟩ v) (cs.set o v) (o + 1) h1
    refine ⟨cs', h3, ?_, World.grownBy.trans' h2 h5⟩
    have : (cs'.take (o + 1)).take o = ((cs.set o v).take (o + 1)).take o := by rw [h4]
    rw [List.take_take, List.take_take, Nat.min_eq_left (by omega), List.take_set_of_le (Nat.le_refl o)] at this
    exact this
theorem own_take {w : World} {E : TypeId} {k B g cap n m : Nat} {cs : List Value} (h : OwnK w B E k g cap n cs) (hm : m ≤ n) : OwnK w B E k g cap m (cs.take (m * k)) := by
  have hlen := h.1
  rcases h.2 with ⟨h', _⟩ | ⟨g', cap', cur, h', hb, hh, hn, hx, hs, htk⟩
  · simp at h'
  · simp only [Value.slice.injEq, Option.some.injEq, Addr.mk.injEq] at h'
    obtain ⟨⟨rfl, _⟩, _, rfl⟩ := h'
    have hmk : m * k ≤ n * k := Nat.mul_le_mul_right _ hm
    refine ⟨by rw [List.length_take, hlen]; omega, .inr ⟨g, cap, cur, rfl, hb, hh, by omega, hx, hs, ?_⟩⟩
    rw [← htk, List.take_take, Nat.min_eq_left hmk]
theorem run_clear_wts (w : World) (ty : TypeId) (b o n c : Nat) (hc : ∀ j, j < n * 2 → (w.cell? ⟨b, o + j, none⟩).isSome = true) (hf : ∀ j, j < n * 2 → w.frozen? ⟨b, o + j, none⟩ = false) :
    ∃ vs, (Builtin.clear_ #[26] ty #[.slice (some ⟨b, o, none⟩) n c]).run Try.prog w = .ok (.tuple #[]) (w.setCells b o vs) := by
  by_cases hn : n = 0
  · subst hn
    refine ⟨[], ?_⟩
    simp [Builtin.clear_, run_underlying Try.underlying26]
    rfl
  · obtain ⟨i0, hi, hz0, hz1, hz2⟩ := info_parts infoW2
    have hv : ∀ w, (zeroValue 48).run Try.prog w = .ok (.agg #[.slice none 0 0, .int .i64 0]) w := fun w => by
      unfold zeroValue
      simp
      rfl
    have hsz : (Value.agg #[.slice none 0 0, .int .i64 0]).cells.size = 2 := rfl
    have hl : (Builtin.zeroCells (Value.agg #[.slice none 0 0, .int .i64 0]).cells n).toList.length = n * 2 := by
      simp [Builtin.zeroCells, hsz]
    have h1 : ∀ v ∈ (Builtin.zeroCells (Value.agg #[.slice none 0 0, .int .i64 0]).cells n).toList, v.oneCell' = true := by
      intro v hv
      simp only [Builtin.zeroCells, Array.toList_map, List.mem_map, hsz] at hv
      obtain ⟨a, -, rfl⟩ := hv
      rcases Nat.mod_two_eq_zero_or_one a with e | e <;> rw [e] <;> rfl
    have hst := run_storeCells_cells (P := Try.prog) b o (Builtin.zeroCells (Value.agg #[.slice none 0 0, .int .i64 0]).cells n).toList 0 w (by rw [hl]; simpa using hc) (by rw [hl]; simpa using hf) h1
    simp only [Nat.add_zero] at hst
    obtain ⟨m, rfl⟩ : ∃ m, n = m + 1 := ⟨n - 1, by omega⟩
    refine ⟨(Builtin.zeroCells (Value.agg #[.slice none 0 0, .int .i64 0]).cells (m + 1)).toList, ?_⟩
    simp [Builtin.clear_, run_underlying Try.underlying26, hv, hst]
end Go.Proofs.Ytihfbbpkgmkbcaa
