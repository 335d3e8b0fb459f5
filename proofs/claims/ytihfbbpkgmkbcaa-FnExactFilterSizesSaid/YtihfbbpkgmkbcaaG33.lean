/- Merging by rotations: what the three cases of symMerge leave. Plain law. -/
import Derived.Test.YtihfbbpkgmkbcaaG17
namespace Go.Proofs.Ytihfbbpkgmkbcaa
set_option maxRecDepth 100000
set_option linter.unusedSimpArgs false
open Go.Sort (SWO)
namespace Stb
variable {α : Type}
theorem rot_same (d : Nat → α) {s m e : Nat} (h1 : s ≤ m) (h2 : m ≤ e) (h : s = m ∨ m = e) : rot d s m e = d := by
  funext k
  unfold rot
  split
  · rename_i h3
    congr 1; omega
  · split
    · congr 1; omega
    · rfl
theorem rot_l (d : Nat → α) {a k : Nat} (_h : a ≤ k) : swp (rot d a (a + 1) (k + 1)) k (k + 1) = rot d a (a + 1) (k + 2) := by
  funext x
  unfold swp rot
  by_cases h1 : x = k + 1
  · subst h1
    rw [if_pos rfl, if_neg (by omega), if_pos (by omega), if_neg (by omega), if_pos (by omega)]
    congr 1; omega
  · rw [if_neg h1]
    by_cases h2 : x = k
    · subst h2
      rw [if_pos rfl, if_neg (by omega), if_neg (by omega), if_pos (by omega)]
      congr 1; omega
    · rw [if_neg h2]
      by_cases h3 : a ≤ x ∧ x < k
      · rw [if_pos (by omega), if_pos (by omega)]
      · rw [if_neg (by omega), if_neg (by omega), if_neg (by omega), if_neg (by omega)]
theorem rot_r (d : Nat → α) {m k : Nat} (_h : k + 1 ≤ m) : swp (rot d (k + 1) m (m + 1)) (k + 1) k = rot d k m (m + 1) := by
  funext x
  unfold swp rot
  by_cases h1 : x = k
  · subst h1
    rw [if_pos rfl, if_pos (by omega), if_pos (by omega)]
    congr 1; omega
  · rw [if_neg h1]
    by_cases h2 : x = k + 1
    · subst h2
      rw [if_pos rfl, if_neg (by omega), if_neg (by omega), if_neg (by omega), if_pos (by omega)]
      congr 1; omega
    · rw [if_neg h2]
      by_cases h3 : k + 2 ≤ x ∧ x < m + 1
      · rw [if_neg (by omega), if_pos (by omega), if_neg (by omega), if_pos (by omega)]
        congr 1; omega
      · rw [if_neg (by omega), if_neg (by omega), if_neg (by omega), if_neg (by omega)]
theorem Res.rotF {N : Nat} : ∀ (F i j : Nat) {m : Nat} (d : Nat → α), i + j ≤ F → i ≤ m → m + j ≤ N → Res N (m - i) (m + j) d (rot d (m - i) m (m + j))
  | 0, i, j, m, d, h, _, _ => by
    rw [rot_same d (by omega) (by omega) (.inl (by omega))]; exact Res.refl d
  | F + 1, i, j, m, d, h, hi, hN => by
    by_cases e1 : i = 0 ∨ j = 0
    · rw [rot_same d (by omega) (by omega) (by omega)]; exact Res.refl d
    · by_cases e2 : i = j
      · subst e2
        rw [← rot_eq hi]
        exact Res.swR (by omega) (Nat.le_refl _) (by omega) (Nat.le_refl _)
      · by_cases e3 : j < i
        · rw [← rot_gt hi e3]
          have r1 : Res N (m - i) (m + j) d (Stb.swR d (m - i) m j) := Res.swR (by omega) (Nat.le_refl _) (by omega) (Nat.le_refl _)
          have r2 := Res.rotF (N := N) F (i - j) j (m := m) (Stb.swR d (m - i) m j) (by omega) (by omega) hN
          exact r1.trans (r2.wide (by omega) (Nat.le_refl _))
        · rw [← rot_lt hi (by omega)]
          have r1 : Res N (m - i) (m + j) d (Stb.swR d (m - i) (m + j - i) i) := Res.swR (by omega) (Nat.le_refl _) (by omega) (by omega)
          have r2 := Res.rotF (N := N) F i (j - i) (m := m) (Stb.swR d (m - i) (m + j - i) i) (by omega) hi (by omega)
          exact r1.trans (r2.wide (Nat.le_refl _) (by omega))
theorem Res.rot {N s m e : Nat} (d : Nat → α) (h1 : s ≤ m) (h2 : m ≤ e) (h3 : e ≤ N) : Res N s e d (rot d s m e) := by
  have := Res.rotF (N := N) (m - s + (e - m)) (m - s) (e - m) (m := m) d (Nat.le_refl _) (by omega) (by omega)
  rwa [show m - (m - s) = s by omega, show m + (e - m) = e by omega] at this
section
variable {lt : α → α → Bool}
theorem one_left (hO : SWO lt) {N : Nat} {d : Nat → α} {a b i : Nat} (hr : Srt lt d (a + 1) b) (h1 : a + 1 ≤ i) (h2 : i ≤ b) (h3 : b ≤ N) (hlo : i = a + 1 ∨ lt (d (i - 1)) (d a) = true) (hhi : i = b ∨ lt (d i) (d a) = false) :
    Srt lt (Stb.rot d a (a + 1) i) a b ∧ Res N a b d (Stb.rot d a (a + 1) i) := by
  refine ⟨fun p q e1 e2 e3 => ?_, (Res.rot d (by omega) h1 (by omega)).wide (Nat.le_refl _) h2⟩
  have vl : ∀ x, a ≤ x → x < i - 1 → Stb.rot d a (a + 1) i x = d (x + 1) := fun x f1 f2 => by unfold Stb.rot; rw [if_pos (by omega)]; congr 1; omega
  have vm : Stb.rot d a (a + 1) i (i - 1) = d a := by unfold Stb.rot; rw [if_neg (by omega), if_pos (by omega)]; congr 1; omega
  have vr : ∀ x, i ≤ x → Stb.rot d a (a + 1) i x = d x := fun x f1 => by unfold Stb.rot; rw [if_neg (by omega), if_neg (by omega)]
  by_cases c1 : p < i - 1
  · rw [vl p e1 c1]
    by_cases c2 : q < i - 1
    · rw [vl q (by omega) c2]; exact hr _ _ (by omega) (by omega) (by omega)
    · by_cases c3 : q = i - 1
      · rw [c3, vm]
        have hl : lt (d (i - 1)) (d a) = true := by rcases hlo with h | h; omega; exact h
        exact asymm hO (le_lt hO (hr.le hO (i := p + 1) (j := i - 1) (by omega) (by omega) (by omega)) hl)
      · rw [vr q (by omega)]; exact hr _ _ (by omega) (by omega) (by omega)
  · by_cases c2 : p = i - 1
    · rw [c2, vm, vr q (by omega)]
      have hl : lt (d i) (d a) = false := by rcases hhi with h | h; omega; exact h
      exact hO.ntrans _ _ _ (hr.le hO (i := i) (j := q) (by omega) (by omega) (by omega)) hl
    · rw [vr p (by omega), vr q (by omega)]; exact hr _ _ (by omega) (by omega) (by omega)
theorem one_right (hO : SWO lt) {N : Nat} {d : Nat → α} {a m i : Nat} (hr : Srt lt d a m) (h1 : a ≤ i) (h2 : i ≤ m) (h3 : m + 1 ≤ N) (hlo : i = a ∨ lt (d m) (d (i - 1)) = false) (hhi : i = m ∨ lt (d m) (d i) = true) :
    Srt lt (Stb.rot d i m (m + 1)) a (m + 1) ∧ Res N a (m + 1) d (Stb.rot d i m (m + 1)) := by
  refine ⟨fun p q e1 e2 e3 => ?_, (Res.rot d h2 (by omega) h3).wide h1 (Nat.le_refl _)⟩
  have vl : ∀ x, x < i → Stb.rot d i m (m + 1) x = d x := fun x f1 => by unfold Stb.rot; rw [if_neg (by omega), if_neg (by omega)]
  have vm : Stb.rot d i m (m + 1) i = d m := by unfold Stb.rot; rw [if_pos (by omega)]; congr 1; omega
  have vr : ∀ x, i < x → x < m + 1 → Stb.rot d i m (m + 1) x = d (x - 1) := fun x f1 f2 => by unfold Stb.rot; rw [if_neg (by omega), if_pos (by omega)]; congr 1; omega
  by_cases c1 : p < i
  · rw [vl p c1]
    by_cases c2 : q < i
    · rw [vl q c2]; exact hr _ _ e1 e2 (by omega)
    · by_cases c3 : q = i
      · rw [c3, vm]
        have hl : lt (d m) (d (i - 1)) = false := by rcases hlo with h | h; omega; exact h
        exact hO.ntrans _ _ _ hl (hr.le hO (i := p) (j := i - 1) e1 (by omega) (by omega))
      · rw [vr q (by omega) e3]; exact hr _ _ e1 (by omega) (by omega)
  · by_cases c2 : p = i
    · rw [c2, vm, vr q (by omega) e3]
      have hl : lt (d m) (d i) = true := by rcases hhi with h | h; omega; exact h
      exact asymm hO (lt_le hO hl (hr.le hO (i := i) (j := q - 1) h1 (by omega) (by omega)))
    · rw [vr p (by omega) (by omega), vr q (by omega) e3]; exact hr _ _ (by omega) (by omega) (by omega)
/-- where the search of the great case stands -/
structure Sea (lt : α → α → Bool) (d : Nat → α) (p s0 r0 s r : Nat) : Prop where
  lo : s = s0 ∨ lt (d (p - (s - 1))) (d (s - 1)) = false
  hi : r = r0 ∨ lt (d (p - r)) (d r) = true
/-- the search's start -/
def s0of (a m b : Nat) : Nat := if (a + b) / 2 < m then (a + b) / 2 + m - b else a
def r0of (a m b : Nat) : Nat := if (a + b) / 2 < m then (a + b) / 2 else m
theorem s0_facts {a m b : Nat} (h1 : a < m) (h2 : m < b) : a ≤ s0of a m b ∧ s0of a m b ≤ r0of a m b ∧ r0of a m b ≤ m ∧ r0of a m b ≤ (a + b) / 2 ∧ (a + b) / 2 + m - b ≤ s0of a m b ∧ (a + b) / 2 + m ≤ b + s0of a m b := by
  unfold s0of r0of
  split <;> omega
theorem Sea.split {d : Nat → α} {a m b s : Nat} (h1 : a < m) (h2 : m < b) (hs : s0of a m b ≤ s) (hr : s ≤ r0of a m b) (h : Sea lt d ((a + b) / 2 + m - 1) (s0of a m b) (r0of a m b) s s) :
    Split lt d a m b s ((a + b) / 2 + m - s) := by
  have hf := s0_facts h1 h2
  obtain ⟨lo, hi⟩ := h
  refine ⟨by omega, by omega, fun e1 e2 => ?_, fun e1 e2 => ?_⟩
  · rcases lo with lo | lo
    · unfold s0of at lo; split at lo <;> omega
    · rwa [show (a + b) / 2 + m - 1 - (s - 1) = (a + b) / 2 + m - s by omega] at lo
  · rcases hi with hi | hi
    · unfold r0of at hi; split at hi <;> omega
    · rwa [show (a + b) / 2 + m - 1 - s = (a + b) / 2 + m - s - 1 by omega] at hi
end
end Stb
end Go.Proofs.Ytihfbbpkgmkbcaa
