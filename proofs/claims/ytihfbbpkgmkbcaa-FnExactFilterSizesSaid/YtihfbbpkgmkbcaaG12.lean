/- Stable sorting by rotations: swaps, ranges, rotations, merges. Plain law. -/
import Derived.Test.YtihfbbpkgmkbcaaG06
import Derived.Shelf.SlSortCmp.InsertionK
namespace Go.Proofs.Ytihfbbpkgmkbcaa
set_option maxRecDepth 100000
set_option linter.unusedSimpArgs false
open Go.Sort (SWO)
namespace Stb
variable {α : Type}

def swp (d : Nat → α) (i j : Nat) : Nat → α := fun k => if k = j then d i else if k = i then d j else d k
/-- two ranges of n change places -/
def swR (d : Nat → α) (a b n : Nat) : Nat → α := fun k => if a ≤ k ∧ k < a + n then d (b + (k - a)) else if b ≤ k ∧ k < b + n then d (a + (k - b)) else d k
theorem swR_zero (d : Nat → α) (a b : Nat) : swR d a b 0 = d := by
  funext k
  unfold swR
  rw [if_neg (by omega), if_neg (by omega)]
theorem swR_succ {d : Nat → α} {a b n : Nat} (h : a + (n + 1) ≤ b) : swp (swR d a b n) (a + n) (b + n) = swR d a b (n + 1) := by
  funext k
  unfold swp swR
  by_cases h1 : k = b + n
  · subst h1
    rw [if_pos rfl, if_neg (by omega), if_neg (by omega), if_neg (by omega), if_pos (by omega)]
    congr 1; omega
  · rw [if_neg h1]
    by_cases h2 : k = a + n
    · subst h2
      rw [if_pos rfl, if_neg (by omega), if_neg (by omega), if_pos (by omega)]
      congr 1; omega
    · rw [if_neg h2]
      by_cases h3 : a ≤ k ∧ k < a + n
      · rw [if_pos h3, if_pos (by omega)]
      · rw [if_neg h3, if_neg (by omega : ¬ (a ≤ k ∧ k < a + (n + 1)))]
        by_cases h4 : b ≤ k ∧ k < b + n
        · rw [if_pos h4, if_pos (by omega)]
        · rw [if_neg h4, if_neg (by omega)]
/-- [a, m) and [m, b) change places -/
def rot (d : Nat → α) (a m b : Nat) : Nat → α := fun k => if a ≤ k ∧ k < a + (b - m) then d (m + (k - a)) else if a + (b - m) ≤ k ∧ k < b then d (a + (k - (a + (b - m)))) else d k
theorem rot_gt {d : Nat → α} {m i j : Nat} (hi : i ≤ m) (h : j < i) : rot (swR d (m - i) m j) (m - (i - j)) m (m + j) = rot d (m - i) m (m + j) := by
  funext k
  unfold rot swR
  by_cases h1 : k < m - i
  · rw [if_neg (by omega), if_neg (by omega), if_neg (by omega), if_neg (by omega), if_neg (by omega), if_neg (by omega)]
  · by_cases h2 : k < m - i + j
    · rw [if_neg (by omega), if_neg (by omega), if_pos (by omega), if_pos (by omega)]
    · by_cases h3 : k < m - (i - j) + j
      · rw [if_pos (by omega), if_neg (by omega), if_pos (by omega), if_neg (by omega : ¬ (m - i ≤ k ∧ k < m - i + (m + j - m))), if_pos (by omega)]
        congr 1; omega
      · by_cases h4 : k < m + j
        · rw [if_neg (by omega), if_pos (by omega), if_neg (by omega), if_neg (by omega), if_neg (by omega : ¬ (m - i ≤ k ∧ k < m - i + (m + j - m))), if_pos (by omega)]
          congr 1; omega
        · rw [if_neg (by omega), if_neg (by omega), if_neg (by omega), if_neg (by omega), if_neg (by omega), if_neg (by omega)]
theorem rot_lt {d : Nat → α} {m i j : Nat} (hi : i ≤ m) (h : i < j) : rot (swR d (m - i) (m + j - i) i) (m - i) m (m + (j - i)) = rot d (m - i) m (m + j) := by
  funext k
  unfold rot swR
  by_cases h1 : k < m - i
  · rw [if_neg (by omega), if_neg (by omega), if_neg (by omega), if_neg (by omega), if_neg (by omega), if_neg (by omega)]
  · by_cases h2 : k < m - i + (j - i)
    · rw [if_pos (by omega), if_neg (by omega), if_neg (by omega), if_pos (by omega)]
    · by_cases h3 : k < m - i + j
      · by_cases h5 : k < m + (j - i)
        · rw [if_neg (by omega), if_pos (by omega), if_pos (by omega), if_pos (by omega)]
          congr 1; omega
        · omega
      · by_cases h4 : k < m + j
        · rw [if_neg (by omega), if_neg (by omega), if_neg (by omega), if_pos (by omega), if_neg (by omega : ¬ (m - i ≤ k ∧ k < m - i + (m + j - m))), if_pos (by omega)]
          congr 1; omega
        · rw [if_neg (by omega), if_neg (by omega), if_neg (by omega), if_neg (by omega), if_neg (by omega), if_neg (by omega)]
theorem rot_eq {d : Nat → α} {m i : Nat} (hi : i ≤ m) : swR d (m - i) m i = rot d (m - i) m (m + i) := by
  funext k
  unfold rot swR
  by_cases h1 : m - i ≤ k ∧ k < m - i + i
  · rw [if_pos h1, if_pos (by omega)]
  · rw [if_neg h1, if_neg (by omega : ¬ (m - i ≤ k ∧ k < m - i + (m + i - m)))]
    by_cases h2 : m ≤ k ∧ k < m + i
    · rw [if_pos h2, if_pos (by omega)]
      congr 1; omega
    · rw [if_neg h2, if_neg (by omega)]

/-! ### the same elements -/
def lst (N : Nat) (d : Nat → α) : List α := (List.range N).map d
theorem lst_length (N : Nat) (d : Nat → α) : (lst N d).length = N := by simp [lst]
theorem perm_swp {N i j : Nat} (d : Nat → α) (hi : i < N) (hj : j < N) : (lst N (swp d i j)).Perm (lst N d) := by
  by_cases e : i = j
  · subst e
    have : swp d i i = d := by
      funext k
      unfold swp
      by_cases h : k = i
      · rw [if_pos h, h]
      · rw [if_neg h, if_neg h]
    rw [this]
  · have hs : lst N (swp d i j) = ((List.range N).map fun k => if k = j then i else if k = i then j else k).map d := by
      unfold lst
      rw [List.map_map]
      apply List.map_congr_left
      intro k _
      show swp d i j k = d (if k = j then i else if k = i then j else k)
      unfold swp
      split
      · rfl
      · split <;> rfl
    rw [hs]
    refine List.Perm.map d ?_
    refine (List.perm_ext_iff_of_nodup ?_ List.nodup_range).2 fun x => ?_
    · refine List.pairwise_map.2 (List.nodup_range.imp fun {p q} hpq => ?_)
      intro he
      apply hpq
      split at he <;> split at he <;> (try split at he) <;> (try split at he) <;> omega
    · simp only [List.mem_map, List.mem_range]
      constructor
      · rintro ⟨k, hk, rfl⟩
        split
        · exact hi
        · split
          · exact hj
          · exact hk
      · intro hx
        by_cases h1 : x = i
        · exact ⟨j, hj, by rw [if_pos rfl, h1]⟩
        · by_cases h2 : x = j
          · exact ⟨i, hi, by rw [if_neg e, if_pos rfl, h2]⟩
          · exact ⟨x, hx, by rw [if_neg h2, if_neg h1]⟩
/-- outside [a, b) nothing is turned, and inside nothing comes from outside; the elements are the same -/
structure Res (N a b : Nat) (d d' : Nat → α) : Prop where
  keep : ∀ k, k < a ∨ b ≤ k → d' k = d k
  into : ∀ k, a ≤ k → k < b → ∃ k', a ≤ k' ∧ k' < b ∧ d' k = d k'
  perm : (lst N d').Perm (lst N d)
theorem Res.refl {N a b : Nat} (d : Nat → α) : Res N a b d d := ⟨fun _ _ => rfl, fun k h1 h2 => ⟨k, h1, h2, rfl⟩, List.Perm.refl _⟩
theorem Res.trans {N a b : Nat} {d d1 d2 : Nat → α} (h : Res N a b d d1) (h' : Res N a b d1 d2) : Res N a b d d2 :=
  ⟨fun k hk => (h'.keep k hk).trans (h.keep k hk), fun k h1 h2 => by
    obtain ⟨k', e1, e2, e3⟩ := h'.into k h1 h2
    obtain ⟨k2, f1, f2, f3⟩ := h.into k' e1 e2
    exact ⟨k2, f1, f2, e3.trans f3⟩, h'.perm.trans h.perm⟩
theorem Res.wide {N a b a' b' : Nat} {d d' : Nat → α} (h : Res N a b d d') (ha : a' ≤ a) (hb : b ≤ b') : Res N a' b' d d' :=
  ⟨fun k hk => h.keep k (by omega), fun k h1 h2 => by
    by_cases hin : a ≤ k ∧ k < b
    · obtain ⟨k', e1, e2, e3⟩ := h.into k hin.1 hin.2
      exact ⟨k', by omega, by omega, e3⟩
    · exact ⟨k, h1, h2, h.keep k (by omega)⟩, h.perm⟩
theorem Res.swp {N a b i j : Nat} (d : Nat → α) (hb : b ≤ N) (hi : a ≤ i ∧ i < b) (hj : a ≤ j ∧ j < b) : Res N a b d (swp d i j) :=
  ⟨fun k hk => by unfold Stb.swp; rw [if_neg (by omega), if_neg (by omega)], fun k h1 h2 => by
    unfold Stb.swp
    by_cases e1 : k = j
    · rw [if_pos e1]; exact ⟨i, hi.1, hi.2, rfl⟩
    · rw [if_neg e1]
      by_cases e2 : k = i
      · rw [if_pos e2]; exact ⟨j, hj.1, hj.2, rfl⟩
      · rw [if_neg e2]; exact ⟨k, h1, h2, rfl⟩, perm_swp d (by omega) (by omega)⟩
theorem Res.swR {N a b n : Nat} {d : Nat → α} {x y : Nat} (hb : b ≤ N) (hx : a ≤ x) (hxy : x + n ≤ y) (hy : y + n ≤ b) : Res N a b d (swR d x y n) := by
  induction n with
  | zero => rw [swR_zero]; exact Res.refl d
  | succ n ih =>
    rw [← swR_succ (by omega)]
    exact (ih (by omega) (by omega)).trans (Res.swp _ hb (by omega) (by omega))

/-! ### sorted -/
def Srt (lt : α → α → Bool) (d : Nat → α) (a b : Nat) : Prop := ∀ i j, a ≤ i → i < j → j < b → lt (d j) (d i) = false
section
variable {lt : α → α → Bool}
theorem Srt.le (hO : SWO lt) {d : Nat → α} {a b i j : Nat} (h : Srt lt d a b) (hi : a ≤ i) (hij : i ≤ j) (hj : j < b) : lt (d j) (d i) = false := by
  by_cases e : i = j
  · subst e; exact hO.irrefl _
  · exact h i j hi (by omega) hj
theorem asymm (hO : SWO lt) {x y : α} (h : lt x y = true) : lt y x = false := by
  cases h2 : lt y x with
  | false => rfl
  | true =>
    have := hO.trans _ _ _ h h2
    rw [hO.irrefl] at this; exact absurd this (by decide)
/-- x < y ≤ z -/
theorem lt_le (hO : SWO lt) {x y z : α} (h : lt x y = true) (h2 : lt z y = false) : lt x z = true := by
  cases h3 : lt x z with
  | true => rfl
  | false =>
    have := hO.ntrans _ _ _ h3 h2
    rw [h] at this; exact absurd this (by decide)
/-- x ≤ y < z -/
theorem le_lt (hO : SWO lt) {x y z : α} (h : lt y x = false) (h2 : lt y z = true) : lt x z = true := by
  cases h3 : lt x z with
  | true => rfl
  | false =>
    have := hO.ntrans _ _ _ h h3
    rw [h2] at this; exact absurd this (by decide)
/-- both halves sorted, and nothing on the right below anything on the left -/
theorem Srt.join {d : Nat → α} {a m b : Nat} (h1 : Srt lt d a m) (h2 : Srt lt d m b) (h : ∀ i j, a ≤ i → i < m → m ≤ j → j < b → lt (d j) (d i) = false) : Srt lt d a b := fun i j hi hij hj => by
  by_cases e1 : j < m
  · exact h1 i j hi hij e1
  · by_cases e2 : m ≤ i
    · exact h2 i j e2 hij hj
    · exact h i j hi (by omega) (by omega) hj
/-- the split that the search finds -/
structure Split (lt : α → α → Bool) (d : Nat → α) (a m b s e : Nat) : Prop where
  s1 : a ≤ s ∧ s ≤ m
  s2 : m ≤ e ∧ e ≤ b
  lo : a < s → e < b → lt (d e) (d (s - 1)) = false
  hi : s < m → m < e → lt (d (e - 1)) (d s) = true
theorem Split.cross (hO : SWO lt) {d : Nat → α} {a m b s e : Nat} (h : Split lt d a m b s e) (hl : Srt lt d a m) (hr : Srt lt d m b) :
    ∀ x y, (a ≤ x ∧ x < s ∨ m ≤ x ∧ x < e) → (s ≤ y ∧ y < m ∨ e ≤ y ∧ y < b) → lt (d y) (d x) = false := by
  intro x y hx hy
  obtain ⟨⟨s1, s2⟩, ⟨s3, s4⟩, lo, hi⟩ := h
  rcases hx with hx | hx <;> rcases hy with hy | hy
  · exact hl.le hO hx.1 (by omega) hy.2
  · have h1 := lo (by omega) (by omega)
    have h2 := hr.le hO (i := e) (j := y) (by omega) hy.1 hy.2
    have h3 := hl.le hO (i := x) (j := s - 1) hx.1 (by omega) (by omega)
    exact hO.ntrans _ _ _ (hO.ntrans _ _ _ h2 h1) h3
  · have h1 := hi (by omega) (by omega)
    have h2 := hr.le hO (i := x) (j := e - 1) (by omega) (by omega) (by omega)
    have h3 := hl.le hO (i := s) (j := y) (by omega) hy.1 hy.2
    exact asymm hO (lt_le hO (le_lt hO h2 h1) h3)
  · exact hr.le hO (by omega) (by omega) hy.2
/-- behind the rotation -/
theorem Split.rot {d : Nat → α} {a m b s e mid : Nat} (h : Split lt d a m b s e) (hmid : mid = s + (e - m)) (hl : Srt lt d a m) (hr : Srt lt d m b) :
    Srt lt (Stb.rot d s m e) a s ∧ Srt lt (Stb.rot d s m e) s mid ∧ Srt lt (Stb.rot d s m e) mid e ∧ Srt lt (Stb.rot d s m e) e b := by
  obtain ⟨⟨s1, s2⟩, ⟨s3, s4⟩, -, -⟩ := h
  subst hmid
  refine ⟨fun i j h1 h2 h3 => ?_, fun i j h1 h2 h3 => ?_, fun i j h1 h2 h3 => ?_, fun i j h1 h2 h3 => ?_⟩
  · unfold Stb.rot
    rw [if_neg (by omega), if_neg (by omega), if_neg (by omega), if_neg (by omega)]
    exact hl i j h1 h2 (by omega)
  · unfold Stb.rot
    rw [if_pos (by omega), if_pos (by omega)]
    exact hr _ _ (by omega) (by omega) (by omega)
  · unfold Stb.rot
    rw [if_neg (by omega), if_pos (by omega), if_neg (by omega), if_pos (by omega)]
    exact hl _ _ (by omega) (by omega) (by omega)
  · unfold Stb.rot
    rw [if_neg (by omega), if_neg (by omega), if_neg (by omega), if_neg (by omega)]
    exact hr i j (by omega) h2 h3
/-- .. and the two merges -/
theorem Split.merge (hO : SWO lt) {N : Nat} {d d2 d3 : Nat → α} {a m b s e mid : Nat} (h : Split lt d a m b s e) (hmid : mid = s + (e - m)) (hl : Srt lt d a m) (hr : Srt lt d m b)
    (r2 : Res N a mid (Stb.rot d s m e) d2) (q2 : Srt lt d2 a mid) (r3 : Res N mid b d2 d3) (q3 : Srt lt d3 mid b) : Srt lt d3 a b := by
  have hc := h.cross hO hl hr
  obtain ⟨⟨s1, s2⟩, ⟨s3, s4⟩, -, -⟩ := h
  refine Srt.join (m := mid) (fun i j h1 h2 h3 => ?_) q3 fun i j h1 h2 h3 h4 => ?_
  · rw [r3.keep i (by omega), r3.keep j (by omega)]
    exact q2 i j h1 h2 h3
  · rw [r3.keep i (by omega)]
    obtain ⟨i', e1, e2, e3⟩ := r2.into i h1 h2
    obtain ⟨j', f1, f2, f3⟩ := r3.into j h3 h4
    rw [e3, f3, r2.keep j' (by omega)]
    have hi : ∃ x, (a ≤ x ∧ x < s ∨ m ≤ x ∧ x < e) ∧ Stb.rot d s m e i' = d x := by
      unfold Stb.rot
      by_cases g : i' < s
      · exact ⟨i', .inl ⟨e1, g⟩, by rw [if_neg (by omega), if_neg (by omega)]⟩
      · exact ⟨m + (i' - s), .inr (by omega), by rw [if_pos (by omega)]⟩
    have hj : ∃ y, (s ≤ y ∧ y < m ∨ e ≤ y ∧ y < b) ∧ Stb.rot d s m e j' = d y := by
      unfold Stb.rot
      by_cases g : j' < e
      · exact ⟨s + (j' - (s + (e - m))), .inl (by omega), by rw [if_neg (by omega), if_pos (by omega)]⟩
      · exact ⟨j', .inr ⟨by omega, f2⟩, by rw [if_neg (by omega), if_neg (by omega)]⟩
    obtain ⟨x, hx, ex⟩ := hi
    obtain ⟨y, hy, ey⟩ := hj
    rw [ex, ey]
    exact hc x y hx hy
end
end Stb
end Go.Proofs.Ytihfbbpkgmkbcaa
