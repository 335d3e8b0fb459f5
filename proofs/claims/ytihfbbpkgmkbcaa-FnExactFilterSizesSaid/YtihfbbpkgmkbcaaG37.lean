/- symMerge, all cases: contract. Sorted blocks that are merged by twos. Plain law. -/
import Derived.Test.YtihfbbpkgmkbcaaG34
import Derived.Test.YtihfbbpkgmkbcaaG35
import Derived.Test.YtihfbbpkgmkbcaaG36
import Derived.Test.YtihfbbpkgmkbcaaG33
namespace Go.Proofs.Ytihfbbpkgmkbcaa
set_option maxRecDepth 100000
open Go.RowKit Game Stb
open Go.Sort (grow SWO)

theorem symMerge_ok (B G cap N : Nat) (hN : N ≤ 1048576) : ∀ (F a m b : Nat) (d : Nat → SRef) (w : World), b - a ≤ F → a < m → m < b → b ≤ N → SSt w w B G cap N d → Srt ltW d a m → Srt ltW d m b →
    Calls Try.prog 64 #[(Value.slice (some ⟨G, 0, none⟩) N cap), .int .i64 a, .int .i64 m, .int .i64 b, .func (.func 52) #[] #[]] w fun e w' => e = .returned (.tuple #[]) ∧ ∃ d', SSt w w' B G cap N d' ∧ Srt ltW d' a b ∧ Res N a b d d'
  | 0, a, m, b, d, w, h, h1, h2, _, _, _, _ => by omega
  | F + 1, a, m, b, d, w, hF, ham, hmb, hb, S, hl, hr => by
    by_cases e1 : m = a + 1
    · exact sym1_ok B G cap N hN a m b d w ham hmb hb S hl hr e1
    · by_cases e2 : b = m + 1
      · exact sym2_ok B G cap N hN a m b d w ham hmb hb S hl hr e1 e2
      · exact sym3_ok B G cap N hN F (symMerge_ok B G cap N hN F) a m b d w hF ham hmb hb S hl hr e1 e2
end Go.Proofs.Ytihfbbpkgmkbcaa
namespace Go.Proofs.Ytihfbbpkgmkbcaa
set_option maxRecDepth 100000
namespace Stb
variable {α : Type} {lt : α → α → Bool}
theorem Srt.kept {N a b x y : Nat} {d d' : Nat → α} (h : Srt lt d x y) (r : Res N a b d d') (hd : y ≤ a ∨ b ≤ x) : Srt lt d' x y := fun i j h1 h2 h3 => by
  rw [r.keep i (by omega), r.keep j (by omega)]
  exact h i j h1 h2 h3
/-- every block of bs is sorted -/
def Blk (lt : α → α → Bool) (N bs : Nat) (d : Nat → α) : Prop := ∀ u, Srt lt d (u * bs) (min (u * bs + bs) N)
theorem Blk.all {N bs : Nat} {d : Nat → α} (h : Blk lt N bs d) (hb : N ≤ bs) : Srt lt d 0 N := by
  have := h 0
  rwa [Nat.zero_mul, Nat.zero_add, Nat.min_eq_right hb] at this
/-- the first blocks, up to t -/
def Fst (lt : α → α → Bool) (bs t : Nat) (d : Nat → α) : Prop := ∀ u, u < t → Srt lt d (u * bs) (u * bs + bs)
theorem mul_up {u t bs : Nat} (h : u < t) : u * bs + bs ≤ t * bs := by
  have := Nat.mul_le_mul_right bs (show u + 1 ≤ t from h)
  rwa [Nat.add_mul, Nat.one_mul] at this
theorem Fst.next {N bs t : Nat} {d d' : Nat → α} (h : Fst lt bs t d) (r : Res N (t * bs) (t * bs + bs) d d') (hs : Srt lt d' (t * bs) (t * bs + bs)) : Fst lt bs (t + 1) d' := fun u hu => by
  by_cases e : u = t
  · subst e; exact hs
  · exact (h u (by omega)).kept r (.inl (mul_up (by omega)))
theorem Fst.last {N bs t : Nat} {d d' : Nat → α} (h : Fst lt bs t d) (hN : N < t * bs + bs) (r : Res N (t * bs) N d d') (hs : Srt lt d' (t * bs) N) : Blk lt N bs d' := fun u => by
  by_cases e : u < t
  · exact fun i j h1 h2 h3 => ((h u e).kept r (.inl (mul_up e))) i j h1 h2 (by omega)
  · by_cases e2 : u = t
    · subst e2; rw [Nat.min_eq_right (by omega)]; exact hs
    · intro i j h1 h2 h3
      have := mul_up (bs := bs) (show t < u by omega)
      omega
/-- blocks of bs; the first t pairs are merged -/
structure Prs (lt : α → α → Bool) (N bs t : Nat) (d : Nat → α) : Prop where
  lo : Fst lt (2 * bs) t d
  hi : ∀ u, 2 * t ≤ u → Srt lt d (u * bs) (min (u * bs + bs) N)
theorem two_mul' (t bs : Nat) : 2 * t * bs = t * (2 * bs) := by rw [Nat.mul_comm 2 t, Nat.mul_assoc]
theorem two_mul1 (t bs : Nat) : (2 * t + 1) * bs = t * (2 * bs) + bs := by rw [Nat.add_mul, Nat.one_mul, two_mul']
theorem Prs.start {N bs : Nat} {d : Nat → α} (h : Blk lt N bs d) : Prs lt N bs 0 d := ⟨fun _ h => absurd h (Nat.not_lt_zero _), fun u _ => h u⟩
theorem Prs.left {N bs t : Nat} {d : Nat → α} (h : Prs lt N bs t d) (hN : t * (2 * bs) + bs ≤ N) : Srt lt d (t * (2 * bs)) (t * (2 * bs) + bs) := by
  have := h.hi (2 * t) (Nat.le_refl _)
  rwa [two_mul', Nat.min_eq_left hN] at this
theorem Prs.right {N bs t : Nat} {d : Nat → α} (h : Prs lt N bs t d) : Srt lt d (t * (2 * bs) + bs) (min (t * (2 * bs) + 2 * bs) N) := by
  have := h.hi (2 * t + 1) (by omega)
  rwa [two_mul1, show t * (2 * bs) + bs + bs = t * (2 * bs) + 2 * bs by omega] at this
theorem Prs.next {N bs t : Nat} {d d' : Nat → α} (h : Prs lt N bs t d) (r : Res N (t * (2 * bs)) (t * (2 * bs) + 2 * bs) d d') (hs : Srt lt d' (t * (2 * bs)) (t * (2 * bs) + 2 * bs)) : Prs lt N bs (t + 1) d' :=
  ⟨h.lo.next r hs, fun u hu => (h.hi u (by omega)).kept r (.inr (by
    have h1 := Nat.mul_le_mul_right bs (show 2 * (t + 1) ≤ u by omega)
    rw [two_mul', Nat.add_mul, Nat.one_mul] at h1
    exact h1))⟩
theorem Prs.last {N bs t : Nat} {d d' : Nat → α} (h : Prs lt N bs t d) (hN : N < t * (2 * bs) + 2 * bs) (r : Res N (t * (2 * bs)) N d d') (hs : Srt lt d' (t * (2 * bs)) N) : Blk lt N (2 * bs) d' := h.lo.last hN r hs
theorem Prs.short {N bs t : Nat} {d : Nat → α} (h : Prs lt N bs t d) (hN : N ≤ t * (2 * bs) + bs) : Srt lt d (t * (2 * bs)) N := by
  have := h.hi (2 * t) (Nat.le_refl _)
  rwa [two_mul', Nat.min_eq_right hN] at this
end Stb
end Go.Proofs.Ytihfbbpkgmkbcaa
