/- A code among the arguments, opened: its bytes. Plain: inversions counted from either side. -/
import Derived.Test.YtjhoimdfmcjkbaaG38
import Derived.Deep.Matrix
import Derived.Lib.SmallJoins
import Derived.Below
namespace Go.Proofs.Ytjhoimdfmcjkbaa
set_option maxRecDepth 100000
open Go.Joins Go.ChangeShapes Go.WideShapes Go.RowKit Go.Deep
section
variable {H : Type} {enc : TypeId × Value → H} {w : World} {base : Nat}
theorem argCode_open {fuel : Nat} {v : Value} {x : DataW H × List MemPlace} (h : DataW.trod enc Try.prog w base (fun _ => true) true fuel 22 [v] = some x) :
    ∃ a n c, v = .slice a n c ∧ CodeV w w.heap.size a n ∧ n ≤ maxLen := by
  rcases open_ints Try.underlying22 Try.underlying5 (by kernel_rfl) h with ⟨hcs, _⟩ | ⟨a, l, c, zs, hcs, _, hl, hm, hz, _, hcell, hwz⟩
  · simp at hcs
    exact ⟨none, 0, 0, hcs, .inl rfl, Nat.zero_le _⟩
  · simp at hcs
    have hz' : zs.length = c := by simpa using hz
    refine ⟨some a, l, c, hcs, ?_, by omega⟩
    by_cases h0 : l = 0
    · exact .inl h0
    obtain ⟨b, o, s⟩ := a
    have hc0 := hcell 0 (by omega)
    cases s with
    | some s => simp [World.cell?, Addr.add] at hc0; split at hc0 <;> simp_all
    | none =>
      refine .inr ⟨b, o, rfl, World.block_lt_of_cell? w _ hc0, World.block_lt_of_cell? w _ hc0, fun j hj => ?_⟩
      have hj' : j < zs.length := by omega
      have hcj := hcell j hj'
      rw [Addr.add_lit] at hcj
      have hwf := hwz (zs.getD j 0) (by simp [List.getD, hj'])
      refine ⟨zs.getD j 0, ?_, hcj⟩
      generalize zs.getD j 0 = z at *
      have h3 : 0 ≤ z ∧ z ≤ 255 := by simpa [Lit.wf, IntKind.min, IntKind.max, IntKind.signed, IntKind.bits] using hwf
      omega
variable {v : Value} {d : DataW H} {p : List MemPlace} {r : Reach} {b0 : Nat}
theorem argCode_at (hv : Value.okWide Try.prog w r b0 22 v) (h : DataW.Trod enc Try.prog w base (fun _ => true) true 22 v d p) :
    ∃ a n c, v = .slice a n c ∧ Hid (CodeV w w.heap.size a n) ∧ n ≤ maxLen := by
  obtain ⟨a, l, c, rfl⟩ := okWide_slice Try.underlying22 hv
  obtain ⟨fuel, hf⟩ := h
  exact argCode_open hf
end
end Go.Proofs.Ytjhoimdfmcjkbaa
namespace Go.Proofs.Ytjhoimdfmcjkbaa
set_option maxRecDepth 100000

def sumToV (f : Nat → Nat) : Nat → Nat
  | 0 => 0
  | k + 1 => sumToV f k + f k
theorem sumToV_congr {f g : Nat → Nat} (n : Nat) (h : ∀ i, i < n → f i = g i) : sumToV f n = sumToV g n := by
  induction n with
  | zero => rfl
  | succ n ih => simp only [sumToV]; rw [ih (fun i hi => h i (by omega)), h n (by omega)]
theorem sumToV_add (f g : Nat → Nat) (n : Nat) : sumToV (fun i => f i + g i) n = sumToV f n + sumToV g n := by
  induction n with
  | zero => rfl
  | succ n ih => simp only [sumToV]; rw [ih]; omega
theorem sumToV_le {f : Nat → Nat} {b : Nat} (n : Nat) (h : ∀ i, i < n → f i ≤ b) : sumToV f n ≤ n * b := by
  induction n with
  | zero => simp [sumToV]
  | succ n ih => simp only [sumToV]; have := ih (fun i hi => h i (by omega)); have := h n (by omega); rw [Nat.succ_mul]; omega
/-- 1 where the earlier number is greater -/
def worse (xs : List Int) (i j : Nat) : Nat := if xs.getD j 0 < xs.getD i 0 then 1 else 0
theorem worse_le (xs : List Int) (i j : Nat) : worse xs i j ≤ 1 := by unfold worse; split <;> omega
/-- of place i those behind it, the first k of them -/
def behind (xs : List Int) (i k : Nat) : Nat := sumToV (fun j => worse xs i (i + 1 + j)) k
/-- of place j those before it, the first k of them -/
def ahead (xs : List Int) (j k : Nat) : Nat := sumToV (fun i => worse xs i j) k
theorem behind_le (xs : List Int) (i k : Nat) : behind xs i k ≤ k := by have := sumToV_le (f := fun j => worse xs i (i + 1 + j)) (b := 1) k (fun _ _ => worse_le _ _ _); unfold behind; omega
theorem ahead_le (xs : List Int) (i k : Nat) : ahead xs i k ≤ k := by have := sumToV_le (f := fun i' => worse xs i' i) (b := 1) k (fun _ _ => worse_le _ _ _); unfold ahead; omega
def invB (xs : List Int) (n k : Nat) : Nat := sumToV (fun i => behind xs i (n - (i + 1))) k
def invA (xs : List Int) (k : Nat) : Nat := sumToV (fun j => ahead xs j j) k
theorem invB_eq (xs : List Int) (n : Nat) : invB xs n n = invA xs n := by
  induction n with
  | zero => rfl
  | succ n ih =>
    show sumToV (fun i => behind xs i (n + 1 - (i + 1))) n + behind xs n (n + 1 - (n + 1)) = sumToV (fun j => ahead xs j j) n + ahead xs n n
    have h0 : behind xs n (n + 1 - (n + 1)) = 0 := by rw [Nat.sub_self]; rfl
    have h1 : sumToV (fun i => behind xs i (n + 1 - (i + 1))) n = sumToV (fun i => behind xs i (n - (i + 1)) + worse xs i n) n := by
      apply sumToV_congr
      intro i hi
      have e : n + 1 - (i + 1) = (n - (i + 1)) + 1 := by omega
      rw [e]
      show behind xs i (n - (i + 1)) + worse xs i (i + 1 + (n - (i + 1))) = _
      rw [show i + 1 + (n - (i + 1)) = n from by omega]
    rw [h0, h1, sumToV_add]
    unfold invB invA at ih
    rw [ih]; rfl
theorem invB_le (xs : List Int) (n k : Nat) (hk : k ≤ n) (hn : n ≤ 1048576) : invB xs n k ≤ 1099511627776 := by
  have h := sumToV_le (f := fun i => behind xs i (n - (i + 1))) (b := n) k (fun i _ => Nat.le_trans (behind_le _ _ _) (by omega))
  have h2 : k * n ≤ 1048576 * 1048576 := Nat.mul_le_mul (by omega) hn
  unfold invB; omega
theorem invA_le (xs : List Int) (k : Nat) (hk : k ≤ 1048576) : invA xs k ≤ 1099511627776 := by
  rw [← invB_eq]; exact invB_le xs k k (Nat.le_refl _) hk
end Go.Proofs.Ytjhoimdfmcjkbaa
