/- Plain: inversions counted from either side. -/
import Derived.Below
namespace Go.Proofs.Ytgdgmldmcommbaa

def sumTo (f : Nat → Nat) : Nat → Nat
  | 0 => 0
  | k + 1 => sumTo f k + f k
theorem sumTo_congr {f g : Nat → Nat} (n : Nat) (h : ∀ i, i < n → f i = g i) : sumTo f n = sumTo g n := by
  induction n with
  | zero => rfl
  | succ n ih => simp only [sumTo]; rw [ih (fun i hi => h i (by omega)), h n (by omega)]
theorem sumTo_add (f g : Nat → Nat) (n : Nat) : sumTo (fun i => f i + g i) n = sumTo f n + sumTo g n := by
  induction n with
  | zero => rfl
  | succ n ih => simp only [sumTo]; rw [ih]; omega
theorem sumTo_le {f : Nat → Nat} {b : Nat} (n : Nat) (h : ∀ i, i < n → f i ≤ b) : sumTo f n ≤ n * b := by
  induction n with
  | zero => simp [sumTo]
  | succ n ih => simp only [sumTo]; have := ih (fun i hi => h i (by omega)); have := h n (by omega); rw [Nat.succ_mul]; omega
/-- 1 where the earlier number is greater -/
def worse (xs : List Int) (i j : Nat) : Nat := if xs.getD j 0 < xs.getD i 0 then 1 else 0
theorem worse_le (xs : List Int) (i j : Nat) : worse xs i j ≤ 1 := by unfold worse; split <;> omega
/-- of place i those behind it, the first k of them -/
def behind (xs : List Int) (i k : Nat) : Nat := sumTo (fun j => worse xs i (i + 1 + j)) k
/-- of place j those before it, the first k of them -/
def ahead (xs : List Int) (j k : Nat) : Nat := sumTo (fun i => worse xs i j) k
theorem behind_le (xs : List Int) (i k : Nat) : behind xs i k ≤ k := by have := sumTo_le (f := fun j => worse xs i (i + 1 + j)) (b := 1) k (fun _ _ => worse_le _ _ _); unfold behind; omega
theorem ahead_le (xs : List Int) (i k : Nat) : ahead xs i k ≤ k := by have := sumTo_le (f := fun i' => worse xs i' i) (b := 1) k (fun _ _ => worse_le _ _ _); unfold ahead; omega
def invB (xs : List Int) (n k : Nat) : Nat := sumTo (fun i => behind xs i (n - (i + 1))) k
def invA (xs : List Int) (k : Nat) : Nat := sumTo (fun j => ahead xs j j) k
theorem invB_eq (xs : List Int) (n : Nat) : invB xs n n = invA xs n := by
  induction n with
  | zero => rfl
  | succ n ih =>
    show sumTo (fun i => behind xs i (n + 1 - (i + 1))) n + behind xs n (n + 1 - (n + 1)) = sumTo (fun j => ahead xs j j) n + ahead xs n n
    have h0 : behind xs n (n + 1 - (n + 1)) = 0 := by rw [Nat.sub_self]; rfl
    have h1 : sumTo (fun i => behind xs i (n + 1 - (i + 1))) n = sumTo (fun i => behind xs i (n - (i + 1)) + worse xs i n) n := by
      apply sumTo_congr
      intro i hi
      have e : n + 1 - (i + 1) = (n - (i + 1)) + 1 := by omega
      rw [e]
      show behind xs i (n - (i + 1)) + worse xs i (i + 1 + (n - (i + 1))) = _
      rw [show i + 1 + (n - (i + 1)) = n from by omega]
    rw [h0, h1, sumTo_add]
    unfold invB invA at ih
    rw [ih]; rfl
theorem invB_le (xs : List Int) (n k : Nat) (hk : k ≤ n) (hn : n ≤ 1048576) : invB xs n k ≤ 1099511627776 := by
  have h := sumTo_le (f := fun i => behind xs i (n - (i + 1))) (b := n) k (fun i _ => Nat.le_trans (behind_le _ _ _) (by omega))
  have h2 : k * n ≤ 1048576 * 1048576 := Nat.mul_le_mul (by omega) hn
  unfold invB; omega
theorem invA_le (xs : List Int) (k : Nat) (hk : k ≤ 1048576) : invA xs k ≤ 1099511627776 := by
  rw [← invB_eq]; exact invB_le xs k k (Nat.le_refl _) hk
end Go.Proofs.Ytgdgmldmcommbaa
