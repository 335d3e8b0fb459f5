/- ones, image, normal forms: contracts. The reference's normal forms: contracts. -/
import Derived.Test.YtihfbbpkgmkbcaaG24
namespace Go.Proofs.Ytihfbbpkgmkbcaa
set_option maxRecDepth 100000
open Go.RowKit

def lenOfV : Value → Nat | .slice _ n _ => n | _ => 0
def nz (v : List Int) : Bool := v.all fun x => x != 0
/-- the normal form of what a vector tells, where it comes to an end within so many steps and meets no 0 -/
def normG (c : List (List Int)) : Nat → List Int → Option (List Int)
  | 0, v => if nz v && (firstNeg v).isNone then some [] else none
  | f + 1, v => if nz v then match firstNeg v with
      | none => some []
      | some i => (normG c f (refl c i v)).map fun l => (i : Int) :: l
    else none
theorem normG_none {c : List (List Int)} {f : Nat} {v rest : List Int} (h : normG c f v = some rest) (hf : firstNeg v = none) : rest = [] := by
  cases f with
  | zero => simp only [normG] at h; split at h <;> simp_all
  | succ f => simp only [normG, hf] at h; split at h <;> simp_all
theorem normG_some {c : List (List Int)} {f : Nat} {v rest : List Int} {i : Nat} (h : normG c f v = some rest) (hf : firstNeg v = some i) :
    ∃ f' rest', f = f' + 1 ∧ rest = (i : Int) :: rest' ∧ normG c f' (refl c i v) = some rest' := by
  cases f with
  | zero => simp only [normG, hf] at h; simp at h
  | succ f =>
    simp only [normG, hf] at h
    split at h
    · cases hr : normG c f (refl c i v) with
      | none => rw [hr] at h; simp at h
      | some l => rw [hr] at h; simp at h; exact ⟨f, l, rfl, h.symm, hr⟩
    · simp at h
theorem normG_nz {c : List (List Int)} {f : Nat} {v rest : List Int} (h : normG c f v = some rest) : ∀ j, j < v.length → v.getD j 0 ≠ 0 := by
  have hz : nz v = true := by
    cases f with
    | zero => simp only [normG] at h; split at h <;> simp_all
    | succ f => simp only [normG] at h; split at h <;> simp_all
  intro j hj
  have := List.all_eq_true.1 hz v[j] (List.getElem_mem hj)
  simpa [List.getD, hj] using this
theorem normG_len {c : List (List Int)} : ∀ {f : Nat} {v rest : List Int}, normG c f v = some rest → rest.length ≤ f := by
  intro f
  induction f with
  | zero => intro v rest h; simp only [normG] at h; split at h <;> simp_all
  | succ f ih =>
    intro v rest h
    cases hf : firstNeg v with
    | none => rw [normG_none h hf]; simp
    | some i =>
      obtain ⟨f', rest', e, rfl, h'⟩ := normG_some h hf
      have := ih (by rw [show f = f' by omega]; exact h')
      simp; omega
theorem normG_in {c : List (List Int)} : ∀ {f : Nat} {v rest : List Int}, normG c f v = some rest → ∀ k, k < rest.length → 0 ≤ rest.getD k 0 ∧ rest.getD k 0 < v.length := by
  intro f
  induction f with
  | zero => intro v rest h; simp only [normG] at h; split at h <;> simp_all
  | succ f ih =>
    intro v rest h
    cases hf : firstNeg v with
    | none => rw [normG_none h hf]; simp
    | some i =>
      obtain ⟨f', rest', e, rfl, h'⟩ := normG_some h hf
      intro k hk
      cases k with
      | zero => have := (firstNeg_lt hf).1; simp [List.getD]; omega
      | succ k =>
        have := ih (by rw [show f = f' by omega]; exact h') k (by simpa using hk)
        rw [refl_length] at this
        simpa [List.getD] using this

def onesL (n : Nat) : List Int := List.replicate n 1
end Go.Proofs.Ytihfbbpkgmkbcaa
namespace Go.Proofs.Ytihfbbpkgmkbcaa
set_option maxRecDepth 100000
open Go.RowKit

end Go.Proofs.Ytihfbbpkgmkbcaa
