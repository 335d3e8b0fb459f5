/- Coroots of finite types, and that the dimension formula gives an integer: out of what the kernel looked at. Plain law. -/
import Derived.Test.YtmjneokgnnbekaaG33
import Derived.Test.YtmjneokgnnbekaaG18
namespace Go.Proofs.Ytmjneokgnnbekaa
set_option maxRecDepth 100000
set_option linter.unusedSimpArgs false
open Go.RowKit

theorem lookT_tab {c : List (List Int)} {r : List Int} : ∀ {L : List (List Int)}, r ∈ L → lookT (tabOf c L) r = coR c r
  | x :: L, h => by
    show (if r = x then coR c x else lookT (tabOf c L) r) = coR c r
    by_cases e : r = x
    · rw [if_pos e, e]
    · rw [if_neg e]
      exact lookT_tab ((List.mem_cons.1 h).resolve_left e)
structure CoOk (c : List (List Int)) : Prop where
  small : ∀ r ∈ posL c, ∀ x ∈ coR c r, 0 ≤ x ∧ x ≤ 12
  ht : ∀ r ∈ posL c, 1 ≤ sumN (coR c r)
  len : ∀ r ∈ posL c, (coR c r).length = c.length
  step : ∀ r ∈ posL c, ∀ i, i < c.length → posB (mirL c i r) = true → heightL (mirL c i r) ≤ 12 → coR c (mirL c i r) = mirL (transL c) i (coR c r)
  simp : ∀ i, i < c.length → coR c (simpL c.length i) = simpL c.length i
  weyl : weylB c.length (coL c) = true
theorem coOk_of {c : List (List Int)} (hP : PosOk c) (h : coOk c = true) : CoOk c := by
  unfold coOk coTabB at h
  rw [Bool.and_eq_true, Bool.and_eq_true] at h
  obtain ⟨⟨h1, h2⟩, h3⟩ := h
  have e : (tabOf c (posL c)).map (·.2) = coL c := by unfold tabOf coL; rw [List.map_map]; rfl
  rw [e] at h3
  have hm : ∀ r ∈ posL c, (r, coR c r) ∈ tabOf c (posL c) := fun r hr => List.mem_map.2 ⟨r, hr, rfl⟩
  have g := fun r hr => List.all_eq_true.1 h1 _ (hm r hr)
  refine ⟨fun r hr x hx => ?_, fun r hr => ?_, fun r hr => ?_, fun r hr i hi hp hh => ?_, fun i hi => ?_, h3⟩
  · have h := g r hr
    rw [Bool.and_eq_true] at h
    have := List.all_eq_true.1 h.1 x hx
    simpa using this
  · have h := g r hr
    rw [Bool.and_eq_true, Bool.and_eq_true] at h
    simpa using h.2.1
  · have h := g r hr
    rw [Bool.and_eq_true, Bool.and_eq_true, Bool.and_eq_true] at h
    simpa using h.2.2.1
  · have h := g r hr
    rw [Bool.and_eq_true, Bool.and_eq_true, Bool.and_eq_true] at h
    have := List.all_eq_true.1 h.2.2.2 i (List.mem_range.2 hi)
    have hp' : posB (mirL c i (r, coR c r).1) = true := hp
    have hh' : ¬ (12 < heightL (mirL c i (r, coR c r).1)) := by show ¬ (12 < heightL (mirL c i r)); omega
    simp only [hp', Bool.not_true, Bool.false_or, decide_eq_false hh', decide_eq_true_eq] at this
    rw [← this]
    exact (lookT_tab (hP.closed.step r hr i hi hp hh)).symm
  · have := List.all_eq_true.1 h2 i (List.mem_range.2 hi)
    rw [decide_eq_true_eq] at this
    exact (lookT_tab (hP.closed.simp i hi)).symm.trans this

/-! ### integers -/
def sj (h : Nat → Nat) : List Nat → Nat
  | [] => 0
  | j :: js => h j + sj h js
theorem sj_append (h : Nat → Nat) (a b : List Nat) : sj h (a ++ b) = sj h a + sj h b := by
  induction a with
  | nil => simp [sj]
  | cons x a ih => simp only [List.cons_append, sj]; omega
def accum : List (List Nat) → List Nat → List Nat → List Nat
  | [], _, acc => acc
  | _ :: _, [], acc => acc
  | col :: cs, x :: xs, acc => accum cs xs (List.zipWith (fun a b => a + x * b) acc col)
theorem dimAll_ok {d : Nat} : ∀ (cs : List (List Nat)) (xs acc : List Nat), xs.length = cs.length → (∀ x ∈ xs, 1 ≤ x ∧ x ≤ 5) → dimAll d cs acc = true → d ∣ prodN (accum cs xs acc)
  | [], xs, acc, _, _, h => by
    unfold dimAll at h
    rw [beq_iff_eq] at h
    exact Nat.dvd_of_mod_eq_zero h
  | col :: cs, x :: xs, acc, hl, hx, h => by
    unfold dimAll at h
    have hx1 := hx x (by simp)
    have hm : x ∈ [1, 2, 3, 4, 5] := by
      have : x = 1 ∨ x = 2 ∨ x = 3 ∨ x = 4 ∨ x = 5 := by omega
      rcases this with rfl | rfl | rfl | rfl | rfl <;> simp
    have h2 := List.all_eq_true.1 h x hm
    exact dimAll_ok cs xs _ (by simpa using hl) (fun y hy => hx y (by simp [hy])) h2
theorem zip_map {α : Type} (L : List α) (g f : α → Nat) (x : Nat) : List.zipWith (fun a b => a + x * b) (L.map g) (L.map f) = L.map fun r => g r + x * f r := by
  induction L with
  | nil => rfl
  | cons r L ih => simp only [List.map_cons, List.zipWith_cons_cons, ih]
theorem accum_map {α : Type} (L : List α) (f : Nat → α → Nat) (y : Nat → Nat) : ∀ (js : List Nat) (g : α → Nat), accum (js.map fun j => L.map (f j)) (js.map y) (L.map g) = L.map fun r => g r + sj (fun j => y j * f j r) js
  | [], g => by simp [accum, sj]
  | j :: js, g => by
    simp only [List.map_cons, accum]
    rw [zip_map, accum_map L f y js]
    congr 1
    funext r
    simp only [sj]
    omega
/-- the pairing of a weight plus rho -/
def nS (v r : List Int) : Nat → Nat
  | 0 => 0
  | k + 1 => nS v r k + ((v.getD k 0).toNat + 1) * (r.getD k 0).toNat
theorem nS_sj (v r : List Int) : ∀ n, sj (fun j => ((v.getD j 0).toNat + 1) * (r.getD j 0).toNat) (List.range n) = nS v r n
  | 0 => rfl
  | n + 1 => by rw [List.range_succ, sj_append, nS_sj v r n]; simp [sj, nS]
theorem sumN_acc (l : List Int) : ∀ a : Nat, l.foldl (fun a x => a + x.toNat) a = a + l.foldl (fun a x => a + x.toNat) 0 := by
  induction l with
  | nil => intro a; simp
  | cons x l ih => intro a; simp only [List.foldl_cons]; rw [ih, ih (0 + x.toNat)]; omega
def hS (r : List Int) : Nat → Nat
  | 0 => 0
  | k + 1 => hS r k + (r.getD k 0).toNat
theorem hS_take (r : List Int) : ∀ k, k ≤ r.length → hS r k = sumN (r.take k)
  | 0, _ => by simp [hS, sumN]
  | k + 1, h => by
    unfold hS
    rw [hS_take r k (by omega), List.take_succ_eq_append_getElem (show k < r.length by omega)]
    unfold sumN
    rw [List.foldl_append]
    simp [List.getD, show k < r.length by omega]
theorem sumN_hS (r : List Int) : sumN r = hS r r.length := by rw [hS_take r _ (Nat.le_refl _), List.take_length]
theorem hS_le {r : List Int} (h : ∀ x ∈ r, 0 ≤ x ∧ x ≤ 12) : ∀ k, k ≤ r.length → hS r k ≤ 12 * k
  | 0, _ => by simp [hS]
  | k + 1, hk => by
    have h1 := hS_le h k (by omega)
    have h2 := h (r.getD k 0) (by simp [List.getD, show k < r.length by omega])
    show hS r k + (r.getD k 0).toNat ≤ 12 * (k + 1)
    omega
theorem nS_hS {v r : List Int} (hv : ∀ j, j < v.length → 0 ≤ v.getD j 0 ∧ v.getD j 0 ≤ 4) : ∀ k, k ≤ v.length → hS r k ≤ nS v r k ∧ nS v r k ≤ 5 * hS r k
  | 0, _ => by simp [hS, nS]
  | k + 1, hk => by
    have h1 := nS_hS (r := r) hv k (by omega)
    have h2 := hv k (by omega)
    show hS r k + (r.getD k 0).toNat ≤ nS v r k + ((v.getD k 0).toNat + 1) * (r.getD k 0).toNat ∧ nS v r k + ((v.getD k 0).toNat + 1) * (r.getD k 0).toNat ≤ 5 * (hS r k + (r.getD k 0).toNat)
    have e : (v.getD k 0).toNat ≤ 4 := by omega
    generalize (v.getD k 0).toNat = a at *
    generalize (r.getD k 0).toNat = b at *
    have e1 : (a + 1) * b ≤ 5 * b := Nat.mul_le_mul_right _ (by omega)
    have e2 : 1 * b ≤ (a + 1) * b := Nat.mul_le_mul_right _ (by omega)
    omega
def abL (v : List Int) (L : List (List Int)) : List Nat := L.map fun r => nS v r v.length
def beL (L : List (List Int)) : List Nat := L.map sumN
/-- weights with numbers from 0 to 4 -/
def Sml (n : Nat) (v : List Int) : Prop := v.length = n ∧ ∀ j, j < v.length → 0 ≤ v.getD j 0 ∧ v.getD j 0 ≤ 4
instance (n : Nat) (v : List Int) : Decidable (Sml n v) := by unfold Sml; infer_instance
theorem weyl_dvd {c : List (List Int)} (hC : CoOk c) (hl : (coL c).length ≤ 16) {v : List Int} (hv : Sml c.length v) : prodN (beL (coL c)) ∣ prodN (abL v (coL c)) ∧ prodN (beL (coL c)) * 5 ^ (coL c).length < 2 ^ 62 := by
  have h := hC.weyl
  unfold weylB at h
  rw [decide_eq_false (by omega), Bool.false_or, Bool.and_eq_true] at h
  refine ⟨?_, by simpa [beL] using h.1⟩
  have h2 := dimAll_ok (d := prodN ((coL c).map sumN)) (cols c.length (coL c)) ((List.range c.length).map fun j => (v.getD j 0).toNat + 1) ((coL c).map fun _ => 0) (by simp [cols]) (fun x hx => by
    obtain ⟨j, hj, rfl⟩ := List.mem_map.1 hx
    have := hv.2 j (by rw [hv.1]; exact List.mem_range.1 hj)
    omega) h.2
  unfold cols at h2
  rw [accum_map (coL c) (fun j r => (r.getD j 0).toNat) (fun j => (v.getD j 0).toNat + 1)] at h2
  have e : ((coL c).map fun r => 0 + sj (fun j => ((v.getD j 0).toNat + 1) * (r.getD j 0).toNat) (List.range c.length)) = abL v (coL c) := by
    unfold abL
    congr 1
    funext r
    rw [nS_sj, hv.1, Nat.zero_add]
  rw [e] at h2
  exact h2
theorem coL_mem {c : List (List Int)} (hC : CoOk c) : ∀ s ∈ coL c, (∀ x ∈ s, 0 ≤ x ∧ x ≤ 12) ∧ 1 ≤ sumN s ∧ s.length = c.length := by
  intro s hs
  obtain ⟨r, hr, rfl⟩ := List.mem_map.1 hs
  exact ⟨hC.small r hr, hC.ht r hr, hC.len r hr⟩
/-- all that both sides want to know of the numbers -/
structure DimOk (v : List Int) (L : List (List Int)) : Prop where
  len : (abL v L).length = (beL L).length
  pa : ∀ k, k < (abL v L).length → 0 < (abL v L).getD k 0
  pb : ∀ k, k < (beL L).length → 0 < (beL L).getD k 0
  le : pTo (abL v L) (abL v L).length < 2 ^ 62
  leb : pTo (beL L) (beL L).length < 2 ^ 62
  dvd : pTo (abL v L) (abL v L).length = prodN (abL v L) / prodN (beL L) * pTo (beL L) (abL v L).length
theorem dimOk {c : List (List Int)} (hC : CoOk c) (hl : (coL c).length ≤ 16) {v : List Int} (hv : Sml c.length v) : DimOk v (coL c) := by
  have hm := coL_mem hC
  have hg : ∀ k, k < (coL c).length → (coL c).getD k [] ∈ coL c := fun k hk => by simp [List.getD, hk]
  have ea : ∀ k, k < (coL c).length → (abL v (coL c)).getD k 0 = nS v ((coL c).getD k []) v.length := fun k hk => by simp [abL, List.getD, hk]
  have eb : ∀ k, k < (coL c).length → (beL (coL c)).getD k 0 = sumN ((coL c).getD k []) := fun k hk => by simp [beL, List.getD, hk]
  have la : (abL v (coL c)).length = (coL c).length := by simp [abL]
  have lb : (beL (coL c)).length = (coL c).length := by simp [beL]
  have hb : ∀ k, k < (coL c).length → hS ((coL c).getD k []) v.length = sumN ((coL c).getD k []) := fun k hk => by
    have := (hm _ (hg k hk)).2.2
    rw [sumN_hS, this, hv.1]
  obtain ⟨h1, h2⟩ := weyl_dvd hC hl hv
  have pb : ∀ k, k < (beL (coL c)).length → 0 < (beL (coL c)).getD k 0 := fun k hk => by rw [lb] at hk; rw [eb k hk]; exact (hm _ (hg k hk)).2.1
  have hbd : ∀ k, k < (abL v (coL c)).length → (abL v (coL c)).getD k 0 ≤ 5 * (beL (coL c)).getD k 0 := fun k hk => by
    rw [la] at hk
    rw [ea k hk, eb k hk, ← hb k hk]
    exact (nS_hS hv.2 _ (Nat.le_refl _)).2
  have h3 := pTo_bound hbd _ (Nat.le_refl _)
  have e3 : pTo (beL (coL c)) (abL v (coL c)).length = prodN (beL (coL c)) := by rw [la, ← lb, pTo_all]
  rw [e3] at h3
  refine ⟨by rw [la, lb], fun k hk => ?_, pb, ?_, ?_, ?_⟩
  · rw [la] at hk
    rw [ea k hk]
    have q1 := (nS_hS (r := (coL c).getD k []) hv.2 _ (Nat.le_refl _)).1
    rw [hb k hk] at q1
    have := (hm _ (hg k hk)).2.1
    omega
  · refine Nat.lt_of_le_of_lt h3 ?_
    rw [la, Nat.mul_comm]
    exact h2
  · rw [pTo_all]
    refine Nat.lt_of_le_of_lt ?_ h2
    exact Nat.le_mul_of_pos_right _ (Nat.pow_pos (by decide))
  · rw [e3, pTo_all, Nat.div_mul_cancel h1]
end Go.Proofs.Ytmjneokgnnbekaa
