/- The numbers game: lists, normal forms. -/
import Derived.Test.YtjiljcekcpemmaaGame2
import Derived.Test.YtjiljcekcpemmaaNf2
import Derived.Test.YtjiljcekcpemmaaParts
namespace Go.Proofs.Ytjiljcekcpemmaa
open Go.RowKit
namespace Game
set_option linter.unusedSimpArgs false
def toV (v : List Int) : Vec := fun k => v.getD k 0
theorem car_of {c : List (List Int)} (hC : IsC c) : Car (ent c) c.length := by
  refine ⟨fun i hi => dg hC hi, fun i j hi hj hne => ?_⟩
  have h := hC.2.2.2 i hi j hj
  unfold EntOk at h
  rw [if_neg hne] at h
  refine ⟨h.1, h.2.1, ?_⟩
  have h2 := h.2.2
  constructor
  · intro e; simpa [e] using h2.symm
  · intro e; simpa [e] using h2
theorem ent_out {c : List (List Int)} {i j : Nat} (h : c.length ≤ i) : ent c i j = 0 := by
  unfold ent
  simp only [List.getD]
  rw [List.getElem?_eq_none h]; rfl
theorem toV_refl {c : List (List Int)} (hC : IsC c) {v : List Int} (hv : v.length = c.length) {i : Nat} (hi : i < c.length) {M : Int} (hM : M ≤ 1152921504606846976) (hb : Bd c.length M (toV v)) : toV (refl c i v) = s (ent c) i (toV v) := by
  funext k
  by_cases hk : k < c.length
  · have h1 := hb k hk
    have h2 := mul3 (hb i hi) ((car_of hC).small hk hi)
    have e : toV (refl c i v) k = reflAt c i v k := by simp [toV, refl, List.getD, hv, hk]
    rw [e]
    change wrap64 (toV v k - wrap64 (toV v i * ent c k i)) = toV v k - toV v i * ent c k i
    generalize toV v i * ent c k i = p at *
    have w1 : wrap64 p = p := IntWalk.wrap64_in _ ⟨by omega, by omega⟩
    rw [w1]
    exact IntWalk.wrap64_in _ ⟨by omega, by omega⟩
  · have h1 : toV (refl c i v) k = 0 := by
      simp only [toV, List.getD]
      rw [List.getElem?_eq_none (by rw [refl_length]; omega)]; rfl
    have h2 : toV v k = 0 := by
      simp only [toV, List.getD]
      rw [List.getElem?_eq_none (by omega)]; rfl
    rw [h1]
    simp only [s, h2, ent_out (c := c) (j := i) (show c.length ≤ k by omega)]
    omega
theorem pow4_le {k : Nat} (h : k ≤ 30) : (4 : Int) ^ k ≤ 1152921504606846976 := by
  have h1 : (4 : Nat) ^ k ≤ 4 ^ 30 := Nat.pow_le_pow_right (by decide) h
  have h2 : ((4 ^ k : Nat) : Int) = (4 : Int) ^ k := by simp
  rw [← h2]
  have h3 : (4 : Nat) ^ 30 = 1152921504606846976 := by decide
  omega
theorem toV_actW {c : List (List Int)} (hC : IsC c) {d : List Int} (hd : d.length = c.length) {M : Int} (hb : Bd c.length M (toV d)) : ∀ (w : List Nat), (∀ i ∈ w, i < c.length) → (∀ k, k ≤ w.length → 4 ^ k * M ≤ 1152921504606846976) → toV (actW c (intsOf w) d) = act (ent c) w (toV d) := by
  intro w
  induction w with
  | nil => intro _ _; rfl
  | cons i w ih =>
    intro hw hM
    have hw' : ∀ j ∈ w, j < c.length := fun j hj => hw j (List.mem_cons_of_mem _ hj)
    have h1 := ih hw' (fun k hk => hM k (by simp; omega))
    have h2 := (hb.word (car_of hC) w hw')
    rw [← h1] at h2
    have h3 := toV_refl hC (v := actW c (intsOf w) d) (by rw [actW_length]; exact hd) (hw i (by simp)) (hM w.length (by simp)) h2
    show toV (refl c ((i : Int)).toNat (actW c (intsOf w) d)) = _
    rw [Int.toNat_natCast, h3, h1]
    rfl
theorem toV_ones (n : Nat) (k : Nat) (hk : k < n) : toV (onesL n) k = 1 := by simp [toV, onesL, List.getD, hk]
theorem bd_ones (n : Nat) : Bd n 1 (toV (onesL n)) := fun k hk => by rw [toV_ones n k hk]; omega
theorem ones_pos (n : Nat) : ∀ i, i < n → 0 < toV (onesL n) i := fun i hi => by rw [toV_ones n i hi]; omega
theorem ones_dom (n : Nat) : Dom n (toV (onesL n)) := fun i hi => by rw [toV_ones n i hi]; omega
theorem onesL_len (n : Nat) : (onesL n).length = n := by simp [onesL]
/-- the image of a word -/
theorem toV_image {c : List (List Int)} (hC : IsC c) {w : List Nat} (hw : ∀ i ∈ w, i < c.length) (hl : w.length ≤ 30) : toV (actW c (intsOf w) (onesL c.length)) = act (ent c) w (toV (onesL c.length)) :=
  toV_actW hC (onesL_len _) (bd_ones _) w hw (fun k hk => by rw [Int.mul_one]; exact pow4_le (by omega))
theorem toV_inj {v u : List Int} (hl : v.length = u.length) (h : toV v = toV u) : v = u := by
  apply List.ext_getElem hl
  intro k h1 h2
  have := congrFun h k
  simpa [toV, List.getD, h1, h2] using this
theorem nz_of {v : List Int} (h : ∀ j, j < v.length → v.getD j 0 ≠ 0) : nz v = true := by
  unfold nz
  apply List.all_eq_true.2
  intro x hx
  obtain ⟨j, hj, rfl⟩ := List.getElem_of_mem hx
  have := h j hj
  simpa [List.getD, hj] using this
/-- what has a play has a normal form -/
theorem normG_of {c : List (List Int)} (hC : IsC c) : ∀ (f : Nat) (v : List Int), v.length = c.length → ∀ l, Plays (ent c) c.length l (toV v) (toV (onesL c.length)) → l.length ≤ f → l.length ≤ 30 →
    ∃ W, normG c f v = some (intsOf W) ∧ Plays (ent c) c.length W (toV v) (toV (onesL c.length)) := by
  have hA := car_of hC
  intro f
  induction f with
  | zero =>
    intro v hv l h hf _
    have e : l = [] := List.eq_nil_of_length_eq_zero (by omega)
    subst e
    have hz : nz v = true := nz_of (fun j hj => h.ne hA (ones_pos _) (j := j) (by omega))
    have hn : firstNeg v = none := firstNeg_nil (fun j hj => by
      have : toV v j = 1 := by rw [show toV v = _ from h.2]; exact toV_ones _ _ (by omega)
      show 0 ≤ toV v j
      omega)
    refine ⟨[], ?_, h⟩
    unfold normG
    rw [hz, hn]; rfl
  | succ f ih =>
    intro v hv l h hf h30
    have hz : nz v = true := nz_of (fun j hj => h.ne hA (ones_pos _) (j := j) (by omega))
    unfold normG
    rw [if_pos hz]
    cases hn : firstNeg v with
    | none =>
      have hge := firstNeg_none hn
      have e : l = [] := Dom.stuck (A := ent c) (n := c.length) (fun i hi => hge i (by omega)) h
      subst e
      exact ⟨[], rfl, h⟩
    | some i =>
      obtain ⟨hi, hneg, _⟩ := firstNeg_lt hn
      have hi' : i < c.length := by omega
      obtain ⟨l', g1, g2, _⟩ := h.first hA (ones_dom _) hi' hneg
      have hbd : Bd c.length (4 ^ l.length * 1) (toV v) := by
        rw [h.eq_act hA]
        exact (bd_ones c.length).word hA l h.1.lt
      have hr := toV_refl hC hv hi' (by rw [Int.mul_one]; exact pow4_le h30) hbd
      obtain ⟨W, p1, p2⟩ := ih (refl c i v) (by rw [refl_length]; exact hv) l' (by rw [hr]; exact (Plays.cons.1 g1).2.2) (by omega) (by omega)
      refine ⟨i :: W, ?_, Plays.cons.2 ⟨hi', hneg, by rw [← hr]; exact p2⟩⟩
      show (normG c f (refl c i v)).map _ = _
      rw [p1]; rfl
/-- the normal form of a word -/
structure NfOf (c : List (List Int)) (w W : List Nat) : Prop where
  norm : normG c 30 (actW c (intsOf w) (onesL c.length)) = some (intsOf W)
  plays : Plays (ent c) c.length W (act (ent c) w (toV (onesL c.length))) (toV (onesL c.length))
  len : W.length ≤ w.length
  act : ∀ u, act (ent c) w u = act (ent c) W u
  lt : ∀ i ∈ W, i < c.length
  img : actW c (intsOf W) (onesL c.length) = actW c (intsOf w) (onesL c.length)
theorem nf_of {c : List (List Int)} (hC : IsC c) {w : List Nat} (hw : ∀ i ∈ w, i < c.length) (hl : w.length ≤ 30) : ∃ W, NfOf c w W := by
  have hA := car_of hC
  obtain ⟨l, h1, h2⟩ := word_play hA (ones_dom c.length) w hw
  have hi := toV_image hC hw hl
  obtain ⟨W, g1, g2⟩ := normG_of hC 30 (actW c (intsOf w) (onesL c.length)) (by rw [actW_length]; exact onesL_len _) l (by rw [hi]; exact h1) (by omega) (by omega)
  rw [hi] at g2
  have hu := Plays.unique hA (ones_dom _) h1 g2
  have hWl : W.length ≤ w.length := by omega
  have hact := word_act hA (ones_pos c.length) w hw W g2
  refine ⟨W, g1, g2, hWl, hact, g2.1.lt, ?_⟩
  apply toV_inj
  · rw [actW_length, actW_length]
  · rw [toV_image hC g2.1.lt (by omega), hi, hact]
end Game
end Go.Proofs.Ytjiljcekcpemmaa
