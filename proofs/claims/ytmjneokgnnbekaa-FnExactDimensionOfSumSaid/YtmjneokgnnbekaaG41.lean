/- Fractions of products, reduced step by step in two ways. Plain law. -/
import Derived.Test.YtmjneokgnnbekaaG40
namespace Go.Proofs.Ytmjneokgnnbekaa
set_option maxRecDepth 100000
set_option linter.unusedSimpArgs false
open Go.RowKit

def pTo (us : List Nat) : Nat → Nat
  | 0 => 1
  | k + 1 => pTo us k * us.getD k 0
def upTo (us bs : List Nat) : Nat → Nat × Nat
  | 0 => (1, 1)
  | k + 1 => let s := upTo us bs k; let u := s.1 * us.getD k 0; let d := s.2 * bs.getD k 0; (u / Nat.gcd u d, d / Nat.gcd u d)
def rdTo (x : Nat) (bs : List Nat) : Nat → Nat × List Nat
  | 0 => (x, bs)
  | k + 1 => let s := rdTo x bs k; let d := Nat.gcd s.1 (s.2.getD k 0); (s.1 / d, s.2.set k (s.2.getD k 0 / d))
def dmTo (us bs : List Nat) : Nat → Nat × List Nat
  | 0 => (1, bs)
  | k + 1 => let s := dmTo us bs k; let q := rdTo (us.getD k 0) s.2 s.2.length; (s.1 * q.1, q.2)
theorem foldl_mul (l : List Nat) : ∀ a : Nat, l.foldl (· * ·) a = a * l.foldl (· * ·) 1 := by
  induction l with
  | nil => intro a; simp
  | cons x l ih => intro a; simp only [List.foldl_cons]; rw [ih (a * x), ih (1 * x)]; rw [Nat.one_mul, Nat.mul_assoc]
theorem prodN_cons (x : Nat) (l : List Nat) : prodN (x :: l) = x * prodN l := by
  unfold prodN
  rw [List.foldl_cons, foldl_mul, Nat.one_mul]
theorem pTo_append (l : List Nat) (x : Nat) : ∀ k, k ≤ l.length → pTo (l ++ [x]) k = pTo l k
  | 0, _ => rfl
  | k + 1, h => by
    unfold pTo
    rw [pTo_append l x k (by omega)]
    simp [List.getD, List.getElem?_append_left (show k < l.length by omega)]
theorem pTo_take (l : List Nat) : ∀ k, k ≤ l.length → pTo l k = prodN (l.take k)
  | 0, _ => rfl
  | k + 1, h => by
    unfold pTo
    rw [pTo_take l k (by omega), List.take_succ_eq_append_getElem (show k < l.length by omega)]
    unfold prodN
    rw [List.foldl_append]
    simp [List.getD, show k < l.length by omega]
theorem pTo_all (l : List Nat) : pTo l l.length = prodN l := by rw [pTo_take l _ (Nat.le_refl _), List.take_length]
theorem pTo_pos {l : List Nat} (h : ∀ k, k < l.length → 0 < l.getD k 0) : ∀ k, k ≤ l.length → 0 < pTo l k
  | 0, _ => Nat.one_pos
  | k + 1, hk => Nat.mul_pos (pTo_pos h k (by omega)) (h k (by omega))
theorem pTo_mono {l : List Nat} (h : ∀ k, k < l.length → 0 < l.getD k 0) : ∀ m k, k + m ≤ l.length → pTo l k ≤ pTo l (k + m)
  | 0, k, _ => Nat.le_refl _
  | m + 1, k, hk => by
    have h1 := pTo_mono h m k (by omega)
    have h2 : pTo l (k + (m + 1)) = pTo l (k + m) * l.getD (k + m) 0 := rfl
    rw [h2]
    exact Nat.le_trans h1 (Nat.le_mul_of_pos_right _ (h _ (by omega)))
theorem pTo_bound {us bs : List Nat} (h : ∀ k, k < us.length → us.getD k 0 ≤ 5 * bs.getD k 0) : ∀ k, k ≤ us.length → pTo us k ≤ 5 ^ k * pTo bs k
  | 0, _ => by simp [pTo]
  | k + 1, hk => by
    have h1 := pTo_bound h k (by omega)
    have h2 := h k (by omega)
    show pTo us k * us.getD k 0 ≤ 5 ^ (k + 1) * (pTo bs k * bs.getD k 0)
    have h3 := Nat.mul_le_mul h1 h2
    have e : 5 ^ k * pTo bs k * (5 * bs.getD k 0) = 5 ^ (k + 1) * (pTo bs k * bs.getD k 0) := by
      rw [Nat.pow_succ]
      simp only [Nat.mul_assoc, Nat.mul_left_comm, Nat.mul_comm]
    omega
structure UpOk (us bs : List Nat) (k : Nat) : Prop where
  eq : (upTo us bs k).1 * pTo bs k = (upTo us bs k).2 * pTo us k
  p1 : 0 < (upTo us bs k).1
  p2 : 0 < (upTo us bs k).2
  l1 : (upTo us bs k).1 ≤ pTo us k
  l2 : (upTo us bs k).2 ≤ pTo bs k
theorem upOk {us bs : List Nat} (hl : us.length = bs.length) (ha : ∀ k, k < us.length → 0 < us.getD k 0) (hb : ∀ k, k < bs.length → 0 < bs.getD k 0) : ∀ k, k ≤ us.length → UpOk us bs k
  | 0, _ => ⟨rfl, Nat.one_pos, Nat.one_pos, Nat.le_refl _, Nat.le_refl _⟩
  | k + 1, hk => by
    have ih := upOk hl ha hb k (by omega)
    have hx := ha k (by omega)
    have hy := hb k (by omega)
    have e1 : (upTo us bs (k + 1)).1 = (upTo us bs k).1 * us.getD k 0 / Nat.gcd ((upTo us bs k).1 * us.getD k 0) ((upTo us bs k).2 * bs.getD k 0) := rfl
    have e2 : (upTo us bs (k + 1)).2 = (upTo us bs k).2 * bs.getD k 0 / Nat.gcd ((upTo us bs k).1 * us.getD k 0) ((upTo us bs k).2 * bs.getD k 0) := rfl
    have e3 : pTo us (k + 1) = pTo us k * us.getD k 0 := rfl
    have e4 : pTo bs (k + 1) = pTo bs k * bs.getD k 0 := rfl
    obtain ⟨h1, h2, h3, h4, h5⟩ := ih
    refine (fun (q : _ ∧ _ ∧ _ ∧ _ ∧ _) => ⟨q.1, q.2.1, q.2.2.1, q.2.2.2.1, q.2.2.2.2⟩) ?_
    rw [e1, e2, e3, e4]
    generalize us.getD k 0 = x at *
    generalize bs.getD k 0 = y at *
    generalize (upTo us bs k).1 = s at *
    generalize (upTo us bs k).2 = t at *
    generalize pTo us k = A at *
    generalize pTo bs k = B at *
    have hg : 0 < Nat.gcd (s * x) (t * y) := Nat.gcd_pos_of_pos_left _ (Nat.mul_pos h2 hx)
    obtain ⟨u, hu⟩ := Nat.gcd_dvd_left (s * x) (t * y)
    obtain ⟨v, hv⟩ := Nat.gcd_dvd_right (s * x) (t * y)
    have qu : s * x / Nat.gcd (s * x) (t * y) = u := by
      conv => lhs; lhs; rw [hu]
      exact Nat.mul_div_cancel_left _ hg
    have qv : t * y / Nat.gcd (s * x) (t * y) = v := by
      conv => lhs; lhs; rw [hv]
      exact Nat.mul_div_cancel_left _ hg
    rw [qu, qv]
    have hsx := Nat.mul_pos h2 hx
    have hty := Nat.mul_pos h3 hy
    generalize Nat.gcd (s * x) (t * y) = g at *
    have a1 : s * x ≤ A * x := Nat.mul_le_mul_right _ h4
    have a2 : t * y ≤ B * y := Nat.mul_le_mul_right _ h5
    have b1 : u ≤ g * u := Nat.le_mul_of_pos_left _ hg
    have b2 : v ≤ g * v := Nat.le_mul_of_pos_left _ hg
    refine ⟨?_, ?_, ?_, by omega, by omega⟩
    · apply Nat.eq_of_mul_eq_mul_left hg
      calc g * (u * (B * y)) = (g * u) * (B * y) := by rw [Nat.mul_assoc]
        _ = s * x * (B * y) := by rw [hu]
        _ = (s * B) * (x * y) := by simp only [Nat.mul_assoc, Nat.mul_left_comm, Nat.mul_comm]
        _ = (t * A) * (x * y) := by rw [h1]
        _ = (t * y) * (A * x) := by simp only [Nat.mul_assoc, Nat.mul_left_comm, Nat.mul_comm]
        _ = (g * v) * (A * x) := by rw [← hv]
        _ = g * (v * (A * x)) := by rw [Nat.mul_assoc]
    · rcases Nat.eq_zero_or_pos u with e | e
      · subst e; omega
      · exact e
    · rcases Nat.eq_zero_or_pos v with e | e
      · subst e; omega
      · exact e
theorem upTo_div {us bs : List Nat} (hl : us.length = bs.length) (ha : ∀ k, k < us.length → 0 < us.getD k 0) (hb : ∀ k, k < bs.length → 0 < bs.getD k 0) {q : Nat} (hq : pTo us us.length = q * pTo bs us.length) : (upTo us bs us.length).1 / (upTo us bs us.length).2 = q := by
  have h := upOk hl ha hb _ (Nat.le_refl _)
  have hB := pTo_pos hb us.length (by omega)
  have h1 := h.eq
  rw [hq] at h1
  have h2 : (upTo us bs us.length).1 = (upTo us bs us.length).2 * q := by
    apply Nat.eq_of_mul_eq_mul_right hB
    rw [h1, Nat.mul_assoc]
  rw [h2]
  exact Nat.mul_div_cancel_left _ h.p2

/-! ### the other way -/
theorem prodN_append (l m : List Nat) : prodN (l ++ m) = prodN l * prodN m := by
  induction l with
  | nil => simp [prodN]
  | cons x l ih => rw [List.cons_append, prodN_cons, prodN_cons, ih, Nat.mul_assoc]
theorem prodN_set {l : List Nat} {k d : Nat} (hk : k < l.length) (hd : 0 < d) (h : d ∣ l.getD k 0) : prodN l = d * prodN (l.set k (l.getD k 0 / d)) := by
  have e := List.take_append_drop k l
  have e2 : l.drop k = l.getD k 0 :: l.drop (k + 1) := by rw [List.drop_eq_getElem_cons hk]; simp [List.getD, hk]
  have e3 : l.set k (l.getD k 0 / d) = l.take k ++ (l.getD k 0 / d) :: l.drop (k + 1) := by
    rw [List.set_eq_take_append_cons_drop, if_pos hk]
  rw [e3, prodN_append, prodN_cons]
  conv => lhs; rw [← e, e2, prodN_append, prodN_cons]
  obtain ⟨u, hu⟩ := h
  rw [hu, Nat.mul_div_cancel_left _ hd]
  simp only [Nat.mul_assoc, Nat.mul_left_comm, Nat.mul_comm]
structure RdOk (x : Nat) (bs : List Nat) (k : Nat) : Prop where
  len : (rdTo x bs k).2.length = bs.length
  eq : (rdTo x bs k).1 * prodN bs = x * prodN (rdTo x bs k).2
  pos : 0 < (rdTo x bs k).1
  bpos : ∀ j, j < bs.length → 0 < (rdTo x bs k).2.getD j 0
  dvd : ∀ j, j < bs.length → (rdTo x bs k).2.getD j 0 ∣ bs.getD j 0
  dvx : (rdTo x bs k).1 ∣ x
  cop : ∀ j, j < k → Nat.Coprime (rdTo x bs k).1 ((rdTo x bs k).2.getD j 0)
theorem getD_set {l : List Nat} {k j v : Nat} (hk : k < l.length) : (l.set k v).getD j 0 = if j = k then v else l.getD j 0 := by
  simp only [List.getD, List.getElem?_set]
  by_cases e : k = j
  · subst e; simp [hk]
  · rw [if_neg e, if_neg (Ne.symm e)]
theorem rdOk {x : Nat} {bs : List Nat} (hx : 0 < x) (hb : ∀ k, k < bs.length → 0 < bs.getD k 0) : ∀ k, k ≤ bs.length → RdOk x bs k
  | 0, _ => ⟨rfl, rfl, hx, hb, fun _ _ => Nat.dvd_refl _, Nat.dvd_refl _, fun _ h => absurd h (by omega)⟩
  | k + 1, hk => by
    obtain ⟨h1, h2, h3, h4, h5, h6, h7⟩ := rdOk hx hb k (by omega)
    have e1 : (rdTo x bs (k + 1)).1 = (rdTo x bs k).1 / Nat.gcd (rdTo x bs k).1 ((rdTo x bs k).2.getD k 0) := rfl
    have e2 : (rdTo x bs (k + 1)).2 = (rdTo x bs k).2.set k ((rdTo x bs k).2.getD k 0 / Nat.gcd (rdTo x bs k).1 ((rdTo x bs k).2.getD k 0)) := rfl
    refine (fun (q : _ ∧ _ ∧ _ ∧ _ ∧ _ ∧ _ ∧ _) => ⟨q.1, q.2.1, q.2.2.1, q.2.2.2.1, q.2.2.2.2.1, q.2.2.2.2.2.1, q.2.2.2.2.2.2⟩) ?_
    rw [e1, e2]
    generalize (rdTo x bs k).1 = y at *
    generalize (rdTo x bs k).2 = cs at *
    have hkc : k < cs.length := by omega
    have hg : 0 < Nat.gcd y (cs.getD k 0) := Nat.gcd_pos_of_pos_left _ h3
    have hgl := Nat.gcd_dvd_left y (cs.getD k 0)
    have hgr := Nat.gcd_dvd_right y (cs.getD k 0)
    have hck := h4 k (by omega)
    have hcop : Nat.Coprime (y / Nat.gcd y (cs.getD k 0)) (cs.getD k 0 / Nat.gcd y (cs.getD k 0)) := Nat.coprime_div_gcd_div_gcd hg
    have hps := prodN_set hkc hg hgr
    generalize Nat.gcd y (cs.getD k 0) = g at *
    refine ⟨by rw [List.length_set]; exact h1, ?_, Nat.div_pos (Nat.le_of_dvd h3 hgl) hg, ?_, ?_, ?_, ?_⟩
    · apply Nat.eq_of_mul_eq_mul_left hg
      rw [← Nat.mul_assoc, Nat.mul_div_cancel' hgl, h2, hps]
      simp only [Nat.mul_assoc, Nat.mul_left_comm, Nat.mul_comm]
    · intro j hj
      rw [getD_set hkc]
      split
      · exact Nat.div_pos (Nat.le_of_dvd hck hgr) hg
      · exact h4 j hj
    · intro j hj
      rw [getD_set hkc]
      split
      · rename_i e; subst e
        exact Nat.dvd_trans (Nat.div_dvd_of_dvd hgr) (h5 j hj)
      · exact h5 j hj
    · exact Nat.dvd_trans (Nat.div_dvd_of_dvd hgl) h6
    · intro j hj
      rw [getD_set hkc]
      split
      · exact hcop
      · exact Nat.Coprime.coprime_dvd_left (Nat.div_dvd_of_dvd hgl) (h7 j (by omega))
structure DmOk (us bs : List Nat) (k : Nat) : Prop where
  len : (dmTo us bs k).2.length = bs.length
  eq : (dmTo us bs k).1 * prodN bs = pTo us k * prodN (dmTo us bs k).2
  pos : 0 < (dmTo us bs k).1
  bpos : ∀ j, j < bs.length → 0 < (dmTo us bs k).2.getD j 0
  dvd : ∀ j, j < bs.length → (dmTo us bs k).2.getD j 0 ∣ bs.getD j 0
  le : (dmTo us bs k).1 ≤ pTo us k
  cop : ∀ j, j < bs.length → Nat.Coprime (dmTo us bs k).1 ((dmTo us bs k).2.getD j 0)
theorem dmOk {us bs : List Nat} (ha : ∀ k, k < us.length → 0 < us.getD k 0) (hb : ∀ k, k < bs.length → 0 < bs.getD k 0) : ∀ k, k ≤ us.length → DmOk us bs k
  | 0, _ => ⟨rfl, rfl, Nat.one_pos, hb, fun _ _ => Nat.dvd_refl _, Nat.le_refl _, fun _ _ => Nat.coprime_one_left _⟩
  | k + 1, hk => by
    obtain ⟨h1, h2, h3, h4, h5, h6, h7⟩ := dmOk ha hb k (by omega)
    have hx := ha k (by omega)
    have hr := rdOk (bs := (dmTo us bs k).2) hx (fun j hj => h4 j (by omega)) _ (Nat.le_refl _)
    have e1 : (dmTo us bs (k + 1)).1 = (dmTo us bs k).1 * (rdTo (us.getD k 0) (dmTo us bs k).2 (dmTo us bs k).2.length).1 := rfl
    have e2 : (dmTo us bs (k + 1)).2 = (rdTo (us.getD k 0) (dmTo us bs k).2 (dmTo us bs k).2.length).2 := rfl
    have e3 : pTo us (k + 1) = pTo us k * us.getD k 0 := rfl
    obtain ⟨r1, r2, r3, r4, r5, r6, r7⟩ := hr
    refine (fun (q : _ ∧ _ ∧ _ ∧ _ ∧ _ ∧ _ ∧ _) => ⟨q.1, q.2.1, q.2.2.1, q.2.2.2.1, q.2.2.2.2.1, q.2.2.2.2.2.1, q.2.2.2.2.2.2⟩) ?_
    rw [e1, e2, e3]
    generalize us.getD k 0 = x at *
    generalize (dmTo us bs k).1 = p at *
    generalize (dmTo us bs k).2 = cs at *
    generalize (rdTo x cs cs.length).1 = y at *
    generalize (rdTo x cs cs.length).2 = ds at *
    generalize pTo us k = A at *
    have hyx := Nat.le_of_dvd hx r6
    have hcs : 0 < prodN cs := by
      have := pTo_pos (l := cs) (fun j hj => h4 j (by omega)) _ (Nat.le_refl _)
      rwa [pTo_all] at this
    refine ⟨by omega, ?_, Nat.mul_pos h3 r3, fun j hj => r4 j (by omega), fun j hj => Nat.dvd_trans (r5 j (by omega)) (h5 j hj), Nat.mul_le_mul h6 hyx, fun j hj => ?_⟩
    · apply Nat.eq_of_mul_eq_mul_right hcs
      calc p * y * prodN bs * prodN cs = (p * prodN bs) * (y * prodN cs) := by simp only [Nat.mul_assoc, Nat.mul_left_comm, Nat.mul_comm]
        _ = (A * prodN cs) * (x * prodN ds) := by rw [h2, r2]
        _ = A * x * prodN ds * prodN cs := by simp only [Nat.mul_assoc, Nat.mul_left_comm, Nat.mul_comm]
    · refine Nat.Coprime.mul_left ?_ (r7 j (by omega))
      exact Nat.Coprime.coprime_dvd_right (r5 j (by omega)) (h7 j hj)
theorem coprime_prod {p : Nat} : ∀ {l : List Nat}, (∀ j, j < l.length → Nat.Coprime p (l.getD j 0)) → Nat.Coprime p (prodN l)
  | [], _ => Nat.coprime_one_right _
  | x :: l, h => by
    rw [prodN_cons]
    refine Nat.Coprime.mul_right (h 0 (by simp)) (coprime_prod fun j hj => ?_)
    have := h (j + 1) (by simpa using hj)
    simpa using this
theorem dmTo_eq {us bs : List Nat} (hl : us.length = bs.length) (ha : ∀ k, k < us.length → 0 < us.getD k 0) (hb : ∀ k, k < bs.length → 0 < bs.getD k 0) {q : Nat} (hq : pTo us us.length = q * pTo bs us.length) : (dmTo us bs us.length).1 = q := by
  have h := dmOk ha hb _ (Nat.le_refl _)
  have hB := pTo_pos hb bs.length (Nat.le_refl _)
  rw [hl, pTo_all bs, ← hl] at hq
  rw [pTo_all] at hB
  have h1 := h.eq
  rw [hq] at h1
  have hc : Nat.Coprime (dmTo us bs us.length).1 (prodN (dmTo us bs us.length).2) := coprime_prod fun j hj => h.cop j (by rw [h.len] at hj; exact hj)
  have h2 : (dmTo us bs us.length).1 = q * prodN (dmTo us bs us.length).2 := by
    apply Nat.eq_of_mul_eq_mul_right hB
    rw [h1]
    simp only [Nat.mul_assoc, Nat.mul_left_comm, Nat.mul_comm]
  have hd : prodN (dmTo us bs us.length).2 ∣ (dmTo us bs us.length).1 := ⟨q, by rw [Nat.mul_comm]; exact h2⟩
  have h3 : prodN (dmTo us bs us.length).2 = 1 := Nat.Coprime.eq_one_of_dvd hc.symm hd
  rw [h3, Nat.mul_one] at h2
  exact h2
end Go.Proofs.Ytmjneokgnnbekaa
