/- The numbers game: reduced words backwards and in the turned matrix, exchange, deletion, roots of reduced words. Plain law. -/
import Derived.Test.YtkjglfafphffiaaGreatT33
namespace Go.Proofs.YtkjglfafphffiaaGreat
set_option maxRecDepth 100000
open Go.RowKit
namespace Game
variable {A B : Mat} {n : Nat} {d d' : Vec}
/-- a reduced word -/
def Red (A : Mat) (n : Nat) (d : Vec) (y : List Nat) : Prop := Plays A n y (act A y d) d
def Strict (n : Nat) (d : Vec) : Prop := ∀ i, i < n → 0 < d i
theorem Strict.dom (h : Strict n d) : Dom n d := fun i hi => Int.le_of_lt (h i hi)
theorem Red.lt {y : List Nat} (h : Red A n d y) : ∀ i ∈ y, i < n := Legal.lt h.1
theorem Red.nil : Red A n d [] := ⟨trivial, rfl⟩
theorem Red.parts (hC : Car A n) {i : Nat} {y : List Nat} (h : Red A n d (i :: y)) : i < n ∧ 0 < act A y d i ∧ Red A n d y := by
  obtain ⟨hi, h1, h2⟩ := Plays.cons.1 h
  simp only [act] at h1 h2
  rw [s_s hC hi] at h2
  refine ⟨hi, ?_, h2⟩
  simp only [s, hC.two i hi] at h1
  omega
theorem Red.cons (hC : Car A n) {i : Nat} {y : List Nat} (hi : i < n) (h : Red A n d y) (hp : 0 < act A y d i) : Red A n d (i :: y) := by
  refine Plays.cons.2 ⟨hi, ?_, ?_⟩
  · simp only [act, s, hC.two i hi]; omega
  · simp only [act]; rw [s_s hC hi]; exact h
theorem Red.drop (hC : Car A n) {p y : List Nat} (h : Red A n d (p ++ y)) : Red A n d y := by
  induction p with
  | nil => exact h
  | cons i p ih => exact ih (h.parts hC).2.2
theorem Red.ne (hC : Car A n) (hd : Strict n d) {y : List Nat} (h : Red A n d y) {i : Nat} (hi : i < n) : act A y d i ≠ 0 := Plays.ne hC hd h hi
/-- a word that is no longer than a play of what it makes is reduced -/
theorem red_of_len (hC : Car A n) (hd : Strict n d) {y W : List Nat} (hy : ∀ i ∈ y, i < n) (hW : Plays A n W (act A y d) d) (hl : y.length ≤ W.length) : Red A n d y := by
  obtain ⟨l, h1, h2⟩ := word_play hC hd.dom y hy
  have := (Plays.unique hC hd.dom hW h1).1
  exact red_plays hC hd y hy W hW (by omega)
theorem act_rev (hC : Car A n) : ∀ {y : List Nat}, (∀ i ∈ y, i < n) → ∀ u, act A y.reverse (act A y u) = u
  | [], _, _ => rfl
  | i :: y, h, u => by
    rw [List.reverse_cons, act_append]
    simp only [act]
    rw [s_s hC (h i (by simp))]
    exact act_rev hC (fun j hj => h j (List.mem_cons_of_mem _ hj)) u
theorem red_rev (hC : Car A n) (hd : Strict n d) {y : List Nat} (h : Red A n d y) : Red A n d y.reverse := by
  have hr : ∀ i ∈ y.reverse, i < n := fun i hi => h.lt i (List.mem_reverse.1 hi)
  obtain ⟨l, h1, h2⟩ := word_play hC hd.dom y.reverse hr
  have ha := word_act hC hd y.reverse hr l h1
  have hl : ∀ i ∈ l, i < n := Legal.lt h1.1
  have hlr : ∀ i ∈ l.reverse, i < n := fun i hi => hl i (List.mem_reverse.1 hi)
  have e : ∀ u, act A y u = act A l.reverse u := fun u => by
    have q := act_rev hC hl (act A y u)
    rw [← ha, act_rev hC h.lt] at q
    exact q.symm
  obtain ⟨l2, g1, g2⟩ := word_play hC hd.dom l.reverse hlr
  rw [← e] at g1
  have := (Plays.unique hC hd.dom h g1).1
  rw [List.length_reverse] at g2 h2
  exact red_of_len hC hd hr h1 (by rw [List.length_reverse]; omega)
theorem BrMove.meet (hC : Car A n) {i j m : Nat} (hi : i < n) (hj : j < n) (hne : i ≠ j) (hb : bondP (A i j * A j i) = ((m + 1 : Nat) : Int)) : Meet A n i j m := by
  rcases meet_bond hC hi hj hne with ⟨m', h1, h2, -⟩ | ⟨h1, h2⟩
  · rw [h2] at hb
    have : m' = m := by omega
    subst this; exact h1
  · have h4 : 4 ≤ A i j * A j i := by
      have h5 : 0 ≤ (-2 - A i j) * (-2 - A j i) := Int.mul_nonneg (by omega) (by omega)
      have e : (-2 - A i j) * (-2 - A j i) = 4 + 2 * A i j + 2 * A j i + A i j * A j i := by
        simp only [Int.sub_mul, Int.mul_sub]; omega
      omega
    unfold bondP at hb
    rw [if_neg (by omega), if_neg (by omega), if_neg (by omega), if_neg (by omega)] at hb
    omega
theorem alt_mem {i j x : Nat} : ∀ m, x ∈ alt i j m → x = i ∨ x = j := by
  intro m
  induction m generalizing i j with
  | zero => intro h; simp [alt] at h
  | succ m ih =>
    intro h
    simp only [alt, List.mem_cons] at h
    rcases h with h | h
    · exact .inl h
    · exact (ih h).symm
theorem BrMove.act (hC : Car A n) {a b : List Nat} (h : BrMove A n a b) (u : Vec) : Game.act A a u = Game.act A b u := by
  obtain ⟨p, r, i, j, m, hi, hj, hne, hb, -, rfl, rfl⟩ := h
  rw [act_append, act_append, act_append, act_append, (BrMove.meet hC hi hj hne hb).acts]
theorem BrMove.length {a b : List Nat} (h : BrMove A n a b) : a.length = b.length := by
  obtain ⟨p, r, i, j, m, -, -, -, -, -, rfl, rfl⟩ := h
  simp [alt_length]
theorem BrMove.lt {a b : List Nat} (h : BrMove A n a b) (ha : ∀ x ∈ a, x < n) : ∀ x ∈ b, x < n := by
  obtain ⟨p, r, i, j, m, hi, hj, -, -, -, rfl, rfl⟩ := h
  intro x hx
  simp only [List.mem_append] at hx ha
  rcases hx with (hx | hx) | hx
  · exact ha x (.inl (.inl hx))
  · rcases alt_mem _ hx with e | e <;> omega
  · exact ha x (.inr hx)
theorem BrMove.red (hC : Car A n) (hd : Strict n d) {a b : List Nat} (h : BrMove A n a b) (ha : Red A n d a) : Red A n d b := by
  refine red_of_len hC hd (h.lt ha.lt) (W := a) ?_ (by rw [h.length]; exact Nat.le_refl _)
  rw [← h.act hC]; exact ha
/-- what reduced words are, does not hang on the vector; nor on the matrix, the bonds being the same -/
theorem red_any (hA : Car A n) (hB : Car B n) (hm : ∀ a b, BrMove B n a b → BrMove A n a b) (hd : Strict n d) (hd' : Strict n d') : ∀ {y : List Nat}, Red A n d y → Red B n d' y
  | [], _ => Red.nil
  | i :: y, h => by
    obtain ⟨hi, hp, hy⟩ := h.parts hA
    have hyB := red_any hA hB hm hd hd' hy
    rcases Int.lt_trichotomy (act B y d' i) 0 with g | g | g
    · obtain ⟨l', g1, -, -⟩ := Plays.first hB hd'.dom hyB hi g
      have hj := matsumoto hB hd'.dom _ _ _ _ hyB g1 rfl
      obtain ⟨k1, k2⟩ := hj (fun z => Red A n d z ∧ ∀ u, act A z u = act A y u) ⟨hy, fun _ => rfl⟩ (fun a b ha hab => ⟨(hm a b hab).red hA hd ha.1, fun u => ((hm a b hab).act hA u).symm.trans (ha.2 u)⟩)
      have k3 := (Plays.cons.1 k1).2.1
      rw [k2] at k3
      omega
    · exact absurd g (hyB.ne hB hd' hi)
    · exact hyB.cons hB hi g
def tr (A : Mat) : Mat := fun i j => A j i
theorem car_tr (hC : Car A n) : Car (tr A) n where
  two := hC.two
  off i j hi hj hne := ⟨(hC.off j i hj hi (Ne.symm hne)).1, (hC.off j i hj hi (Ne.symm hne)).2.1, (hC.off j i hj hi (Ne.symm hne)).2.2⟩
theorem BrMove.tr {a b : List Nat} (h : BrMove (tr A) n a b) : BrMove A n a b := by
  obtain ⟨p, r, i, j, m, hi, hj, hne, hb, hm, e1, e2⟩ := h
  exact ⟨p, r, i, j, m, hi, hj, hne, by rw [← hb]; show bondP (A i j * A j i) = bondP (A j i * A i j); rw [Int.mul_comm], hm, e1, e2⟩
theorem alt_last (i j : Nat) : ∀ m, (alt i j (m + 1)).eraseIdx m = alt i j m := by
  intro m
  induction m generalizing i j with
  | zero => rfl
  | succ m ih =>
    show (i :: alt j i (m + 1)).eraseIdx (m + 1) = i :: alt j i m
    rw [List.eraseIdx_cons_succ, ih]
theorem alt_fold (hC : Car A n) (u : Vec) : ∀ (t m i j : Nat), i < n → j < n → t ≤ m → act A ((alt i j (m + 3)).eraseIdx (t + 1)) u = act A ((alt i j (m + 1)).eraseIdx t) u
  | 0, m, i, j, hi, hj, _ => by
    show act A ((i :: j :: i :: alt j i m).eraseIdx 1) u = act A ((i :: alt j i m).eraseIdx 0) u
    show s A i (s A i (act A (alt j i m) u)) = act A (alt j i m) u
    exact s_s hC hi _
  | t + 1, m, i, j, hi, hj, h => by
    obtain ⟨m', rfl⟩ : ∃ m', m = m' + 1 := ⟨m - 1, by omega⟩
    show act A ((i :: alt j i (m' + 3)).eraseIdx (t + 2)) u = act A ((i :: alt j i (m' + 1)).eraseIdx (t + 1)) u
    rw [List.eraseIdx_cons_succ, List.eraseIdx_cons_succ]
    show s A i (act A _ u) = s A i (act A _ u)
    rw [alt_fold hC u t m' j i hj hi (by omega)]
theorem alt_del (hC : Car A n) (u : Vec) : ∀ (m t i j : Nat), i < n → j < n → t ≤ m → act A ((alt i j (m + 1)).eraseIdx t) u = act A ((alt j i (m + 1)).eraseIdx (m - t)) u
  | 0, t, i, j, _, _, h => by
    obtain rfl : t = 0 := by omega
    rfl
  | 1, t, i, j, _, _, h => by
    rcases (show t = 0 ∨ t = 1 by omega) with rfl | rfl <;> rfl
  | m + 2, t, i, j, hi, hj, h => by
    by_cases h0 : t = 0
    · subst h0
      show act A (alt j i (m + 2)) u = _
      rw [show m + 2 - 0 = m + 2 from rfl, alt_last]
    · by_cases h2 : t = m + 2
      · subst h2
        rw [alt_last, Nat.sub_self]
        rfl
      · obtain ⟨t', rfl⟩ : ∃ t', t = t' + 1 := ⟨t - 1, by omega⟩
        rw [alt_fold hC u t' m i j hi hj (by omega), show m + 2 - (t' + 1) = (m - t') + 1 by omega, alt_fold hC u (m - t') m j i hj hi (by omega), alt_del hC u m t' i j hi hj (by omega)]
/-- words from which a letter can be left out so that a given thing is left -/
def Drops (A : Mat) (f : Vec → Vec) (y : List Nat) : Prop := ∃ k, k < y.length ∧ ∀ u, act A (y.eraseIdx k) u = f u
theorem erase_in {p X : List Nat} {k : Nat} (h : k < p.length) : (p ++ X).eraseIdx k = p.eraseIdx k ++ X := List.eraseIdx_append_of_lt_length h X
theorem erase_out (p X : List Nat) (t : Nat) : (p ++ X).eraseIdx (p.length + t) = p ++ X.eraseIdx t := by
  rw [List.eraseIdx_append_of_length_le (by omega), Nat.add_sub_cancel_left]
theorem Drops.move (hC : Car A n) {f : Vec → Vec} {a b : List Nat} (h : BrMove A n a b) (ha : Drops A f a) : Drops A f b := by
  obtain ⟨p, r, i, j, m, hi, hj, hne, hb, -, rfl, rfl⟩ := h
  obtain ⟨k, hk, he⟩ := ha
  have hac := (BrMove.meet hC hi hj hne hb).acts
  simp only [List.length_append, alt_length] at hk
  simp only [List.append_assoc] at he ⊢
  by_cases h1 : k < p.length
  · refine ⟨k, by simp [alt_length]; omega, fun u => ?_⟩
    have := he u
    rw [erase_in h1, act_append, act_append] at this
    rw [erase_in h1, act_append, act_append, ← hac]
    exact this
  · obtain ⟨t, rfl⟩ : ∃ t, k = p.length + t := ⟨k - p.length, by omega⟩
    by_cases h2 : t < m + 1
    · refine ⟨p.length + (m - t), by simp [alt_length]; omega, fun u => ?_⟩
      have := he u
      rw [erase_out, erase_in (by rw [alt_length]; exact h2), act_append, act_append, alt_del hC _ m t i j hi hj (by omega)] at this
      rw [erase_out, erase_in (by rw [alt_length]; omega), act_append, act_append]
      exact this
    · obtain ⟨t', rfl⟩ : ∃ t', t = (m + 1) + t' := ⟨t - (m + 1), by omega⟩
      refine ⟨p.length + ((m + 1) + t'), by simp [alt_length]; omega, fun u => ?_⟩
      have := he u
      have e1 := erase_out (alt i j (m + 1)) r t'
      have e2 := erase_out (alt j i (m + 1)) r t'
      rw [alt_length] at e1 e2
      rw [erase_out, e1, act_append, act_append] at this
      rw [erase_out, e2, act_append, act_append, ← hac]
      exact this
theorem exchange (hC : Car A n) (hd : Strict n d) {y : List Nat} (hy : Red A n d y) {i : Nat} (hi : i < n) (hneg : act A y d i < 0) : ∃ k, k < y.length ∧ ∀ u, act A (y.eraseIdx k) u = act A (i :: y) u := by
  obtain ⟨l', h1, -, h3⟩ := Plays.first hC hd.dom hy hi hneg
  have hj := matsumoto hC hd.dom _ _ _ _ h1 hy rfl
  refine hj (Drops A (fun u => act A (i :: y) u)) ⟨0, by simp, fun u => ?_⟩ (fun a b ha hab => Drops.move hC hab ha)
  show act A l' u = s A i (act A y u)
  rw [h3]
  exact (s_s hC hi _).symm
/-- from a word that is not reduced two letters can be left out -/
theorem deletion (hC : Car A n) (hd : Strict n d) : ∀ {w : List Nat}, (∀ i ∈ w, i < n) → ¬ Red A n d w → ∃ a b, a < b ∧ b < w.length ∧ ∀ u, act A ((w.eraseIdx b).eraseIdx a) u = act A w u
  | [], _, h => absurd Red.nil h
  | i :: y, hw, h => by
    have hi := hw i (by simp)
    have hy : ∀ j ∈ y, j < n := fun j hj => hw j (List.mem_cons_of_mem _ hj)
    by_cases hr : Red A n d y
    · have hneg : act A y d i < 0 := by
        rcases Int.lt_trichotomy (act A y d i) 0 with g | g | g
        · exact g
        · exact absurd g (hr.ne hC hd hi)
        · exact absurd (hr.cons hC hi g) h
      obtain ⟨k, hk, he⟩ := exchange hC hd hr hi hneg
      exact ⟨0, k + 1, by omega, by simp; omega, fun u => he u⟩
    · obtain ⟨a, b, hab, hb, he⟩ := deletion hC hd hy hr
      refine ⟨a + 1, b + 1, by omega, by simp; omega, fun u => ?_⟩
      rw [List.eraseIdx_cons_succ, List.eraseIdx_cons_succ]
      show s A i (act A _ u) = s A i (act A y u)
      rw [he]
def sm (f : Nat → Int) : Nat → Int
  | 0 => 0
  | k + 1 => sm f k + f k
theorem sm_congr {f g : Nat → Int} : ∀ {k : Nat}, (∀ j, j < k → f j = g j) → sm f k = sm g k
  | 0, _ => rfl
  | k + 1, h => by unfold sm; rw [sm_congr (fun j hj => h j (by omega)), h k (by omega)]
theorem sm_lin (f g : Nat → Int) (x : Int) : ∀ k, sm (fun j => f j - x * g j) k = sm f k - x * sm g k
  | 0 => by simp [sm]
  | k + 1 => by
    unfold sm
    rw [sm_lin f g x k, Int.mul_add]
    omega
theorem sm_one (f : Nat → Int) (i : Nat) (x : Int) : ∀ k, sm (fun j => f j + (if j = i then x else 0)) k = sm f k + if i < k then x else 0
  | 0 => by simp [sm]
  | k + 1 => by
    unfold sm
    rw [sm_one f i x k]
    by_cases h : i < k
    · rw [if_pos h, if_neg (show ¬ k = i by omega), if_pos (show i < k + 1 by omega)]; omega
    · rw [if_neg h]
      by_cases e : k = i
      · rw [if_pos e, if_pos (show i < k + 1 by omega)]; omega
      · rw [if_neg e, if_neg (show ¬ i < k + 1 by omega)]; omega
theorem sm_zero : ∀ k, sm (fun _ => 0) k = 0
  | 0 => rfl
  | k + 1 => by unfold sm; rw [sm_zero k]; rfl
def prs (n : Nat) (v r : Vec) : Int := sm (fun k => v k * r k) n
def mir (A : Mat) (n i : Nat) (r : Vec) : Vec := fun k => r k - if k = i then sm (fun j => A i j * r j) n else 0
theorem prs_mir {i : Nat} (hi : i < n) (v r : Vec) : prs n v (mir A n i r) = prs n (s (tr A) i v) r := by
  have e1 : prs n (s (tr A) i v) r = prs n v r - v i * sm (fun j => A i j * r j) n := by
    unfold prs
    rw [← sm_lin]
    refine sm_congr fun k _ => ?_
    show (v k - v i * A i k) * r k = v k * r k - v i * (A i k * r k)
    rw [Int.sub_mul, Int.mul_assoc]
  have e2 : prs n v (mir A n i r) = prs n v r - v i * sm (fun j => A i j * r j) n := by
    unfold prs
    have := sm_one (fun k => v k * r k) i (-(v i * sm (fun j => A i j * r j) n)) n
    rw [if_pos hi] at this
    rw [Int.sub_eq_add_neg, ← this]
    refine sm_congr fun k _ => ?_
    show v k * (r k - if k = i then sm (fun j => A i j * r j) n else 0) = v k * r k + if k = i then -(v i * sm (fun j => A i j * r j) n) else 0
    by_cases e : k = i
    · subst e
      rw [if_pos rfl, if_pos rfl, Int.mul_sub]; omega
    · rw [if_neg e, if_neg e, Int.sub_zero, Int.add_zero]
  rw [e1, e2]
def eV (i : Nat) : Vec := fun k => if k = i then 1 else 0
theorem prs_eV {i : Nat} (hi : i < n) (v : Vec) : prs n v (eV i) = v i := by
  unfold prs
  have := sm_one (fun _ => 0) i (v i) n
  rw [if_pos hi] at this
  rw [sm_zero, Int.zero_add] at this
  rw [← this]
  refine sm_congr fun k _ => ?_
  show v k * (if k = i then 1 else 0) = 0 + if k = i then v i else 0
  by_cases e : k = i
  · subst e; simp
  · rw [if_neg e, if_neg e]; simp
def mirs (A : Mat) (n : Nat) : List Nat → Vec → Vec
  | [], r => r
  | i :: l, r => mir A n i (mirs A n l r)
theorem prs_mirs : ∀ {l : List Nat}, (∀ i ∈ l, i < n) → ∀ v r, prs n v (mirs A n l r) = prs n (act (tr A) l.reverse v) r
  | [], _, _, _ => rfl
  | i :: l, h, v, r => by
    rw [List.reverse_cons, act_append]
    show prs n v (mir A n i (mirs A n l r)) = prs n (act (tr A) l.reverse (s (tr A) i v)) r
    rw [prs_mir (h i (by simp)), prs_mirs (fun j hj => h j (List.mem_cons_of_mem _ hj))]
/-- a root of a reduced word is positive on all regular vectors -/
theorem root_pos (hC : Car A n) (hd : Strict n d) {p : List Nat} {b : Nat} (h : Red A n d (p ++ [b])) {d' : Vec} (hd' : Strict n d') : 0 < prs n d' (mirs A n p (eV b)) := by
  have h1 := red_rev hC hd h
  rw [List.reverse_append] at h1
  have h2 : Red (tr A) n d' (b :: p.reverse) := red_any hC (car_tr hC) (fun a b hab => hab.tr) hd hd' h1
  obtain ⟨hb, hp, hr⟩ := h2.parts (car_tr hC)
  rw [prs_mirs (fun i hi => hr.lt i (List.mem_reverse.2 hi)), prs_eV hb]
  exact hp
theorem sm_le {f g : Nat → Int} : ∀ {k : Nat}, (∀ j, j < k → f j ≤ g j) → sm f k ≤ sm g k
  | 0, _ => Int.le_refl _
  | k + 1, h => by unfold sm; have := sm_le (k := k) (fun j hj => h j (by omega)); have := h k (by omega); omega
/-- what is positive on all regular vectors has no negative number, and one that is not 0 -/
theorem pos_of_all {r : Vec} (h : ∀ d' : Vec, Strict n d' → 0 < prs n d' r) : (∀ k, k < n → 0 ≤ r k) ∧ ∃ k, k < n ∧ 0 < r k := by
  have h0 : ∀ k, k < n → 0 ≤ r k := fun k hk => by
    by_cases hr : 0 ≤ r k
    · exact hr
    · exfalso
      let S := sm (fun j => if 0 ≤ r j then r j else 0) n
      have hS : 0 ≤ S := by
        have := sm_le (f := fun _ => 0) (g := fun j => if 0 ≤ r j then r j else 0) (k := n) (fun j _ => by split <;> omega)
        rw [sm_zero] at this
        omega
      have hp := h (fun j => 1 + if j = k then S else 0) (fun j _ => by show 0 < 1 + (if j = k then S else 0); split <;> omega)
      have e : prs n (fun j => 1 + if j = k then S else 0) r = sm r n + S * r k := by
        have := sm_one r k (S * r k) n
        rw [if_pos hk] at this
        rw [← this]
        refine sm_congr fun j _ => ?_
        show (1 + if j = k then S else 0) * r j = r j + if j = k then S * r k else 0
        by_cases e : j = k
        · subst e; rw [if_pos rfl, if_pos rfl, Int.add_mul, Int.one_mul]
        · rw [if_neg e, if_neg e, Int.add_zero, Int.add_zero, Int.one_mul]
      rw [e] at hp
      have h1 : sm r n ≤ S := sm_le fun j _ => by split <;> omega
      have h2 : S * r k ≤ S * (-1) := Int.mul_le_mul_of_nonneg_left (by omega) hS
      omega
  refine ⟨h0, ?_⟩
  by_cases hx : ∃ k, k < n ∧ 0 < r k
  · exact hx
  · exfalso
    have hp := h (fun _ => 1) (fun _ _ => Int.zero_lt_one)
    have : prs n (fun _ => 1) r ≤ sm (fun _ => 0) n := sm_le fun j hj => by
      have : ¬ 0 < r j := fun q => hx ⟨j, hj, q⟩
      show 1 * r j ≤ 0
      omega
    rw [sm_zero] at this
    omega
theorem mir_mir (hC : Car A n) {i : Nat} (hi : i < n) (r : Vec) : ∀ k, k < n → mir A n i (mir A n i r) k = r k := fun k hk => by
  have e : sm (fun j => A i j * mir A n i r j) n = - sm (fun j => A i j * r j) n := by
    have := prs_mir (A := A) hi (fun j => A i j) r
    unfold prs at this
    rw [this]
    have e2 : sm (fun k => s (tr A) i (fun j => A i j) k * r k) n = sm (fun j => A i j * r j - 2 * (A i j * r j)) n := sm_congr fun k _ => by
      show (A i k - A i i * A i k) * r k = _
      rw [hC.two i hi, Int.sub_mul, Int.mul_assoc]
    rw [e2, sm_lin]
    omega
  show mir A n i r k - (if k = i then sm (fun j => A i j * mir A n i r j) n else 0) = r k
  rw [e]
  show r k - (if k = i then sm (fun j => A i j * r j) n else 0) - (if k = i then -sm (fun j => A i j * r j) n else 0) = r k
  split <;> omega
theorem mir_congr {i : Nat} {r r' : Vec} (h : ∀ k, k < n → r k = r' k) : ∀ k, k < n → mir A n i r k = mir A n i r' k := fun k hk => by
  unfold mir
  rw [h k hk, sm_congr (k := n) (fun j hj => by rw [h j hj])]
theorem mirs_inj (hC : Car A n) : ∀ {l : List Nat}, (∀ i ∈ l, i < n) → ∀ {r r' : Vec}, (∀ k, k < n → mirs A n l r k = mirs A n l r' k) → ∀ k, k < n → r k = r' k
  | [], _, _, _, h => h
  | i :: l, hl, r, r', h => mirs_inj hC (fun j hj => hl j (List.mem_cons_of_mem _ hj)) fun k hk => by
    have := mir_congr (A := A) (i := i) h k hk
    rwa [show mirs A n (i :: l) r = mir A n i (mirs A n l r) from rfl, show mirs A n (i :: l) r' = mir A n i (mirs A n l r') from rfl, mir_mir hC (hl i (by simp)) _ k hk, mir_mir hC (hl i (by simp)) _ k hk] at this
theorem mirs_append (l1 l2 : List Nat) (r : Vec) : mirs A n (l1 ++ l2) r = mirs A n l1 (mirs A n l2 r) := by
  induction l1 with
  | nil => rfl
  | cons i l ih => simp only [List.cons_append, mirs, ih]
theorem prs_congr {v r r' : Vec} (h : ∀ k, k < n → r k = r' k) : prs n v r = prs n v r' := sm_congr fun k hk => by rw [h k hk]
theorem Red.init (hC : Car A n) (hd : Strict n d) {p q : List Nat} (h : Red A n d (p ++ q)) : Red A n d p := by
  have h1 := red_rev hC hd h
  rw [List.reverse_append] at h1
  have h2 := red_rev hC hd (h1.drop hC)
  rwa [List.reverse_reverse] at h2
/-- two roots of a reduced word are not the same -/
theorem roots_ne (hC : Car A n) (hd : Strict n d) {p q : List Nat} {a b : Nat} (h : Red A n d (p ++ a :: q ++ [b])) : ¬ ∀ k, k < n → mirs A n (p ++ a :: q) (eV b) k = mirs A n p (eV a) k := fun he => by
  have hlt := h.lt
  have ha : a < n := hlt a (by simp)
  rw [mirs_append] at he
  have h1 := mirs_inj hC (fun i hi => hlt i (by simp [hi])) he
  have h2 := mir_congr (A := A) (i := a) h1
  have hq : Red A n d (q ++ [b]) := by
    have h3 : Red A n d (p ++ ([a] ++ (q ++ [b]))) := by simpa using h
    exact (h3.drop hC).drop hC
  have hpos := root_pos hC hd hq hd
  have e1 : ∀ k, k < n → mirs A n q (eV b) k = mir A n a (eV a) k := fun k hk => by
    rw [← h2 k hk]
    exact (mir_mir hC ha _ k hk).symm
  rw [prs_congr e1, prs_mir ha, prs_eV ha] at hpos
  have : s (tr A) a d a = - d a := by show d a - d a * A a a = _; rw [hC.two a ha]; omega
  rw [this] at hpos
  have := hd a ha
  omega
end Game
end Go.Proofs.YtkjglfafphffiaaGreat
