/- Tits Bel ClmB -/
import Derived.Test.YtkjglfafphffiaaGreatDoorC26
import Derived.Test.YtkjglfafphffiaaGreatDoorC25
namespace Go.Proofs.YtkjglfafphffiaaGreatDoor
set_option maxRecDepth 100000
open Go.RowKit
namespace Game
variable {A B : Mat} {n : Nat} {d d' : Vec}
def Red (A : Mat) (n : Nat) (d : Vec) (y : List Nat) : Prop := Plays A n y (act A y d) d
def Strict (n : Nat) (d : Vec) : Prop := ∀ i, i < n → 0 < d i
theorem Strict.dom (h : Strict n d) : Dom n d := fun i hi => Int.le_of_lt (h i hi)
theorem Red.lt {y : List Nat} (h : Red A n d y) : ∀ i ∈ y, i < n := Legal.lt h.1
theorem Red.nil : Red A n d [] := ⟨trivial, rfl⟩
theorem Red.parts (hC : Car A n) {i : Nat} {y : List Nat} (h : Red A n d (i :: y)) : i < n ∧ 0 < act A y d i ∧ Red A n d y := by
  obtain ⟨hi, h1, h2⟩ := Plays.cons.1 h
  simp only [act] at h1 h2
  rw [s_s hC hi] at h2
  refine ⟨hi, ?_, h2⟩
  simp only [s, hC.two i hi] at h1
  omega
theorem Red.cons (hC : Car A n) {i : Nat} {y : List Nat} (hi : i < n) (h : Red A n d y) (hp : 0 < act A y d i) : Red A n d (i :: y) := by
  refine Plays.cons.2 ⟨hi, ?_, ?_⟩
  · simp only [act, s, hC.two i hi]; omega
  · simp only [act]; rw [s_s hC hi]; exact h
theorem Red.drop (hC : Car A n) {p y : List Nat} (h : Red A n d (p ++ y)) : Red A n d y := by
  induction p with
  | nil => exact h
  | cons i p ih => exact ih (h.parts hC).2.2
theorem Red.ne (hC : Car A n) (hd : Strict n d) {y : List Nat} (h : Red A n d y) {i : Nat} (hi : i < n) : act A y d i ≠ 0 := Plays.ne hC hd h hi
theorem red_of_len (hC : Car A n) (hd : Strict n d) {y W : List Nat} (hy : ∀ i ∈ y, i < n) (hW : Plays A n W (act A y d) d) (hl : y.length ≤ W.length) : Red A n d y := by
  obtain ⟨l, h1, h2⟩ := word_play hC hd.dom y hy
  have := (Plays.unique hC hd.dom hW h1).1
  exact red_plays hC hd y hy W hW (by omega)
theorem act_rev (hC : Car A n) : ∀ {y : List Nat}, (∀ i ∈ y, i < n) → ∀ u, act A y.reverse (act A y u) = u
  | [], _, _ => rfl
  | i :: y, h, u => by
    rw [List.reverse_cons, act_append]
    simp only [act]
    rw [s_s hC (h i (by simp))]
    exact act_rev hC (fun j hj => h j (List.mem_cons_of_mem _ hj)) u
theorem red_rev (hC : Car A n) (hd : Strict n d) {y : List Nat} (h : Red A n d y) : Red A n d y.reverse := by
  have hr : ∀ i ∈ y.reverse, i < n := fun i hi => h.lt i (List.mem_reverse.1 hi)
  obtain ⟨l, h1, h2⟩ := word_play hC hd.dom y.reverse hr
  have ha := word_act hC hd y.reverse hr l h1
  have hl : ∀ i ∈ l, i < n := Legal.lt h1.1
  have hlr : ∀ i ∈ l.reverse, i < n := fun i hi => hl i (List.mem_reverse.1 hi)
  have e : ∀ u, act A y u = act A l.reverse u := fun u => by
    have q := act_rev hC hl (act A y u)
    rw [← ha, act_rev hC h.lt] at q
    exact q.symm
  obtain ⟨l2, g1, g2⟩ := word_play hC hd.dom l.reverse hlr
  rw [← e] at g1
  have := (Plays.unique hC hd.dom h g1).1
  rw [List.length_reverse] at g2 h2
  exact red_of_len hC hd hr h1 (by rw [List.length_reverse]; omega)
theorem BrMove.meet (hC : Car A n) {i j m : Nat} (hi : i < n) (hj : j < n) (hne : i ≠ j) (hb : bondP (A i j * A j i) = ((m + 1 : Nat) : Int)) : Meet A n i j m := by
  rcases meet_bond hC hi hj hne with ⟨m', h1, h2, -⟩ | ⟨h1, h2⟩
  · rw [h2] at hb
    have : m' = m := by omega
    subst this; exact h1
  · have h4 : 4 ≤ A i j * A j i := by
      have h5 : 0 ≤ (-2 - A i j) * (-2 - A j i) := Int.mul_nonneg (by omega) (by omega)
      have e : (-2 - A i j) * (-2 - A j i) = 4 + 2 * A i j + 2 * A j i + A i j * A j i := by
        simp only [Int.sub_mul, Int.mul_sub]; omega
      omega
    unfold bondP at hb
    rw [if_neg (by omega), if_neg (by omega), if_neg (by omega), if_neg (by omega)] at hb
    omega
theorem alt_mem {i j x : Nat} : ∀ m, x ∈ alt i j m → x = i ∨ x = j := by
  intro m
  induction m generalizing i j with
  | zero => intro h; simp [alt] at h
  | succ m ih =>
    intro h
    simp only [alt, List.mem_cons] at h
    rcases h with h | h
    · exact .inl h
    · exact (ih h).symm
theorem BrMove.act (hC : Car A n) {a b : List Nat} (h : BrMove A n a b) (u : Vec) : Game.act A a u = Game.act A b u := by
  obtain ⟨p, r, i, j, m, hi, hj, hne, hb, -, rfl, rfl⟩ := h
  rw [act_append, act_append, act_append, act_append, (BrMove.meet hC hi hj hne hb).acts]
theorem BrMove.length {a b : List Nat} (h : BrMove A n a b) : a.length = b.length := by
  obtain ⟨p, r, i, j, m, -, -, -, -, -, rfl, rfl⟩ := h
  simp [alt_length]
theorem BrMove.lt {a b : List Nat} (h : BrMove A n a b) (ha : ∀ x ∈ a, x < n) : ∀ x ∈ b, x < n := by
  obtain ⟨p, r, i, j, m, hi, hj, -, -, -, rfl, rfl⟩ := h
  intro x hx
  simp only [List.mem_append] at hx ha
  rcases hx with (hx | hx) | hx
  · exact ha x (.inl (.inl hx))
  · rcases alt_mem _ hx with e | e <;> omega
  · exact ha x (.inr hx)
theorem BrMove.red (hC : Car A n) (hd : Strict n d) {a b : List Nat} (h : BrMove A n a b) (ha : Red A n d a) : Red A n d b := by
  refine red_of_len hC hd (h.lt ha.lt) (W := a) ?_ (by rw [h.length]; exact Nat.le_refl _)
  rw [← h.act hC]; exact ha
theorem red_any (hA : Car A n) (hB : Car B n) (hm : ∀ a b, BrMove B n a b → BrMove A n a b) (hd : Strict n d) (hd' : Strict n d') : ∀ {y : List Nat}, Red A n d y → Red B n d' y
  | [], _ => Red.nil
  | i :: y, h => by
    obtain ⟨hi, hp, hy⟩ := h.parts hA
    have hyB := red_any hA hB hm hd hd' hy
    rcases Int.lt_trichotomy (act B y d' i) 0 with g | g | g
    · obtain ⟨l', g1, -, -⟩ := Plays.first hB hd'.dom hyB hi g
      have hj := matsumoto hB hd'.dom _ _ _ _ hyB g1 rfl
      obtain ⟨k1, k2⟩ := hj (fun z => Red A n d z ∧ ∀ u, act A z u = act A y u) ⟨hy, fun _ => rfl⟩ (fun a b ha hab => ⟨(hm a b hab).red hA hd ha.1, fun u => ((hm a b hab).act hA u).symm.trans (ha.2 u)⟩)
      have k3 := (Plays.cons.1 k1).2.1
      rw [k2] at k3
      omega
    · exact absurd g (hyB.ne hB hd' hi)
    · exact hyB.cons hB hi g
def tr (A : Mat) : Mat := fun i j => A j i
theorem car_tr (hC : Car A n) : Car (tr A) n where
  two := hC.two
  off i j hi hj hne := ⟨(hC.off j i hj hi (Ne.symm hne)).1, (hC.off j i hj hi (Ne.symm hne)).2.1, (hC.off j i hj hi (Ne.symm hne)).2.2⟩
theorem BrMove.tr {a b : List Nat} (h : BrMove (tr A) n a b) : BrMove A n a b := by
  obtain ⟨p, r, i, j, m, hi, hj, hne, hb, hm, e1, e2⟩ := h
  exact ⟨p, r, i, j, m, hi, hj, hne, by rw [← hb]; show bondP (A i j * A j i) = bondP (A j i * A i j); rw [Int.mul_comm], hm, e1, e2⟩
theorem alt_last (i j : Nat) : ∀ m, (alt i j (m + 1)).eraseIdx m = alt i j m := by
  intro m
  induction m generalizing i j with
  | zero => rfl
  | succ m ih =>
    show (i :: alt j i (m + 1)).eraseIdx (m + 1) = i :: alt j i m
    rw [List.eraseIdx_cons_succ, ih]
theorem alt_fold (hC : Car A n) (u : Vec) : ∀ (t m i j : Nat), i < n → j < n → t ≤ m → act A ((alt i j (m + 3)).eraseIdx (t + 1)) u = act A ((alt i j (m + 1)).eraseIdx t) u
  | 0, m, i, j, hi, hj, _ => by
    show act A ((i :: j :: i :: alt j i m).eraseIdx 1) u = act A ((i :: alt j i m).eraseIdx 0) u
    show s A i (s A i (act A (alt j i m) u)) = act A (alt j i m) u
    exact s_s hC hi _
  | t + 1, m, i, j, hi, hj, h => by
    obtain ⟨m', rfl⟩ : ∃ m', m = m' + 1 := ⟨m - 1, by omega⟩
    show act A ((i :: alt j i (m' + 3)).eraseIdx (t + 2)) u = act A ((i :: alt j i (m' + 1)).eraseIdx (t + 1)) u
    rw [List.eraseIdx_cons_succ, List.eraseIdx_cons_succ]
    show s A i (act A _ u) = s A i (act A _ u)
    rw [alt_fold hC u t m' j i hj hi (by omega)]
theorem alt_del (hC : Car A n) (u : Vec) : ∀ (m t i j : Nat), i < n → j < n → t ≤ m → act A ((alt i j (m + 1)).eraseIdx t) u = act A ((alt j i (m + 1)).eraseIdx (m - t)) u
  | 0, t, i, j, _, _, h => by
    obtain rfl : t = 0 := by omega
    rfl
  | 1, t, i, j, _, _, h => by
    rcases (show t = 0 ∨ t = 1 by omega) with rfl | rfl <;> rfl
  | m + 2, t, i, j, hi, hj, h => by
    by_cases h0 : t = 0
    · subst h0
      show act A (alt j i (m + 2)) u = _
      rw [show m + 2 - 0 = m + 2 from rfl, alt_last]
    · by_cases h2 : t = m + 2
      · subst h2
        rw [alt_last, Nat.sub_self]
        rfl
      · obtain ⟨t', rfl⟩ : ∃ t', t = t' + 1 := ⟨t - 1, by omega⟩
        rw [alt_fold hC u t' m i j hi hj (by omega), show m + 2 - (t' + 1) = (m - t') + 1 by omega, alt_fold hC u (m - t') m j i hj hi (by omega), alt_del hC u m t' i j hi hj (by omega)]
def Drops (A : Mat) (f : Vec → Vec) (y : List Nat) : Prop := ∃ k, k < y.length ∧ ∀ u, act A (y.eraseIdx k) u = f u
theorem erase_in {p X : List Nat} {k : Nat} (h : k < p.length) : (p ++ X).eraseIdx k = p.eraseIdx k ++ X := List.eraseIdx_append_of_lt_length h X
theorem erase_out (p X : List Nat) (t : Nat) : (p ++ X).eraseIdx (p.length + t) = p ++ X.eraseIdx t := by
  rw [List.eraseIdx_append_of_length_le (by omega), Nat.add_sub_cancel_left]
theorem Drops.move (hC : Car A n) {f : Vec → Vec} {a b : List Nat} (h : BrMove A n a b) (ha : Drops A f a) : Drops A f b := by
  obtain ⟨p, r, i, j, m, hi, hj, hne, hb, -, rfl, rfl⟩ := h
  obtain ⟨k, hk, he⟩ := ha
  have hac := (BrMove.meet hC hi hj hne hb).acts
  simp only [List.length_append, alt_length] at hk
  simp only [List.append_assoc] at he ⊢
  by_cases h1 : k < p.length
  · refine ⟨k, by simp [alt_length]; omega, fun u => ?_⟩
    have := he u
    rw [erase_in h1, act_append, act_append] at this
    rw [erase_in h1, act_append, act_append, ← hac]
    exact this
  · obtain ⟨t, rfl⟩ : ∃ t, k = p.length + t := ⟨k - p.length, by omega⟩
    by_cases h2 : t < m + 1
    · refine ⟨p.length + (m - t), by simp [alt_length]; omega, fun u => ?_⟩
      have := he u
      rw [erase_out, erase_in (by rw [alt_length]; exact h2), act_append, act_append, alt_del hC _ m t i j hi hj (by omega)] at this
      rw [erase_out, erase_in (by rw [alt_length]; omega), act_append, act_append]
      exact this
    · obtain ⟨t', rfl⟩ : ∃ t', t = (m + 1) + t' := ⟨t - (m + 1), by omega⟩
      refine ⟨p.length + ((m + 1) + t'), by simp [alt_length]; omega, fun u => ?_⟩
      have := he u
      have e1 := erase_out (alt i j (m + 1)) r t'
      have e2 := erase_out (alt j i (m + 1)) r t'
      rw [alt_length] at e1 e2
      rw [erase_out, e1, act_append, act_append] at this
      rw [erase_out, e2, act_append, act_append, ← hac]
      exact this
theorem exchange (hC : Car A n) (hd : Strict n d) {y : List Nat} (hy : Red A n d y) {i : Nat} (hi : i < n) (hneg : act A y d i < 0) : ∃ k, k < y.length ∧ ∀ u, act A (y.eraseIdx k) u = act A (i :: y) u := by
  obtain ⟨l', h1, -, h3⟩ := Plays.first hC hd.dom hy hi hneg
  have hj := matsumoto hC hd.dom _ _ _ _ h1 hy rfl
  refine hj (Drops A (fun u => act A (i :: y) u)) ⟨0, by simp, fun u => ?_⟩ (fun a b ha hab => Drops.move hC hab ha)
  show act A l' u = s A i (act A y u)
  rw [h3]
  exact (s_s hC hi _).symm
theorem deletion (hC : Car A n) (hd : Strict n d) : ∀ {w : List Nat}, (∀ i ∈ w, i < n) → ¬ Red A n d w → ∃ a b, a < b ∧ b < w.length ∧ ∀ u, act A ((w.eraseIdx b).eraseIdx a) u = act A w u
  | [], _, h => absurd Red.nil h
  | i :: y, hw, h => by
    have hi := hw i (by simp)
    have hy : ∀ j ∈ y, j < n := fun j hj => hw j (List.mem_cons_of_mem _ hj)
    by_cases hr : Red A n d y
    · have hneg : act A y d i < 0 := by
        rcases Int.lt_trichotomy (act A y d i) 0 with g | g | g
        · exact g
        · exact absurd g (hr.ne hC hd hi)
        · exact absurd (hr.cons hC hi g) h
      obtain ⟨k, hk, he⟩ := exchange hC hd hr hi hneg
      exact ⟨0, k + 1, by omega, by simp; omega, fun u => he u⟩
    · obtain ⟨a, b, hab, hb, he⟩ := deletion hC hd hy hr
      refine ⟨a + 1, b + 1, by omega, by simp; omega, fun u => ?_⟩
      rw [List.eraseIdx_cons_succ, List.eraseIdx_cons_succ]
      show s A i (act A _ u) = s A i (act A y u)
      rw [he]
def sm (f : Nat → Int) : Nat → Int
  | 0 => 0
  | k + 1 => sm f k + f k
theorem sm_congr {f g : Nat → Int} : ∀ {k : Nat}, (∀ j, j < k → f j = g j) → sm f k = sm g k
  | 0, _ => rfl
  | k + 1, h => by unfold sm; rw [sm_congr (fun j hj => h j (by omega)), h k (by omega)]
theorem sm_lin (f g : Nat → Int) (x : Int) : ∀ k, sm (fun j => f j - x * g j) k = sm f k - x * sm g k
  | 0 => by simp [sm]
  | k + 1 => by
    unfold sm
    rw [sm_lin f g x k, Int.mul_add]
    omega
theorem sm_one (f : Nat → Int) (i : Nat) (x : Int) : ∀ k, sm (fun j => f j + (if j = i then x else 0)) k = sm f k + if i < k then x else 0
  | 0 => by simp [sm]
  | k + 1 => by
    unfold sm
    rw [sm_one f i x k]
    by_cases h : i < k
    · rw [if_pos h, if_neg (show ¬ k = i by omega), if_pos (show i < k + 1 by omega)]; omega
    · rw [if_neg h]
      by_cases e : k = i
      · rw [if_pos e, if_pos (show i < k + 1 by omega)]; omega
      · rw [if_neg e, if_neg (show ¬ i < k + 1 by omega)]; omega
theorem sm_zero : ∀ k, sm (fun _ => 0) k = 0
  | 0 => rfl
  | k + 1 => by unfold sm; rw [sm_zero k]; rfl
def prs (n : Nat) (v r : Vec) : Int := sm (fun k => v k * r k) n
def mir (A : Mat) (n i : Nat) (r : Vec) : Vec := fun k => r k - if k = i then sm (fun j => A i j * r j) n else 0
theorem prs_mir {i : Nat} (hi : i < n) (v r : Vec) : prs n v (mir A n i r) = prs n (s (tr A) i v) r := by
  have e1 : prs n (s (tr A) i v) r = prs n v r - v i * sm (fun j => A i j * r j) n := by
    unfold prs
    rw [← sm_lin]
    refine sm_congr fun k _ => ?_
    show (v k - v i * A i k) * r k = v k * r k - v i * (A i k * r k)
    rw [Int.sub_mul, Int.mul_assoc]
  have e2 : prs n v (mir A n i r) = prs n v r - v i * sm (fun j => A i j * r j) n := by
    unfold prs
    have := sm_one (fun k => v k * r k) i (-(v i * sm (fun j => A i j * r j) n)) n
    rw [if_pos hi] at this
    rw [Int.sub_eq_add_neg, ← this]
    refine sm_congr fun k _ => ?_
    show v k * (r k - if k = i then sm (fun j => A i j * r j) n else 0) = v k * r k + if k = i then -(v i * sm (fun j => A i j * r j) n) else 0
    by_cases e : k = i
    · subst e
      rw [if_pos rfl, if_pos rfl, Int.mul_sub]; omega
    · rw [if_neg e, if_neg e, Int.sub_zero, Int.add_zero]
  rw [e1, e2]
def eV (i : Nat) : Vec := fun k => if k = i then 1 else 0
theorem prs_eV {i : Nat} (hi : i < n) (v : Vec) : prs n v (eV i) = v i := by
  unfold prs
  have := sm_one (fun _ => 0) i (v i) n
  rw [if_pos hi] at this
  rw [sm_zero, Int.zero_add] at this
  rw [← this]
  refine sm_congr fun k _ => ?_
  show v k * (if k = i then 1 else 0) = 0 + if k = i then v i else 0
  by_cases e : k = i
  · subst e; simp
  · rw [if_neg e, if_neg e]; simp
def mirs (A : Mat) (n : Nat) : List Nat → Vec → Vec
  | [], r => r
  | i :: l, r => mir A n i (mirs A n l r)
theorem prs_mirs : ∀ {l : List Nat}, (∀ i ∈ l, i < n) → ∀ v r, prs n v (mirs A n l r) = prs n (act (tr A) l.reverse v) r
  | [], _, _, _ => rfl
  | i :: l, h, v, r => by
    rw [List.reverse_cons, act_append]
    show prs n v (mir A n i (mirs A n l r)) = prs n (act (tr A) l.reverse (s (tr A) i v)) r
    rw [prs_mir (h i (by simp)), prs_mirs (fun j hj => h j (List.mem_cons_of_mem _ hj))]
theorem root_pos (hC : Car A n) (hd : Strict n d) {p : List Nat} {b : Nat} (h : Red A n d (p ++ [b])) {d' : Vec} (hd' : Strict n d') : 0 < prs n d' (mirs A n p (eV b)) := by
  have h1 := red_rev hC hd h
  rw [List.reverse_append] at h1
  have h2 : Red (tr A) n d' (b :: p.reverse) := red_any hC (car_tr hC) (fun a b hab => hab.tr) hd hd' h1
  obtain ⟨hb, hp, hr⟩ := h2.parts (car_tr hC)
  rw [prs_mirs (fun i hi => hr.lt i (List.mem_reverse.2 hi)), prs_eV hb]
  exact hp
theorem sm_le {f g : Nat → Int} : ∀ {k : Nat}, (∀ j, j < k → f j ≤ g j) → sm f k ≤ sm g k
  | 0, _ => Int.le_refl _
  | k + 1, h => by unfold sm; have := sm_le (k := k) (fun j hj => h j (by omega)); have := h k (by omega); omega
theorem pos_of_all {r : Vec} (h : ∀ d' : Vec, Strict n d' → 0 < prs n d' r) : (∀ k, k < n → 0 ≤ r k) ∧ ∃ k, k < n ∧ 0 < r k := by
  have h0 : ∀ k, k < n → 0 ≤ r k := fun k hk => by
    by_cases hr : 0 ≤ r k
    · exact hr
    · exfalso
      let S := sm (fun j => if 0 ≤ r j then r j else 0) n
      have hS : 0 ≤ S := by
        have := sm_le (f := fun _ => 0) (g := fun j => if 0 ≤ r j then r j else 0) (k := n) (fun j _ => by split <;> omega)
        rw [sm_zero] at this
        omega
      have hp := h (fun j => 1 + if j = k then S else 0) (fun j _ => by show 0 < 1 + (if j = k then S else 0); split <;> omega)
      have e : prs n (fun j => 1 + if j = k then S else 0) r = sm r n + S * r k := by
        have := sm_one r k (S * r k) n
        rw [if_pos hk] at this
        rw [← this]
        refine sm_congr fun j _ => ?_
        show (1 + if j = k then S else 0) * r j = r j + if j = k then S * r k else 0
        by_cases e : j = k
        · subst e; rw [if_pos rfl, if_pos rfl, Int.add_mul, Int.one_mul]
        · rw [if_neg e, if_neg e, Int.add_zero, Int.add_zero, Int.one_mul]
      rw [e] at hp
      have h1 : sm r n ≤ S := sm_le fun j _ => by split <;> omega
      have h2 : S * r k ≤ S * (-1) := Int.mul_le_mul_of_nonneg_left (by omega) hS
      omega
  refine ⟨h0, ?_⟩
  by_cases hx : ∃ k, k < n ∧ 0 < r k
  · exact hx
  · exfalso
    have hp := h (fun _ => 1) (fun _ _ => Int.zero_lt_one)
    have : prs n (fun _ => 1) r ≤ sm (fun _ => 0) n := sm_le fun j hj => by
      have : ¬ 0 < r j := fun q => hx ⟨j, hj, q⟩
      show 1 * r j ≤ 0
      omega
    rw [sm_zero] at this
    omega
theorem mir_mir (hC : Car A n) {i : Nat} (hi : i < n) (r : Vec) : ∀ k, k < n → mir A n i (mir A n i r) k = r k := fun k hk => by
  have e : sm (fun j => A i j * mir A n i r j) n = - sm (fun j => A i j * r j) n := by
    have := prs_mir (A := A) hi (fun j => A i j) r
    unfold prs at this
    rw [this]
    have e2 : sm (fun k => s (tr A) i (fun j => A i j) k * r k) n = sm (fun j => A i j * r j - 2 * (A i j * r j)) n := sm_congr fun k _ => by
      show (A i k - A i i * A i k) * r k = _
      rw [hC.two i hi, Int.sub_mul, Int.mul_assoc]
    rw [e2, sm_lin]
    omega
  show mir A n i r k - (if k = i then sm (fun j => A i j * mir A n i r j) n else 0) = r k
  rw [e]
  show r k - (if k = i then sm (fun j => A i j * r j) n else 0) - (if k = i then -sm (fun j => A i j * r j) n else 0) = r k
  split <;> omega
theorem mir_congr {i : Nat} {r r' : Vec} (h : ∀ k, k < n → r k = r' k) : ∀ k, k < n → mir A n i r k = mir A n i r' k := fun k hk => by
  unfold mir
  rw [h k hk, sm_congr (k := n) (fun j hj => by rw [h j hj])]
theorem mirs_inj (hC : Car A n) : ∀ {l : List Nat}, (∀ i ∈ l, i < n) → ∀ {r r' : Vec}, (∀ k, k < n → mirs A n l r k = mirs A n l r' k) → ∀ k, k < n → r k = r' k
  | [], _, _, _, h => h
  | i :: l, hl, r, r', h => mirs_inj hC (fun j hj => hl j (List.mem_cons_of_mem _ hj)) fun k hk => by
    have := mir_congr (A := A) (i := i) h k hk
    rwa [show mirs A n (i :: l) r = mir A n i (mirs A n l r) from rfl, show mirs A n (i :: l) r' = mir A n i (mirs A n l r') from rfl, mir_mir hC (hl i (by simp)) _ k hk, mir_mir hC (hl i (by simp)) _ k hk] at this
theorem mirs_append (l1 l2 : List Nat) (r : Vec) : mirs A n (l1 ++ l2) r = mirs A n l1 (mirs A n l2 r) := by
  induction l1 with
  | nil => rfl
  | cons i l ih => simp only [List.cons_append, mirs, ih]
theorem prs_congr {v r r' : Vec} (h : ∀ k, k < n → r k = r' k) : prs n v r = prs n v r' := sm_congr fun k hk => by rw [h k hk]
theorem Red.init (hC : Car A n) (hd : Strict n d) {p q : List Nat} (h : Red A n d (p ++ q)) : Red A n d p := by
  have h1 := red_rev hC hd h
  rw [List.reverse_append] at h1
  have h2 := red_rev hC hd (h1.drop hC)
  rwa [List.reverse_reverse] at h2
theorem roots_ne (hC : Car A n) (hd : Strict n d) {p q : List Nat} {a b : Nat} (h : Red A n d (p ++ a :: q ++ [b])) : ¬ ∀ k, k < n → mirs A n (p ++ a :: q) (eV b) k = mirs A n p (eV a) k := fun he => by
  have hlt := h.lt
  have ha : a < n := hlt a (by simp)
  rw [mirs_append] at he
  have h1 := mirs_inj hC (fun i hi => hlt i (by simp [hi])) he
  have h2 := mir_congr (A := A) (i := a) h1
  have hq : Red A n d (q ++ [b]) := by
    have h3 : Red A n d (p ++ ([a] ++ (q ++ [b]))) := by simpa using h
    exact (h3.drop hC).drop hC
  have hpos := root_pos hC hd hq hd
  have e1 : ∀ k, k < n → mirs A n q (eV b) k = mir A n a (eV a) k := fun k hk => by
    rw [← h2 k hk]
    exact (mir_mir hC ha _ k hk).symm
  rw [prs_congr e1, prs_mir ha, prs_eV ha] at hpos
  have : s (tr A) a d a = - d a := by show d a - d a * A a a = _; rw [hC.two a ha]; omega
  rw [this] at hpos
  have := hd a ha
  omega
end Game
end Go.Proofs.YtkjglfafphffiaaGreatDoor
namespace Go.Proofs.YtkjglfafphffiaaGreatDoor
set_option maxRecDepth 100000
open Go.RowKit Game
namespace Game
variable {A : Mat} {n : Nat} {d : Vec}
def BelW (A : Mat) (d : Vec) (v : Vec) (y : List Nat) : Prop := ∃ z : List Nat, z.Sublist y ∧ act A z d = v
theorem sub_red (hC : Car A n) (hd : Strict n d) : ∀ (k : Nat) (z : List Nat), z.length ≤ k → (∀ i ∈ z, i < n) → ∃ z', z'.Sublist z ∧ Red A n d z' ∧ act A z' d = act A z d
  | 0, z, hk, _ => by
    obtain rfl : z = [] := List.length_eq_zero_iff.1 (by omega)
    exact ⟨[], List.Sublist.refl _, Red.nil, rfl⟩
  | k + 1, z, hk, hz => by
    by_cases hr : Red A n d z
    · exact ⟨z, List.Sublist.refl _, hr, rfl⟩
    · obtain ⟨a, b, hab, hb, hact⟩ := deletion hC hd hz hr
      have hs : ((z.eraseIdx b).eraseIdx a).Sublist z := (List.eraseIdx_sublist _ _).trans (List.eraseIdx_sublist _ _)
      obtain ⟨z', h1, h2, h3⟩ := sub_red hC hd k ((z.eraseIdx b).eraseIdx a) (by rw [List.length_eraseIdx, List.length_eraseIdx]; split <;> split <;> omega) (fun i hi => hz i (hs.subset hi))
      exact ⟨z', h1.trans hs, h2, h3.trans (hact d)⟩
theorem BelW.red (hC : Car A n) (hd : Strict n d) {v : Vec} {y : List Nat} (hy : ∀ i ∈ y, i < n) (h : BelW A d v y) : ∃ z, z.Sublist y ∧ Red A n d z ∧ act A z d = v := by
  obtain ⟨z, h1, h2⟩ := h
  obtain ⟨z', k1, k2, k3⟩ := sub_red hC hd z.length z (Nat.le_refl _) (fun i hi => hy i (h1.subset hi))
  exact ⟨z', k1.trans h1, k2, k3.trans h2⟩
theorem BelW.down (hC : Car A n) (hd : Strict n d) {v : Vec} {y : List Nat} (hy : ∀ i ∈ y, i < n) (h : BelW A d v y) {i : Nat} (hi : i < n) (hneg : v i < 0) : BelW A d (s A i v) y := by
  obtain ⟨z, h1, h2, h3⟩ := h.red hC hd hy
  obtain ⟨k, -, hk⟩ := exchange hC hd h2 hi (by rw [h3]; exact hneg)
  refine ⟨z.eraseIdx k, (List.eraseIdx_sublist _ _).trans h1, ?_⟩
  rw [hk d]
  show s A i (act A z d) = _
  rw [h3]
theorem s_at (hC : Car A n) {i : Nat} (hi : i < n) (v : Vec) : s A i v i = - v i := by
  have h := hC.1 i hi
  unfold s
  rw [h]; omega
theorem bel_neg (hC : Car A n) (hd : Strict n d) {v : Vec} {t : Nat} {y : List Nat} (ht : t < n) (hy : ∀ i ∈ y, i < n) (hneg : v t < 0) : BelW A d v (t :: y) ↔ BelW A d (s A t v) y := by
  constructor
  · rintro ⟨z, h1, h2⟩
    cases h1 with
    | cons _ h => exact BelW.down hC hd hy ⟨z, h, h2⟩ ht hneg
    | cons_cons _ h =>
      refine ⟨_, h, ?_⟩
      rw [← h2]
      exact (s_s hC ht _).symm
  · rintro ⟨z, h1, h2⟩
    exact ⟨t :: z, h1.cons_cons t, by show s A t (act A z d) = v; rw [h2]; exact s_s hC ht v⟩
theorem bel_pos (hC : Car A n) (hd : Strict n d) {v : Vec} {t : Nat} {y : List Nat} (ht : t < n) (hy : ∀ i ∈ y, i < n) (hpos : 0 < v t) : BelW A d v (t :: y) ↔ BelW A d v y := by
  constructor
  · rintro ⟨z, h1, h2⟩
    cases h1 with
    | cons _ h => exact ⟨z, h, h2⟩
    | cons_cons _ h =>
      rename_i z1
      have h3 : act A z1 d = s A t v := by rw [← h2]; exact (s_s hC ht _).symm
      have h4 := BelW.down hC hd hy ⟨z1, h, h3⟩ ht (by rw [s_at hC ht]; omega)
      rw [s_s hC ht] at h4
      exact h4
  · rintro ⟨z, h1, h2⟩
    exact ⟨z, h1.cons t, h2⟩
end Game
theorem imI_act {c : List (List Int)} {m : Nat} {v : List Int} (h : Lets c m v) (hm : m ≤ 30) : toV (imI c v) = act (ent c) (v.map Int.toNat) (toV (onesL c.length)) := by
  have := toV_image h.isC h.nats_lt (by rw [List.length_map]; have := h.few; omega)
  rwa [h.nats] at this
theorem lets_cons {c : List (List Int)} {m : Nat} {v : List Int} (h : Lets c m v) {i : Nat} (hi : i < c.length) : Lets c (m + 1) ((i : Int) :: v) :=
  lets_of h.isC (by rw [List.length_cons]; have := h.few; omega) fun x hx => by
    rcases List.mem_cons.1 hx with g | g
    · subst g; omega
    · exact h.mem x g
theorem imI_s {c : List (List Int)} {m : Nat} {v : List Int} (h : Lets c m v) (hm : m ≤ 29) {i : Nat} (hi : i < c.length) : toV (imI c ((i : Int) :: v)) = s (ent c) i (toV (imI c v)) := by
  rw [imI_act (lets_cons h hi) (by omega), imI_act h (by omega), List.map_cons, Int.toNat_natCast]; rfl
theorem ones_strict (n : Nat) : Strict n (toV (onesL n)) := ones_pos n
def BelV (c : List (List Int)) (U V : List Int) : Prop := BelW (ent c) (toV (onesL c.length)) (toV (imI c U)) (V.map Int.toNat)
theorem BelV.img {c : List (List Int)} {U U' V : List Int} (h : imI c U = imI c U') : BelV c U V ↔ BelV c U' V := by unfold BelV; rw [h]
theorem belV_neg {c : List (List Int)} {m : Nat} {U V : List Int} (hU : Lets c m U) (hm : m ≤ 29) (hV : Lets c 15 V) {t : Nat} (ht : t < c.length) (h : (imI c U).getD t 0 < 0) : BelV c U ((t : Int) :: V) ↔ BelV c ((t : Int) :: U) V := by
  unfold BelV
  rw [imI_s hU hm ht, List.map_cons, Int.toNat_natCast]
  exact bel_neg (car_of hU.isC) (ones_strict _) ht hV.nats_lt h
theorem belV_pos {c : List (List Int)} {m : Nat} {U V : List Int} (hU : Lets c m U) (hm : m ≤ 30) (hV : Lets c 15 V) {t : Nat} (ht : t < c.length) (h : ¬ (imI c U).getD t 0 < 0) : BelV c U ((t : Int) :: V) ↔ BelV c U V := by
  unfold BelV
  rw [List.map_cons, Int.toNat_natCast]
  have hn := imI_ne (hU.mono hm) ht
  exact bel_pos (car_of hU.isC) (ones_strict _) ht hV.nats_lt (show 0 < (imI c U).getD t 0 by omega)
theorem belV_nil {c : List (List Int)} {U : List Int} : BelV c U [] ↔ imI c U = onesL c.length := by
  constructor
  · rintro ⟨z, h1, h2⟩
    obtain rfl : z = [] := List.eq_nil_of_sublist_nil h1
    exact toV_inj (by rw [imI_length, onesL_len]) h2.symm
  · intro h
    exact ⟨[], List.Sublist.refl _, by rw [h]; rfl⟩
theorem ones_none (n : Nat) : firstNeg (onesL n) = none := firstNeg_nil fun j hj => by
  rw [onesL_len] at hj
  have := ones_pos n j hj
  exact Int.le_of_lt this
theorem head_tail {c : List (List Int)} {t : Int} {V : List Int} {m : Nat} (hV : Lets c m (t :: V)) : ∃ k : Nat, t = (k : Int) ∧ k < c.length ∧ Lets c m V := by
  have h := hV.mem t (by simp)
  exact ⟨t.toNat, by omega, by omega, lets_of hV.isC (by have := hV.few; rw [List.length_cons] at this; omega) fun x hx => hV.mem x (by simp [hx])⟩
theorem subU_bel {c : List (List Int)} : ∀ (V : List Int) {U : List Int}, Lets c 15 V → Nw c U → (subU c V U = [] ↔ BelV c U V)
  | [], U, _, hU => by
    rw [belV_nil]
    show U = [] ↔ _
    constructor
    · rintro rfl; rfl
    · intro h
      exact hU.none.1 (by rw [h]; exact ones_none _)
  | t :: V, U, hV, hU => by
    obtain ⟨k, rfl, hk, hV1⟩ := head_tail hV
    show subU c V (subN c U (k : Int)) = [] ↔ _
    by_cases hn : (imI c U).getD k 0 < 0
    · rw [subN_neg hn, belV_neg hU.lets (by decide) hV1 hk hn, subU_bel V hV1 (hU.down hk hn)]
      exact BelV.img (by rw [hU.img hk]; rfl)
    · rw [subN_pos hn, belV_pos hU.lets (by decide) hV1 hk hn, subU_bel V hV1 hU]
end Go.Proofs.YtkjglfafphffiaaGreatDoor
namespace Go.Proofs.YtkjglfafphffiaaGreatDoor
set_option maxRecDepth 100000
open Go.RowKit Game
namespace Game
variable {A : Mat} {n : Nat} {d : Vec}
theorem alt_le (i j : Nat) : ∀ {k m : Nat}, k ≤ m → (alt i j k).Sublist (alt i j m) := by
  intro k m h
  induction m generalizing k i j with
  | zero => obtain rfl : k = 0 := by omega
            exact List.Sublist.refl _
  | succ m ih =>
    cases k with
    | zero => exact List.nil_sublist _
    | succ k => exact (ih j i (by omega)).cons_cons i
theorem alt_part (hC : Car A n) : ∀ (m i j : Nat) (z : List Nat), i < n → j < n → z.Sublist (alt i j m) →
    ∃ k, k ≤ m ∧ (k = m → z = alt i j m) ∧ ((∀ u, act A z u = act A (alt i j k) u) ∨ (∀ u, act A z u = act A (alt j i k) u))
  | 0, i, j, z, _, _, h => by
    obtain rfl : z = [] := List.eq_nil_of_sublist_nil h
    exact ⟨0, Nat.le_refl _, fun _ => rfl, .inl fun _ => rfl⟩
  | m + 1, i, j, z, hi, hj, h => by
    cases h with
    | cons _ h =>
      obtain ⟨k, h1, -, h3⟩ := alt_part hC m j i z hj hi h
      exact ⟨k, by omega, fun e => by omega, h3.symm⟩
    | cons_cons _ h =>
      rename_i z1
      obtain ⟨k, h1, h2, h3⟩ := alt_part hC m j i z1 hj hi h
      rcases h3 with h3 | h3
      · refine ⟨k + 1, by omega, fun e => by rw [h2 (by omega)]; rfl, .inl fun u => ?_⟩
        show Game.s A i (act A z1 u) = Game.s A i (act A (alt j i k) u)
        rw [h3]
      · by_cases hk : k = m
        · refine ⟨k + 1, by omega, fun e => by rw [h2 hk]; rfl, .inl fun u => ?_⟩
          rw [h2 hk, hk]; rfl
        · cases k with
          | zero =>
            refine ⟨1, by omega, fun e => by omega, .inl fun u => ?_⟩
            show Game.s A i (act A z1 u) = Game.s A i u
            rw [h3]; rfl
          | succ k =>
            refine ⟨k, by omega, fun e => by omega, .inr fun u => ?_⟩
            show Game.s A i (act A z1 u) = act A (alt j i k) u
            rw [h3]
            exact s_s hC hi _
theorem alt_other (hC : Car A n) {i j m : Nat} (hi : i < n) (hj : j < n) (hac : ∀ u, act A (alt i j (m + 1)) u = act A (alt j i (m + 1)) u) {z : List Nat} (h : z.Sublist (alt i j (m + 1))) :
    ∃ z2, z2.Sublist (alt j i (m + 1)) ∧ ∀ u, act A z2 u = act A z u := by
  obtain ⟨k, h1, h2, h3⟩ := alt_part hC (m + 1) i j z hi hj h
  by_cases hk : k = m + 1
  · exact ⟨alt j i (m + 1), List.Sublist.refl _, fun u => by rw [h2 hk, hac]⟩
  · rcases h3 with h3 | h3
    · exact ⟨alt i j k, (alt_le i j (show k ≤ m by omega)).cons j, fun u => (h3 u).symm⟩
    · exact ⟨alt j i k, alt_le j i h1, fun u => (h3 u).symm⟩
theorem BelW.move (hC : Car A n) {v : Vec} {a b : List Nat} (hm : BrMove A n a b) (h : BelW A d v a) : BelW A d v b := by
  obtain ⟨p, r, i, j, m, hi, hj, hne, hb, -, rfl, rfl⟩ := hm
  have hac := (BrMove.meet hC hi hj hne hb).acts
  obtain ⟨z, hz, he⟩ := h
  obtain ⟨z12, z3, rfl, h12, h3⟩ := List.sublist_append_iff.1 hz
  obtain ⟨z1, z2, rfl, h1, h2⟩ := List.sublist_append_iff.1 h12
  obtain ⟨z2', k1, k2⟩ := alt_other hC hi hj hac h2
  refine ⟨z1 ++ z2' ++ z3, (h1.append k1).append h3, ?_⟩
  rw [← he, act_append, act_append, act_append, act_append, k2]
theorem BelW.joined (hC : Car A n) {v : Vec} {a b : List Nat} (hj : Joined A n a b) (h : BelW A d v a) : BelW A d v b :=
  hj (BelW A d v) h fun _ _ h1 h2 => h1.move hC h2
theorem BelW.other (hC : Car A n) (hd : Strict n d) {v : Vec} {a b : List Nat} (ha : Red A n d a) (hb : Red A n d b) (he : act A a d = act A b d) (h : BelW A d v a) : BelW A d v b := by
  unfold Red at ha hb
  rw [he] at ha
  exact h.joined hC (matsumoto hC hd.dom _ _ _ _ ha hb rfl)
end Game
theorem Nw.red {c : List (List Int)} {V : List Int} (h : Nw c V) : Red (ent c) c.length (toV (onesL c.length)) (V.map Int.toNat) := by
  have := RedOf.plays (c := c) (U := V) (y := V) ⟨h.lets.word, h.self, rfl⟩
  rw [imI_act h.lets (by decide)] at this
  exact this
theorem Nw.of_img {c : List (List Int)} {V x : List Int} (h : Nw c V) (he : imI c x = imI c V) : nfI c x = V := by
  rw [nfI_img he, h.self]
theorem refl_back {c : List (List Int)} {V : List Int} (h : Lets c 28 V) {i : Nat} (hi : i < c.length) : refl c i (refl c i (imI c V)) = imI c V := imI_back h hi
theorem imI_flip {c : List (List Int)} {v : List Int} (h : Lets c 28 v) {i : Nat} (hi : i < c.length) : (refl c i (imI c v)).getD i 0 = - (imI c v).getD i 0 := imI_self h hi
theorem belV_step {c : List (List Int)} {U V : List Int} (hU : Nw c U) (hV : Nw c V) {s : Nat} (hs : s < c.length) (hneg : (imI c V).getD s 0 < 0) (h : BelV c U V) : BelV c (subN c U (s : Int)) (nfI c ((s : Int) :: V)) := by
  have hC := car_of hV.lets.isC
  have hV1 := hV.down hs hneg
  have himg := hV.img hs
  have hp : 0 < act (ent c) ((nfI c ((s : Int) :: V)).map Int.toNat) (toV (onesL c.length)) s := by
    rw [← imI_act hV1.lets (by decide), himg]
    show 0 < (refl c s (imI c V)).getD s 0
    rw [imI_flip (hV.lets.mono (by decide)) hs]; omega
  have hr := Red.cons hC hs hV1.red hp
  have he : act (ent c) (V.map Int.toNat) (toV (onesL c.length)) = act (ent c) (s :: (nfI c ((s : Int) :: V)).map Int.toNat) (toV (onesL c.length)) := by
    show _ = Game.s (ent c) s (act (ent c) ((nfI c ((s : Int) :: V)).map Int.toNat) (toV (onesL c.length)))
    have h1 := imI_s hV1.lets (by decide) hs
    rw [imI_act hV1.lets (by decide)] at h1
    rw [← h1, imI_cons, himg, refl_back (hV.lets.mono (by decide)) hs, imI_act hV.lets (by decide)]
  have hb : BelV c U ((s : Int) :: nfI c ((s : Int) :: V)) := by
    unfold BelV
    rw [List.map_cons, Int.toNat_natCast]
    exact BelW.other hC (ones_strict _) hV.red hr he h
  by_cases hn : (imI c U).getD s 0 < 0
  · rw [subN_neg hn]
    exact (BelV.img (by rw [hU.img hs]; rfl)).1 ((belV_neg hU.lets (by decide) hV1.lets hs hn).1 hb)
  · rw [subN_pos hn]
    exact (belV_pos hU.lets (by decide) hV1.lets hs hn).1 hb
theorem bel_len {c : List (List Int)} {U V : List Int} (hU : Nw c U) (hV : Nw c V) (h : BelV c U V) : U.length ≤ V.length := by
  have h1 := (subU_bel V hV.lets hU).2 h
  have h2 := subU_len V hV.lets.mem hU
  rw [h1] at h2
  simpa using h2
theorem nb_sound {c : List (List Int)} : ∀ (ps U V : List Int), Nw c U → Nw c V → BelV c U V → nbR (nbGo c ps U V) = false
  | [], U, V, hU, hV, h => by
    have := bel_len hU hV h
    show decide (V.length < U.length) = false
    exact decide_eq_false (by omega)
  | s :: ps, U, V, hU, hV, h => by
    unfold nbGo
    split
    · rename_i hs
      obtain ⟨k, rfl⟩ : ∃ k : Nat, s = k := ⟨s.toNat, by omega⟩
      rw [Int.toNat_natCast] at hs ⊢
      have hk : k < c.length := by omega
      have e : (if (imI c U).getD k 0 < 0 then nfI c ((k : Int) :: U) else U) = subN c U (k : Int) := by unfold subN; rw [Int.toNat_natCast]
      rw [e]
      exact nb_sound ps _ _ (hU.sub (by omega) (by omega)) (hV.down hk hs.2.2) (belV_step hU hV hk hs.2.2 h)
    · rfl
theorem nw_neg {c : List (List Int)} {V : List Int} {s : Int} (h : Nw c (s :: V)) : ∃ k : Nat, s = (k : Int) ∧ k < c.length ∧ (imI c (s :: V)).getD k 0 < 0 ∧ nfI c (s :: s :: V) = V ∧ Nw c V := by
  have hh := h.head
  obtain ⟨k, rfl⟩ : ∃ k : Nat, s = k := ⟨s.toNat, by omega⟩
  obtain ⟨h1, h2, h3⟩ := h.tail
  rw [Int.toNat_natCast] at h1 h2
  exact ⟨k, rfl, by omega, (firstNeg_lt h1).2.1, h3.of_img (by rw [imI_cons]; exact h2.symm), h3⟩
theorem nb_made {c : List (List Int)} : ∀ (V U : List Int), Nw c V → Nw c U → subU c V U ≠ [] → nbR (nbGo c (dropL c V U) U V) = true
  | [], U, _, _, h => by
    show decide (([] : List Int).length < U.length) = true
    refine decide_eq_true ?_
    cases U with
    | nil => exact absurd rfl h
    | cons x U => simp
  | s :: V, U, hV, hU, h => by
    obtain ⟨k, rfl, hk, hn, he, hV1⟩ := nw_neg hV
    unfold dropL
    split
    · unfold nbGo
      rw [if_pos ⟨by omega, by omega, by rw [Int.toNat_natCast]; exact hn⟩, he, Int.toNat_natCast]
      have e : (if (imI c U).getD k 0 < 0 then nfI c ((k : Int) :: U) else U) = subN c U (k : Int) := by unfold subN; rw [Int.toNat_natCast]
      rw [e]
      exact nb_made V _ hV1 (hU.sub (by omega) (by omega)) h
    · rename_i hl
      show decide ((((k : Int) :: V) : List Int).length < U.length) = true
      exact decide_eq_true (by rw [List.length_cons]; omega)
theorem subP_img {c : List (List Int)} : ∀ (V : List Int) (k : Nat) (U : List Int), Nw c U → Lets c 15 V → subU c V U = [] → imI c ((subP c V k U).map fun p => V.getD (p.toNat - k) 0) = imI c U
  | [], k, U, _, _, h => by
    have h : U = [] := h
    rw [h]; rfl
  | s :: V, k, U, hU, hV, h => by
    obtain ⟨t, rfl, ht, hV1⟩ := head_tail hV
    have hge : ∀ p ∈ subP c V (k + 1) (subN c U (t : Int)), ((k + 1 : Nat) : Int) ≤ p := by
      have : ∀ (V : List Int) (k : Nat) (U : List Int), ∀ p ∈ subP c V k U, (k : Int) ≤ p := by
        intro V
        induction V with
        | nil => intro k U p hp; cases hp
        | cons x V ih =>
          intro k U p hp
          unfold subP at hp
          split at hp
          · rcases List.mem_cons.1 hp with e | e
            · omega
            · have := ih _ _ p e; omega
          · have := ih _ _ p hp; omega
      exact this V (k + 1) _
    have hsh : (subP c V (k + 1) (subN c U (t : Int))).map (fun p => ((t : Int) :: V).getD (p.toNat - k) 0) = (subP c V (k + 1) (subN c U (t : Int))).map (fun p => V.getD (p.toNat - (k + 1)) 0) :=
      List.map_congr_left fun p hp => by
        have := hge p hp
        obtain ⟨q, hq⟩ : ∃ q, p.toNat - k = q + 1 := ⟨p.toNat - k - 1, by omega⟩
        rw [hq, show p.toNat - (k + 1) = q by omega]
        simp
    have ih := subP_img V (k + 1) (subN c U (t : Int)) (hU.sub (by omega) (by omega)) hV1 h
    unfold subP
    rw [Int.toNat_natCast]
    split
    · rename_i hn
      rw [List.map_cons, hsh]
      have e0 : ((t : Int) :: V).getD ((k : Int).toNat - k) 0 = (t : Int) := by rw [Int.toNat_natCast, Nat.sub_self]; rfl
      rw [e0, imI_cons, ih, subN_img hU ht hn, refl_back (hU.lets.mono (by decide)) ht]
    · rename_i hn
      rw [hsh, ih, subN_pos hn]
theorem subP_asc {c : List (List Int)} : ∀ (V : List Int) (k : Nat) (U : List Int), (∀ p ∈ subP c V k U, (k : Int) ≤ p ∧ p < ((k + V.length : Nat) : Int)) ∧ (subP c V k U).Pairwise (· < ·)
  | [], _, _ => ⟨(fun p hp => nomatch hp), List.Pairwise.nil⟩
  | s :: V, k, U => by
    obtain ⟨h1, h2⟩ := subP_asc V (k + 1) (subN c U s)
    unfold subP
    split
    · refine ⟨fun p hp => ?_, List.pairwise_cons.2 ⟨fun p hp => ?_, h2⟩⟩
      · rcases List.mem_cons.1 hp with e | e
        · rw [e, List.length_cons]; omega
        · have := h1 p e; rw [List.length_cons]; omega
      · have := h1 p hp; omega
    · exact ⟨fun p hp => by have := h1 p hp; rw [List.length_cons]; omega, h2⟩
end Go.Proofs.YtkjglfafphffiaaGreatDoor
