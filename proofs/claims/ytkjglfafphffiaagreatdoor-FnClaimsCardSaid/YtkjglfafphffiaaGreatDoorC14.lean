/- Game -/
import Derived.Test.YtkjglfafphffiaaGreatDoorC01
import Derived.Test.YtkjglfafphffiaaGreatDoorC13
import Derived.Test.YtkjglfafphffiaaGreatDoorC06
namespace Go.Proofs.YtkjglfafphffiaaGreatDoor
set_option maxRecDepth 100000
namespace Game
set_option linter.unusedSimpArgs false
abbrev Vec := Nat → Int
abbrev Mat := Nat → Nat → Int
structure Car (A : Mat) (n : Nat) : Prop where
  two : ∀ i, i < n → A i i = 2
  off : ∀ i j, i < n → j < n → i ≠ j → -3 ≤ A i j ∧ A i j ≤ 0 ∧ (A i j = 0 ↔ A j i = 0)
def s (A : Mat) (i : Nat) (v : Vec) : Vec := fun k => v k - v i * A k i
def run (A : Mat) : List Nat → Vec → Vec
  | [], v => v
  | i :: l, v => run A l (s A i v)
def act (A : Mat) : List Nat → Vec → Vec
  | [], v => v
  | i :: l, v => s A i (act A l v)
def Legal (A : Mat) (n : Nat) : List Nat → Vec → Prop
  | [], _ => True
  | i :: l, v => i < n ∧ v i < 0 ∧ Legal A n l (s A i v)
def Plays (A : Mat) (n : Nat) (l : List Nat) (v d : Vec) : Prop := Legal A n l v ∧ run A l v = d
def Dom (n : Nat) (d : Vec) : Prop := ∀ i, i < n → 0 ≤ d i
variable {A : Mat} {n : Nat}
theorem Plays.cons {i : Nat} {l : List Nat} {v d : Vec} : Plays A n (i :: l) v d ↔ i < n ∧ v i < 0 ∧ Plays A n l (s A i v) d := by
  unfold Plays
  constructor
  · rintro ⟨⟨h1, h2, h3⟩, h4⟩; exact ⟨h1, h2, h3, h4⟩
  · rintro ⟨h1, h2, h3, h4⟩; exact ⟨⟨h1, h2, h3⟩, h4⟩
theorem run_append (l1 l2 : List Nat) (v : Vec) : run A (l1 ++ l2) v = run A l2 (run A l1 v) := by
  induction l1 generalizing v with
  | nil => rfl
  | cons i l ih => exact ih _
theorem act_append (l1 l2 : List Nat) (v : Vec) : act A (l1 ++ l2) v = act A l1 (act A l2 v) := by
  induction l1 with
  | nil => rfl
  | cons i l ih => simp only [List.cons_append, act, ih]
theorem Legal.append {l1 l2 : List Nat} {v : Vec} (h1 : Legal A n l1 v) (h2 : Legal A n l2 (run A l1 v)) : Legal A n (l1 ++ l2) v := by
  induction l1 generalizing v with
  | nil => exact h2
  | cons i l ih => exact ⟨h1.1, h1.2.1, ih h1.2.2 h2⟩
theorem Plays.append {l1 l2 : List Nat} {v d : Vec} (h1 : Legal A n l1 v) (h2 : Plays A n l2 (run A l1 v) d) : Plays A n (l1 ++ l2) v d :=
  ⟨h1.append h2.1, by rw [run_append]; exact h2.2⟩
theorem s_s (hC : Car A n) {i : Nat} (hi : i < n) (v : Vec) : s A i (s A i v) = v := by
  funext k
  simp only [s, hC.two i hi]
  rw [show v i - v i * 2 = -(v i) by omega, Int.neg_mul]
  omega
theorem act_run (hC : Car A n) : ∀ {l : List Nat} {v : Vec}, (∀ i ∈ l, i < n) → act A l (run A l v) = v := by
  intro l
  induction l with
  | nil => intro v _; rfl
  | cons i l ih =>
    intro v h
    simp only [run, act]
    rw [ih (fun j hj => h j (List.mem_cons_of_mem _ hj)), s_s hC (h i (by simp))]
theorem Legal.lt {l : List Nat} {v : Vec} (h : Legal A n l v) : ∀ i ∈ l, i < n := by
  induction l generalizing v with
  | nil => intro i hi; simp at hi
  | cons i l ih =>
    intro j hj
    rcases List.mem_cons.1 hj with e | e
    · rw [e]; exact h.1
    · exact ih h.2.2 j e
theorem Plays.eq_act (hC : Car A n) {l : List Nat} {v d : Vec} (h : Plays A n l v d) : v = act A l d := by
  rw [← h.2, act_run hC h.1.lt]
def st (A : Mat) (i j : Nat) (v : Vec) (X Y : Int) : Vec := fun k => v k - X * A k i - Y * A k j
theorem st_zero (i j : Nat) (v : Vec) : st A i j v 0 0 = v := by funext k; simp [st]
theorem s_st_i (hC : Car A n) {i j : Nat} (hi : i < n) (v : Vec) (X Y : Int) : s A i (st A i j v X Y) = st A i j v (v i - X - Y * A i j) Y := by
  funext k
  simp only [s, st, hC.two i hi]
  rw [show v i - X * 2 - Y * A i j = (v i - X - Y * A i j) - X by omega]
  generalize v i - X - Y * A i j = z
  rw [Int.sub_mul]; omega
theorem s_st_j (hC : Car A n) {i j : Nat} (hj : j < n) (v : Vec) (X Y : Int) : s A j (st A i j v X Y) = st A i j v X (v j - Y - X * A j i) := by
  funext k
  simp only [s, st, hC.two j hj]
  rw [show v j - X * A j i - Y * 2 = (v j - Y - X * A j i) - Y by omega]
  generalize v j - Y - X * A j i = z
  rw [Int.sub_mul]; omega
theorem st_i (hC : Car A n) {i j : Nat} (hi : i < n) (v : Vec) (X Y : Int) : st A i j v X Y i = v i - X * 2 - Y * A i j := by simp [st, hC.two i hi]
theorem st_j (hC : Car A n) {i j : Nat} (hj : j < n) (v : Vec) (X Y : Int) : st A i j v X Y j = v j - X * A j i - Y * 2 := by simp [st, hC.two j hj]
theorem st_eq {i j : Nat} {v : Vec} {X Y X' Y' : Int} (h1 : X = X') (h2 : Y = Y') : st A i j v X Y = st A i j v X' Y' := by rw [h1, h2]
def alt (i j : Nat) : Nat → List Nat
  | 0 => []
  | m + 1 => i :: alt j i m
theorem alt_length (i j m : Nat) : (alt i j m).length = m := by
  induction m generalizing i j with
  | zero => rfl
  | succ m ih => simp [alt, ih]
structure Meet (A : Mat) (n i j m : Nat) : Prop where
  legal : ∀ v : Vec, v i < 0 → v j < 0 → Legal A n (alt i j (m + 1)) v ∧ Legal A n (alt j i (m + 1)) v
  runs : ∀ v : Vec, run A (alt i j (m + 1)) v = run A (alt j i (m + 1)) v
  acts : ∀ v : Vec, act A (alt i j (m + 1)) v = act A (alt j i (m + 1)) v
theorem meet2 (hC : Car A n) {i j : Nat} (hi : i < n) (hj : j < n) (h1 : A i j = 0) (h2 : A j i = 0) : Meet A n i j 1 := by
  refine ⟨fun v ha hb => ?_, fun v => ?_, fun v => ?_⟩
  all_goals (rw [← st_zero (A := A) i j v])
  all_goals (simp only [alt, Legal, run, act, s_st_i hC hi, s_st_j hC hj, st_i hC hi, st_j hC hj, h1, h2, and_true])
  · omega
  · exact st_eq (by omega) (by omega)
  · exact st_eq (by omega) (by omega)
theorem meet3 (hC : Car A n) {i j : Nat} (hi : i < n) (hj : j < n) (h1 : A i j = -1) (h2 : A j i = -1) : Meet A n i j 2 := by
  refine ⟨fun v ha hb => ?_, fun v => ?_, fun v => ?_⟩
  all_goals (rw [← st_zero (A := A) i j v])
  all_goals (simp only [alt, Legal, run, act, s_st_i hC hi, s_st_j hC hj, st_i hC hi, st_j hC hj, h1, h2, and_true])
  · omega
  · exact st_eq (by omega) (by omega)
  · exact st_eq (by omega) (by omega)
theorem meet4 (hC : Car A n) {i j : Nat} (hi : i < n) (hj : j < n) (h1 : A i j = -1) (h2 : A j i = -2) : Meet A n i j 3 := by
  refine ⟨fun v ha hb => ?_, fun v => ?_, fun v => ?_⟩
  all_goals (rw [← st_zero (A := A) i j v])
  all_goals (simp only [alt, Legal, run, act, s_st_i hC hi, s_st_j hC hj, st_i hC hi, st_j hC hj, h1, h2, and_true])
  · omega
  · exact st_eq (by omega) (by omega)
  · exact st_eq (by omega) (by omega)
theorem meet6 (hC : Car A n) {i j : Nat} (hi : i < n) (hj : j < n) (h1 : A i j = -1) (h2 : A j i = -3) : Meet A n i j 5 := by
  refine ⟨fun v ha hb => ?_, fun v => ?_, fun v => ?_⟩
  all_goals (rw [← st_zero (A := A) i j v])
  all_goals (simp only [alt, Legal, run, act, s_st_i hC hi, s_st_j hC hj, st_i hC hi, st_j hC hj, h1, h2, and_true])
  · omega
  · exact st_eq (by omega) (by omega)
  · exact st_eq (by omega) (by omega)
theorem Meet.symm {i j m : Nat} (h : Meet A n i j m) : Meet A n j i m :=
  ⟨fun v ha hb => (h.legal v hb ha).symm, fun v => (h.runs v).symm, fun v => (h.acts v).symm⟩
theorem meet_or (hC : Car A n) {i j : Nat} (hi : i < n) (hj : j < n) (hne : i ≠ j) : (∃ m, Meet A n i j m) ∨ (A i j ≤ -2 ∧ A j i ≤ -2) := by
  have h1 := hC.off i j hi hj hne
  have h2 := hC.off j i hj hi (Ne.symm hne)
  by_cases z : A i j = 0
  · exact .inl ⟨1, meet2 hC hi hj z (h1.2.2.1 z)⟩
  by_cases z2 : A j i = 0
  · exact absurd (h1.2.2.2 z2) z
  have e1 : A i j = -1 ∨ A i j = -2 ∨ A i j = -3 := by omega
  have e2 : A j i = -1 ∨ A j i = -2 ∨ A j i = -3 := by omega
  rcases e1 with e1 | e1 | e1 <;> rcases e2 with e2 | e2 | e2
  · exact .inl ⟨2, meet3 hC hi hj e1 e2⟩
  · exact .inl ⟨3, meet4 hC hi hj e1 e2⟩
  · exact .inl ⟨5, meet6 hC hi hj e1 e2⟩
  · exact .inl ⟨3, (meet4 hC hj hi e2 e1).symm⟩
  · right; omega
  · right; omega
  · exact .inl ⟨5, (meet6 hC hj hi e2 e1).symm⟩
  · right; omega
  · right; omega
def Conf (A : Mat) (n : Nat) (d : Vec) (k : Nat) : Prop :=
  ∀ (v : Vec) (l : List Nat), Plays A n l v d → l.length = k → ∀ j, j < n → v j < 0 → ∃ l', Plays A n (j :: l') v d ∧ l'.length + 1 = k ∧ ∀ u, act A l u = act A (j :: l') u
theorem force {d : Vec} : ∀ (ch : List Nat) {K : Nat}, (∀ k, k ≤ K → Conf A n d k) → ∀ (v : Vec) (l : List Nat), Plays A n l v d → l.length ≤ K → Legal A n ch v →
    ∃ l', Plays A n l' (run A ch v) d ∧ l'.length + ch.length = l.length ∧ ∀ u, act A l u = act A (ch ++ l') u := by
  intro ch
  induction ch with
  | nil => intro K _ v l h _ _; exact ⟨l, h, rfl, fun u => rfl⟩
  | cons j ch ih =>
    intro K hK v l h hl hch
    obtain ⟨l1, h1, h2, h3⟩ := hK l.length hl v l h rfl j hch.1 hch.2.1
    obtain ⟨l2, g1, g2, g3⟩ := ih hK (s A j v) l1 (Plays.cons.1 h1).2.2 (by omega) hch.2.2
    refine ⟨l2, g1, by simp; omega, fun u => ?_⟩
    rw [h3]
    simp only [List.cons_append, act]
    rw [g3]
theorem endless {d : Vec} (hC : Car A n) (hd : Dom n d) : ∀ (K : Nat), (∀ k, k ≤ K → Conf A n d k) → ∀ (i j : Nat), i < n → j < n → A i j ≤ -2 → A j i ≤ -2 → ∀ (v : Vec) (l : List Nat), Plays A n l v d → l.length ≤ K → 0 ≤ v i → v i + v j < 0 → False := by
  intro K
  induction K with
  | zero =>
    intro _ i j hi hj _ _ v l h hl h1 h2
    have : l = [] := List.eq_nil_of_length_eq_zero (by omega)
    subst this
    have := hd j hj
    rw [← h.2] at this
    simp [run] at this
    omega
  | succ K ih =>
    intro hK i j hi hj ha1 ha2 v l h hl h1 h2
    obtain ⟨l1, g1, g2, _⟩ := hK l.length hl v l h rfl j hj (by omega)
    refine ih (fun k hk => hK k (by omega)) j i hj hi ha2 ha1 (s A j v) l1 (Plays.cons.1 g1).2.2 (by omega) ?_ ?_
    · simp only [s, hC.two j hj]; omega
    · simp only [s, hC.two j hj]
      have hm : v j * A i j ≥ v j * (-2) := Int.mul_le_mul_of_nonpos_left (by omega) ha1
      omega
theorem conf (hC : Car A n) {d : Vec} (hd : Dom n d) : ∀ k, Conf A n d k := by
  intro k
  induction k using Nat.strongRecOn with
  | ind k ih =>
    intro v l h hl j hj hvj
    cases l with
    | nil =>
      have := hd j hj
      rw [← h.2] at this
      simp [run] at this
      omega
    | cons i l1 =>
      simp only [List.length_cons] at hl
      obtain ⟨hi, hvi, h1⟩ := Plays.cons.1 h
      by_cases hne : i = j
      · subst hne
        exact ⟨l1, h, hl, fun u => rfl⟩
      rcases meet_or hC hi hj hne with ⟨m, hm⟩ | ⟨e1, e2⟩
      · obtain ⟨g1, g2⟩ := hm.legal v hvi hvj
        have gr := hm.runs v
        have ga := hm.acts
        have g1' : Legal A n (alt j i m) (s A i v) := g1.2.2
        have g2' : Legal A n (alt i j m) (s A j v) := g2.2.2
        have gr' : run A (alt j i m) (s A i v) = run A (alt i j m) (s A j v) := gr
        obtain ⟨l2, p1, p2, p3⟩ := force (alt j i m) (K := k - 1) (fun k' hk' => ih k' (by omega)) (s A i v) l1 h1 (by omega) g1'
        rw [alt_length] at p2
        rw [gr'] at p1
        refine ⟨alt i j m ++ l2, ?_, ?_, fun u => ?_⟩
        · exact Plays.cons.2 ⟨hj, hvj, Plays.append g2' p1⟩
        · rw [List.length_append, alt_length]; omega
        · simp only [act]
          rw [p3, act_append, act_append]
          exact ga _
      · exfalso
        refine endless hC hd (k - 1) (fun k' hk' => ih k' (by omega)) i j hi hj e1 e2 (s A i v) l1 h1 (by omega) ?_ ?_
        · simp only [s, hC.two i hi]; omega
        · simp only [s, hC.two i hi]
          have hm : v i * A j i ≥ v i * (-2) := Int.mul_le_mul_of_nonpos_left (by omega) e2
          omega
end Game
end Go.Proofs.YtkjglfafphffiaaGreatDoor
namespace Go.Proofs.YtkjglfafphffiaaGreatDoor
set_option maxRecDepth 100000
namespace Game
set_option linter.unusedSimpArgs false
variable {A : Mat} {n : Nat}
theorem Dom.stuck {d d' : Vec} {l : List Nat} (hd : Dom n d) (h : Plays A n l d d') : l = [] := by
  cases l with
  | nil => rfl
  | cons i l => have := (Plays.cons.1 h); have h2 := hd i this.1; omega
theorem Plays.any (hC : Car A n) {d : Vec} (hd : Dom n d) {v : Vec} {l l' : List Nat} (h : Plays A n l v d) (h' : Legal A n l' v) :
    ∃ l'', Plays A n (l' ++ l'') v d ∧ l'.length + l''.length = l.length ∧ ∀ u, act A l u = act A (l' ++ l'') u := by
  obtain ⟨l2, h1, h2, h3⟩ := force l' (K := l.length) (fun k _ => conf hC hd k) v l h (Nat.le_refl _) h'
  exact ⟨l2, Plays.append h' h1, by omega, h3⟩
theorem Plays.unique (hC : Car A n) {d : Vec} (hd : Dom n d) {v : Vec} {l l' : List Nat} (h : Plays A n l v d) (h' : Plays A n l' v d) : l'.length = l.length ∧ ∀ u, act A l u = act A l' u := by
  obtain ⟨l2, h1, h2, h3⟩ := h.any hC hd h'.1
  have e : l2 = [] := by
    refine Dom.stuck (A := A) (d' := d) hd ?_
    have h4 : Legal A n l2 (run A l' v) ∧ run A l2 (run A l' v) = d := by
      have := h1.2
      rw [run_append] at this
      refine ⟨?_, this⟩
      have hl := h1.1
      clear h1 h2 h3 this h h'
      induction l' generalizing v with
      | nil => exact hl
      | cons i l' ih => exact ih hl.2.2
    rw [h'.2] at h4
    exact h4
  subst e
  rw [List.append_nil] at h3
  exact ⟨by simpa using h2, h3⟩
theorem Plays.first (hC : Car A n) {d : Vec} (hd : Dom n d) {v : Vec} {l : List Nat} (h : Plays A n l v d) {j : Nat} (hj : j < n) (hv : v j < 0) : ∃ l', Plays A n (j :: l') v d ∧ l'.length + 1 = l.length ∧ ∀ u, act A l u = act A (j :: l') u :=
  conf hC hd l.length v l h rfl j hj hv
theorem regular (hC : Car A n) {d : Vec} (hd : ∀ i, i < n → 0 < d i) : ∀ (k : Nat) (v : Vec) (l : List Nat), Plays A n l v d → l.length = k → ∀ j, j < n → v j ≠ 0 := by
  have hd0 : Dom n d := fun i hi => by have := hd i hi; omega
  intro k
  induction k using Nat.strongRecOn with
  | ind k ih =>
    intro v l h hl j hj hz
    cases l with
    | nil =>
      have := hd j hj
      rw [← h.2] at this
      simp [run] at this
      omega
    | cons i l1 =>
      simp only [List.length_cons] at hl
      obtain ⟨hi, hvi, h1⟩ := Plays.cons.1 h
      have hne : i ≠ j := by intro e; subst e; omega
      have g1 := hC.off i j hi hj hne
      have g2 := hC.off j i hj hi (Ne.symm hne)
      by_cases z : A j i = 0
      · refine ih (k - 1) (by omega) (s A i v) l1 h1 (by omega) j hj ?_
        simp [s, hz, z]
      have z2 : A i j ≠ 0 := fun e => z (g1.2.2.1 e)
      have go : ∀ (ch : List Nat) (t : Nat), Legal A n ch (s A i v) → t < n → run A ch (s A i v) t = 0 → False := by
        intro ch t hch ht h0
        obtain ⟨l2, p1, p2, _⟩ := force ch (K := l1.length) (fun k' _ => conf hC hd0 k') (s A i v) l1 h1 (Nat.le_refl _) hch
        exact ih l2.length (by omega) _ l2 p1 rfl t ht h0
      have e1 : A i j = -1 ∨ (A i j ≤ -2 ∧ (A i j = -2 ∨ A i j = -3)) := by omega
      have e2 : A j i = -1 ∨ (A j i ≤ -2 ∧ (A j i = -2 ∨ A j i = -3)) := by omega
      have hv0 : s A i v = st A i j v (v i) 0 := by funext k; simp [s, st]
      rw [hv0] at go
      rcases e1 with e1 | ⟨e1, e1'⟩ <;> rcases e2 with e2 | ⟨e2, e2'⟩
      · refine go [j] i ?_ hi ?_
        · simp only [Legal, run, s_st_i hC hi, s_st_j hC hj, st_i hC hi, st_j hC hj, e1, e2, hz, and_true]; omega
        · simp only [Legal, run, s_st_i hC hi, s_st_j hC hj, st_i hC hi, st_j hC hj, e1, e2, hz, and_true]; omega
      · rcases e2' with e2' | e2'
        · refine go [j, i] j ?_ hj ?_
          · simp only [Legal, run, s_st_i hC hi, s_st_j hC hj, st_i hC hi, st_j hC hj, e1, e2', hz, and_true]; omega
          · simp only [Legal, run, s_st_i hC hi, s_st_j hC hj, st_i hC hi, st_j hC hj, e1, e2', hz, and_true]; omega
        · refine go [j, i, j, i] j ?_ hj ?_
          · simp only [Legal, run, s_st_i hC hi, s_st_j hC hj, st_i hC hi, st_j hC hj, e1, e2', hz, and_true]; omega
          · simp only [Legal, run, s_st_i hC hi, s_st_j hC hj, st_i hC hi, st_j hC hj, e1, e2', hz, and_true]; omega
      · rcases e1' with e1' | e1'
        · refine go [j, i] j ?_ hj ?_
          · simp only [Legal, run, s_st_i hC hi, s_st_j hC hj, st_i hC hi, st_j hC hj, e1', e2, hz, and_true]; omega
          · simp only [Legal, run, s_st_i hC hi, s_st_j hC hj, st_i hC hi, st_j hC hj, e1', e2, hz, and_true]; omega
        · refine go [j, i, j, i] j ?_ hj ?_
          · simp only [Legal, run, s_st_i hC hi, s_st_j hC hj, st_i hC hi, st_j hC hj, e1', e2, hz, and_true]; omega
          · simp only [Legal, run, s_st_i hC hi, s_st_j hC hj, st_i hC hi, st_j hC hj, e1', e2, hz, and_true]; omega
      · refine endless hC hd0 l1.length (fun k' _ => conf hC hd0 k') i j hi hj e1 e2 (s A i v) l1 h1 (Nat.le_refl _) ?_ ?_
        · simp only [s, hC.two i hi]; omega
        · simp only [s, hC.two i hi]
          have hm : v i * A j i ≥ v i * (-2) := Int.mul_le_mul_of_nonpos_left (by omega) e2
          omega
theorem Plays.ne (hC : Car A n) {d : Vec} (hd : ∀ i, i < n → 0 < d i) {v : Vec} {l : List Nat} (h : Plays A n l v d) {j : Nat} (hj : j < n) : v j ≠ 0 := regular hC hd l.length v l h rfl j hj
theorem s_fix {v : Vec} {i : Nat} (h : v i = 0) : s A i v = v := by funext k; simp [s, h]
theorem word_play (hC : Car A n) {d : Vec} (hd : Dom n d) : ∀ (w : List Nat), (∀ i ∈ w, i < n) → ∃ l, Plays A n l (act A w d) d ∧ l.length ≤ w.length := by
  intro w
  induction w with
  | nil => intro _; exact ⟨[], ⟨trivial, rfl⟩, Nat.le_refl _⟩
  | cons i w ih =>
    intro hw
    obtain ⟨l, h1, h2⟩ := ih (fun j hj => hw j (List.mem_cons_of_mem _ hj))
    have hi := hw i (by simp)
    simp only [act, List.length_cons]
    generalize act A w d = u at *
    rcases Int.lt_trichotomy (u i) 0 with h | h | h
    · obtain ⟨l', g1, g2, _⟩ := h1.first hC hd hi h
      exact ⟨l', (Plays.cons.1 g1).2.2, by omega⟩
    · rw [s_fix h]; exact ⟨l, h1, by omega⟩
    · refine ⟨i :: l, Plays.cons.2 ⟨hi, ?_, ?_⟩, by simp; omega⟩
      · simp only [s, hC.two i hi]; omega
      · rw [s_s hC hi]; exact h1
theorem word_act (hC : Car A n) {d : Vec} (hd : ∀ i, i < n → 0 < d i) : ∀ (w : List Nat), (∀ i ∈ w, i < n) → ∀ l, Plays A n l (act A w d) d → ∀ u, act A w u = act A l u := by
  have hd0 : Dom n d := fun i hi => by have := hd i hi; omega
  intro w
  induction w with
  | nil =>
    intro _ l h u
    have := Dom.stuck hd0 h
    rw [this]
  | cons i w ih =>
    intro hw l h u
    have hi := hw i (by simp)
    obtain ⟨l0, h1, h2⟩ := word_play hC hd0 w (fun j hj => hw j (List.mem_cons_of_mem _ hj))
    have hact := ih (fun j hj => hw j (List.mem_cons_of_mem _ hj)) l0 h1
    simp only [act] at h ⊢
    rw [hact]
    generalize act A w d = x at *
    rcases Int.lt_trichotomy (x i) 0 with g | g | g
    · obtain ⟨l', g1, g2, g3⟩ := h1.first hC hd0 hi g
      rw [g3]
      simp only [act]
      rw [s_s hC hi]
      exact ((Plays.unique hC hd0 (Plays.cons.1 g1).2.2 h).2 u)
    · exact absurd g (h1.ne hC hd hi)
    · have hp : Plays A n (i :: l0) (s A i x) d := Plays.cons.2 ⟨hi, by simp only [s, hC.two i hi]; omega, by rw [s_s hC hi]; exact h1⟩
      exact (Plays.unique hC hd0 hp h).2 u
def Bd (n : Nat) (M : Int) (v : Vec) : Prop := ∀ k, k < n → -M ≤ v k ∧ v k ≤ M
theorem mul3 {x a M : Int} (hx : -M ≤ x ∧ x ≤ M) (ha : -3 ≤ a ∧ a ≤ 3) : -(3 * M) ≤ x * a ∧ x * a ≤ 3 * M := by
  have : a = -3 ∨ a = -2 ∨ a = -1 ∨ a = 0 ∨ a = 1 ∨ a = 2 ∨ a = 3 := by omega
  rcases this with e | e | e | e | e | e | e <;> subst e <;> omega
theorem Car.small (hC : Car A n) {i j : Nat} (hi : i < n) (hj : j < n) : -3 ≤ A i j ∧ A i j ≤ 3 := by
  by_cases e : i = j
  · subst e; rw [hC.two i hi]; omega
  · have := hC.off i j hi hj e; omega
theorem Bd.step (hC : Car A n) {M : Int} {v : Vec} {i : Nat} (hi : i < n) (h : Bd n M v) : Bd n (4 * M) (s A i v) := by
  intro k hk
  have h1 := h k hk
  have h2 := mul3 (h i hi) (hC.small hk hi)
  simp only [Game.s]
  omega
theorem Bd.word (hC : Car A n) {M : Int} {d : Vec} (h : Bd n M d) : ∀ (w : List Nat), (∀ i ∈ w, i < n) → Bd n (4 ^ w.length * M) (act A w d) := by
  intro w
  induction w with
  | nil => intro _; simpa [Game.act] using h
  | cons i w ih =>
    intro hw
    have := (ih (fun j hj => hw j (List.mem_cons_of_mem _ hj))).step hC (hw i (by simp))
    simp only [Game.act, List.length_cons]
    rw [Int.pow_succ, Int.mul_comm (4 ^ w.length) 4, Int.mul_assoc]
    exact this
end Game
end Go.Proofs.YtkjglfafphffiaaGreatDoor
namespace Go.Proofs.YtkjglfafphffiaaGreatDoor
set_option maxRecDepth 100000
open Go.RowKit
namespace Game
set_option linter.unusedSimpArgs false
def toV (v : List Int) : Vec := fun k => v.getD k 0
theorem car_of {c : List (List Int)} (hC : IsC c) : Car (ent c) c.length := by
  refine ⟨fun i hi => dg hC hi, fun i j hi hj hne => ?_⟩
  have h := hC.2.2.2 i hi j hj
  unfold EntOk at h
  rw [if_neg hne] at h
  refine ⟨h.1, h.2.1, ?_⟩
  have h2 := h.2.2
  constructor
  · intro e; simpa [e] using h2.symm
  · intro e; simpa [e] using h2
theorem ent_out {c : List (List Int)} {i j : Nat} (h : c.length ≤ i) : ent c i j = 0 := by
  unfold ent
  simp only [List.getD]
  rw [List.getElem?_eq_none h]; rfl
theorem toV_refl {c : List (List Int)} (hC : IsC c) {v : List Int} (hv : v.length = c.length) {i : Nat} (hi : i < c.length) {M : Int} (hM : M ≤ 1152921504606846976) (hb : Bd c.length M (toV v)) : toV (refl c i v) = s (ent c) i (toV v) := by
  funext k
  by_cases hk : k < c.length
  · have h1 := hb k hk
    have h2 := mul3 (hb i hi) ((car_of hC).small hk hi)
    have e : toV (refl c i v) k = reflAt c i v k := by simp [toV, refl, List.getD, hv, hk]
    rw [e]
    change wrap64 (toV v k - wrap64 (toV v i * ent c k i)) = toV v k - toV v i * ent c k i
    generalize toV v i * ent c k i = p at *
    have w1 : wrap64 p = p := IntWalk.wrap64_in _ ⟨by omega, by omega⟩
    rw [w1]
    exact IntWalk.wrap64_in _ ⟨by omega, by omega⟩
  · have h1 : toV (refl c i v) k = 0 := by
      simp only [toV, List.getD]
      rw [List.getElem?_eq_none (by rw [refl_length]; omega)]; rfl
    have h2 : toV v k = 0 := by
      simp only [toV, List.getD]
      rw [List.getElem?_eq_none (by omega)]; rfl
    rw [h1]
    simp only [s, h2, ent_out (c := c) (j := i) (show c.length ≤ k by omega)]
    omega
theorem pow4_le {k : Nat} (h : k ≤ 30) : (4 : Int) ^ k ≤ 1152921504606846976 := by
  have h1 : (4 : Nat) ^ k ≤ 4 ^ 30 := Nat.pow_le_pow_right (by decide) h
  have h2 : ((4 ^ k : Nat) : Int) = (4 : Int) ^ k := by simp
  rw [← h2]
  have h3 : (4 : Nat) ^ 30 = 1152921504606846976 := by decide
  omega
theorem toV_actW {c : List (List Int)} (hC : IsC c) {d : List Int} (hd : d.length = c.length) {M : Int} (hb : Bd c.length M (toV d)) : ∀ (w : List Nat), (∀ i ∈ w, i < c.length) → (∀ k, k ≤ w.length → 4 ^ k * M ≤ 1152921504606846976) → toV (actW c (intsOf w) d) = act (ent c) w (toV d) := by
  intro w
  induction w with
  | nil => intro _ _; rfl
  | cons i w ih =>
    intro hw hM
    have hw' : ∀ j ∈ w, j < c.length := fun j hj => hw j (List.mem_cons_of_mem _ hj)
    have h1 := ih hw' (fun k hk => hM k (by simp; omega))
    have h2 := (hb.word (car_of hC) w hw')
    rw [← h1] at h2
    have h3 := toV_refl hC (v := actW c (intsOf w) d) (by rw [actW_length]; exact hd) (hw i (by simp)) (hM w.length (by simp)) h2
    show toV (refl c ((i : Int)).toNat (actW c (intsOf w) d)) = _
    rw [Int.toNat_natCast, h3, h1]
    rfl
theorem toV_ones (n : Nat) (k : Nat) (hk : k < n) : toV (onesL n) k = 1 := by simp [toV, onesL, List.getD, hk]
theorem bd_ones (n : Nat) : Bd n 1 (toV (onesL n)) := fun k hk => by rw [toV_ones n k hk]; omega
theorem ones_pos (n : Nat) : ∀ i, i < n → 0 < toV (onesL n) i := fun i hi => by rw [toV_ones n i hi]; omega
theorem ones_dom (n : Nat) : Dom n (toV (onesL n)) := fun i hi => by rw [toV_ones n i hi]; omega
theorem onesL_len (n : Nat) : (onesL n).length = n := by simp [onesL]
theorem toV_image {c : List (List Int)} (hC : IsC c) {w : List Nat} (hw : ∀ i ∈ w, i < c.length) (hl : w.length ≤ 30) : toV (actW c (intsOf w) (onesL c.length)) = act (ent c) w (toV (onesL c.length)) :=
  toV_actW hC (onesL_len _) (bd_ones _) w hw (fun k hk => by rw [Int.mul_one]; exact pow4_le (by omega))
theorem toV_inj {v u : List Int} (hl : v.length = u.length) (h : toV v = toV u) : v = u := by
  apply List.ext_getElem hl
  intro k h1 h2
  have := congrFun h k
  simpa [toV, List.getD, h1, h2] using this
theorem nz_of {v : List Int} (h : ∀ j, j < v.length → v.getD j 0 ≠ 0) : nz v = true := by
  unfold nz
  apply List.all_eq_true.2
  intro x hx
  obtain ⟨j, hj, rfl⟩ := List.getElem_of_mem hx
  have := h j hj
  simpa [List.getD, hj] using this
theorem normG_of {c : List (List Int)} (hC : IsC c) : ∀ (f : Nat) (v : List Int), v.length = c.length → ∀ l, Plays (ent c) c.length l (toV v) (toV (onesL c.length)) → l.length ≤ f → l.length ≤ 30 →
    ∃ W, normG c f v = some (intsOf W) ∧ Plays (ent c) c.length W (toV v) (toV (onesL c.length)) := by
  have hA := car_of hC
  intro f
  induction f with
  | zero =>
    intro v hv l h hf _
    have e : l = [] := List.eq_nil_of_length_eq_zero (by omega)
    subst e
    have hz : nz v = true := nz_of (fun j hj => h.ne hA (ones_pos _) (j := j) (by omega))
    have hn : firstNeg v = none := firstNeg_nil (fun j hj => by
      have : toV v j = 1 := by rw [show toV v = _ from h.2]; exact toV_ones _ _ (by omega)
      show 0 ≤ toV v j
      omega)
    refine ⟨[], ?_, h⟩
    unfold normG
    rw [hz, hn]; rfl
  | succ f ih =>
    intro v hv l h hf h30
    have hz : nz v = true := nz_of (fun j hj => h.ne hA (ones_pos _) (j := j) (by omega))
    unfold normG
    rw [if_pos hz]
    cases hn : firstNeg v with
    | none =>
      have hge := firstNeg_none hn
      have e : l = [] := Dom.stuck (A := ent c) (n := c.length) (fun i hi => hge i (by omega)) h
      subst e
      exact ⟨[], rfl, h⟩
    | some i =>
      obtain ⟨hi, hneg, _⟩ := firstNeg_lt hn
      have hi' : i < c.length := by omega
      obtain ⟨l', g1, g2, _⟩ := h.first hA (ones_dom _) hi' hneg
      have hbd : Bd c.length (4 ^ l.length * 1) (toV v) := by
        rw [h.eq_act hA]
        exact (bd_ones c.length).word hA l h.1.lt
      have hr := toV_refl hC hv hi' (by rw [Int.mul_one]; exact pow4_le h30) hbd
      obtain ⟨W, p1, p2⟩ := ih (refl c i v) (by rw [refl_length]; exact hv) l' (by rw [hr]; exact (Plays.cons.1 g1).2.2) (by omega) (by omega)
      refine ⟨i :: W, ?_, Plays.cons.2 ⟨hi', hneg, by rw [← hr]; exact p2⟩⟩
      show (normG c f (refl c i v)).map _ = _
      rw [p1]; rfl
structure NfOf (c : List (List Int)) (w W : List Nat) : Prop where
  norm : normG c 30 (actW c (intsOf w) (onesL c.length)) = some (intsOf W)
  plays : Plays (ent c) c.length W (act (ent c) w (toV (onesL c.length))) (toV (onesL c.length))
  len : W.length ≤ w.length
  act : ∀ u, act (ent c) w u = act (ent c) W u
  lt : ∀ i ∈ W, i < c.length
  img : actW c (intsOf W) (onesL c.length) = actW c (intsOf w) (onesL c.length)
theorem nf_of {c : List (List Int)} (hC : IsC c) {w : List Nat} (hw : ∀ i ∈ w, i < c.length) (hl : w.length ≤ 30) : ∃ W, NfOf c w W := by
  have hA := car_of hC
  obtain ⟨l, h1, h2⟩ := word_play hA (ones_dom c.length) w hw
  have hi := toV_image hC hw hl
  obtain ⟨W, g1, g2⟩ := normG_of hC 30 (actW c (intsOf w) (onesL c.length)) (by rw [actW_length]; exact onesL_len _) l (by rw [hi]; exact h1) (by omega) (by omega)
  rw [hi] at g2
  have hu := Plays.unique hA (ones_dom _) h1 g2
  have hWl : W.length ≤ w.length := by omega
  have hact := word_act hA (ones_pos c.length) w hw W g2
  refine ⟨W, g1, g2, hWl, hact, g2.1.lt, ?_⟩
  apply toV_inj
  · rw [actW_length, actW_length]
  · rw [toV_image hC g2.1.lt (by omega), hi, hact]
end Game
end Go.Proofs.YtkjglfafphffiaaGreatDoor
