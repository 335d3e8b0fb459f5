/- The numbers game: plain mathematics. Strong convergence, by the diamond of two letters. -/
import Derived.Test.YtjiljcekcpemmaaCart
namespace Go.Proofs.Ytjiljcekcpemmaa
namespace Game
set_option linter.unusedSimpArgs false
abbrev Vec := Nat → Int
abbrev Mat := Nat → Nat → Int
/-- a matrix of rank n (entries beyond -3 do not come) -/
structure Car (A : Mat) (n : Nat) : Prop where
  two : ∀ i, i < n → A i i = 2
  off : ∀ i j, i < n → j < n → i ≠ j → -3 ≤ A i j ∧ A i j ≤ 0 ∧ (A i j = 0 ↔ A j i = 0)
def s (A : Mat) (i : Nat) (v : Vec) : Vec := fun k => v k - v i * A k i
/-- letters played, the first one first -/
def run (A : Mat) : List Nat → Vec → Vec
  | [], v => v
  | i :: l, v => run A l (s A i v)
/-- letters applied, the last one first -/
def act (A : Mat) : List Nat → Vec → Vec
  | [], v => v
  | i :: l, v => s A i (act A l v)
def Legal (A : Mat) (n : Nat) : List Nat → Vec → Prop
  | [], _ => True
  | i :: l, v => i < n ∧ v i < 0 ∧ Legal A n l (s A i v)
def Plays (A : Mat) (n : Nat) (l : List Nat) (v d : Vec) : Prop := Legal A n l v ∧ run A l v = d
def Dom (n : Nat) (d : Vec) : Prop := ∀ i, i < n → 0 ≤ d i
variable {A : Mat} {n : Nat}

theorem Plays.cons {i : Nat} {l : List Nat} {v d : Vec} : Plays A n (i :: l) v d ↔ i < n ∧ v i < 0 ∧ Plays A n l (s A i v) d := by
  unfold Plays
  constructor
  · rintro ⟨⟨h1, h2, h3⟩, h4⟩; exact ⟨h1, h2, h3, h4⟩
  · rintro ⟨h1, h2, h3, h4⟩; exact ⟨⟨h1, h2, h3⟩, h4⟩
theorem run_append (l1 l2 : List Nat) (v : Vec) : run A (l1 ++ l2) v = run A l2 (run A l1 v) := by
  induction l1 generalizing v with
  | nil => rfl
  | cons i l ih => exact ih _
theorem act_append (l1 l2 : List Nat) (v : Vec) : act A (l1 ++ l2) v = act A l1 (act A l2 v) := by
  induction l1 with
  | nil => rfl
  | cons i l ih => simp only [List.cons_append, act, ih]
theorem Legal.append {l1 l2 : List Nat} {v : Vec} (h1 : Legal A n l1 v) (h2 : Legal A n l2 (run A l1 v)) : Legal A n (l1 ++ l2) v := by
  induction l1 generalizing v with
  | nil => exact h2
  | cons i l ih => exact ⟨h1.1, h1.2.1, ih h1.2.2 h2⟩
theorem Plays.append {l1 l2 : List Nat} {v d : Vec} (h1 : Legal A n l1 v) (h2 : Plays A n l2 (run A l1 v) d) : Plays A n (l1 ++ l2) v d :=
  ⟨h1.append h2.1, by rw [run_append]; exact h2.2⟩
theorem s_s (hC : Car A n) {i : Nat} (hi : i < n) (v : Vec) : s A i (s A i v) = v := by
  funext k
  simp only [s, hC.two i hi]
  rw [show v i - v i * 2 = -(v i) by omega, Int.neg_mul]
  omega
theorem act_run (hC : Car A n) : ∀ {l : List Nat} {v : Vec}, (∀ i ∈ l, i < n) → act A l (run A l v) = v := by
  intro l
  induction l with
  | nil => intro v _; rfl
  | cons i l ih =>
    intro v h
    simp only [run, act]
    rw [ih (fun j hj => h j (List.mem_cons_of_mem _ hj)), s_s hC (h i (by simp))]
theorem Legal.lt {l : List Nat} {v : Vec} (h : Legal A n l v) : ∀ i ∈ l, i < n := by
  induction l generalizing v with
  | nil => intro i hi; simp at hi
  | cons i l ih =>
    intro j hj
    rcases List.mem_cons.1 hj with e | e
    · rw [e]; exact h.1
    · exact ih h.2.2 j e
theorem Plays.eq_act (hC : Car A n) {l : List Nat} {v d : Vec} (h : Plays A n l v d) : v = act A l d := by
  rw [← h.2, act_run hC h.1.lt]

/-- what two letters make of a vector -/
def st (A : Mat) (i j : Nat) (v : Vec) (X Y : Int) : Vec := fun k => v k - X * A k i - Y * A k j
theorem st_zero (i j : Nat) (v : Vec) : st A i j v 0 0 = v := by funext k; simp [st]
theorem s_st_i (hC : Car A n) {i j : Nat} (hi : i < n) (v : Vec) (X Y : Int) : s A i (st A i j v X Y) = st A i j v (v i - X - Y * A i j) Y := by
  funext k
  simp only [s, st, hC.two i hi]
  rw [show v i - X * 2 - Y * A i j = (v i - X - Y * A i j) - X by omega]
  generalize v i - X - Y * A i j = z
  rw [Int.sub_mul]; omega
theorem s_st_j (hC : Car A n) {i j : Nat} (hj : j < n) (v : Vec) (X Y : Int) : s A j (st A i j v X Y) = st A i j v X (v j - Y - X * A j i) := by
  funext k
  simp only [s, st, hC.two j hj]
  rw [show v j - X * A j i - Y * 2 = (v j - Y - X * A j i) - Y by omega]
  generalize v j - Y - X * A j i = z
  rw [Int.sub_mul]; omega
theorem st_i (hC : Car A n) {i j : Nat} (hi : i < n) (v : Vec) (X Y : Int) : st A i j v X Y i = v i - X * 2 - Y * A i j := by simp [st, hC.two i hi]
theorem st_j (hC : Car A n) {i j : Nat} (hj : j < n) (v : Vec) (X Y : Int) : st A i j v X Y j = v j - X * A j i - Y * 2 := by simp [st, hC.two j hj]
theorem st_eq {i j : Nat} {v : Vec} {X Y X' Y' : Int} (h1 : X = X') (h2 : Y = Y') : st A i j v X Y = st A i j v X' Y' := by rw [h1, h2]

/-- alternating letters -/
def alt (i j : Nat) : Nat → List Nat
  | 0 => []
  | m + 1 => i :: alt j i m
theorem alt_length (i j m : Nat) : (alt i j m).length = m := by
  induction m generalizing i j with
  | zero => rfl
  | succ m ih => simp [alt, ih]
/-- two letters whose walks from a vector meet behind m + 1 steps -/
structure Meet (A : Mat) (n i j m : Nat) : Prop where
  legal : ∀ v : Vec, v i < 0 → v j < 0 → Legal A n (alt i j (m + 1)) v ∧ Legal A n (alt j i (m + 1)) v
  runs : ∀ v : Vec, run A (alt i j (m + 1)) v = run A (alt j i (m + 1)) v
  acts : ∀ v : Vec, act A (alt i j (m + 1)) v = act A (alt j i (m + 1)) v
theorem meet2 (hC : Car A n) {i j : Nat} (hi : i < n) (hj : j < n) (h1 : A i j = 0) (h2 : A j i = 0) : Meet A n i j 1 := by
  refine ⟨fun v ha hb => ?_, fun v => ?_, fun v => ?_⟩
  all_goals (rw [← st_zero (A := A) i j v])
  all_goals (simp only [alt, Legal, run, act, s_st_i hC hi, s_st_j hC hj, st_i hC hi, st_j hC hj, h1, h2, and_true])
  · omega
  · exact st_eq (by omega) (by omega)
  · exact st_eq (by omega) (by omega)
theorem meet3 (hC : Car A n) {i j : Nat} (hi : i < n) (hj : j < n) (h1 : A i j = -1) (h2 : A j i = -1) : Meet A n i j 2 := by
  refine ⟨fun v ha hb => ?_, fun v => ?_, fun v => ?_⟩
  all_goals (rw [← st_zero (A := A) i j v])
  all_goals (simp only [alt, Legal, run, act, s_st_i hC hi, s_st_j hC hj, st_i hC hi, st_j hC hj, h1, h2, and_true])
  · omega
  · exact st_eq (by omega) (by omega)
  · exact st_eq (by omega) (by omega)
theorem meet4 (hC : Car A n) {i j : Nat} (hi : i < n) (hj : j < n) (h1 : A i j = -1) (h2 : A j i = -2) : Meet A n i j 3 := by
  refine ⟨fun v ha hb => ?_, fun v => ?_, fun v => ?_⟩
  all_goals (rw [← st_zero (A := A) i j v])
  all_goals (simp only [alt, Legal, run, act, s_st_i hC hi, s_st_j hC hj, st_i hC hi, st_j hC hj, h1, h2, and_true])
  · omega
  · exact st_eq (by omega) (by omega)
  · exact st_eq (by omega) (by omega)
theorem meet6 (hC : Car A n) {i j : Nat} (hi : i < n) (hj : j < n) (h1 : A i j = -1) (h2 : A j i = -3) : Meet A n i j 5 := by
  refine ⟨fun v ha hb => ?_, fun v => ?_, fun v => ?_⟩
  all_goals (rw [← st_zero (A := A) i j v])
  all_goals (simp only [alt, Legal, run, act, s_st_i hC hi, s_st_j hC hj, st_i hC hi, st_j hC hj, h1, h2, and_true])
  · omega
  · exact st_eq (by omega) (by omega)
  · exact st_eq (by omega) (by omega)
theorem Meet.symm {i j m : Nat} (h : Meet A n i j m) : Meet A n j i m :=
  ⟨fun v ha hb => (h.legal v hb ha).symm, fun v => (h.runs v).symm, fun v => (h.acts v).symm⟩
theorem meet_or (hC : Car A n) {i j : Nat} (hi : i < n) (hj : j < n) (hne : i ≠ j) : (∃ m, Meet A n i j m) ∨ (A i j ≤ -2 ∧ A j i ≤ -2) := by
  have h1 := hC.off i j hi hj hne
  have h2 := hC.off j i hj hi (Ne.symm hne)
  by_cases z : A i j = 0
  · exact .inl ⟨1, meet2 hC hi hj z (h1.2.2.1 z)⟩
  by_cases z2 : A j i = 0
  · exact absurd (h1.2.2.2 z2) z
  have e1 : A i j = -1 ∨ A i j = -2 ∨ A i j = -3 := by omega
  have e2 : A j i = -1 ∨ A j i = -2 ∨ A j i = -3 := by omega
  rcases e1 with e1 | e1 | e1 <;> rcases e2 with e2 | e2 | e2
  · exact .inl ⟨2, meet3 hC hi hj e1 e2⟩
  · exact .inl ⟨3, meet4 hC hi hj e1 e2⟩
  · exact .inl ⟨5, meet6 hC hi hj e1 e2⟩
  · exact .inl ⟨3, (meet4 hC hj hi e2 e1).symm⟩
  · right; omega
  · right; omega
  · exact .inl ⟨5, (meet6 hC hj hi e2 e1).symm⟩
  · right; omega
  · right; omega

/-- from a vector with a play of length k to d: each first letter is the first one of a play as long -/
def Conf (A : Mat) (n : Nat) (d : Vec) (k : Nat) : Prop :=
  ∀ (v : Vec) (l : List Nat), Plays A n l v d → l.length = k → ∀ j, j < n → v j < 0 → ∃ l', Plays A n (j :: l') v d ∧ l'.length + 1 = k ∧ ∀ u, act A l u = act A (j :: l') u
theorem force {d : Vec} : ∀ (ch : List Nat) {K : Nat}, (∀ k, k ≤ K → Conf A n d k) → ∀ (v : Vec) (l : List Nat), Plays A n l v d → l.length ≤ K → Legal A n ch v →
    ∃ l', Plays A n l' (run A ch v) d ∧ l'.length + ch.length = l.length ∧ ∀ u, act A l u = act A (ch ++ l') u := by
  intro ch
  induction ch with
  | nil => intro K _ v l h _ _; exact ⟨l, h, rfl, fun u => rfl⟩
  | cons j ch ih =>
    intro K hK v l h hl hch
    obtain ⟨l1, h1, h2, h3⟩ := hK l.length hl v l h rfl j hch.1 hch.2.1
    obtain ⟨l2, g1, g2, g3⟩ := ih hK (s A j v) l1 (Plays.cons.1 h1).2.2 (by omega) hch.2.2
    refine ⟨l2, g1, by simp; omega, fun u => ?_⟩
    rw [h3]
    simp only [List.cons_append, act]
    rw [g3]
theorem endless {d : Vec} (hC : Car A n) (hd : Dom n d) : ∀ (K : Nat), (∀ k, k ≤ K → Conf A n d k) → ∀ (i j : Nat), i < n → j < n → A i j ≤ -2 → A j i ≤ -2 → ∀ (v : Vec) (l : List Nat), Plays A n l v d → l.length ≤ K → 0 ≤ v i → v i + v j < 0 → False := by
  intro K
  induction K with
  | zero =>
    intro _ i j hi hj _ _ v l h hl h1 h2
    have : l = [] := List.eq_nil_of_length_eq_zero (by omega)
    subst this
    have := hd j hj
    rw [← h.2] at this
    simp [run] at this
    omega
  | succ K ih =>
    intro hK i j hi hj ha1 ha2 v l h hl h1 h2
    obtain ⟨l1, g1, g2, _⟩ := hK l.length hl v l h rfl j hj (by omega)
    refine ih (fun k hk => hK k (by omega)) j i hj hi ha2 ha1 (s A j v) l1 (Plays.cons.1 g1).2.2 (by omega) ?_ ?_
    · simp only [s, hC.two j hj]; omega
    · simp only [s, hC.two j hj]
      have hm : v j * A i j ≥ v j * (-2) := Int.mul_le_mul_of_nonpos_left (by omega) ha1
      omega
theorem conf (hC : Car A n) {d : Vec} (hd : Dom n d) : ∀ k, Conf A n d k := by
  intro k
  induction k using Nat.strongRecOn with
  | ind k ih =>
    intro v l h hl j hj hvj
    cases l with
    | nil =>
      have := hd j hj
      rw [← h.2] at this
      simp [run] at this
      omega
    | cons i l1 =>
      simp only [List.length_cons] at hl
      obtain ⟨hi, hvi, h1⟩ := Plays.cons.1 h
      by_cases hne : i = j
      · subst hne
        exact ⟨l1, h, hl, fun u => rfl⟩
      rcases meet_or hC hi hj hne with ⟨m, hm⟩ | ⟨e1, e2⟩
      · obtain ⟨g1, g2⟩ := hm.legal v hvi hvj
        have gr := hm.runs v
        have ga := hm.acts
        have g1' : Legal A n (alt j i m) (s A i v) := g1.2.2
        have g2' : Legal A n (alt i j m) (s A j v) := g2.2.2
        have gr' : run A (alt j i m) (s A i v) = run A (alt i j m) (s A j v) := gr
        obtain ⟨l2, p1, p2, p3⟩ := force (alt j i m) (K := k - 1) (fun k' hk' => ih k' (by omega)) (s A i v) l1 h1 (by omega) g1'
        rw [alt_length] at p2
        rw [gr'] at p1
        refine ⟨alt i j m ++ l2, ?_, ?_, fun u => ?_⟩
        · exact Plays.cons.2 ⟨hj, hvj, Plays.append g2' p1⟩
        · rw [List.length_append, alt_length]; omega
        · simp only [act]
          rw [p3, act_append, act_append]
          exact ga _
      · exfalso
        refine endless hC hd (k - 1) (fun k' hk' => ih k' (by omega)) i j hi hj e1 e2 (s A i v) l1 h1 (by omega) ?_ ?_
        · simp only [s, hC.two i hi]; omega
        · simp only [s, hC.two i hi]
          have hm : v i * A j i ≥ v i * (-2) := Int.mul_le_mul_of_nonpos_left (by omega) e2
          omega
end Game
end Go.Proofs.Ytjiljcekcpemmaa
