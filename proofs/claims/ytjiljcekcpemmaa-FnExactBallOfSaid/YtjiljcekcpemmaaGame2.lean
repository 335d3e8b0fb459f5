/- The numbers game: lengths, words, numbers. -/
import Derived.Test.YtjiljcekcpemmaaGame
namespace Go.Proofs.Ytjiljcekcpemmaa
namespace Game
set_option linter.unusedSimpArgs false
variable {A : Mat} {n : Nat}

theorem Dom.stuck {d d' : Vec} {l : List Nat} (hd : Dom n d) (h : Plays A n l d d') : l = [] := by
  cases l with
  | nil => rfl
  | cons i l => have := (Plays.cons.1 h); have h2 := hd i this.1; omega
theorem Plays.any (hC : Car A n) {d : Vec} (hd : Dom n d) {v : Vec} {l l' : List Nat} (h : Plays A n l v d) (h' : Legal A n l' v) :
    ∃ l'', Plays A n (l' ++ l'') v d ∧ l'.length + l''.length = l.length ∧ ∀ u, act A l u = act A (l' ++ l'') u := by
  obtain ⟨l2, h1, h2, h3⟩ := force l' (K := l.length) (fun k _ => conf hC hd k) v l h (Nat.le_refl _) h'
  exact ⟨l2, Plays.append h' h1, by omega, h3⟩
theorem Plays.unique (hC : Car A n) {d : Vec} (hd : Dom n d) {v : Vec} {l l' : List Nat} (h : Plays A n l v d) (h' : Plays A n l' v d) : l'.length = l.length ∧ ∀ u, act A l u = act A l' u := by
  obtain ⟨l2, h1, h2, h3⟩ := h.any hC hd h'.1
  have e : l2 = [] := by
    refine Dom.stuck (A := A) (d' := d) hd ?_
    have h4 : Legal A n l2 (run A l' v) ∧ run A l2 (run A l' v) = d := by
      have := h1.2
      rw [run_append] at this
      refine ⟨?_, this⟩
      have hl := h1.1
      clear h1 h2 h3 this h h'
      induction l' generalizing v with
      | nil => exact hl
      | cons i l' ih => exact ih hl.2.2
    rw [h'.2] at h4
    exact h4
  subst e
  rw [List.append_nil] at h3
  exact ⟨by simpa using h2, h3⟩
theorem Plays.first (hC : Car A n) {d : Vec} (hd : Dom n d) {v : Vec} {l : List Nat} (h : Plays A n l v d) {j : Nat} (hj : j < n) (hv : v j < 0) : ∃ l', Plays A n (j :: l') v d ∧ l'.length + 1 = l.length ∧ ∀ u, act A l u = act A (j :: l') u :=
  conf hC hd l.length v l h rfl j hj hv

/-- behind so many steps of two letters there is a 0 -/
theorem regular (hC : Car A n) {d : Vec} (hd : ∀ i, i < n → 0 < d i) : ∀ (k : Nat) (v : Vec) (l : List Nat), Plays A n l v d → l.length = k → ∀ j, j < n → v j ≠ 0 := by
  have hd0 : Dom n d := fun i hi => by have := hd i hi; omega
  intro k
  induction k using Nat.strongRecOn with
  | ind k ih =>
    intro v l h hl j hj hz
    cases l with
    | nil =>
      have := hd j hj
      rw [← h.2] at this
      simp [run] at this
      omega
    | cons i l1 =>
      simp only [List.length_cons] at hl
      obtain ⟨hi, hvi, h1⟩ := Plays.cons.1 h
      have hne : i ≠ j := by intro e; subst e; omega
      have g1 := hC.off i j hi hj hne
      have g2 := hC.off j i hj hi (Ne.symm hne)
      by_cases z : A j i = 0
      · refine ih (k - 1) (by omega) (s A i v) l1 h1 (by omega) j hj ?_
        simp [s, hz, z]
      have z2 : A i j ≠ 0 := fun e => z (g1.2.2.1 e)
      have go : ∀ (ch : List Nat) (t : Nat), Legal A n ch (s A i v) → t < n → run A ch (s A i v) t = 0 → False := by
        intro ch t hch ht h0
        obtain ⟨l2, p1, p2, _⟩ := force ch (K := l1.length) (fun k' _ => conf hC hd0 k') (s A i v) l1 h1 (Nat.le_refl _) hch
        exact ih l2.length (by omega) _ l2 p1 rfl t ht h0
      have e1 : A i j = -1 ∨ (A i j ≤ -2 ∧ (A i j = -2 ∨ A i j = -3)) := by omega
      have e2 : A j i = -1 ∨ (A j i ≤ -2 ∧ (A j i = -2 ∨ A j i = -3)) := by omega
      have hv0 : s A i v = st A i j v (v i) 0 := by funext k; simp [s, st]
      rw [hv0] at go
      rcases e1 with e1 | ⟨e1, e1'⟩ <;> rcases e2 with e2 | ⟨e2, e2'⟩
      · refine go [j] i ?_ hi ?_
        · simp only [Legal, run, s_st_i hC hi, s_st_j hC hj, st_i hC hi, st_j hC hj, e1, e2, hz, and_true]; omega
        · simp only [Legal, run, s_st_i hC hi, s_st_j hC hj, st_i hC hi, st_j hC hj, e1, e2, hz, and_true]; omega
      · rcases e2' with e2' | e2'
        · refine go [j, i] j ?_ hj ?_
          · simp only [Legal, run, s_st_i hC hi, s_st_j hC hj, st_i hC hi, st_j hC hj, e1, e2', hz, and_true]; omega
          · simp only [Legal, run, s_st_i hC hi, s_st_j hC hj, st_i hC hi, st_j hC hj, e1, e2', hz, and_true]; omega
        · refine go [j, i, j, i] j ?_ hj ?_
          · simp only [Legal, run, s_st_i hC hi, s_st_j hC hj, st_i hC hi, st_j hC hj, e1, e2', hz, and_true]; omega
          · simp only [Legal, run, s_st_i hC hi, s_st_j hC hj, st_i hC hi, st_j hC hj, e1, e2', hz, and_true]; omega
      · rcases e1' with e1' | e1'
        · refine go [j, i] j ?_ hj ?_
          · simp only [Legal, run, s_st_i hC hi, s_st_j hC hj, st_i hC hi, st_j hC hj, e1', e2, hz, and_true]; omega
          · simp only [Legal, run, s_st_i hC hi, s_st_j hC hj, st_i hC hi, st_j hC hj, e1', e2, hz, and_true]; omega
        · refine go [j, i, j, i] j ?_ hj ?_
          · simp only [Legal, run, s_st_i hC hi, s_st_j hC hj, st_i hC hi, st_j hC hj, e1', e2, hz, and_true]; omega
          · simp only [Legal, run, s_st_i hC hi, s_st_j hC hj, st_i hC hi, st_j hC hj, e1', e2, hz, and_true]; omega
      · refine endless hC hd0 l1.length (fun k' _ => conf hC hd0 k') i j hi hj e1 e2 (s A i v) l1 h1 (Nat.le_refl _) ?_ ?_
        · simp only [s, hC.two i hi]; omega
        · simp only [s, hC.two i hi]
          have hm : v i * A j i ≥ v i * (-2) := Int.mul_le_mul_of_nonpos_left (by omega) e2
          omega
theorem Plays.ne (hC : Car A n) {d : Vec} (hd : ∀ i, i < n → 0 < d i) {v : Vec} {l : List Nat} (h : Plays A n l v d) {j : Nat} (hj : j < n) : v j ≠ 0 := regular hC hd l.length v l h rfl j hj
theorem s_fix {v : Vec} {i : Nat} (h : v i = 0) : s A i v = v := by funext k; simp [s, h]
/-- what a word makes of a dominant vector has a play, no longer than the word -/
theorem word_play (hC : Car A n) {d : Vec} (hd : Dom n d) : ∀ (w : List Nat), (∀ i ∈ w, i < n) → ∃ l, Plays A n l (act A w d) d ∧ l.length ≤ w.length := by
  intro w
  induction w with
  | nil => intro _; exact ⟨[], ⟨trivial, rfl⟩, Nat.le_refl _⟩
  | cons i w ih =>
    intro hw
    obtain ⟨l, h1, h2⟩ := ih (fun j hj => hw j (List.mem_cons_of_mem _ hj))
    have hi := hw i (by simp)
    simp only [act, List.length_cons]
    generalize act A w d = u at *
    rcases Int.lt_trichotomy (u i) 0 with h | h | h
    · obtain ⟨l', g1, g2, _⟩ := h1.first hC hd hi h
      exact ⟨l', (Plays.cons.1 g1).2.2, by omega⟩
    · rw [s_fix h]; exact ⟨l, h1, by omega⟩
    · refine ⟨i :: l, Plays.cons.2 ⟨hi, ?_, ?_⟩, by simp; omega⟩
      · simp only [s, hC.two i hi]; omega
      · rw [s_s hC hi]; exact h1
/-- .. and of a regular one the play makes the same as the word -/
theorem word_act (hC : Car A n) {d : Vec} (hd : ∀ i, i < n → 0 < d i) : ∀ (w : List Nat), (∀ i ∈ w, i < n) → ∀ l, Plays A n l (act A w d) d → ∀ u, act A w u = act A l u := by
  have hd0 : Dom n d := fun i hi => by have := hd i hi; omega
  intro w
  induction w with
  | nil =>
    intro _ l h u
    have := Dom.stuck hd0 h
    rw [this]
  | cons i w ih =>
    intro hw l h u
    have hi := hw i (by simp)
    obtain ⟨l0, h1, h2⟩ := word_play hC hd0 w (fun j hj => hw j (List.mem_cons_of_mem _ hj))
    have hact := ih (fun j hj => hw j (List.mem_cons_of_mem _ hj)) l0 h1
    simp only [act] at h ⊢
    rw [hact]
    generalize act A w d = x at *
    rcases Int.lt_trichotomy (x i) 0 with g | g | g
    · obtain ⟨l', g1, g2, g3⟩ := h1.first hC hd0 hi g
      rw [g3]
      simp only [act]
      rw [s_s hC hi]
      exact ((Plays.unique hC hd0 (Plays.cons.1 g1).2.2 h).2 u)
    · exact absurd g (h1.ne hC hd hi)
    · have hp : Plays A n (i :: l0) (s A i x) d := Plays.cons.2 ⟨hi, by simp only [s, hC.two i hi]; omega, by rw [s_s hC hi]; exact h1⟩
      exact (Plays.unique hC hd0 hp h).2 u

/-- numbers at most so great -/
def Bd (n : Nat) (M : Int) (v : Vec) : Prop := ∀ k, k < n → -M ≤ v k ∧ v k ≤ M
theorem mul3 {x a M : Int} (hx : -M ≤ x ∧ x ≤ M) (ha : -3 ≤ a ∧ a ≤ 3) : -(3 * M) ≤ x * a ∧ x * a ≤ 3 * M := by
  have : a = -3 ∨ a = -2 ∨ a = -1 ∨ a = 0 ∨ a = 1 ∨ a = 2 ∨ a = 3 := by omega
  rcases this with e | e | e | e | e | e | e <;> subst e <;> omega
theorem Car.small (hC : Car A n) {i j : Nat} (hi : i < n) (hj : j < n) : -3 ≤ A i j ∧ A i j ≤ 3 := by
  by_cases e : i = j
  · subst e; rw [hC.two i hi]; omega
  · have := hC.off i j hi hj e; omega
theorem Bd.step (hC : Car A n) {M : Int} {v : Vec} {i : Nat} (hi : i < n) (h : Bd n M v) : Bd n (4 * M) (s A i v) := by
  intro k hk
  have h1 := h k hk
  have h2 := mul3 (h i hi) (hC.small hk hi)
  simp only [Game.s]
  omega
theorem Bd.word (hC : Car A n) {M : Int} {d : Vec} (h : Bd n M d) : ∀ (w : List Nat), (∀ i ∈ w, i < n) → Bd n (4 ^ w.length * M) (act A w d) := by
  intro w
  induction w with
  | nil => intro _; simpa [Game.act] using h
  | cons i w ih =>
    intro hw
    have := (ih (fun j hj => hw j (List.mem_cons_of_mem _ hj))).step hC (hw i (by simp))
    simp only [Game.act, List.length_cons]
    rw [Int.pow_succ, Int.mul_comm (4 ^ w.length) 4, Int.mul_assoc]
    exact this
end Game
end Go.Proofs.Ytjiljcekcpemmaa
