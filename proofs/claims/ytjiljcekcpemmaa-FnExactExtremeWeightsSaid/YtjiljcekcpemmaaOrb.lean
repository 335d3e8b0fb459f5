/- Orbits of dominant weights: what both searches find. Plain law. -/
import Derived.Test.YtjiljcekcpemmaaInf
import Derived.Test.YtjiljcekcpemmaaCmp
namespace Go.Proofs.Ytjiljcekcpemmaa
open Go.RowKit
namespace Game
set_option linter.unusedSimpArgs false
variable {c : List (List Int)}

/-- a dominant weight of small numbers, in a finite type -/
structure DomW (c : List (List Int)) (v : List Int) : Prop where
  hC : IsC c
  fin : finB c = true
  len : v.length = c.length
  small : ∀ j, j < v.length → -1000 ≤ v.getD j 0 ∧ v.getD j 0 ≤ 1000
  dom : ∀ j, j < v.length → 0 ≤ v.getD j 0

theorem elt24 (hC : IsC c) (hf : finB c = true) {n : Nat} {W : List Nat} (hW : Elt c n W) : n ≤ 24 := by
  obtain ⟨long, opp, hL, h24⟩ := longOf_fin24 hC hf
  exact Nat.le_trans (elt_le hC hL.norm hL.act hW) h24
theorem word_short (hC : IsC c) (hf : finB c = true) : ∀ (w : List Nat), (∀ i ∈ w, i < c.length) → ∃ W, Elt c W.length W ∧ W.length ≤ 24 ∧ ∀ u, act (ent c) w u = act (ent c) W u
  | [], _ => ⟨[], Elt.zero hC, by simp, fun _ => rfl⟩
  | i :: w, hw => by
    obtain ⟨W, hE, hl, ha⟩ := word_short hC hf w (fun k hk => hw k (List.mem_cons_of_mem _ hk))
    have hlt : ∀ k ∈ i :: W, k < c.length := by
      intro k hk
      rcases List.mem_cons.1 hk with rfl | h
      · exact hw k (by simp)
      · exact hE.nf.lt k h
    obtain ⟨X, hX⟩ := nf_of hC hlt (by simp; omega)
    have hEX : Elt c X.length X := ⟨hX.self, rfl⟩
    exact ⟨X, hEX, elt24 hC hf hEX, fun u => by rw [← hX.act u]; simp only [Game.act]; rw [ha u]⟩

/-- what words make of a vector -/
def OrbP (c : List (List Int)) (v x : List Int) : Prop := x.length = c.length ∧ ∃ w : List Nat, (∀ i ∈ w, i < c.length) ∧ toV x = act (ent c) w (toV v)
theorem OrbP.self {v : List Int} (hv : v.length = c.length) : OrbP c v v := ⟨hv, [], by simp, rfl⟩
def bigM : Int := 281474976710656000
theorem OrbP.bd {v x : List Int} (hD : DomW c v) (h : OrbP c v x) : Bd c.length bigM (toV x) := by
  obtain ⟨_, w, hw, e⟩ := h
  obtain ⟨W, hE, hl, ha⟩ := word_short hD.hC hD.fin w hw
  rw [e, ha]
  have h0 : Bd c.length 1000 (toV v) := fun k hk => hD.small k (by rw [hD.len]; exact hk)
  have h1 := Bd.word (car_of hD.hC) h0 W hE.nf.lt
  have h2 : (4 : Nat) ^ W.length ≤ 4 ^ 24 := Nat.pow_le_pow_right (by decide) hl
  have h3 : ((4 ^ W.length : Nat) : Int) = (4 : Int) ^ W.length := by simp
  have h4 : (4 : Nat) ^ 24 = 281474976710656 := by decide
  rw [← h3] at h1
  rw [h4] at h2
  generalize 4 ^ W.length = q at *
  intro k hk
  have := h1 k hk
  unfold bigM
  omega
theorem OrbP.toV_refl {v x : List Int} (hD : DomW c v) (h : OrbP c v x) {i : Nat} (hi : i < c.length) : toV (refl c i x) = s (ent c) i (toV x) :=
  Game.toV_refl hD.hC h.1 hi (M := bigM) (by decide) (h.bd hD)
theorem OrbP.refl {v x : List Int} (hD : DomW c v) (h : OrbP c v x) {i : Nat} (hi : i < c.length) : OrbP c v (refl c i x) := by
  obtain ⟨hl, w, hw, e⟩ := id h
  refine ⟨by rw [refl_length]; exact hl, i :: w, ?_, ?_⟩
  · intro k hk
    rcases List.mem_cons.1 hk with rfl | h
    · exact hi
    · exact hw k h
  · rw [h.toV_refl hD hi, e]; rfl
theorem OrbP.back {v x : List Int} (hD : DomW c v) (h : OrbP c v x) {i : Nat} (hi : i < c.length) : Proofs.Ytjiljcekcpemmaa.refl c i (Proofs.Ytjiljcekcpemmaa.refl c i x) = x := by
  refine toV_inj (by simp [refl_length]) ?_
  rw [(h.refl hD hi).toV_refl hD hi, h.toV_refl hD hi, s_s (car_of hD.hC) hi]
/-- what is closed under all reflections holds the orbit -/
theorem closed_all {v : List Int} (hD : DomW c v) {Q : List (List Int)} (h0 : v ∈ Q) (hQ : ∀ x ∈ Q, ∀ i, i < c.length → Proofs.Ytjiljcekcpemmaa.refl c i x ∈ Q) {x : List Int} (hx : OrbP c v x) : x ∈ Q := by
  obtain ⟨hl, w, hw, e⟩ := hx
  induction w generalizing x with
  | nil => rw [toV_inj (by rw [hl, hD.len]) e]; exact h0
  | cons i w ih =>
    have hi := hw i (by simp)
    have hw' : ∀ k ∈ w, k < c.length := fun k hk => hw k (List.mem_cons_of_mem _ hk)
    have hx : OrbP c v x := ⟨hl, i :: w, hw, e⟩
    have hy := ih (x := Proofs.Ytjiljcekcpemmaa.refl c i x) (by rw [refl_length]; exact hl) hw' (by rw [hx.toV_refl hD hi, e]; simp only [Game.act]; rw [s_s (car_of hD.hC) hi])
    have := hQ _ hy i hi
    rwa [hx.back hD hi] at this
theorem DomW.toV {v : List Int} (hD : DomW c v) : Dom c.length (toV v) := fun i hi => hD.dom i (by rw [hD.len]; exact hi)
/-- .. as does what is closed under lowering ones -/
theorem closed_down {v : List Int} (hD : DomW c v) {Q : List (List Int)} (h0 : v ∈ Q) (hQ : ∀ x ∈ Q, ∀ i, i < c.length → 0 < x.getD i 0 → Proofs.Ytjiljcekcpemmaa.refl c i x ∈ Q) {x : List Int} (hx : OrbP c v x) : x ∈ Q := by
  have key : ∀ (l : List Nat) (x : List Int), OrbP c v x → Plays (ent c) c.length l (Game.toV x) (Game.toV v) → x ∈ Q := by
    intro l
    induction l with
    | nil =>
      intro x hx hp
      rw [toV_inj (by rw [hx.1, hD.len]) hp.2]; exact h0
    | cons i l ih =>
      intro x hx hp
      obtain ⟨hi, hneg, hp'⟩ := Plays.cons.1 hp
      have hy := hx.refl hD hi
      have ey := hx.toV_refl hD hi
      have hm := ih _ hy (by rw [ey]; exact hp')
      have hpos : 0 < (Proofs.Ytjiljcekcpemmaa.refl c i x).getD i 0 := by
        have e1 : (Proofs.Ytjiljcekcpemmaa.refl c i x).getD i 0 = Game.toV (Proofs.Ytjiljcekcpemmaa.refl c i x) i := rfl
        rw [e1, ey]
        simp only [s, (car_of hD.hC).two i hi]
        omega
      have := hQ _ hm i hi hpos
      rwa [hx.back hD hi] at this
  obtain ⟨hl, w, hw, e⟩ := id hx
  obtain ⟨l, hp, -⟩ := word_play (car_of hD.hC) hD.toV w hw
  rw [← e] at hp
  exact key l x hx hp

/-- strictly descending -/
def Desc (L : List (List Int)) : Prop := L.Pairwise fun a b => wordCmp b a < 0
theorem Desc.nodup {L : List (List Int)} (h : Desc L) : L.Nodup := by
  refine List.Pairwise.imp ?_ h
  intro a b hab e
  subst e
  rw [wordCmp_self] at hab; omega
theorem Desc.uniq {L M : List (List Int)} (h : Desc L) (h' : Desc M) (e : ∀ x, x ∈ L ↔ x ∈ M) : L = M := by
  have h1 : Asc L.reverse := List.pairwise_reverse.2 h
  have h2 : Asc M.reverse := List.pairwise_reverse.2 h'
  have := Asc.uniq h1 h2 (by simpa using e)
  simpa using congrArg List.reverse this
/-- the orbit, greater ones first -/
def IsOrb (c : List (List Int)) (v : List Int) (L : List (List Int)) : Prop := Desc L ∧ ∀ x, x ∈ L ↔ OrbP c v x
theorem IsOrb.uniq {v : List Int} {L M : List (List Int)} (h : IsOrb c v L) (h' : IsOrb c v M) : L = M := h.1.uniq h'.1 fun x => (h.2 x).trans (h'.2 x).symm
theorem nodup_le {Q L : List (List Int)} (hQ : Q.Nodup) (hL : L.Nodup) (h : ∀ x ∈ Q, x ∈ L) : Q.length ≤ L.length := by
  have hp : Q.Perm (L.filter fun x => decide (x ∈ Q)) := by
    refine (List.perm_ext_iff_of_nodup hQ (hL.filter _)).2 fun x => ?_
    simp only [List.mem_filter, decide_eq_true_eq]
    exact ⟨fun hx => ⟨h x hx, hx⟩, fun hx => hx.2⟩
  rw [hp.length_eq]
  exact List.length_filter_le _ _
/-- too many -/
def NoOrb (c : List (List Int)) (v : List Int) : Prop := ¬ ∃ L, IsOrb c v L ∧ L.length ≤ 200
theorem noOrb {v : List Int} {Q : List (List Int)} (hQ : Q.Nodup) (hP : ∀ x ∈ Q, OrbP c v x) (hl : 200 < Q.length) : NoOrb c v := by
  rintro ⟨L, hL, h2⟩
  have := nodup_le hQ hL.1.nodup (fun x hx => (hL.2 x).2 (hP x hx))
  omega
/-- what the functions of the orbit answer -/
def OrbM (c : List (List Int)) (v : List Int) (M : List (List Int)) (b : Bool) : Prop := (IsOrb c v M ∧ M.length ≤ 200 ∧ b = true) ∨ (NoOrb c v ∧ M = [] ∧ b = false)
theorem orbM_ex (c : List (List Int)) (v : List Int) : ∃ M b, OrbM c v M b := by
  by_cases h : ∃ L, IsOrb c v L ∧ L.length ≤ 200
  · obtain ⟨L, h1, h2⟩ := h
    exact ⟨L, true, .inl ⟨h1, h2, rfl⟩⟩
  · exact ⟨[], false, .inr ⟨h, rfl, rfl⟩⟩
theorem OrbM.uniq {v : List Int} {M M' : List (List Int)} {b b' : Bool} (h : OrbM c v M b) (h' : OrbM c v M' b') : M = M' ∧ b = b' := by
  rcases h with ⟨h1, h2, h3⟩ | ⟨h1, h2, h3⟩ <;> rcases h' with ⟨g1, g2, g3⟩ | ⟨g1, g2, g3⟩
  · exact ⟨h1.uniq g1, by rw [h3, g3]⟩
  · exact absurd ⟨M, h1, h2⟩ g1
  · exact absurd ⟨M', g1, g2⟩ h1
  · exact ⟨by rw [h2, g2], by rw [h3, g3]⟩

/-- a search under way: all is looked at up to entry k, of entry k the letters below i; 'down': only lowering letters -/
structure QSt (c : List (List Int)) (v : List Int) (down : Bool) (Q : List (List Int)) (k i : Nat) : Prop where
  nodup : Q.Nodup
  orb : ∀ x ∈ Q, OrbP c v x
  has : v ∈ Q
  closed : ∀ t j, t < Q.length → j < c.length → (t < k ∨ t = k ∧ j < i) → (down = true → 0 < (Q.getD t []).getD j 0) → Proofs.Ytjiljcekcpemmaa.refl c j (Q.getD t []) ∈ Q
  le : k ≤ Q.length
section
variable {v : List Int} {down : Bool} {Q : List (List Int)} {k i : Nat}
theorem QSt.start (hD : DomW c v) (down : Bool) : QSt c v down [v] 0 0 :=
  ⟨by simp, by intro x hx; rw [List.mem_singleton] at hx; subst hx; exact OrbP.self hD.len, by simp, fun t j _ _ h => by omega, by simp⟩
theorem QSt.skip (h : QSt c v down Q k i) (hs : (down = true → 0 < (Q.getD k []).getD i 0) → Proofs.Ytjiljcekcpemmaa.refl c i (Q.getD k []) ∈ Q) : QSt c v down Q k (i + 1) := by
  refine ⟨h.nodup, h.orb, h.has, fun t j ht hj hc hd => ?_, h.le⟩
  by_cases e : t = k ∧ j = i
  · obtain ⟨rfl, rfl⟩ := e; exact hs hd
  · exact h.closed t j ht hj (by omega) hd
theorem getD_app {Q : List (List Int)} {y : List Int} {t : Nat} (ht : t < Q.length) : (Q ++ [y]).getD t [] = Q.getD t [] := by simp [List.getD, List.getElem?_append_left ht]
theorem QSt.row (h : QSt c v down Q k i) (hk : k < Q.length) : OrbP c v (Q.getD k []) := h.orb _ (by simp [List.getD, hk])
theorem QSt.add (h : QSt c v down Q k i) (hD : DomW c v) (hk : k < Q.length) (hi : i < c.length) (hn : Proofs.Ytjiljcekcpemmaa.refl c i (Q.getD k []) ∉ Q) : QSt c v down (Q ++ [Proofs.Ytjiljcekcpemmaa.refl c i (Q.getD k [])]) k (i + 1) := by
  refine ⟨?_, ?_, List.mem_append_left _ h.has, fun t j ht hj hc hd => ?_, by rw [List.length_append]; omega⟩
  · rw [List.nodup_append]
    exact ⟨h.nodup, by simp, by intro a ha b hb e; rw [List.mem_singleton] at hb; subst hb; subst e; exact hn ha⟩
  · intro x hx
    rcases List.mem_append.1 hx with h1 | h1
    · exact h.orb x h1
    · rw [List.mem_singleton] at h1; subst h1; exact (h.row hk).refl hD hi
  · have ht' : t < Q.length := by omega
    rw [getD_app ht'] at hd ⊢
    by_cases e : t = k ∧ j = i
    · obtain ⟨rfl, rfl⟩ := e; exact List.mem_append_right _ (by simp)
    · exact List.mem_append_left _ (h.closed t j ht' hj (by omega) hd)
theorem QSt.next (h : QSt c v down Q k c.length) (hk : k < Q.length) : QSt c v down Q (k + 1) 0 :=
  ⟨h.nodup, h.orb, h.has, fun t j ht hj hc hd => h.closed t j ht hj (by omega) hd, hk⟩
theorem QSt.all (h : QSt c v down Q Q.length 0) (hD : DomW c v) : ∀ x, x ∈ Q ↔ OrbP c v x := by
  have hg : ∀ x ∈ Q, ∀ i, i < c.length → (down = true → 0 < x.getD i 0) → Proofs.Ytjiljcekcpemmaa.refl c i x ∈ Q := by
    intro x hx i hi hd
    obtain ⟨t, ht, rfl⟩ := List.mem_iff_getElem.1 hx
    have e : Q.getD t [] = Q[t] := by simp [List.getD, ht]
    have := h.closed t i ht hi (.inl ht)
    rw [e] at this
    exact this hd
  intro x
  refine ⟨h.orb x, fun hx => ?_⟩
  cases down with
  | false => exact closed_all hD h.has (fun x hx i hi => hg x hx i hi (by simp)) hx
  | true => exact closed_down hD h.has (fun x hx i hi hp => hg x hx i hi (fun _ => hp)) hx
theorem QSt.big (h : QSt c v down Q k i) (hl : 200 < Q.length) : NoOrb c v := noOrb h.nodup h.orb hl
theorem QSt.big' (h : QSt c v down Q k i) (hD : DomW c v) (hk : k < Q.length) (hi : i < c.length) (hn : Proofs.Ytjiljcekcpemmaa.refl c i (Q.getD k []) ∉ Q) (hl : 200 ≤ Q.length) : NoOrb c v :=
  (h.add hD hk hi hn).big (by rw [List.length_append]; simp; omega)
end

/-- the reference's insertion, the other way round -/
def putG : List (List Int) → List Int → List (List Int)
  | [], v => [v]
  | x :: l, v => if x = v then x :: l else if 0 < wordCmp v x then v :: x :: l else x :: putG l v
theorem mem_putG {x : List Int} : ∀ {l : List (List Int)} {v : List Int}, x ∈ putG l v ↔ x = v ∨ x ∈ l
  | [], v => by simp [putG]
  | y :: l, v => by
    unfold putG
    by_cases h1 : y = v
    · rw [if_pos h1]; subst h1; simp
    · rw [if_neg h1]
      by_cases h2 : 0 < wordCmp v y
      · rw [if_pos h2]; simp
      · rw [if_neg h2, List.mem_cons, mem_putG (l := l), List.mem_cons]
        constructor
        · rintro (h | h | h)
          · exact .inr (.inl h)
          · exact .inl h
          · exact .inr (.inr h)
        · rintro (h | h | h)
          · exact .inr (.inl h)
          · exact .inl h
          · exact .inr (.inr h)
theorem putG_desc : ∀ {l : List (List Int)} {v : List Int}, Desc l → Desc (putG l v)
  | [], v, _ => List.pairwise_singleton _ _
  | y :: l, v, h => by
    have h0 := List.pairwise_cons.1 h
    unfold putG
    by_cases h1 : y = v
    · rw [if_pos h1]; exact h
    · rw [if_neg h1]
      have ha := wordCmp_anti v y
      by_cases h2 : 0 < wordCmp v y
      · rw [if_pos h2]
        refine List.pairwise_cons.2 ⟨fun z hz => ?_, h⟩
        rcases List.mem_cons.1 hz with rfl | hz
        · omega
        · exact wordCmp_trans (h0.1 z hz) (by omega)
      · rw [if_neg h2]
        refine List.pairwise_cons.2 ⟨fun z hz => ?_, putG_desc h0.2⟩
        rcases mem_putG.1 hz with rfl | hz
        · rcases Int.lt_trichotomy (wordCmp z y) 0 with g | g | g
          · exact g
          · exact absurd (wordCmp_zero g).symm h1
          · omega
        · exact h0.1 z hz
def putsG (L : List (List Int)) : List (List Int) := L.foldl putG []
theorem putsG_aux : ∀ (L a : List (List Int)), Desc a → Desc (L.foldl putG a) ∧ ∀ x, x ∈ L.foldl putG a ↔ x ∈ L ∨ x ∈ a
  | [], a, h => ⟨h, by simp⟩
  | y :: L, a, h => by
    obtain ⟨h1, h2⟩ := putsG_aux L (putG a y) (putG_desc h)
    refine ⟨h1, fun x => ?_⟩
    rw [List.foldl_cons, h2 x, mem_putG, List.mem_cons]
    constructor
    · rintro (h | h | h)
      · exact .inl (.inr h)
      · exact .inl (.inl h)
      · exact .inr h
    · rintro ((h | h) | h)
      · exact .inr (.inl h)
      · exact .inl h
      · exact .inr (.inr h)
theorem putsG_take {L : List (List Int)} {k : Nat} (hk : k < L.length) : putsG (L.take (k + 1)) = putG (putsG (L.take k)) (L.getD k []) := by
  have e : L.getD k [] = L[k] := by simp [List.getD, hk]
  unfold putsG
  rw [e, List.take_succ_eq_append_getElem hk, List.foldl_append]; rfl
theorem putsG_orb {v : List Int} {L : List (List Int)} (h : ∀ x, x ∈ L ↔ OrbP c v x) : IsOrb c v (putsG L) :=
  ⟨(putsG_aux L [] List.Pairwise.nil).1, fun x => by rw [← h x]; have := (putsG_aux L [] List.Pairwise.nil).2 x; simpa [putsG] using this⟩
theorem putG_length (l : List (List Int)) (v : List Int) : (putG l v).length ≤ l.length + 1 := by
  induction l with
  | nil => simp [putG]
  | cons y l ih =>
    unfold putG
    split
    · simp
    · split
      · simp
      · simp; exact ih

/-- the comparison of lists, either way round -/
theorem sliceCmp_anti : ∀ (a b : List Int), sliceCmp b a = - sliceCmp a b
  | [], [] => rfl
  | [], _ :: _ => rfl
  | _ :: _, [] => rfl
  | x :: a, y :: b => by
    simp only [sliceCmp]
    by_cases h1 : x < y
    · rw [if_pos h1, if_neg (by omega), if_pos h1]; rfl
    · by_cases h2 : y < x
      · rw [if_pos h2, if_neg h1, if_pos h2]
      · rw [if_neg h2, if_neg h1, if_neg h1, if_neg h2]; exact sliceCmp_anti a b
theorem sliceCmp_trans : ∀ (a b d : List Int), sliceCmp a b < 0 → sliceCmp b d < 0 → sliceCmp a d < 0
  | [], [], _, h, _ => by simp [sliceCmp] at h
  | [], _ :: _, [], _, h => by simp [sliceCmp] at h
  | [], _ :: _, _ :: _, _, _ => by simp [sliceCmp]
  | _ :: _, [], _, h, _ => by simp [sliceCmp] at h
  | _ :: _, _ :: _, [], _, h => by simp [sliceCmp] at h
  | x :: a, y :: b, z :: d, h1, h2 => by
    have ih := sliceCmp_trans a b d
    simp only [sliceCmp] at *
    split at h1 <;> split at h2 <;> (try split at h1) <;> (try split at h2) <;> (try split) <;> (try split) <;> first | omega | (exact ih h1 h2)
theorem sliceCmp_zero : ∀ {a b : List Int}, sliceCmp a b = 0 → a = b
  | [], [], _ => rfl
  | [], _ :: _, h => by simp [sliceCmp] at h
  | _ :: _, [], h => by simp [sliceCmp] at h
  | x :: a, y :: b, h => by
    simp only [sliceCmp] at h
    split at h
    · omega
    · split at h
      · omega
      · have : x = y := by omega
        rw [this, sliceCmp_zero h]
theorem sliceCmp_self (a : List Int) : sliceCmp a a = 0 := by have := sliceCmp_anti a a; omega
theorem wordCmp_same {a b : List Int} (h : a.length = b.length) : wordCmp a b = sliceCmp a b := by
  unfold wordCmp
  rw [if_neg (by omega), if_neg (by omega), sliceCmp_same h]
end Game
end Go.Proofs.Ytjiljcekcpemmaa
