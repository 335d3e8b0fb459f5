/- Normal forms of words as the machine has them; lengths change by one. Plain law. -/
import Derived.Test.YtjhoimdfmcjkbaaG25
import Derived.Test.YtjhoimdfmcjkbaaG29
namespace Go.Proofs.Ytjhoimdfmcjkbaa
set_option maxRecDepth 100000
open Go.RowKit
namespace Game
variable {A : Mat} {n : Nat}

/-- a word and its play are of the same parity -/
theorem play_parity (hC : Car A n) {d : Vec} (hd : ∀ i, i < n → 0 < d i) : ∀ (w : List Nat), (∀ i ∈ w, i < n) → ∀ l, Plays A n l (act A w d) d → l.length % 2 = w.length % 2 := by
  have hd0 : Dom n d := fun i hi => by have := hd i hi; omega
  intro w
  induction w with
  | nil =>
    intro _ l h
    have := Dom.stuck hd0 h
    rw [this]
  | cons i w ih =>
    intro hw l h
    have hi := hw i (by simp)
    obtain ⟨l0, h1, h2⟩ := word_play hC hd0 w (fun j hj => hw j (List.mem_cons_of_mem _ hj))
    have hpar := ih (fun j hj => hw j (List.mem_cons_of_mem _ hj)) l0 h1
    simp only [act, List.length_cons] at h ⊢
    generalize act A w d = x at *
    rcases Int.lt_trichotomy (x i) 0 with g | g | g
    · obtain ⟨l', g1, g2, g3⟩ := h1.first hC hd0 hi g
      have := (Plays.unique hC hd0 (Plays.cons.1 g1).2.2 h).1
      omega
    · exact absurd g (h1.ne hC hd hi)
    · have hp : Plays A n (i :: l0) (s A i x) d := Plays.cons.2 ⟨hi, by simp only [s, hC.two i hi]; omega, by rw [s_s hC hi]; exact h1⟩
      have := (Plays.unique hC hd0 hp h).1
      rw [List.length_cons] at this
      omega
end Game
open Game

/-- letters of a matrix, at most m of them -/
structure Lets (c : List (List Int)) (m : Nat) (v : List Int) : Prop where
  isC : IsC c
  few : v.length ≤ m
  inr : ∀ k, k < v.length → 0 ≤ v.getD k 0 ∧ v.getD k 0 < (c.length : Int)
theorem WordOk.lets {c : List (List Int)} {v : List Int} (h : WordOk c v) : Lets c 15 v := ⟨h.isC, h.few, h.inr⟩
theorem Lets.word {c : List (List Int)} {v : List Int} (h : Lets c 15 v) : WordOk c v := ⟨h.isC, h.few, h.inr⟩
theorem Lets.mono {c : List (List Int)} {m m' : Nat} {v : List Int} (h : Lets c m v) (hm : m ≤ m') : Lets c m' v := ⟨h.isC, Nat.le_trans h.few hm, h.inr⟩
theorem Lets.mem {c : List (List Int)} {m : Nat} {v : List Int} (h : Lets c m v) : ∀ x ∈ v, 0 ≤ x ∧ x < (c.length : Int) := fun x hx => by
  obtain ⟨k, hk, rfl⟩ := List.mem_iff_getElem.1 hx
  have := h.inr k hk
  simpa [List.getD, hk] using this
theorem lets_of {c : List (List Int)} {m : Nat} {v : List Int} (hC : IsC c) (hl : v.length ≤ m) (h : ∀ x ∈ v, 0 ≤ x ∧ x < (c.length : Int)) : Lets c m v :=
  ⟨hC, hl, fun k hk => h _ (by simp [List.getD, hk])⟩
theorem Lets.app {c : List (List Int)} {m k : Nat} {v u : List Int} (h : Lets c m v) (h' : Lets c k u) : Lets c (m + k) (v ++ u) :=
  lets_of h.isC (by rw [List.length_append]; have := h.few; have := h'.few; omega) fun x hx => by
    rcases List.mem_append.1 hx with g | g
    · exact h.mem x g
    · exact h'.mem x g
theorem Lets.one {c : List (List Int)} (hC : IsC c) {i : Int} (h0 : 0 ≤ i) (h1 : i < (c.length : Int)) : Lets c 1 [i] :=
  lets_of hC (by simp) fun x hx => by rw [List.mem_singleton] at hx; subst hx; exact ⟨h0, h1⟩
theorem Lets.nats {c : List (List Int)} {m : Nat} {v : List Int} (h : Lets c m v) : intsOf (v.map Int.toNat) = v := by
  unfold intsOf
  rw [List.map_map]
  have : ∀ x ∈ v, ((fun (t : Nat) => (t : Int)) ∘ Int.toNat) x = id x := fun x hx => by
    have := (h.mem x hx).1
    simp; omega
  rw [List.map_congr_left this, List.map_id]
theorem Lets.nats_lt {c : List (List Int)} {m : Nat} {v : List Int} (h : Lets c m v) : ∀ i ∈ v.map Int.toNat, i < c.length := fun i hi => by
  obtain ⟨x, hx, rfl⟩ := List.mem_map.1 hi
  have := h.mem x hx
  omega
abbrev imI (c : List (List Int)) (v : List Int) : List Int := actW c v (onesL c.length)
theorem imI_length (c : List (List Int)) (v : List Int) : (imI c v).length = c.length := by unfold imI; rw [actW_length]; exact onesL_len _
theorem imI_cons (c : List (List Int)) (i : Nat) (v : List Int) : imI c ((i : Int) :: v) = refl c i (imI c v) := rfl
/-- what a normal form is -/
structure NfI (c : List (List Int)) (v y : List Int) : Prop where
  norm : normG c 30 (imI c v) = some y
  len : y.length ≤ v.length
  par : y.length % 2 = v.length % 2
  lets : Lets c v.length y
  img : imI c y = imI c v
theorem nfI_ex {c : List (List Int)} {v : List Int} (h : Lets c 30 v) : ∃ W, NfOf c (v.map Int.toNat) W ∧ nfI c v = intsOf W := by
  obtain ⟨W, hW⟩ := nf_of h.isC h.nats_lt (by rw [List.length_map]; exact h.few)
  refine ⟨W, hW, ?_⟩
  have := nfI_of hW
  rwa [h.nats] at this
theorem nfI_ok {c : List (List Int)} {v : List Int} (h : Lets c 30 v) : NfI c v (nfI c v) := by
  obtain ⟨W, hW, e⟩ := nfI_ex h
  have hn := hW.norm
  rw [h.nats] at hn
  have hi := hW.img
  rw [h.nats] at hi
  have hl := hW.len
  rw [List.length_map] at hl
  have hwl : (intsOf W).length = W.length := by simp [intsOf]
  rw [e]
  refine ⟨hn, by rw [hwl]; exact hl, ?_, lets_of h.isC (by rw [hwl]; exact hl) fun x hx => ?_, hi⟩
  · rw [hwl]
    have := play_parity (car_of h.isC) (ones_pos c.length) _ h.nats_lt W hW.plays
    rwa [List.length_map] at this
  · unfold intsOf at hx
    obtain ⟨i, hi', rfl⟩ := List.mem_map.1 hx
    have := hW.lt i hi'
    omega
/-- a normal form is its own -/
theorem nfI_self {c : List (List Int)} {v : List Int} (h : Lets c 30 v) : nfI c (nfI c v) = nfI c v := by
  have h1 := nfI_ok h
  unfold nfI
  rw [show actW c ((normG c 30 (actW c v (onesL c.length))).getD []) (onesL c.length) = actW c v (onesL c.length) from h1.img]
theorem nfI_img {c : List (List Int)} {v u : List Int} (h : imI c v = imI c u) : nfI c v = nfI c u := by
  unfold nfI
  rw [show actW c v (onesL c.length) = actW c u (onesL c.length) from h]
/-- no number of an image is 0 -/
theorem imI_ne {c : List (List Int)} {v : List Int} (h : Lets c 30 v) {i : Nat} (hi : i < c.length) : (imI c v).getD i 0 ≠ 0 :=
  normG_nz (nfI_ok h).norm i (by rw [imI_length]; exact hi)
/-- the element is shorter behind a letter at which its image is negative -/
theorem nfI_down {c : List (List Int)} {v : List Int} (h : Lets c 29 v) {i : Nat} (hi : i < c.length) (hneg : (imI c v).getD i 0 < 0) : (nfI c ((i : Int) :: v)).length + 1 = (nfI c v).length := by
  have hC := h.isC
  have hA := car_of hC
  have h30 := h.mono (show 29 ≤ 30 by omega)
  have h2 : Lets c 30 ((i : Int) :: v) := lets_of hC (by rw [List.length_cons]; have := h.few; omega) fun x hx => by
    rcases List.mem_cons.1 hx with g | g
    · subst g; omega
    · exact h.mem x g
  obtain ⟨W, hW, e⟩ := nfI_ex h30
  obtain ⟨X, hX, e2⟩ := nfI_ex h2
  have hwl : (intsOf W).length = W.length := by simp [intsOf]
  have hxl : (intsOf X).length = X.length := by simp [intsOf]
  rw [e, e2, hwl, hxl]
  have hv : toV (imI c v) = act (ent c) (v.map Int.toNat) (toV (onesL c.length)) := by
    have := toV_image hC h.nats_lt (by rw [List.length_map]; have := h.few; omega)
    rwa [h.nats] at this
  have hneg' : act (ent c) (v.map Int.toNat) (toV (onesL c.length)) i < 0 := by rw [← hv]; exact hneg
  obtain ⟨l', g1, g2, -⟩ := hW.plays.first hA (ones_dom _) hi hneg'
  have hp := (Plays.cons.1 g1).2.2
  have hm : (((i : Int) :: v).map Int.toNat) = i :: v.map Int.toNat := by rw [List.map_cons, Int.toNat_natCast]
  have hXp := hX.plays
  rw [hm] at hXp
  have := (Plays.unique hA (ones_dom _) hp hXp).1
  omega

/-! ### the star product -/
def starS (c : List (List Int)) (x : List Int) (i : Int) : List Int := if (nfI c (x ++ [i])).length < x.length then x else nfI c (x ++ [i])
def starTo (c : List (List Int)) (v : List Int) : Nat → List Int
  | 0 => []
  | k + 1 => starS c (starTo c v k) (v.getD k 0)
def starL (c : List (List Int)) (v : List Int) : List Int := starTo c v v.length
theorem starS_lets {c : List (List Int)} {m : Nat} {x : List Int} {i : Int} (h : Lets c m x) (hm : m ≤ 29) (h0 : 0 ≤ i) (h1 : i < (c.length : Int)) : Lets c (m + 1) (starS c x i) := by
  have hx := h.app (Lets.one h.isC h0 h1)
  unfold starS
  split
  · exact h.mono (by omega)
  · exact ((nfI_ok (hx.mono (by omega))).lets).mono (by have := hx.few; omega)
theorem starTo_lets {c : List (List Int)} {v : List Int} (h : WordOk c v) : ∀ k, k ≤ v.length → Lets c k (starTo c v k)
  | 0, _ => ⟨h.isC, Nat.le_refl _, fun k hk => by simp [starTo] at hk⟩
  | k + 1, hk => by
    have h1 := starTo_lets h k (by omega)
    have h2 := h.inr k (by omega)
    exact starS_lets h1 (by have := h.few; omega) h2.1 h2.2
/-- the lengths differ by one -/
theorem star_ne {c : List (List Int)} {m : Nat} {x : List Int} {i : Int} (h : Lets c m x) (hm : m ≤ 29) (h0 : 0 ≤ i) (h1 : i < (c.length : Int)) : (nfI c (x ++ [i])).length ≠ x.length := by
  have hx := (h.app (Lets.one h.isC h0 h1)).mono (show m + 1 ≤ 30 by omega)
  have := (nfI_ok hx).par
  rw [List.length_append, List.length_singleton] at this
  omega
end Go.Proofs.Ytjhoimdfmcjkbaa
