/- Which lengths there are: in a finite group none beyond the longest element's, in an infinite one all. Plain law. A matrix whose group is not finite has a row of numbers that no column makes positive. Plain law. -/
import Derived.Test.YtobeigdjhepedaaGreatDoorG23
import Derived.Test.YtobeigdjhepedaaGreatDoorG27
namespace Go.Proofs.YtobeigdjhepedaaGreatDoor
set_option maxRecDepth 100000
open Go.RowKit
namespace Game
set_option linter.unusedSimpArgs false
variable {c : List (List Int)}

/-! ### finite -/
def neg (v : Vec) : Vec := fun k => - v k
theorem neg_neg (v : Vec) : neg (neg v) = v := by funext k; simp [neg]
theorem s_neg (A : Mat) (i : Nat) (v : Vec) : s A i (neg v) = neg (s A i v) := by
  funext k; simp only [Game.s, neg, Int.neg_mul]; omega
theorem act_neg (A : Mat) : ∀ (w : List Nat) (v : Vec), act A w (neg v) = neg (act A w v)
  | [], _ => rfl
  | i :: w, v => by simp only [Game.act]; rw [act_neg A w v, s_neg]
theorem rev_play {A : Mat} {n : Nat} (hA : Car A n) : ∀ (l : List Nat) (v : Vec), Legal A n l v → Legal A n l.reverse (neg (run A l v)) ∧ run A l.reverse (neg (run A l v)) = neg v
  | [], _, _ => ⟨trivial, rfl⟩
  | i :: l, v, h => by
    obtain ⟨hi, hv, hl⟩ := h
    obtain ⟨h1, h2⟩ := rev_play hA l (s A i v) hl
    simp only [Game.run, List.reverse_cons]
    refine ⟨Legal.append h1 ?_, ?_⟩
    · rw [h2]
      refine ⟨hi, ?_, trivial⟩
      simp only [neg, Game.s, hA.two i hi]; omega
    · rw [run_append, h2]
      simp only [Game.run]
      rw [s_neg, s_s hA hi]
theorem toV_neg (n : Nat) : toV (negL n) = neg (toV (onesL n)) := by
  funext k
  simp only [toV, neg, negL, onesL]
  by_cases h : k < n
  · simp [List.getD, h]
  · simp [List.getD, h]
theorem long_elt (hC : IsC c) {long : List Int} (hnorm : normG c 30 (negL c.length) = some long) (hact : actW c long (onesL c.length) = negL c.length) : ∃ Wl, long = intsOf Wl ∧ Elt c long.length Wl ∧ act (ent c) Wl (toV (onesL c.length)) = neg (toV (onesL c.length)) := by
  have hin := normG_in hnorm
  rw [negL_length] at hin
  have hl30 := normG_len hnorm
  have he : long = intsOf (long.map Int.toNat) := by
    unfold intsOf
    rw [List.map_map]
    apply List.ext_getElem (by simp)
    intro i h1 h2
    have := hin i h1
    simp [List.getD, h1] at this ⊢
    omega
  have hlt : ∀ i ∈ long.map Int.toNat, i < c.length := by
    intro i hi
    obtain ⟨x, hx, rfl⟩ := List.mem_map.1 hi
    obtain ⟨k, hk, rfl⟩ := List.mem_iff_getElem.1 hx
    have := hin k hk
    simp [List.getD, hk] at this
    omega
  generalize hW : long.map Int.toNat = Wl at *
  have hlen : Wl.length = long.length := by rw [he, intsOf_length]
  obtain ⟨W, hNf⟩ := nf_of hC hlt (by omega)
  have h1 := hNf.norm
  rw [← he, hact, hnorm] at h1
  have h2 : long = intsOf W := Option.some.inj h1
  have h3 : Wl = W := intsOf_inj (by rw [← he]; exact h2)
  subst h3
  refine ⟨Wl, he, ⟨hNf, hlen⟩, ?_⟩
  rw [← toV_image hC hlt (by omega), ← he, hact, toV_neg]
theorem elt_le (hC : IsC c) {long : List Int} (hnorm : normG c 30 (negL c.length) = some long) (hact : actW c long (onesL c.length) = negL c.length) {n : Nat} {W : List Nat} (hW : Elt c n W) : n ≤ long.length := by
  have hA := car_of hC
  obtain ⟨Wl, he, hE, hneg⟩ := long_elt hC hnorm hact
  have e1 : act (ent c) (W ++ Wl) (toV (onesL c.length)) = neg (act (ent c) W (toV (onesL c.length))) := by rw [act_append, hneg, act_neg]
  have hlt : ∀ i ∈ W ++ Wl, i < c.length := by
    intro i hi
    rcases List.mem_append.1 hi with h | h
    · exact hW.nf.lt i h
    · exact hE.nf.lt i h
  obtain ⟨l', hp, -⟩ := word_play hA (ones_dom c.length) (W ++ Wl) hlt
  rw [e1] at hp
  obtain ⟨h1, h2⟩ := rev_play hA l' _ hp.1
  rw [hp.2] at h1 h2
  rw [neg_neg] at h2
  have hp2 := hW.nf.plays
  rw [← h2] at hp2
  have hp3 := Plays.append h1 hp2
  have hp4 := hE.nf.plays
  rw [hneg] at hp4
  have := (Plays.unique hA (ones_dom _) hp4 hp3).1
  rw [List.length_append, hE.len, hW.len] at this
  omega
theorem elt_down (hC : IsC c) : ∀ (m n : Nat), n + m ≤ 30 → (∃ W, Elt c (n + m) W) → ∃ W, Elt c n W
  | 0, _, _, h => h
  | m + 1, n, hn, ⟨W, hW⟩ => by
    obtain ⟨W', i, hW', -⟩ := right_back hC (n := n + m) hW (by omega)
    exact elt_down hC m n (by omega) ⟨W', hW'⟩
theorem lev_ne (hC : IsC c) {n : Nat} (hn : n ≤ 29) : levS c n ≠ [] ↔ ∃ W, Elt c n W := by
  have h := (levS_ok hC n hn).2
  constructor
  · intro hne
    obtain ⟨x, hx⟩ := List.exists_mem_of_ne_nil _ hne
    obtain ⟨W, hW, -⟩ := (h x).1 hx
    exact ⟨W, hW⟩
  · rintro ⟨W, hW⟩ e
    have := (h (intsOf W)).2 ⟨W, hW, rfl⟩
    rw [e] at this; simp at this
/-- a finite group: the levels go as far as the longest element -/
theorem fin_levels (hC : IsC c) {long : List Int} (hnorm : normG c 30 (negL c.length) = some long) (hact : actW c long (onesL c.length) = negL c.length) {n : Nat} (hn : n ≤ 29) : levS c n ≠ [] ↔ n ≤ long.length := by
  rw [lev_ne hC hn]
  constructor
  · rintro ⟨W, hW⟩; exact elt_le hC hnorm hact hW
  · intro h
    obtain ⟨Wl, -, hE, -⟩ := long_elt hC hnorm hact
    have h30 := normG_len hnorm
    refine elt_down hC (long.length - n) n (by omega) ?_
    rw [show n + (long.length - n) = long.length by omega]
    exact ⟨Wl, hE⟩

/-! ### infinite -/
theorem sumTo_add (f g : Nat → Int) : ∀ n, sumTo n (fun k => f k + g k) = sumTo n f + sumTo n g
  | 0 => rfl
  | n + 1 => by simp only [sumTo]; rw [sumTo_add f g n]; omega
theorem sumTo_mul (a : Int) (f : Nat → Int) : ∀ n, sumTo n (fun k => a * f k) = a * sumTo n f
  | 0 => by simp [sumTo]
  | n + 1 => by simp only [sumTo]; rw [sumTo_mul a f n, Int.mul_add]
theorem sumTo_congr {f g : Nat → Int} : ∀ n, (∀ k, k < n → f k = g k) → sumTo n f = sumTo n g
  | 0, _ => rfl
  | n + 1, h => by simp only [sumTo]; rw [sumTo_congr n (fun k hk => h k (by omega)), h n (by omega)]
theorem sumTo_nonpos {f : Nat → Int} : ∀ n, (∀ k, k < n → f k ≤ 0) → sumTo n f ≤ 0
  | 0, _ => by simp [sumTo]
  | n + 1, h => by simp only [sumTo]; have := sumTo_nonpos n (fun k hk => h k (by omega)); have := h n (by omega); omega
theorem sumTo_nonneg {f : Nat → Int} : ∀ n, (∀ k, k < n → 0 ≤ f k) → 0 ≤ sumTo n f
  | 0, _ => by simp [sumTo]
  | n + 1, h => by simp only [sumTo]; have := sumTo_nonneg n (fun k hk => h k (by omega)); have := h n (by omega); omega
theorem sumTo_pos {f : Nat → Int} : ∀ n, (∀ k, k < n → 0 ≤ f k) → (∃ k, k < n ∧ 0 < f k) → 0 < sumTo n f
  | 0, _, ⟨k, hk, _⟩ => by omega
  | n + 1, h, ⟨k, hk, hp⟩ => by
    simp only [sumTo]
    have h1 := sumTo_nonneg n (fun k hk => h k (by omega))
    have h2 := h n (by omega)
    by_cases e : k = n
    · subst e; omega
    · have := sumTo_pos n (fun k hk => h k (by omega)) ⟨k, by omega, hp⟩
      omega
/-- a row of numbers that no column of the matrix makes positive -/
structure Semi (c : List (List Int)) (y : Nat → Int) : Prop where
  nn : ∀ k, k < c.length → 0 ≤ y k
  some : ∃ k, k < c.length ∧ 0 < y k
  col : ∀ i, i < c.length → sumTo c.length (fun k => y k * ent c k i) ≤ 0
def phi (c : List (List Int)) (y : Nat → Int) (v : Vec) : Int := sumTo c.length (fun k => y k * v k)
theorem phi_s (y : Nat → Int) (v : Vec) (i : Nat) : phi c y (s (ent c) i v) = phi c y v + (- v i) * sumTo c.length (fun k => y k * ent c k i) := by
  unfold phi
  rw [← sumTo_mul, ← sumTo_add]
  refine sumTo_congr _ fun k _ => ?_
  simp only [Game.s]
  rw [Int.mul_sub, Int.neg_mul, ← Int.mul_assoc, ← Int.mul_assoc, Int.mul_comm (y k) (v i)]
  omega
theorem inf_elt (hC : IsC c) {y : Nat → Int} (hy : Semi c y) : ∀ n, n ≤ 29 → ∃ W, Elt c n W ∧ 0 < phi c y (toV (imgL c W))
  | 0, _ => by
    refine ⟨[], Elt.zero hC, ?_⟩
    unfold phi
    refine sumTo_pos _ (fun k hk => ?_) ?_
    · have e : toV (imgL c []) k = 1 := toV_ones c.length k hk
      rw [e, Int.mul_one]; exact hy.nn k hk
    · obtain ⟨k, hk, hp⟩ := hy.some
      have e : toV (imgL c []) k = 1 := toV_ones c.length k hk
      exact ⟨k, hk, by rw [e, Int.mul_one]; exact hp⟩
  | n + 1, hn => by
    obtain ⟨W, hW, hp⟩ := inf_elt hC hy n (by omega)
    have hex : ∃ i, i < c.length ∧ 0 < toV (imgL c W) i := by
      refine Classical.byContradiction fun hno => ?_
      have : phi c y (toV (imgL c W)) ≤ 0 := by
        unfold phi
        refine sumTo_nonpos _ fun k hk => ?_
        have h1 := hy.nn k hk
        have h2 : toV (imgL c W) k ≤ 0 := by
          rcases Int.lt_or_le 0 (toV (imgL c W) k) with h | h
          · exact absurd ⟨k, hk, h⟩ hno
          · exact h
        exact Int.mul_nonpos_of_nonneg_of_nonpos h1 h2
      omega
    obtain ⟨i, hi, hpos⟩ := hex
    have hlt : ∀ j ∈ i :: W, j < c.length := by
      intro j hj
      rcases List.mem_cons.1 hj with h | h
      · subst h; exact hi
      · exact hW.nf.lt j h
    obtain ⟨X, hX⟩ := nf_of hC hlt (by have := hW.len; simp; omega)
    refine ⟨X, ⟨hX.self, left_step hC hW (by omega) hi hpos hX⟩, ?_⟩
    have e : toV (imgL c X) = s (ent c) i (toV (imgL c W)) := by
      have h1 : imgL c X = imgL c (i :: W) := hX.img
      rw [h1]
      unfold imgL
      rw [toV_image hC hlt (by have := hW.len; simp; omega), toV_image hC hW.nf.lt (by have := hW.len; omega)]
      rfl
    rw [e, phi_s]
    have h1 := hy.col i hi
    have h2 : 0 ≤ (- toV (imgL c W) i) * sumTo c.length (fun k => y k * ent c k i) := Int.mul_nonneg_of_nonpos_of_nonpos (by omega) h1
    omega
theorem inf_levels (hC : IsC c) {y : Nat → Int} (hy : Semi c y) {n : Nat} (hn : n ≤ 29) : levS c n ≠ [] := by
  rw [lev_ne hC hn]
  obtain ⟨W, hW, -⟩ := inf_elt hC hy n hn
  exact ⟨W, hW⟩
end Game
end Go.Proofs.YtobeigdjhepedaaGreatDoor
namespace Go.Proofs.YtobeigdjhepedaaGreatDoor
set_option maxRecDepth 100000
open Go.RowKit
namespace Game
set_option linter.unusedSimpArgs false
variable {c : List (List Int)}

def dl (j : Nat) (x : Int) (k : Nat) : Int := if k = j then x else 0
theorem sum_dl (j : Nat) (x : Int) (f : Nat → Int) : ∀ n, sumTo n (fun k => dl j x k * f k) = if j < n then x * f j else 0
  | 0 => by simp [sumTo]
  | n + 1 => by
    simp only [sumTo]
    rw [sum_dl j x f n]
    unfold dl
    by_cases h : j < n
    · rw [if_pos h, if_neg (show ¬ n = j by omega), if_pos (show j < n + 1 by omega)]; simp
    · rw [if_neg h]
      by_cases e : j = n
      · subst e; rw [if_pos rfl, if_pos (show j < j + 1 by omega)]; simp
      · rw [if_neg (show ¬ n = j by omega), if_neg (show ¬ j < n + 1 by omega)]; simp
theorem dl_nn {j : Nat} {x : Int} (h : 0 ≤ x) (k : Nat) : 0 ≤ dl j x k := by unfold dl; split <;> omega
theorem sum2 {i j n : Nat} (hi : i < n) (hj : j < n) (x z : Int) (f : Nat → Int) : sumTo n (fun k => (dl i x k + dl j z k) * f k) = x * f i + z * f j := by
  have : (fun k => (dl i x k + dl j z k) * f k) = fun k => dl i x k * f k + dl j z k * f k := by funext k; rw [Int.add_mul]
  rw [this, sumTo_add, sum_dl, sum_dl, if_pos hi, if_pos hj]
theorem sum3 {i j l n : Nat} (hi : i < n) (hj : j < n) (hl : l < n) (x z u : Int) (f : Nat → Int) : sumTo n (fun k => (dl i x k + dl j z k + dl l u k) * f k) = x * f i + z * f j + u * f l := by
  have : (fun k => (dl i x k + dl j z k + dl l u k) * f k) = fun k => (dl i x k + dl j z k) * f k + dl l u k * f k := by funext k; rw [Int.add_mul]
  rw [this, sumTo_add, sum2 hi hj, sum_dl, if_pos hl]
theorem sum4 {i j l m n : Nat} (hi : i < n) (hj : j < n) (hl : l < n) (hm : m < n) (x z u v : Int) (f : Nat → Int) : sumTo n (fun k => (dl i x k + dl j z k + dl l u k + dl m v k) * f k) = x * f i + z * f j + u * f l + v * f m := by
  have : (fun k => (dl i x k + dl j z k + dl l u k + dl m v k) * f k) = fun k => (dl i x k + dl j z k + dl l u k) * f k + dl m v k * f k := by funext k; rw [Int.add_mul]
  rw [this, sumTo_add, sum3 hi hj hl, sum_dl, if_pos hm]
theorem off_np (hC : IsC c) {i j : Nat} (hi : i < c.length) (hj : j < c.length) (hne : i ≠ j) : ent c i j ≤ 0 := (ent_off hC hi hj hne).1.2
theorem mul_np {x y : Int} (hx : 0 ≤ x) (hy : y ≤ 0) : x * y ≤ 0 := Int.mul_nonpos_of_nonneg_of_nonpos hx hy
theorem mul_nn {x y : Int} (hx : x ≤ 0) (hy : y ≤ 0) : 0 ≤ x * y := Int.mul_nonneg_of_nonpos_of_nonpos hx hy

theorem semi_pair (hC : IsC c) {i j : Nat} (hi : i < c.length) (hj : j < c.length) (hne : i ≠ j) (h : 4 ≤ ent c i j * ent c j i) : ∃ y, Semi c y := by
  have aji := off_np hC hj hi (Ne.symm hne)
  have di := ent_diag hC hi
  have dj := ent_diag hC hj
  refine ⟨fun k => dl i (- ent c j i) k + dl j 2 k, fun k _ => ?_, ⟨j, hj, ?_⟩, fun m hm => ?_⟩
  · have h1 := dl_nn (j := i) (x := - ent c j i) (by omega) k
    have h2 := dl_nn (j := j) (x := 2) (by omega) k
    show 0 ≤ dl i (- ent c j i) k + dl j 2 k
    omega
  · have h1 := dl_nn (j := i) (x := - ent c j i) (by omega) j
    show 0 < dl i (- ent c j i) j + dl j 2 j
    have h2 : dl j 2 j = 2 := by simp [dl]
    omega
  · rw [sum2 hi hj]
    by_cases e1 : m = i
    · subst e1; rw [di]; omega
    · by_cases e2 : m = j
      · subst e2; rw [dj, Int.neg_mul, Int.mul_comm]; omega
      · have h1 := mul_np (x := - ent c j i) (by omega) (off_np hC hi hm (Ne.symm e1))
        have h2 := off_np hC hj hm (Ne.symm e2)
        omega

def D3 (c : List (List Int)) (p q r : Nat) : Int := (4 - ent c q r * ent c r q) * 2 + (ent c p r * ent c r q - 2 * ent c p q) * ent c q p + (ent c p q * ent c q r - 2 * ent c p r) * ent c r p
theorem semi_triple (hC : IsC c) {p q r : Nat} (hp : p < c.length) (hq : q < c.length) (hr : r < c.length) (h1 : p ≠ q) (h2 : p ≠ r) (h3 : q ≠ r) (hqr : ent c q r * ent c r q < 4) (h : D3 c p q r ≤ 0) : ∃ y, Semi c y := by
  have apq := off_np hC hp hq h1
  have apr := off_np hC hp hr h2
  have aqr := off_np hC hq hr h3
  have arq := off_np hC hr hq (Ne.symm h3)
  have dp := ent_diag hC hp
  have dq := ent_diag hC hq
  have dr := ent_diag hC hr
  have n1 : 0 ≤ 4 - ent c q r * ent c r q := by omega
  have n2 : 0 ≤ ent c p r * ent c r q - 2 * ent c p q := by have := mul_nn apr arq; omega
  have n3 : 0 ≤ ent c p q * ent c q r - 2 * ent c p r := by have := mul_nn apq aqr; omega
  refine ⟨fun k => dl p (4 - ent c q r * ent c r q) k + dl q (ent c p r * ent c r q - 2 * ent c p q) k + dl r (ent c p q * ent c q r - 2 * ent c p r) k, fun k _ => ?_, ⟨p, hp, ?_⟩, fun m hm => ?_⟩
  · have g1 := dl_nn (j := p) n1 k
    have g2 := dl_nn (j := q) n2 k
    have g3 := dl_nn (j := r) n3 k
    show 0 ≤ dl p _ k + dl q _ k + dl r _ k
    omega
  · have g2 := dl_nn (j := q) n2 p
    have g3 := dl_nn (j := r) n3 p
    have g1 : dl p (4 - ent c q r * ent c r q) p = 4 - ent c q r * ent c r q := by simp [dl]
    show 0 < dl p _ p + dl q _ p + dl r _ p
    omega
  · rw [sum3 hp hq hr]
    by_cases e1 : m = p
    · subst e1; rw [dp]; exact h
    · by_cases e2 : m = q
      · subst e2; rw [dq]
        generalize ent c p m = x at *
        generalize ent c p r = y at *
        generalize ent c r m = z at *
        generalize ent c m r = u at *
        simp only [Int.mul_add, Int.add_mul, Int.sub_mul, Int.mul_sub, Int.neg_mul, Int.mul_neg]
        simp only [Int.mul_comm, Int.mul_left_comm, Int.mul_assoc, Int.reduceMul]
        omega
      · by_cases e3 : m = r
        · subst e3; rw [dr]
          generalize ent c p q = x at *
          generalize ent c p m = y at *
          generalize ent c q m = z at *
          generalize ent c m q = u at *
          simp only [Int.mul_add, Int.add_mul, Int.sub_mul, Int.mul_sub, Int.neg_mul, Int.mul_neg]
          simp only [Int.mul_comm, Int.mul_left_comm, Int.mul_assoc, Int.reduceMul]
          omega
        · have g1 := mul_np n1 (off_np hC hp hm (Ne.symm e1))
          have g2 := mul_np n2 (off_np hC hq hm (Ne.symm e2))
          have g3 := mul_np n3 (off_np hC hr hm (Ne.symm e3))
          omega

def D4 (a b d e f g : Int × Int) : Int :=
  ((4 - g.1 * g.2) * 2 + (f.1 * g.2 - 2 * e.1) * e.2 + (e.1 * g.1 - 2 * f.1) * f.2) * 2
  + (- a.1 * (4 - g.1 * g.2) + b.1 * (2 * e.2 - g.1 * f.2) - d.1 * (e.2 * g.2 - 2 * f.2)) * a.2
  + (a.1 * (2 * e.1 - f.1 * g.2) - b.1 * (4 - f.1 * f.2) + d.1 * (2 * g.2 - e.1 * f.2)) * b.2
  + (- a.1 * (e.1 * g.1 - 2 * f.1) + b.1 * (2 * g.1 - f.1 * e.2) - d.1 * (4 - e.1 * e.2)) * d.2
set_option maxHeartbeats 4000000 in
theorem semi_quad {a b d e f g : Int × Int} (hC : IsC (mat4 a b d e f g)) (he : e.1 * e.2 < 4) (hf : f.1 * f.2 < 4) (hg : g.1 * g.2 < 4) (ht : 0 < (4 - g.1 * g.2) * 2 + (f.1 * g.2 - 2 * e.1) * e.2 + (e.1 * g.1 - 2 * f.1) * f.2) (h : D4 a b d e f g ≤ 0) : ∃ y, Semi (mat4 a b d e f g) y := by
  have l : (mat4 a b d e f g).length = 4 := rfl
  have o : ∀ i j, i < 4 → j < 4 → i ≠ j → ent (mat4 a b d e f g) i j ≤ 0 := fun i j hi hj hne => off_np hC (by rw [l]; exact hi) (by rw [l]; exact hj) hne
  have a1 : a.1 ≤ 0 := o 0 1 (by omega) (by omega) (by omega)
  have b1 : b.1 ≤ 0 := o 0 2 (by omega) (by omega) (by omega)
  have d1 : d.1 ≤ 0 := o 0 3 (by omega) (by omega) (by omega)
  have e1 : e.1 ≤ 0 := o 1 2 (by omega) (by omega) (by omega)
  have e2 : e.2 ≤ 0 := o 2 1 (by omega) (by omega) (by omega)
  have f1 : f.1 ≤ 0 := o 1 3 (by omega) (by omega) (by omega)
  have f2 : f.2 ≤ 0 := o 3 1 (by omega) (by omega) (by omega)
  have g1 : g.1 ≤ 0 := o 2 3 (by omega) (by omega) (by omega)
  have g2 : g.2 ≤ 0 := o 3 2 (by omega) (by omega) (by omega)
  have n1 : 0 ≤ - a.1 * (4 - g.1 * g.2) + b.1 * (2 * e.2 - g.1 * f.2) - d.1 * (e.2 * g.2 - 2 * f.2) := by
    have t1 : 0 ≤ - a.1 * (4 - g.1 * g.2) := Int.mul_nonneg (by omega) (by omega)
    have t2 : 0 ≤ b.1 * (2 * e.2 - g.1 * f.2) := mul_nn b1 (by have := mul_nn g1 f2; omega)
    have t3 : d.1 * (e.2 * g.2 - 2 * f.2) ≤ 0 := by rw [Int.mul_comm]; exact mul_np (by have := mul_nn e2 g2; omega) d1
    omega
  have n2 : 0 ≤ a.1 * (2 * e.1 - f.1 * g.2) - b.1 * (4 - f.1 * f.2) + d.1 * (2 * g.2 - e.1 * f.2) := by
    have t1 : 0 ≤ a.1 * (2 * e.1 - f.1 * g.2) := mul_nn a1 (by have := mul_nn f1 g2; omega)
    have t2 : b.1 * (4 - f.1 * f.2) ≤ 0 := by rw [Int.mul_comm]; exact mul_np (by omega) b1
    have t3 : 0 ≤ d.1 * (2 * g.2 - e.1 * f.2) := mul_nn d1 (by have := mul_nn e1 f2; omega)
    omega
  have n3 : 0 ≤ - a.1 * (e.1 * g.1 - 2 * f.1) + b.1 * (2 * g.1 - f.1 * e.2) - d.1 * (4 - e.1 * e.2) := by
    have t1 : 0 ≤ - a.1 * (e.1 * g.1 - 2 * f.1) := Int.mul_nonneg (by omega) (by have := mul_nn e1 g1; omega)
    have t2 : 0 ≤ b.1 * (2 * g.1 - f.1 * e.2) := mul_nn b1 (by have := mul_nn f1 e2; omega)
    have t3 : d.1 * (4 - e.1 * e.2) ≤ 0 := by rw [Int.mul_comm]; exact mul_np (by omega) d1
    omega
  refine ⟨fun k => dl 0 ((4 - g.1 * g.2) * 2 + (f.1 * g.2 - 2 * e.1) * e.2 + (e.1 * g.1 - 2 * f.1) * f.2) k + dl 1 (- a.1 * (4 - g.1 * g.2) + b.1 * (2 * e.2 - g.1 * f.2) - d.1 * (e.2 * g.2 - 2 * f.2)) k + dl 2 (a.1 * (2 * e.1 - f.1 * g.2) - b.1 * (4 - f.1 * f.2) + d.1 * (2 * g.2 - e.1 * f.2)) k + dl 3 (- a.1 * (e.1 * g.1 - 2 * f.1) + b.1 * (2 * g.1 - f.1 * e.2) - d.1 * (4 - e.1 * e.2)) k, fun k _ => ?_, ⟨0, by rw [l]; omega, ?_⟩, fun m hm => ?_⟩
  · have z0 := dl_nn (j := 0) (Int.le_of_lt ht) k
    have z1 := dl_nn (j := 1) n1 k
    have z2 := dl_nn (j := 2) n2 k
    have z3 := dl_nn (j := 3) n3 k
    show 0 ≤ dl 0 _ k + dl 1 _ k + dl 2 _ k + dl 3 _ k
    omega
  · show 0 < dl 0 _ 0 + dl 1 _ 0 + dl 2 _ 0 + dl 3 _ 0
    simp [dl]; exact ht
  · rw [l] at hm ⊢
    rw [sum4 (by omega) (by omega) (by omega) (by omega)]
    have hm4 : m = 0 ∨ m = 1 ∨ m = 2 ∨ m = 3 := by omega
    clear o hC n1 n2 n3 ht a1 b1 d1 e1 e2 f1 f2 g1 g2 he hf hg
    obtain ⟨a1, a2⟩ := a
    obtain ⟨b1, b2⟩ := b
    obtain ⟨d1, d2⟩ := d
    obtain ⟨e1, e2⟩ := e
    obtain ⟨f1, f2⟩ := f
    obtain ⟨g1, g2⟩ := g
    rcases hm4 with rfl | rfl | rfl | rfl
    · exact h
    · show _ * a1 + _ * 2 + _ * e2 + _ * f2 ≤ 0
      simp only [Int.mul_add, Int.add_mul, Int.sub_mul, Int.mul_sub, Int.neg_mul, Int.mul_neg]
      simp only [Int.mul_comm, Int.mul_left_comm, Int.mul_assoc, Int.reduceMul]
      omega
    · show _ * b1 + _ * e1 + _ * 2 + _ * g2 ≤ 0
      simp only [Int.mul_add, Int.add_mul, Int.sub_mul, Int.mul_sub, Int.neg_mul, Int.mul_neg]
      simp only [Int.mul_comm, Int.mul_left_comm, Int.mul_assoc, Int.reduceMul]
      omega
    · show _ * d1 + _ * f1 + _ * g1 + _ * 2 ≤ 0
      simp only [Int.mul_add, Int.add_mul, Int.sub_mul, Int.mul_sub, Int.neg_mul, Int.mul_neg]
      simp only [Int.mul_comm, Int.mul_left_comm, Int.mul_assoc, Int.reduceMul]
      omega

theorem det2_eq (a : Int × Int) : det 2 (mat2 a) = 4 - a.1 * a.2 := by
  simp [det, sumTo, sgn, ent, minorOf, cutAt, mat2]
  simp only [Int.neg_mul]
  omega
theorem det3_eq (a b e : Int × Int) : det 3 (mat3 a b e) = (4 - e.1 * e.2) * 2 + (b.1 * e.2 - 2 * a.1) * a.2 + (a.1 * e.1 - 2 * b.1) * b.2 := by
  obtain ⟨a1, a2⟩ := a
  obtain ⟨b1, b2⟩ := b
  obtain ⟨e1, e2⟩ := e
  simp [det, sumTo, sgn, ent, minorOf, cutAt, mat3]
  simp only [Int.mul_add, Int.add_mul, Int.sub_mul, Int.mul_sub, Int.neg_mul, Int.mul_neg]
  simp only [Int.mul_comm, Int.mul_left_comm, Int.mul_assoc, Int.reduceMul]
  omega
set_option maxHeartbeats 4000000 in
theorem det4_eq (a b d e f g : Int × Int) : det 4 (mat4 a b d e f g) = D4 a b d e f g := by
  obtain ⟨a1, a2⟩ := a
  obtain ⟨b1, b2⟩ := b
  obtain ⟨d1, d2⟩ := d
  obtain ⟨e1, e2⟩ := e
  obtain ⟨f1, f2⟩ := f
  obtain ⟨g1, g2⟩ := g
  simp [det, sumTo, sgn, ent, minorOf, cutAt, mat4, D4]
  simp only [Int.mul_add, Int.add_mul, Int.sub_mul, Int.mul_sub, Int.neg_mul, Int.mul_neg]
  simp only [Int.mul_comm, Int.mul_left_comm, Int.mul_assoc, Int.reduceMul]
  omega
theorem fin_of_pos (hC : IsC c) (h : ∀ k, 1 ≤ k → k < 2 ^ c.length → 0 < minorAt c k) : finB c = true := by
  have hw : ∀ (f m : Nat), 1 ≤ m → m + f ≤ 2 ^ c.length → witFrom c m f = [] := by
    intro f
    induction f with
    | zero => intro m _ _; rfl
    | succ f ih =>
      intro m h1 h2
      unfold witFrom
      have := h m h1 (by omega)
      rw [if_neg (by omega)]
      exact ih (m + 1) (by omega) (by omega)
  have h1 : 1 ≤ 2 ^ c.length := Nat.one_le_two_pow
  unfold finB witness
  rw [if_pos hC, hw _ 1 (Nat.le_refl _) (by omega), decide_eq_true hC]
  rfl
theorem m1_1 (x : Int) : minorAt [[x]] 1 = x := by
  show det 1 [[x]] = x
  simp [det, sumTo, sgn, ent, minorOf]
theorem s2_1 (a : Int × Int) : minorAt (mat2 a) 1 = 2 := by kernel_rfl
theorem s2_2 (a : Int × Int) : minorAt (mat2 a) 2 = 2 := by kernel_rfl
theorem s3_1 (a b e : Int × Int) : minorAt (mat3 a b e) 1 = 2 := by kernel_rfl
theorem s3_2 (a b e : Int × Int) : minorAt (mat3 a b e) 2 = 2 := by kernel_rfl
theorem s3_4 (a b e : Int × Int) : minorAt (mat3 a b e) 4 = 2 := by kernel_rfl
theorem s4_1 (a b d e f g : Int × Int) : minorAt (mat4 a b d e f g) 1 = 2 := by kernel_rfl
theorem s4_2 (a b d e f g : Int × Int) : minorAt (mat4 a b d e f g) 2 = 2 := by kernel_rfl
theorem s4_4 (a b d e f g : Int × Int) : minorAt (mat4 a b d e f g) 4 = 2 := by kernel_rfl
theorem s4_8 (a b d e f g : Int × Int) : minorAt (mat4 a b d e f g) 8 = 2 := by kernel_rfl
theorem to2 (hC : IsC c) (hn : c.length = 2) : ∃ a, c = mat2 a := by
  obtain ⟨r0, r1, rfl⟩ := list2 hn
  obtain ⟨x00, x01, rfl⟩ := list2 (hC.2.2.1 0 (by simp))
  obtain ⟨x10, x11, rfl⟩ := list2 (hC.2.2.1 1 (by simp))
  have d0 : x00 = 2 := ent_diag hC (i := 0) (by simp)
  have d1 : x11 = 2 := ent_diag hC (i := 1) (by simp)
  subst d0; subst d1
  exact ⟨(x01, x10), rfl⟩
theorem to3 (hC : IsC c) (hn : c.length = 3) : ∃ a b e, c = mat3 a b e := by
  obtain ⟨r0, r1, r2, rfl⟩ := list3 hn
  obtain ⟨x00, x01, x02, rfl⟩ := list3 (hC.2.2.1 0 (by simp))
  obtain ⟨x10, x11, x12, rfl⟩ := list3 (hC.2.2.1 1 (by simp))
  obtain ⟨x20, x21, x22, rfl⟩ := list3 (hC.2.2.1 2 (by simp))
  have d0 : x00 = 2 := ent_diag hC (i := 0) (by simp)
  have d1 : x11 = 2 := ent_diag hC (i := 1) (by simp)
  have d2 : x22 = 2 := ent_diag hC (i := 2) (by simp)
  subst d0; subst d1; subst d2
  exact ⟨(x01, x10), (x02, x20), (x12, x21), rfl⟩
theorem to4 (hC : IsC c) (hn : c.length = 4) : ∃ a b d e f g, c = mat4 a b d e f g := by
  obtain ⟨r0, r1, r2, r3, rfl⟩ := list4 hn
  obtain ⟨x00, x01, x02, x03, rfl⟩ := list4 (hC.2.2.1 0 (by simp))
  obtain ⟨x10, x11, x12, x13, rfl⟩ := list4 (hC.2.2.1 1 (by simp))
  obtain ⟨x20, x21, x22, x23, rfl⟩ := list4 (hC.2.2.1 2 (by simp))
  obtain ⟨x30, x31, x32, x33, rfl⟩ := list4 (hC.2.2.1 3 (by simp))
  have d0 : x00 = 2 := ent_diag hC (i := 0) (by simp)
  have d1 : x11 = 2 := ent_diag hC (i := 1) (by simp)
  have d2 : x22 = 2 := ent_diag hC (i := 2) (by simp)
  have d3 : x33 = 2 := ent_diag hC (i := 3) (by simp)
  subst d0; subst d1; subst d2; subst d3
  exact ⟨(x01, x10), (x02, x20), (x03, x30), (x12, x21), (x13, x31), (x23, x32), rfl⟩
theorem fin2 {a : Int × Int} (hC : IsC (mat2 a)) (hno : ¬ ∃ y, Semi (mat2 a) y) : finB (mat2 a) = true := by
  refine fin_of_pos hC fun k h1 h2 => ?_
  have l : (mat2 a).length = 2 := rfl
  rw [l] at h2
  have hk : k = 1 ∨ k = 2 ∨ k = 3 := by omega
  have p01 : a.1 * a.2 < 4 := Int.not_le.1 fun h => hno (semi_pair hC (i := 0) (j := 1) (by rw [l]; omega) (by rw [l]; omega) (by omega) h)
  rcases hk with rfl | rfl | rfl
  · rw [s2_1]; omega
  · rw [s2_2]; omega
  · rw [m2_3, det2_eq]; omega
theorem fin3 {a b e : Int × Int} (hC : IsC (mat3 a b e)) (hno : ¬ ∃ y, Semi (mat3 a b e) y) : finB (mat3 a b e) = true := by
  refine fin_of_pos hC fun k h1 h2 => ?_
  have l : (mat3 a b e).length = 3 := rfl
  rw [l] at h2
  have hk : k = 1 ∨ k = 2 ∨ k = 3 ∨ k = 4 ∨ k = 5 ∨ k = 6 ∨ k = 7 := by omega
  have p01 : a.1 * a.2 < 4 := Int.not_le.1 fun h => hno (semi_pair hC (i := 0) (j := 1) (by rw [l]; omega) (by rw [l]; omega) (by omega) h)
  have p02 : b.1 * b.2 < 4 := Int.not_le.1 fun h => hno (semi_pair hC (i := 0) (j := 2) (by rw [l]; omega) (by rw [l]; omega) (by omega) h)
  have p12 : e.1 * e.2 < 4 := Int.not_le.1 fun h => hno (semi_pair hC (i := 1) (j := 2) (by rw [l]; omega) (by rw [l]; omega) (by omega) h)
  have t : 0 < D3 (mat3 a b e) 0 1 2 := Int.not_le.1 fun h => hno (semi_triple hC (p := 0) (q := 1) (r := 2) (by rw [l]; omega) (by rw [l]; omega) (by rw [l]; omega) (by omega) (by omega) (by omega) p12 h)
  rcases hk with rfl | rfl | rfl | rfl | rfl | rfl | rfl
  · rw [s3_1]; omega
  · rw [s3_2]; omega
  · rw [m3_3, det2_eq]; omega
  · rw [s3_4]; omega
  · rw [m3_5, det2_eq]; omega
  · rw [m3_6, det2_eq]; omega
  · rw [m3_7, det3_eq]; exact t
set_option maxHeartbeats 1000000 in
theorem fin4 {a b d e f g : Int × Int} (hC : IsC (mat4 a b d e f g)) (hno : ¬ ∃ y, Semi (mat4 a b d e f g) y) : finB (mat4 a b d e f g) = true := by
  refine fin_of_pos hC fun k h1 h2 => ?_
  have l : (mat4 a b d e f g).length = 4 := rfl
  rw [l] at h2
  have hk : k = 1 ∨ k = 2 ∨ k = 3 ∨ k = 4 ∨ k = 5 ∨ k = 6 ∨ k = 7 ∨ k = 8 ∨ k = 9 ∨ k = 10 ∨ k = 11 ∨ k = 12 ∨ k = 13 ∨ k = 14 ∨ k = 15 := by omega
  have pp : ∀ i j, i < 4 → j < 4 → i ≠ j → ent (mat4 a b d e f g) i j * ent (mat4 a b d e f g) j i < 4 := fun i j hi hj hne => Int.not_le.1 fun h => hno (semi_pair hC (i := i) (j := j) (by rw [l]; omega) (by rw [l]; omega) hne h)
  have p01 : a.1 * a.2 < 4 := pp 0 1 (by omega) (by omega) (by omega)
  have p02 : b.1 * b.2 < 4 := pp 0 2 (by omega) (by omega) (by omega)
  have p03 : d.1 * d.2 < 4 := pp 0 3 (by omega) (by omega) (by omega)
  have p12 : e.1 * e.2 < 4 := pp 1 2 (by omega) (by omega) (by omega)
  have p13 : f.1 * f.2 < 4 := pp 1 3 (by omega) (by omega) (by omega)
  have p23 : g.1 * g.2 < 4 := pp 2 3 (by omega) (by omega) (by omega)
  have tt : ∀ p q r, p < 4 → q < 4 → r < 4 → p ≠ q → p ≠ r → q ≠ r → 0 < D3 (mat4 a b d e f g) p q r := fun p q r hp hq hr g1 g2 g3 => Int.not_le.1 fun h => hno (semi_triple hC (p := p) (q := q) (r := r) (by rw [l]; omega) (by rw [l]; omega) (by rw [l]; omega) g1 g2 g3 (pp q r hq hr g3) h)
  have t123 : 0 < (4 - g.1 * g.2) * 2 + (f.1 * g.2 - 2 * e.1) * e.2 + (e.1 * g.1 - 2 * f.1) * f.2 := tt 1 2 3 (by omega) (by omega) (by omega) (by omega) (by omega) (by omega)
  have q4 : 0 < D4 a b d e f g := Int.not_le.1 fun h => hno (semi_quad hC p12 p13 p23 t123 h)
  rcases hk with rfl | rfl | rfl | rfl | rfl | rfl | rfl | rfl | rfl | rfl | rfl | rfl | rfl | rfl | rfl
  · rw [s4_1]; omega
  · rw [s4_2]; omega
  · rw [m4_3, det2_eq]; omega
  · rw [s4_4]; omega
  · rw [m4_5, det2_eq]; omega
  · rw [m4_6, det2_eq]; omega
  · rw [m4_7, det3_eq]; exact tt 0 1 2 (by omega) (by omega) (by omega) (by omega) (by omega) (by omega)
  · rw [s4_8]; omega
  · rw [m4_9, det2_eq]; omega
  · rw [m4_10, det2_eq]; omega
  · rw [m4_11, det3_eq]; exact tt 0 1 3 (by omega) (by omega) (by omega) (by omega) (by omega) (by omega)
  · rw [m4_12, det2_eq]; omega
  · rw [m4_13, det3_eq]; exact tt 0 2 3 (by omega) (by omega) (by omega) (by omega) (by omega) (by omega)
  · rw [m4_14, det3_eq]; exact t123
  · rw [m4_15, det4_eq]; exact q4
/-- a group that is not finite has such a row of numbers -/
theorem semi_of_inf (hC : IsC c) (hf : finB c = false) : ∃ y, Semi c y := by
  refine Classical.byContradiction fun hno => ?_
  have h : finB c = true := by
    have hn : c.length = 1 ∨ c.length = 2 ∨ c.length = 3 ∨ c.length = 4 := by have := hC.1; have := hC.2.1; omega
    rcases hn with h | h | h | h
    · refine fin_of_pos hC fun k h1 h2 => ?_
      obtain ⟨r0, rfl⟩ := list1 h
      obtain ⟨x00, rfl⟩ := list1 (hC.2.2.1 0 (by simp))
      have d0 : x00 = 2 := ent_diag hC (i := 0) (by simp)
      subst d0
      have hk : k = 1 := by simp at h2; omega
      subst hk
      rw [m1_1]; omega
    · obtain ⟨a, rfl⟩ := to2 hC h; exact fin2 hC hno
    · obtain ⟨a, b, e, rfl⟩ := to3 hC h; exact fin3 hC hno
    · obtain ⟨a, b, d, e, f, g, rfl⟩ := to4 hC h; exact fin4 hC hno
  rw [h] at hf; cases hf
end Game
end Go.Proofs.YtobeigdjhepedaaGreatDoor
