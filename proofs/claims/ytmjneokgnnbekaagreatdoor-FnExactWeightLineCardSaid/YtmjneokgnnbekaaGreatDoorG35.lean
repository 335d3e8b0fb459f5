/- The program's RootsUpTo and PositiveRoots; PositiveRoots of both at any matrix: contracts. Coroots: the reference's way down and up again as a function; what the kernel looks at, type by type. Plain law. Fractions of products, reduced step by step in two ways. Plain law. Coroots of finite types, and that the dimension formula gives an integer: out of what the kernel looked at. Plain law. -/
import Derived.Test.YtmjneokgnnbekaaGreatDoorG32
import Derived.Test.YtmjneokgnnbekaaGreatDoorG33
import Derived.Test.YtmjneokgnnbekaaGreatDoorG34
import Derived.Test.YtmjneokgnnbekaaGreatDoorG26
namespace Go.Proofs.YtmjneokgnnbekaaGreatDoor
set_option maxRecDepth 100000
open Go.RowKit Game

def posA (c : List (List Int)) : List (List Int) := if finB c = true then posL c else []
theorem posA_fin {c : List (List Int)} (h : finB c = true) : posA c = posL c := if_pos h
theorem posA_inf {c : List (List Int)} (h : finB c = false) : posA c = [] := if_neg (by rw [h]; decide)
theorem finB_isC {c : List (List Int)} (h : finB c = true) : IsC c := by
  unfold finB at h
  rw [Bool.and_eq_true] at h
  simpa using h.1
theorem posOk_fin {c : List (List Int)} (h : finB c = true) : PosOk c := posOk_of (pos_fin (finB_isC h) h)

theorem spec_PositiveRoots_any (gc oc n cc : Nat) (c : List (List Int)) (w : World) (hn : c.length = n) (hl : c.length ≤ 1048576) (hrl : ∀ j, j < c.length → (c.getD j []).length ≤ 1048576) (hgc : gc < w.heap.size) (hr : Rows2 w gc oc c) :
    Calls Tryz.prog 55 #[(Value.slice (some ⟨gc, oc, none⟩) n cc)] w (GotRowsB w (posA c) (finB c)) := by
  have hcall := fun W (hW : Below w.heap.size w W) => spec_IsFinite_any gc oc n cc c W hn hl hrl (Nat.lt_of_lt_of_le hgc hW.size) (hr.below hW hgc)
  cases hf : finB c with
  | false =>
    rw [hf] at hcall
    rw [posA_inf hf]
    exact spec_PositiveRoots_inf gc oc n cc w (hcall w (Below.refl _ _))
  | true =>
    rw [hf] at hcall
    rw [posA_fin hf]
    exact spec_PositiveRoots_fin gc oc n cc c w hn (finB_isC hf) (posOk_fin hf) hgc hr hcall
theorem posA_rl (c : List (List Int)) : Rl c.length (posA c) := by
  unfold posA
  split
  · exact posL_rl c
  · intro x hx; cases hx
theorem posA_few (c : List (List Int)) : (posA c).length ≤ 24 ∧ ∀ x ∈ posA c, x.length ≤ 4 := by
  unfold posA
  split
  · rename_i h
    exact ⟨(posOk_fin h).few, fun x hx => by rw [posL_rl c x hx]; exact (finB_isC h).2.1⟩
  · exact ⟨by simp, by simp⟩
end Go.Proofs.YtmjneokgnnbekaaGreatDoor
namespace Go.Proofs.YtmjneokgnnbekaaGreatDoor
set_option maxRecDepth 100000
open Go.RowKit

/-- the first letter that does not raise the height any more -/
def dnAt (c : List (List Int)) (r : List Int) : Nat → Nat → Nat
  | 0, i => i
  | f + 1, i => if heightL r ≤ heightL (mirL c i r) then dnAt c r f (i + 1) else i
def dnI (c : List (List Int)) (r : List Int) : Nat := dnAt c r c.length 0
def dnGo (c : List (List Int)) : Nat → List Int → List Nat → List Int × List Nat
  | 0, r, p => (r, p)
  | f + 1, r, p => if dnI c r = c.length ∨ heightL r = 1 then (r, p) else dnGo c f (mirL c (dnI c r) r) (p ++ [dnI c r])
def upBack (t : List (List Int)) : List Nat → List Int → List Int
  | [], r => r
  | i :: p, r => upBack t p (mirL t i r)
def coR (c : List (List Int)) (r : List Int) : List Int := let q := dnGo c 30 r []; upBack (transL c) q.2.reverse q.1
def coL (c : List (List Int)) : List (List Int) := (posL c).map (coR c)
def tabOf (c : List (List Int)) (L : List (List Int)) : List (List Int × List Int) := L.map fun r => (r, coR c r)
def lookT : List (List Int × List Int) → List Int → List Int
  | [], _ => []
  | p :: T, r => if r = p.1 then p.2 else lookT T r
def cols (n : Nat) (L : List (List Int)) : List (List Nat) := (List.range n).map fun j => L.map fun r => (r.getD j 0).toNat
def dimAll (d : Nat) : List (List Nat) → List Nat → Bool
  | [], acc => (acc.foldl (· * ·) 1) % d == 0
  | col :: cs, acc => [1, 2, 3, 4, 5].all fun x => dimAll d cs (List.zipWith (fun a b => a + x * b) acc col)
def sumN (r : List Int) : Nat := r.foldl (fun a x => a + x.toNat) 0
def prodN (l : List Nat) : Nat := l.foldl (· * ·) 1
def weylB (n : Nat) (L : List (List Int)) : Bool :=
  decide (16 < L.length) || (decide (prodN (L.map sumN) * 5 ^ L.length < 2 ^ 62) && dimAll (prodN (L.map sumN)) (cols n L) (L.map fun _ => 0))
def coTabB (c : List (List Int)) (T : List (List Int × List Int)) : Bool :=
  T.all (fun p => (p.2.all fun x => decide (0 ≤ x ∧ x ≤ 12)) && (decide (1 ≤ sumN p.2) && (decide (p.2.length = c.length) && (List.range c.length).all fun i => !(posB (mirL c i p.1)) || decide (12 < heightL (mirL c i p.1)) || decide (lookT T (mirL c i p.1) = mirL (transL c) i p.2)))) && (List.range c.length).all fun i => decide (lookT T (simpL c.length i) = simpL c.length i)
def coOk (c : List (List Int)) : Bool := coTabB c (tabOf c (posL c)) && weylB c.length ((tabOf c (posL c)).map (·.2))
def chk4E (P : List (List Int) → Bool) (a b e : Int × Int) : Bool := bad3 a b e || L6.all fun d => L6.all fun f => bad3 a d f || L6.all fun g => bad3 b d g || (bad3 e f g || (decide (det 4 (mat4 a b d e f g) ≤ 0) || P (mat4 a b d e f g)))
theorem chk4At_eq (P : List (List Int) → Bool) (a b : Int × Int) : chk4At P a b = L6.all fun e => chk4E P a b e := rfl
end Go.Proofs.YtmjneokgnnbekaaGreatDoor
namespace Go.Proofs.YtmjneokgnnbekaaGreatDoor
set_option maxRecDepth 100000
set_option linter.unusedSimpArgs false
open Go.RowKit

def pTo (us : List Nat) : Nat → Nat
  | 0 => 1
  | k + 1 => pTo us k * us.getD k 0
def upTo (us bs : List Nat) : Nat → Nat × Nat
  | 0 => (1, 1)
  | k + 1 => let s := upTo us bs k; let u := s.1 * us.getD k 0; let d := s.2 * bs.getD k 0; (u / Nat.gcd u d, d / Nat.gcd u d)
def rdTo (x : Nat) (bs : List Nat) : Nat → Nat × List Nat
  | 0 => (x, bs)
  | k + 1 => let s := rdTo x bs k; let d := Nat.gcd s.1 (s.2.getD k 0); (s.1 / d, s.2.set k (s.2.getD k 0 / d))
def dmTo (us bs : List Nat) : Nat → Nat × List Nat
  | 0 => (1, bs)
  | k + 1 => let s := dmTo us bs k; let q := rdTo (us.getD k 0) s.2 s.2.length; (s.1 * q.1, q.2)
theorem foldl_mul (l : List Nat) : ∀ a : Nat, l.foldl (· * ·) a = a * l.foldl (· * ·) 1 := by
  induction l with
  | nil => intro a; simp
  | cons x l ih => intro a; simp only [List.foldl_cons]; rw [ih (a * x), ih (1 * x)]; rw [Nat.one_mul, Nat.mul_assoc]
theorem prodN_cons (x : Nat) (l : List Nat) : prodN (x :: l) = x * prodN l := by
  unfold prodN
  rw [List.foldl_cons, foldl_mul, Nat.one_mul]
theorem pTo_append (l : List Nat) (x : Nat) : ∀ k, k ≤ l.length → pTo (l ++ [x]) k = pTo l k
  | 0, _ => rfl
  | k + 1, h => by
    unfold pTo
    rw [pTo_append l x k (by omega)]
    simp [List.getD, List.getElem?_append_left (show k < l.length by omega)]
theorem pTo_take (l : List Nat) : ∀ k, k ≤ l.length → pTo l k = prodN (l.take k)
  | 0, _ => rfl
  | k + 1, h => by
    unfold pTo
    rw [pTo_take l k (by omega), List.take_succ_eq_append_getElem (show k < l.length by omega)]
    unfold prodN
    rw [List.foldl_append]
    simp [List.getD, show k < l.length by omega]
theorem pTo_all (l : List Nat) : pTo l l.length = prodN l := by rw [pTo_take l _ (Nat.le_refl _), List.take_length]
theorem pTo_pos {l : List Nat} (h : ∀ k, k < l.length → 0 < l.getD k 0) : ∀ k, k ≤ l.length → 0 < pTo l k
  | 0, _ => Nat.one_pos
  | k + 1, hk => Nat.mul_pos (pTo_pos h k (by omega)) (h k (by omega))
theorem pTo_mono {l : List Nat} (h : ∀ k, k < l.length → 0 < l.getD k 0) : ∀ m k, k + m ≤ l.length → pTo l k ≤ pTo l (k + m)
  | 0, k, _ => Nat.le_refl _
  | m + 1, k, hk => by
    have h1 := pTo_mono h m k (by omega)
    have h2 : pTo l (k + (m + 1)) = pTo l (k + m) * l.getD (k + m) 0 := rfl
    rw [h2]
    exact Nat.le_trans h1 (Nat.le_mul_of_pos_right _ (h _ (by omega)))
theorem pTo_bound {us bs : List Nat} (h : ∀ k, k < us.length → us.getD k 0 ≤ 5 * bs.getD k 0) : ∀ k, k ≤ us.length → pTo us k ≤ 5 ^ k * pTo bs k
  | 0, _ => by simp [pTo]
  | k + 1, hk => by
    have h1 := pTo_bound h k (by omega)
    have h2 := h k (by omega)
    show pTo us k * us.getD k 0 ≤ 5 ^ (k + 1) * (pTo bs k * bs.getD k 0)
    have h3 := Nat.mul_le_mul h1 h2
    have e : 5 ^ k * pTo bs k * (5 * bs.getD k 0) = 5 ^ (k + 1) * (pTo bs k * bs.getD k 0) := by
      rw [Nat.pow_succ]
      simp only [Nat.mul_assoc, Nat.mul_left_comm, Nat.mul_comm]
    omega
structure UpOk (us bs : List Nat) (k : Nat) : Prop where
  eq : (upTo us bs k).1 * pTo bs k = (upTo us bs k).2 * pTo us k
  p1 : 0 < (upTo us bs k).1
  p2 : 0 < (upTo us bs k).2
  l1 : (upTo us bs k).1 ≤ pTo us k
  l2 : (upTo us bs k).2 ≤ pTo bs k
theorem upOk {us bs : List Nat} (hl : us.length = bs.length) (ha : ∀ k, k < us.length → 0 < us.getD k 0) (hb : ∀ k, k < bs.length → 0 < bs.getD k 0) : ∀ k, k ≤ us.length → UpOk us bs k
  | 0, _ => ⟨rfl, Nat.one_pos, Nat.one_pos, Nat.le_refl _, Nat.le_refl _⟩
  | k + 1, hk => by
    have ih := upOk hl ha hb k (by omega)
    have hx := ha k (by omega)
    have hy := hb k (by omega)
    have e1 : (upTo us bs (k + 1)).1 = (upTo us bs k).1 * us.getD k 0 / Nat.gcd ((upTo us bs k).1 * us.getD k 0) ((upTo us bs k).2 * bs.getD k 0) := rfl
    have e2 : (upTo us bs (k + 1)).2 = (upTo us bs k).2 * bs.getD k 0 / Nat.gcd ((upTo us bs k).1 * us.getD k 0) ((upTo us bs k).2 * bs.getD k 0) := rfl
    have e3 : pTo us (k + 1) = pTo us k * us.getD k 0 := rfl
    have e4 : pTo bs (k + 1) = pTo bs k * bs.getD k 0 := rfl
    obtain ⟨h1, h2, h3, h4, h5⟩ := ih
    refine (fun (q : _ ∧ _ ∧ _ ∧ _ ∧ _) => ⟨q.1, q.2.1, q.2.2.1, q.2.2.2.1, q.2.2.2.2⟩) ?_
    rw [e1, e2, e3, e4]
    generalize us.getD k 0 = x at *
    generalize bs.getD k 0 = y at *
    generalize (upTo us bs k).1 = s at *
    generalize (upTo us bs k).2 = t at *
    generalize pTo us k = A at *
    generalize pTo bs k = B at *
    have hg : 0 < Nat.gcd (s * x) (t * y) := Nat.gcd_pos_of_pos_left _ (Nat.mul_pos h2 hx)
    obtain ⟨u, hu⟩ := Nat.gcd_dvd_left (s * x) (t * y)
    obtain ⟨v, hv⟩ := Nat.gcd_dvd_right (s * x) (t * y)
    have qu : s * x / Nat.gcd (s * x) (t * y) = u := by
      conv => lhs; lhs; rw [hu]
      exact Nat.mul_div_cancel_left _ hg
    have qv : t * y / Nat.gcd (s * x) (t * y) = v := by
      conv => lhs; lhs; rw [hv]
      exact Nat.mul_div_cancel_left _ hg
    rw [qu, qv]
    have hsx := Nat.mul_pos h2 hx
    have hty := Nat.mul_pos h3 hy
    generalize Nat.gcd (s * x) (t * y) = g at *
    have a1 : s * x ≤ A * x := Nat.mul_le_mul_right _ h4
    have a2 : t * y ≤ B * y := Nat.mul_le_mul_right _ h5
    have b1 : u ≤ g * u := Nat.le_mul_of_pos_left _ hg
    have b2 : v ≤ g * v := Nat.le_mul_of_pos_left _ hg
    refine ⟨?_, ?_, ?_, by omega, by omega⟩
    · apply Nat.eq_of_mul_eq_mul_left hg
      calc g * (u * (B * y)) = (g * u) * (B * y) := by rw [Nat.mul_assoc]
        _ = s * x * (B * y) := by rw [hu]
        _ = (s * B) * (x * y) := by simp only [Nat.mul_assoc, Nat.mul_left_comm, Nat.mul_comm]
        _ = (t * A) * (x * y) := by rw [h1]
        _ = (t * y) * (A * x) := by simp only [Nat.mul_assoc, Nat.mul_left_comm, Nat.mul_comm]
        _ = (g * v) * (A * x) := by rw [← hv]
        _ = g * (v * (A * x)) := by rw [Nat.mul_assoc]
    · rcases Nat.eq_zero_or_pos u with e | e
      · subst e; omega
      · exact e
    · rcases Nat.eq_zero_or_pos v with e | e
      · subst e; omega
      · exact e
theorem upTo_div {us bs : List Nat} (hl : us.length = bs.length) (ha : ∀ k, k < us.length → 0 < us.getD k 0) (hb : ∀ k, k < bs.length → 0 < bs.getD k 0) {q : Nat} (hq : pTo us us.length = q * pTo bs us.length) : (upTo us bs us.length).1 / (upTo us bs us.length).2 = q := by
  have h := upOk hl ha hb _ (Nat.le_refl _)
  have hB := pTo_pos hb us.length (by omega)
  have h1 := h.eq
  rw [hq] at h1
  have h2 : (upTo us bs us.length).1 = (upTo us bs us.length).2 * q := by
    apply Nat.eq_of_mul_eq_mul_right hB
    rw [h1, Nat.mul_assoc]
  rw [h2]
  exact Nat.mul_div_cancel_left _ h.p2

/-! ### the other way -/
theorem prodN_append (l m : List Nat) : prodN (l ++ m) = prodN l * prodN m := by
  induction l with
  | nil => simp [prodN]
  | cons x l ih => rw [List.cons_append, prodN_cons, prodN_cons, ih, Nat.mul_assoc]
theorem prodN_set {l : List Nat} {k d : Nat} (hk : k < l.length) (hd : 0 < d) (h : d ∣ l.getD k 0) : prodN l = d * prodN (l.set k (l.getD k 0 / d)) := by
  have e := List.take_append_drop k l
  have e2 : l.drop k = l.getD k 0 :: l.drop (k + 1) := by rw [List.drop_eq_getElem_cons hk]; simp [List.getD, hk]
  have e3 : l.set k (l.getD k 0 / d) = l.take k ++ (l.getD k 0 / d) :: l.drop (k + 1) := by
    rw [List.set_eq_take_append_cons_drop, if_pos hk]
  rw [e3, prodN_append, prodN_cons]
  conv => lhs; rw [← e, e2, prodN_append, prodN_cons]
  obtain ⟨u, hu⟩ := h
  rw [hu, Nat.mul_div_cancel_left _ hd]
  simp only [Nat.mul_assoc, Nat.mul_left_comm, Nat.mul_comm]
structure RdOk (x : Nat) (bs : List Nat) (k : Nat) : Prop where
  len : (rdTo x bs k).2.length = bs.length
  eq : (rdTo x bs k).1 * prodN bs = x * prodN (rdTo x bs k).2
  pos : 0 < (rdTo x bs k).1
  bpos : ∀ j, j < bs.length → 0 < (rdTo x bs k).2.getD j 0
  dvd : ∀ j, j < bs.length → (rdTo x bs k).2.getD j 0 ∣ bs.getD j 0
  dvx : (rdTo x bs k).1 ∣ x
  cop : ∀ j, j < k → Nat.Coprime (rdTo x bs k).1 ((rdTo x bs k).2.getD j 0)
theorem getD_set {l : List Nat} {k j v : Nat} (hk : k < l.length) : (l.set k v).getD j 0 = if j = k then v else l.getD j 0 := by
  simp only [List.getD, List.getElem?_set]
  by_cases e : k = j
  · subst e; simp [hk]
  · rw [if_neg e, if_neg (Ne.symm e)]
theorem rdOk {x : Nat} {bs : List Nat} (hx : 0 < x) (hb : ∀ k, k < bs.length → 0 < bs.getD k 0) : ∀ k, k ≤ bs.length → RdOk x bs k
  | 0, _ => ⟨rfl, rfl, hx, hb, fun _ _ => Nat.dvd_refl _, Nat.dvd_refl _, fun _ h => absurd h (by omega)⟩
  | k + 1, hk => by
    obtain ⟨h1, h2, h3, h4, h5, h6, h7⟩ := rdOk hx hb k (by omega)
    have e1 : (rdTo x bs (k + 1)).1 = (rdTo x bs k).1 / Nat.gcd (rdTo x bs k).1 ((rdTo x bs k).2.getD k 0) := rfl
    have e2 : (rdTo x bs (k + 1)).2 = (rdTo x bs k).2.set k ((rdTo x bs k).2.getD k 0 / Nat.gcd (rdTo x bs k).1 ((rdTo x bs k).2.getD k 0)) := rfl
    refine (fun (q : _ ∧ _ ∧ _ ∧ _ ∧ _ ∧ _ ∧ _) => ⟨q.1, q.2.1, q.2.2.1, q.2.2.2.1, q.2.2.2.2.1, q.2.2.2.2.2.1, q.2.2.2.2.2.2⟩) ?_
    rw [e1, e2]
    generalize (rdTo x bs k).1 = y at *
    generalize (rdTo x bs k).2 = cs at *
    have hkc : k < cs.length := by omega
    have hg : 0 < Nat.gcd y (cs.getD k 0) := Nat.gcd_pos_of_pos_left _ h3
    have hgl := Nat.gcd_dvd_left y (cs.getD k 0)
    have hgr := Nat.gcd_dvd_right y (cs.getD k 0)
    have hck := h4 k (by omega)
    have hcop : Nat.Coprime (y / Nat.gcd y (cs.getD k 0)) (cs.getD k 0 / Nat.gcd y (cs.getD k 0)) := Nat.coprime_div_gcd_div_gcd hg
    have hps := prodN_set hkc hg hgr
    generalize Nat.gcd y (cs.getD k 0) = g at *
    refine ⟨by rw [List.length_set]; exact h1, ?_, Nat.div_pos (Nat.le_of_dvd h3 hgl) hg, ?_, ?_, ?_, ?_⟩
    · apply Nat.eq_of_mul_eq_mul_left hg
      rw [← Nat.mul_assoc, Nat.mul_div_cancel' hgl, h2, hps]
      simp only [Nat.mul_assoc, Nat.mul_left_comm, Nat.mul_comm]
    · intro j hj
      rw [getD_set hkc]
      split
      · exact Nat.div_pos (Nat.le_of_dvd hck hgr) hg
      · exact h4 j hj
    · intro j hj
      rw [getD_set hkc]
      split
      · rename_i e; subst e
        exact Nat.dvd_trans (Nat.div_dvd_of_dvd hgr) (h5 j hj)
      · exact h5 j hj
    · exact Nat.dvd_trans (Nat.div_dvd_of_dvd hgl) h6
    · intro j hj
      rw [getD_set hkc]
      split
      · exact hcop
      · exact Nat.Coprime.coprime_dvd_left (Nat.div_dvd_of_dvd hgl) (h7 j (by omega))
structure DmOk (us bs : List Nat) (k : Nat) : Prop where
  len : (dmTo us bs k).2.length = bs.length
  eq : (dmTo us bs k).1 * prodN bs = pTo us k * prodN (dmTo us bs k).2
  pos : 0 < (dmTo us bs k).1
  bpos : ∀ j, j < bs.length → 0 < (dmTo us bs k).2.getD j 0
  dvd : ∀ j, j < bs.length → (dmTo us bs k).2.getD j 0 ∣ bs.getD j 0
  le : (dmTo us bs k).1 ≤ pTo us k
  cop : ∀ j, j < bs.length → Nat.Coprime (dmTo us bs k).1 ((dmTo us bs k).2.getD j 0)
theorem dmOk {us bs : List Nat} (ha : ∀ k, k < us.length → 0 < us.getD k 0) (hb : ∀ k, k < bs.length → 0 < bs.getD k 0) : ∀ k, k ≤ us.length → DmOk us bs k
  | 0, _ => ⟨rfl, rfl, Nat.one_pos, hb, fun _ _ => Nat.dvd_refl _, Nat.le_refl _, fun _ _ => Nat.coprime_one_left _⟩
  | k + 1, hk => by
    obtain ⟨h1, h2, h3, h4, h5, h6, h7⟩ := dmOk ha hb k (by omega)
    have hx := ha k (by omega)
    have hr := rdOk (bs := (dmTo us bs k).2) hx (fun j hj => h4 j (by omega)) _ (Nat.le_refl _)
    have e1 : (dmTo us bs (k + 1)).1 = (dmTo us bs k).1 * (rdTo (us.getD k 0) (dmTo us bs k).2 (dmTo us bs k).2.length).1 := rfl
    have e2 : (dmTo us bs (k + 1)).2 = (rdTo (us.getD k 0) (dmTo us bs k).2 (dmTo us bs k).2.length).2 := rfl
    have e3 : pTo us (k + 1) = pTo us k * us.getD k 0 := rfl
    obtain ⟨r1, r2, r3, r4, r5, r6, r7⟩ := hr
    refine (fun (q : _ ∧ _ ∧ _ ∧ _ ∧ _ ∧ _ ∧ _) => ⟨q.1, q.2.1, q.2.2.1, q.2.2.2.1, q.2.2.2.2.1, q.2.2.2.2.2.1, q.2.2.2.2.2.2⟩) ?_
    rw [e1, e2, e3]
    generalize us.getD k 0 = x at *
    generalize (dmTo us bs k).1 = p at *
    generalize (dmTo us bs k).2 = cs at *
    generalize (rdTo x cs cs.length).1 = y at *
    generalize (rdTo x cs cs.length).2 = ds at *
    generalize pTo us k = A at *
    have hyx := Nat.le_of_dvd hx r6
    have hcs : 0 < prodN cs := by
      have := pTo_pos (l := cs) (fun j hj => h4 j (by omega)) _ (Nat.le_refl _)
      rwa [pTo_all] at this
    refine ⟨by omega, ?_, Nat.mul_pos h3 r3, fun j hj => r4 j (by omega), fun j hj => Nat.dvd_trans (r5 j (by omega)) (h5 j hj), Nat.mul_le_mul h6 hyx, fun j hj => ?_⟩
    · apply Nat.eq_of_mul_eq_mul_right hcs
      calc p * y * prodN bs * prodN cs = (p * prodN bs) * (y * prodN cs) := by simp only [Nat.mul_assoc, Nat.mul_left_comm, Nat.mul_comm]
        _ = (A * prodN cs) * (x * prodN ds) := by rw [h2, r2]
        _ = A * x * prodN ds * prodN cs := by simp only [Nat.mul_assoc, Nat.mul_left_comm, Nat.mul_comm]
    · refine Nat.Coprime.mul_left ?_ (r7 j (by omega))
      exact Nat.Coprime.coprime_dvd_right (r5 j (by omega)) (h7 j hj)
theorem coprime_prod {p : Nat} : ∀ {l : List Nat}, (∀ j, j < l.length → Nat.Coprime p (l.getD j 0)) → Nat.Coprime p (prodN l)
  | [], _ => Nat.coprime_one_right _
  | x :: l, h => by
    rw [prodN_cons]
    refine Nat.Coprime.mul_right (h 0 (by simp)) (coprime_prod fun j hj => ?_)
    have := h (j + 1) (by simpa using hj)
    simpa using this
theorem dmTo_eq {us bs : List Nat} (hl : us.length = bs.length) (ha : ∀ k, k < us.length → 0 < us.getD k 0) (hb : ∀ k, k < bs.length → 0 < bs.getD k 0) {q : Nat} (hq : pTo us us.length = q * pTo bs us.length) : (dmTo us bs us.length).1 = q := by
  have h := dmOk ha hb _ (Nat.le_refl _)
  have hB := pTo_pos hb bs.length (Nat.le_refl _)
  rw [hl, pTo_all bs, ← hl] at hq
  rw [pTo_all] at hB
  have h1 := h.eq
  rw [hq] at h1
  have hc : Nat.Coprime (dmTo us bs us.length).1 (prodN (dmTo us bs us.length).2) := coprime_prod fun j hj => h.cop j (by rw [h.len] at hj; exact hj)
  have h2 : (dmTo us bs us.length).1 = q * prodN (dmTo us bs us.length).2 := by
    apply Nat.eq_of_mul_eq_mul_right hB
    rw [h1]
    simp only [Nat.mul_assoc, Nat.mul_left_comm, Nat.mul_comm]
  have hd : prodN (dmTo us bs us.length).2 ∣ (dmTo us bs us.length).1 := ⟨q, by rw [Nat.mul_comm]; exact h2⟩
  have h3 : prodN (dmTo us bs us.length).2 = 1 := Nat.Coprime.eq_one_of_dvd hc.symm hd
  rw [h3, Nat.mul_one] at h2
  exact h2
end Go.Proofs.YtmjneokgnnbekaaGreatDoor
namespace Go.Proofs.YtmjneokgnnbekaaGreatDoor
set_option maxRecDepth 100000
set_option linter.unusedSimpArgs false
open Go.RowKit

theorem lookT_tab {c : List (List Int)} {r : List Int} : ∀ {L : List (List Int)}, r ∈ L → lookT (tabOf c L) r = coR c r
  | x :: L, h => by
    show (if r = x then coR c x else lookT (tabOf c L) r) = coR c r
    by_cases e : r = x
    · rw [if_pos e, e]
    · rw [if_neg e]
      exact lookT_tab ((List.mem_cons.1 h).resolve_left e)
structure CoOk (c : List (List Int)) : Prop where
  small : ∀ r ∈ posL c, ∀ x ∈ coR c r, 0 ≤ x ∧ x ≤ 12
  ht : ∀ r ∈ posL c, 1 ≤ sumN (coR c r)
  len : ∀ r ∈ posL c, (coR c r).length = c.length
  step : ∀ r ∈ posL c, ∀ i, i < c.length → posB (mirL c i r) = true → heightL (mirL c i r) ≤ 12 → coR c (mirL c i r) = mirL (transL c) i (coR c r)
  simp : ∀ i, i < c.length → coR c (simpL c.length i) = simpL c.length i
  weyl : weylB c.length (coL c) = true
theorem coOk_of {c : List (List Int)} (hP : PosOk c) (h : coOk c = true) : CoOk c := by
  unfold coOk coTabB at h
  rw [Bool.and_eq_true, Bool.and_eq_true] at h
  obtain ⟨⟨h1, h2⟩, h3⟩ := h
  have e : (tabOf c (posL c)).map (·.2) = coL c := by unfold tabOf coL; rw [List.map_map]; rfl
  rw [e] at h3
  have hm : ∀ r ∈ posL c, (r, coR c r) ∈ tabOf c (posL c) := fun r hr => List.mem_map.2 ⟨r, hr, rfl⟩
  have g := fun r hr => List.all_eq_true.1 h1 _ (hm r hr)
  refine ⟨fun r hr x hx => ?_, fun r hr => ?_, fun r hr => ?_, fun r hr i hi hp hh => ?_, fun i hi => ?_, h3⟩
  · have h := g r hr
    rw [Bool.and_eq_true] at h
    have := List.all_eq_true.1 h.1 x hx
    simpa using this
  · have h := g r hr
    rw [Bool.and_eq_true, Bool.and_eq_true] at h
    simpa using h.2.1
  · have h := g r hr
    rw [Bool.and_eq_true, Bool.and_eq_true, Bool.and_eq_true] at h
    simpa using h.2.2.1
  · have h := g r hr
    rw [Bool.and_eq_true, Bool.and_eq_true, Bool.and_eq_true] at h
    have := List.all_eq_true.1 h.2.2.2 i (List.mem_range.2 hi)
    have hp' : posB (mirL c i (r, coR c r).1) = true := hp
    have hh' : ¬ (12 < heightL (mirL c i (r, coR c r).1)) := by show ¬ (12 < heightL (mirL c i r)); omega
    simp only [hp', Bool.not_true, Bool.false_or, decide_eq_false hh', decide_eq_true_eq] at this
    rw [← this]
    exact (lookT_tab (hP.closed.step r hr i hi hp hh)).symm
  · have := List.all_eq_true.1 h2 i (List.mem_range.2 hi)
    rw [decide_eq_true_eq] at this
    exact (lookT_tab (hP.closed.simp i hi)).symm.trans this

/-! ### integers -/
def sj (h : Nat → Nat) : List Nat → Nat
  | [] => 0
  | j :: js => h j + sj h js
theorem sj_append (h : Nat → Nat) (a b : List Nat) : sj h (a ++ b) = sj h a + sj h b := by
  induction a with
  | nil => simp [sj]
  | cons x a ih => simp only [List.cons_append, sj]; omega
def accum : List (List Nat) → List Nat → List Nat → List Nat
  | [], _, acc => acc
  | _ :: _, [], acc => acc
  | col :: cs, x :: xs, acc => accum cs xs (List.zipWith (fun a b => a + x * b) acc col)
theorem dimAll_ok {d : Nat} : ∀ (cs : List (List Nat)) (xs acc : List Nat), xs.length = cs.length → (∀ x ∈ xs, 1 ≤ x ∧ x ≤ 5) → dimAll d cs acc = true → d ∣ prodN (accum cs xs acc)
  | [], xs, acc, _, _, h => by
    unfold dimAll at h
    rw [beq_iff_eq] at h
    exact Nat.dvd_of_mod_eq_zero h
  | col :: cs, x :: xs, acc, hl, hx, h => by
    unfold dimAll at h
    have hx1 := hx x (by simp)
    have hm : x ∈ [1, 2, 3, 4, 5] := by
      have : x = 1 ∨ x = 2 ∨ x = 3 ∨ x = 4 ∨ x = 5 := by omega
      rcases this with rfl | rfl | rfl | rfl | rfl <;> simp
    have h2 := List.all_eq_true.1 h x hm
    exact dimAll_ok cs xs _ (by simpa using hl) (fun y hy => hx y (by simp [hy])) h2
theorem zip_map {α : Type} (L : List α) (g f : α → Nat) (x : Nat) : List.zipWith (fun a b => a + x * b) (L.map g) (L.map f) = L.map fun r => g r + x * f r := by
  induction L with
  | nil => rfl
  | cons r L ih => simp only [List.map_cons, List.zipWith_cons_cons, ih]
theorem accum_map {α : Type} (L : List α) (f : Nat → α → Nat) (y : Nat → Nat) : ∀ (js : List Nat) (g : α → Nat), accum (js.map fun j => L.map (f j)) (js.map y) (L.map g) = L.map fun r => g r + sj (fun j => y j * f j r) js
  | [], g => by simp [accum, sj]
  | j :: js, g => by
    simp only [List.map_cons, accum]
    rw [zip_map, accum_map L f y js]
    congr 1
    funext r
    simp only [sj]
    omega
/-- the pairing of a weight plus rho -/
def nS (v r : List Int) : Nat → Nat
  | 0 => 0
  | k + 1 => nS v r k + ((v.getD k 0).toNat + 1) * (r.getD k 0).toNat
theorem nS_sj (v r : List Int) : ∀ n, sj (fun j => ((v.getD j 0).toNat + 1) * (r.getD j 0).toNat) (List.range n) = nS v r n
  | 0 => rfl
  | n + 1 => by rw [List.range_succ, sj_append, nS_sj v r n]; simp [sj, nS]
theorem sumN_acc (l : List Int) : ∀ a : Nat, l.foldl (fun a x => a + x.toNat) a = a + l.foldl (fun a x => a + x.toNat) 0 := by
  induction l with
  | nil => intro a; simp
  | cons x l ih => intro a; simp only [List.foldl_cons]; rw [ih, ih (0 + x.toNat)]; omega
def hS (r : List Int) : Nat → Nat
  | 0 => 0
  | k + 1 => hS r k + (r.getD k 0).toNat
theorem hS_take (r : List Int) : ∀ k, k ≤ r.length → hS r k = sumN (r.take k)
  | 0, _ => by simp [hS, sumN]
  | k + 1, h => by
    unfold hS
    rw [hS_take r k (by omega), List.take_succ_eq_append_getElem (show k < r.length by omega)]
    unfold sumN
    rw [List.foldl_append]
    simp [List.getD, show k < r.length by omega]
theorem sumN_hS (r : List Int) : sumN r = hS r r.length := by rw [hS_take r _ (Nat.le_refl _), List.take_length]
theorem hS_le {r : List Int} (h : ∀ x ∈ r, 0 ≤ x ∧ x ≤ 12) : ∀ k, k ≤ r.length → hS r k ≤ 12 * k
  | 0, _ => by simp [hS]
  | k + 1, hk => by
    have h1 := hS_le h k (by omega)
    have h2 := h (r.getD k 0) (by simp [List.getD, show k < r.length by omega])
    show hS r k + (r.getD k 0).toNat ≤ 12 * (k + 1)
    omega
theorem nS_hS {v r : List Int} (hv : ∀ j, j < v.length → 0 ≤ v.getD j 0 ∧ v.getD j 0 ≤ 4) : ∀ k, k ≤ v.length → hS r k ≤ nS v r k ∧ nS v r k ≤ 5 * hS r k
  | 0, _ => by simp [hS, nS]
  | k + 1, hk => by
    have h1 := nS_hS (r := r) hv k (by omega)
    have h2 := hv k (by omega)
    show hS r k + (r.getD k 0).toNat ≤ nS v r k + ((v.getD k 0).toNat + 1) * (r.getD k 0).toNat ∧ nS v r k + ((v.getD k 0).toNat + 1) * (r.getD k 0).toNat ≤ 5 * (hS r k + (r.getD k 0).toNat)
    have e : (v.getD k 0).toNat ≤ 4 := by omega
    generalize (v.getD k 0).toNat = a at *
    generalize (r.getD k 0).toNat = b at *
    have e1 : (a + 1) * b ≤ 5 * b := Nat.mul_le_mul_right _ (by omega)
    have e2 : 1 * b ≤ (a + 1) * b := Nat.mul_le_mul_right _ (by omega)
    omega
def abL (v : List Int) (L : List (List Int)) : List Nat := L.map fun r => nS v r v.length
def beL (L : List (List Int)) : List Nat := L.map sumN
/-- weights with numbers from 0 to 4 -/
def Sml (n : Nat) (v : List Int) : Prop := v.length = n ∧ ∀ j, j < v.length → 0 ≤ v.getD j 0 ∧ v.getD j 0 ≤ 4
instance (n : Nat) (v : List Int) : Decidable (Sml n v) := by unfold Sml; infer_instance
theorem weyl_dvd {c : List (List Int)} (hC : CoOk c) (hl : (coL c).length ≤ 16) {v : List Int} (hv : Sml c.length v) : prodN (beL (coL c)) ∣ prodN (abL v (coL c)) ∧ prodN (beL (coL c)) * 5 ^ (coL c).length < 2 ^ 62 := by
  have h := hC.weyl
  unfold weylB at h
  rw [decide_eq_false (by omega), Bool.false_or, Bool.and_eq_true] at h
  refine ⟨?_, by simpa [beL] using h.1⟩
  have h2 := dimAll_ok (d := prodN ((coL c).map sumN)) (cols c.length (coL c)) ((List.range c.length).map fun j => (v.getD j 0).toNat + 1) ((coL c).map fun _ => 0) (by simp [cols]) (fun x hx => by
    obtain ⟨j, hj, rfl⟩ := List.mem_map.1 hx
    have := hv.2 j (by rw [hv.1]; exact List.mem_range.1 hj)
    omega) h.2
  unfold cols at h2
  rw [accum_map (coL c) (fun j r => (r.getD j 0).toNat) (fun j => (v.getD j 0).toNat + 1)] at h2
  have e : ((coL c).map fun r => 0 + sj (fun j => ((v.getD j 0).toNat + 1) * (r.getD j 0).toNat) (List.range c.length)) = abL v (coL c) := by
    unfold abL
    congr 1
    funext r
    rw [nS_sj, hv.1, Nat.zero_add]
  rw [e] at h2
  exact h2
theorem coL_mem {c : List (List Int)} (hC : CoOk c) : ∀ s ∈ coL c, (∀ x ∈ s, 0 ≤ x ∧ x ≤ 12) ∧ 1 ≤ sumN s ∧ s.length = c.length := by
  intro s hs
  obtain ⟨r, hr, rfl⟩ := List.mem_map.1 hs
  exact ⟨hC.small r hr, hC.ht r hr, hC.len r hr⟩
/-- all that both sides want to know of the numbers -/
structure DimOk (v : List Int) (L : List (List Int)) : Prop where
  len : (abL v L).length = (beL L).length
  pa : ∀ k, k < (abL v L).length → 0 < (abL v L).getD k 0
  pb : ∀ k, k < (beL L).length → 0 < (beL L).getD k 0
  le : pTo (abL v L) (abL v L).length < 2 ^ 62
  leb : pTo (beL L) (beL L).length < 2 ^ 62
  dvd : pTo (abL v L) (abL v L).length = prodN (abL v L) / prodN (beL L) * pTo (beL L) (abL v L).length
theorem dimOk {c : List (List Int)} (hC : CoOk c) (hl : (coL c).length ≤ 16) {v : List Int} (hv : Sml c.length v) : DimOk v (coL c) := by
  have hm := coL_mem hC
  have hg : ∀ k, k < (coL c).length → (coL c).getD k [] ∈ coL c := fun k hk => by simp [List.getD, hk]
  have ea : ∀ k, k < (coL c).length → (abL v (coL c)).getD k 0 = nS v ((coL c).getD k []) v.length := fun k hk => by simp [abL, List.getD, hk]
  have eb : ∀ k, k < (coL c).length → (beL (coL c)).getD k 0 = sumN ((coL c).getD k []) := fun k hk => by simp [beL, List.getD, hk]
  have la : (abL v (coL c)).length = (coL c).length := by simp [abL]
  have lb : (beL (coL c)).length = (coL c).length := by simp [beL]
  have hb : ∀ k, k < (coL c).length → hS ((coL c).getD k []) v.length = sumN ((coL c).getD k []) := fun k hk => by
    have := (hm _ (hg k hk)).2.2
    rw [sumN_hS, this, hv.1]
  obtain ⟨h1, h2⟩ := weyl_dvd hC hl hv
  have pb : ∀ k, k < (beL (coL c)).length → 0 < (beL (coL c)).getD k 0 := fun k hk => by rw [lb] at hk; rw [eb k hk]; exact (hm _ (hg k hk)).2.1
  have hbd : ∀ k, k < (abL v (coL c)).length → (abL v (coL c)).getD k 0 ≤ 5 * (beL (coL c)).getD k 0 := fun k hk => by
    rw [la] at hk
    rw [ea k hk, eb k hk, ← hb k hk]
    exact (nS_hS hv.2 _ (Nat.le_refl _)).2
  have h3 := pTo_bound hbd _ (Nat.le_refl _)
  have e3 : pTo (beL (coL c)) (abL v (coL c)).length = prodN (beL (coL c)) := by rw [la, ← lb, pTo_all]
  rw [e3] at h3
  refine ⟨by rw [la, lb], fun k hk => ?_, pb, ?_, ?_, ?_⟩
  · rw [la] at hk
    rw [ea k hk]
    have q1 := (nS_hS (r := (coL c).getD k []) hv.2 _ (Nat.le_refl _)).1
    rw [hb k hk] at q1
    have := (hm _ (hg k hk)).2.1
    omega
  · refine Nat.lt_of_le_of_lt h3 ?_
    rw [la, Nat.mul_comm]
    exact h2
  · rw [pTo_all]
    refine Nat.lt_of_le_of_lt ?_ h2
    exact Nat.le_mul_of_pos_right _ (Nat.pow_pos (by decide))
  · rw [e3, pTo_all, Nat.div_mul_cancel h1]
end Go.Proofs.YtmjneokgnnbekaaGreatDoor
