/- The program's RootsUpTo and PositiveRoots; PositiveRoots of both at any matrix: contracts. Coroots: the reference's way down and up again as a function; what the kernel looks at, type by type. Plain law. Fractions of products, reduced step by step in two ways. Plain law. -/
import Derived.Test.YtmjneokgnnbekaaG30
import Derived.Test.YtmjneokgnnbekaaG31
import Derived.Test.YtmjneokgnnbekaaG32
import Derived.Test.YtmjneokgnnbekaaG18
namespace Go.Proofs.Ytmjneokgnnbekaa
set_option maxRecDepth 100000
open Go.RowKit Game

def posA (c : List (List Int)) : List (List Int) := if finB c = true then posL c else []
theorem posA_fin {c : List (List Int)} (h : finB c = true) : posA c = posL c := if_pos h
theorem posA_inf {c : List (List Int)} (h : finB c = false) : posA c = [] := if_neg (by rw [h]; decide)
theorem finB_isC {c : List (List Int)} (h : finB c = true) : IsC c := by
  unfold finB at h
  rw [Bool.and_eq_true] at h
  simpa using h.1
theorem posOk_fin {c : List (List Int)} (h : finB c = true) : PosOk c := posOk_of (pos_fin (finB_isC h) h)

set_option maxHeartbeats 1000000 in
theorem impl_RootsUpTo_ok (gc oc n cc : Nat) (c : List (List Int)) (w : World) (hn : c.length = n) (hC : IsC c) (hP : PosOk c) (hgc : gc < w.heap.size) (hr : Rows2 w gc oc c) :
    Calls Try.prog 95 #[(Value.slice (some ⟨gc, oc, none⟩) n cc), .int .i64 12] w (GotRows w (posL c)) := by
  subst hn
  have hn4 := hC.2.1
  have hcl := hC.2.2.1
  have hcall := impl_IsCartan gc oc _ cc c w rfl (by omega) (fun j hj => by have := hcl j hj; omega) hr
  rw [decide_eq_true hC] at hcall
  have Hcall := Lib.hid hcall; have Hr := Lib.hid hr; have HP := Lib.hid hP; have HC := Lib.hid hC
  clear hcall hr hP hcl hC
  go_enter Try.func95, Try.ntmps95
  go_wp2_with fail
  refine Hcall.out.mono ?_
  rintro e w1 ⟨rfl, hs1⟩
  have hb1 := below_still (Below.refl w.heap.size w) hs1
  have hc2 := impl_pairedRoots_ok (fun _ _ => True) gc oc _ cc c w1 rfl HC.out HP.out (CoRel.any c) (Nat.lt_of_lt_of_le hgc hb1.size) (Hr.out.still hs1)
  have Hc2 := Lib.hid hc2
  clear hc2 Hcall hs1
  go_wp2_with fail
  refine Hc2.out.mono ?_
  rintro e w2 ⟨g, cap, rs, g2, cap2, rs2, rfl, hcon, -, -, hO, -, hb2⟩
  have hb := hb1.trans (hb2.mono hb1.size)
  have hO2 := hO.mono hb1.size
  clear Hc2 hO hb2
  go_wp2_with fail
  go_ret
  exact ⟨g, cap, rs, rfl, hcon, hO2, hb⟩

set_option maxHeartbeats 1000000 in
theorem impl_PositiveRoots_any (gc oc n cc : Nat) (c : List (List Int)) (w : World) (hn : c.length = n) (hl : c.length ≤ 1048576) (hrl : ∀ j, j < c.length → (c.getD j []).length ≤ 1048576) (hgc : gc < w.heap.size) (hr : Rows2 w gc oc c) :
    Calls Try.prog 65 #[(Value.slice (some ⟨gc, oc, none⟩) n cc)] w (GotRowsB w (posA c) (finB c)) := by
  have hcall := impl_IsFinite_any gc oc n cc c w hn hl hrl hgc hr
  cases hf : finB c with
  | false =>
    rw [hf] at hcall
    rw [posA_inf hf]
    have Hcall := Lib.hid hcall
    clear hcall
    go_enter Try.func65, Try.ntmps65
    go_wp2_with fail
    refine Hcall.out.mono ?_
    rintro e w1 ⟨rfl, hb1⟩
    go_wp2_with fail
    go_ret2
    exact ⟨_, 0, [], rfl, rfl, OwnRows.empty hb1.size, hb1.alloc hb1.size _⟩
  | true =>
    rw [hf] at hcall
    rw [posA_fin hf]
    have Hcall := Lib.hid hcall; have Hr := Lib.hid (fun W (hW : Below w.heap.size w W) => impl_RootsUpTo_ok gc oc n cc c W hn (finB_isC hf) (posOk_fin hf) (Nat.lt_of_lt_of_le hgc hW.size) (hr.below hW hgc))
    clear hcall hr hf hrl hl hn
    go_enter Try.func65, Try.ntmps65
    go_wp2_with fail
    refine Hcall.out.mono ?_
    rintro e w1 ⟨rfl, hb1⟩
    go_wp2_with fail
    refine (Hr.out w1 hb1).mono ?_
    rintro e w2 ⟨g, cp, rs, rfl, hcr, ho, hb2⟩
    go_wp2_with fail
    go_ret2
    exact ⟨g, cp, rs, rfl, hcr, ho.mono hb1.size, hb1.trans (hb2.mono hb1.size)⟩

theorem spec_PositiveRoots_any (gc oc n cc : Nat) (c : List (List Int)) (w : World) (hn : c.length = n) (hl : c.length ≤ 1048576) (hrl : ∀ j, j < c.length → (c.getD j []).length ≤ 1048576) (hgc : gc < w.heap.size) (hr : Rows2 w gc oc c) :
    Calls Try.prog 32 #[(Value.slice (some ⟨gc, oc, none⟩) n cc)] w (GotRowsB w (posA c) (finB c)) := by
  have hcall := fun W (hW : Below w.heap.size w W) => spec_IsFinite_any gc oc n cc c W hn hl hrl (Nat.lt_of_lt_of_le hgc hW.size) (hr.below hW hgc)
  cases hf : finB c with
  | false =>
    rw [hf] at hcall
    rw [posA_inf hf]
    exact spec_PositiveRoots_inf gc oc n cc w (hcall w (Below.refl _ _))
  | true =>
    rw [hf] at hcall
    rw [posA_fin hf]
    exact spec_PositiveRoots_fin gc oc n cc c w hn (finB_isC hf) (posOk_fin hf) hgc hr hcall
theorem posA_rl (c : List (List Int)) : Rl c.length (posA c) := by
  unfold posA
  split
  · exact posL_rl c
  · intro x hx; cases hx
theorem posA_few (c : List (List Int)) : (posA c).length ≤ 24 ∧ ∀ x ∈ posA c, x.length ≤ 4 := by
  unfold posA
  split
  · rename_i h
    exact ⟨(posOk_fin h).few, fun x hx => by rw [posL_rl c x hx]; exact (finB_isC h).2.1⟩
  · exact ⟨by simp, by simp⟩
end Go.Proofs.Ytmjneokgnnbekaa
namespace Go.Proofs.Ytmjneokgnnbekaa
set_option maxRecDepth 100000
open Go.RowKit

/-- the first letter that does not raise the height any more -/
def dnAt (c : List (List Int)) (r : List Int) : Nat → Nat → Nat
  | 0, i => i
  | f + 1, i => if heightL r ≤ heightL (mirL c i r) then dnAt c r f (i + 1) else i
def dnI (c : List (List Int)) (r : List Int) : Nat := dnAt c r c.length 0
def dnGo (c : List (List Int)) : Nat → List Int → List Nat → List Int × List Nat
  | 0, r, p => (r, p)
  | f + 1, r, p => if dnI c r = c.length ∨ heightL r = 1 then (r, p) else dnGo c f (mirL c (dnI c r) r) (p ++ [dnI c r])
def upBack (t : List (List Int)) : List Nat → List Int → List Int
  | [], r => r
  | i :: p, r => upBack t p (mirL t i r)
def coR (c : List (List Int)) (r : List Int) : List Int := let q := dnGo c 30 r []; upBack (transL c) q.2.reverse q.1
def coL (c : List (List Int)) : List (List Int) := (posL c).map (coR c)
def tabOf (c : List (List Int)) (L : List (List Int)) : List (List Int × List Int) := L.map fun r => (r, coR c r)
def lookT : List (List Int × List Int) → List Int → List Int
  | [], _ => []
  | p :: T, r => if r = p.1 then p.2 else lookT T r
def cols (n : Nat) (L : List (List Int)) : List (List Nat) := (List.range n).map fun j => L.map fun r => (r.getD j 0).toNat
def dimAll (d : Nat) : List (List Nat) → List Nat → Bool
  | [], acc => (acc.foldl (· * ·) 1) % d == 0
  | col :: cs, acc => [1, 2, 3, 4, 5].all fun x => dimAll d cs (List.zipWith (fun a b => a + x * b) acc col)
def sumN (r : List Int) : Nat := r.foldl (fun a x => a + x.toNat) 0
def prodN (l : List Nat) : Nat := l.foldl (· * ·) 1
def weylB (n : Nat) (L : List (List Int)) : Bool :=
  decide (16 < L.length) || (decide (prodN (L.map sumN) * 5 ^ L.length < 2 ^ 62) && dimAll (prodN (L.map sumN)) (cols n L) (L.map fun _ => 0))
def coTabB (c : List (List Int)) (T : List (List Int × List Int)) : Bool :=
  T.all (fun p => (p.2.all fun x => decide (0 ≤ x ∧ x ≤ 12)) && (decide (1 ≤ sumN p.2) && (decide (p.2.length = c.length) && (List.range c.length).all fun i => !(posB (mirL c i p.1)) || decide (12 < heightL (mirL c i p.1)) || decide (lookT T (mirL c i p.1) = mirL (transL c) i p.2)))) && (List.range c.length).all fun i => decide (lookT T (simpL c.length i) = simpL c.length i)
def coOk (c : List (List Int)) : Bool := coTabB c (tabOf c (posL c)) && weylB c.length ((tabOf c (posL c)).map (·.2))
def chk4E (P : List (List Int) → Bool) (a b e : Int × Int) : Bool := bad3 a b e || L6.all fun d => L6.all fun f => bad3 a d f || L6.all fun g => bad3 b d g || (bad3 e f g || (decide (det 4 (mat4 a b d e f g) ≤ 0) || P (mat4 a b d e f g)))
theorem chk4At_eq (P : List (List Int) → Bool) (a b : Int × Int) : chk4At P a b = L6.all fun e => chk4E P a b e := rfl
end Go.Proofs.Ytmjneokgnnbekaa
namespace Go.Proofs.Ytmjneokgnnbekaa
set_option maxRecDepth 100000
set_option linter.unusedSimpArgs false
open Go.RowKit

def pTo (us : List Nat) : Nat → Nat
  | 0 => 1
  | k + 1 => pTo us k * us.getD k 0
def upTo (us bs : List Nat) : Nat → Nat × Nat
  | 0 => (1, 1)
  | k + 1 => let s := upTo us bs k; let u := s.1 * us.getD k 0; let d := s.2 * bs.getD k 0; (u / Nat.gcd u d, d / Nat.gcd u d)
def rdTo (x : Nat) (bs : List Nat) : Nat → Nat × List Nat
  | 0 => (x, bs)
  | k + 1 => let s := rdTo x bs k; let d := Nat.gcd s.1 (s.2.getD k 0); (s.1 / d, s.2.set k (s.2.getD k 0 / d))
def dmTo (us bs : List Nat) : Nat → Nat × List Nat
  | 0 => (1, bs)
  | k + 1 => let s := dmTo us bs k; let q := rdTo (us.getD k 0) s.2 s.2.length; (s.1 * q.1, q.2)
theorem foldl_mul (l : List Nat) : ∀ a : Nat, l.foldl (· * ·) a = a * l.foldl (· * ·) 1 := by
  induction l with
  | nil => intro a; simp
  | cons x l ih => intro a; simp only [List.foldl_cons]; rw [ih (a * x), ih (1 * x)]; rw [Nat.one_mul, Nat.mul_assoc]
theorem prodN_cons (x : Nat) (l : List Nat) : prodN (x :: l) = x * prodN l := by
  unfold prodN
  rw [List.foldl_cons, foldl_mul, Nat.one_mul]
theorem pTo_append (l : List Nat) (x : Nat) : ∀ k, k ≤ l.length → pTo (l ++ [x]) k = pTo l k
  | 0, _ => rfl
  | k + 1, h => by
    unfold pTo
    rw [pTo_append l x k (by omega)]
    simp [List.getD, List.getElem?_append_left (show k < l.length by omega)]
theorem pTo_take (l : List Nat) : ∀ k, k ≤ l.length → pTo l k = prodN (l.take k)
  | 0, _ => rfl
  | k + 1, h => by
    unfold pTo
    rw [pTo_take l k (by omega), List.take_succ_eq_append_getElem (show k < l.length by omega)]
    unfold prodN
    rw [List.foldl_append]
    simp [List.getD, show k < l.length by omega]
theorem pTo_all (l : List Nat) : pTo l l.length = prodN l := by rw [pTo_take l _ (Nat.le_refl _), List.take_length]
theorem pTo_pos {l : List Nat} (h : ∀ k, k < l.length → 0 < l.getD k 0) : ∀ k, k ≤ l.length → 0 < pTo l k
  | 0, _ => Nat.one_pos
  | k + 1, hk => Nat.mul_pos (pTo_pos h k (by omega)) (h k (by omega))
theorem pTo_mono {l : List Nat} (h : ∀ k, k < l.length → 0 < l.getD k 0) : ∀ m k, k + m ≤ l.length → pTo l k ≤ pTo l (k + m)
  | 0, k, _ => Nat.le_refl _
  | m + 1, k, hk => by
    have h1 := pTo_mono h m k (by omega)
    have h2 : pTo l (k + (m + 1)) = pTo l (k + m) * l.getD (k + m) 0 := rfl
    rw [h2]
    exact Nat.le_trans h1 (Nat.le_mul_of_pos_right _ (h _ (by omega)))
theorem pTo_bound {us bs : List Nat} (h : ∀ k, k < us.length → us.getD k 0 ≤ 5 * bs.getD k 0) : ∀ k, k ≤ us.length → pTo us k ≤ 5 ^ k * pTo bs k
  | 0, _ => by simp [pTo]
  | k + 1, hk => by
    have h1 := pTo_bound h k (by omega)
    have h2 := h k (by omega)
    show pTo us k * us.getD k 0 ≤ 5 ^ (k + 1) * (pTo bs k * bs.getD k 0)
    have h3 := Nat.mul_le_mul h1 h2
    have e : 5 ^ k * pTo bs k * (5 * bs.getD k 0) = 5 ^ (k + 1) * (pTo bs k * bs.getD k 0) := by
      rw [Nat.pow_succ]
      simp only [Nat.mul_assoc, Nat.mul_left_comm, Nat.mul_comm]
    omega
structure UpOk (us bs : List Nat) (k : Nat) : Prop where
  eq : (upTo us bs k).1 * pTo bs k = (upTo us bs k).2 * pTo us k
  p1 : 0 < (upTo us bs k).1
  p2 : 0 < (upTo us bs k).2
  l1 : (upTo us bs k).1 ≤ pTo us k
  l2 : (upTo us bs k).2 ≤ pTo bs k
theorem upOk {us bs : List Nat} (hl : us.length = bs.length) (ha : ∀ k, k < us.length → 0 < us.getD k 0) (hb : ∀ k, k < bs.length → 0 < bs.getD k 0) : ∀ k, k ≤ us.length → UpOk us bs k
  | 0, _ => ⟨rfl, Nat.one_pos, Nat.one_pos, Nat.le_refl _, Nat.le_refl _⟩
  | k + 1, hk => by
    have ih := upOk hl ha hb k (by omega)
    have hx := ha k (by omega)
    have hy := hb k (by omega)
    have e1 : (upTo us bs (k + 1)).1 = (upTo us bs k).1 * us.getD k 0 / Nat.gcd ((upTo us bs k).1 * us.getD k 0) ((upTo us bs k).2 * bs.getD k 0) := rfl
    have e2 : (upTo us bs (k + 1)).2 = (upTo us bs k).2 * bs.getD k 0 / Nat.gcd ((upTo us bs k).1 * us.getD k 0) ((upTo us bs k).2 * bs.getD k 0) := rfl
    have e3 : pTo us (k + 1) = pTo us k * us.getD k 0 := rfl
    have e4 : pTo bs (k + 1) = pTo bs k * bs.getD k 0 := rfl
    obtain ⟨h1, h2, h3, h4, h5⟩ := ih
    refine (fun (q : _ ∧ _ ∧ _ ∧ _ ∧ _) => ⟨q.1, q.2.1, q.2.2.1, q.2.2.2.1, q.2.2.2.2⟩) ?_
    rw [e1, e2, e3, e4]
    generalize us.getD k 0 = x at *
    generalize bs.getD k 0 = y at *
    generalize (upTo us bs k).1 = s at *
    generalize (upTo us bs k).2 = t at *
    generalize pTo us k = A at *
    generalize pTo bs k = B at *
    have hg : 0 < Nat.gcd (s * x) (t * y) := Nat.gcd_pos_of_pos_left _ (Nat.mul_pos h2 hx)
    obtain ⟨u, hu⟩ := Nat.gcd_dvd_left (s * x) (t * y)
    obtain ⟨v, hv⟩ := Nat.gcd_dvd_right (s * x) (t * y)
    have qu : s * x / Nat.gcd (s * x) (t * y) = u := by
      conv => lhs; lhs; rw [hu]
      exact Nat.mul_div_cancel_left _ hg
    have qv : t * y / Nat.gcd (s * x) (t * y) = v := by
      conv => lhs; lhs; rw [hv]
      exact Nat.mul_div_cancel_left _ hg
    rw [qu, qv]
    have hsx := Nat.mul_pos h2 hx
    have hty := Nat.mul_pos h3 hy
    generalize Nat.gcd (s * x) (t * y) = g at *
    have a1 : s * x ≤ A * x := Nat.mul_le_mul_right _ h4
    have a2 : t * y ≤ B * y := Nat.mul_le_mul_right _ h5
    have b1 : u ≤ g * u := Nat.le_mul_of_pos_left _ hg
    have b2 : v ≤ g * v := Nat.le_mul_of_pos_left _ hg
    refine ⟨?_, ?_, ?_, by omega, by omega⟩
    · apply Nat.eq_of_mul_eq_mul_left hg
      calc g * (u * (B * y)) = (g * u) * (B * y) := by rw [Nat.mul_assoc]
        _ = s * x * (B * y) := by rw [hu]
        _ = (s * B) * (x * y) := by simp only [Nat.mul_assoc, Nat.mul_left_comm, Nat.mul_comm]
        _ = (t * A) * (x * y) := by rw [h1]
        _ = (t * y) * (A * x) := by simp only [Nat.mul_assoc, Nat.mul_left_comm, Nat.mul_comm]
        _ = (g * v) * (A * x) := by rw [← hv]
        _ = g * (v * (A * x)) := by rw [Nat.mul_assoc]
    · rcases Nat.eq_zero_or_pos u with e | e
      · subst e; omega
      · exact e
    · rcases Nat.eq_zero_or_pos v with e | e
      · subst e; omega
      · exact e
theorem upTo_div {us bs : List Nat} (hl : us.length = bs.length) (ha : ∀ k, k < us.length → 0 < us.getD k 0) (hb : ∀ k, k < bs.length → 0 < bs.getD k 0) {q : Nat} (hq : pTo us us.length = q * pTo bs us.length) : (upTo us bs us.length).1 / (upTo us bs us.length).2 = q := by
  have h := upOk hl ha hb _ (Nat.le_refl _)
  have hB := pTo_pos hb us.length (by omega)
  have h1 := h.eq
  rw [hq] at h1
  have h2 : (upTo us bs us.length).1 = (upTo us bs us.length).2 * q := by
    apply Nat.eq_of_mul_eq_mul_right hB
    rw [h1, Nat.mul_assoc]
  rw [h2]
  exact Nat.mul_div_cancel_left _ h.p2

/-! ### the other way -/
theorem prodN_append (l m : List Nat) : prodN (l ++ m) = prodN l * prodN m := by
  induction l with
  | nil => simp [prodN]
  | cons x l ih => rw [List.cons_append, prodN_cons, prodN_cons, ih, Nat.mul_assoc]
theorem prodN_set {l : List Nat} {k d : Nat} (hk : k < l.length) (hd : 0 < d) (h : d ∣ l.getD k 0) : prodN l = d * prodN (l.set k (l.getD k 0 / d)) := by
  have e := List.take_append_drop k l
  have e2 : l.drop k = l.getD k 0 :: l.drop (k + 1) := by rw [List.drop_eq_getElem_cons hk]; simp [List.getD, hk]
  have e3 : l.set k (l.getD k 0 / d) = l.take k ++ (l.getD k 0 / d) :: l.drop (k + 1) := by
    rw [List.set_eq_take_append_cons_drop, if_pos hk]
  rw [e3, prodN_append, prodN_cons]
  conv => lhs; rw [← e, e2, prodN_append, prodN_cons]
  obtain ⟨u, hu⟩ := h
  rw [hu, Nat.mul_div_cancel_left _ hd]
  simp only [Nat.mul_assoc, Nat.mul_left_comm, Nat.mul_comm]
structure RdOk (x : Nat) (bs : List Nat) (k : Nat) : Prop where
  len : (rdTo x bs k).2.length = bs.length
  eq : (rdTo x bs k).1 * prodN bs = x * prodN (rdTo x bs k).2
  pos : 0 < (rdTo x bs k).1
  bpos : ∀ j, j < bs.length → 0 < (rdTo x bs k).2.getD j 0
  dvd : ∀ j, j < bs.length → (rdTo x bs k).2.getD j 0 ∣ bs.getD j 0
  dvx : (rdTo x bs k).1 ∣ x
  cop : ∀ j, j < k → Nat.Coprime (rdTo x bs k).1 ((rdTo x bs k).2.getD j 0)
theorem getD_set {l : List Nat} {k j v : Nat} (hk : k < l.length) : (l.set k v).getD j 0 = if j = k then v else l.getD j 0 := by
  simp only [List.getD, List.getElem?_set]
  by_cases e : k = j
  · subst e; simp [hk]
  · rw [if_neg e, if_neg (Ne.symm e)]
theorem rdOk {x : Nat} {bs : List Nat} (hx : 0 < x) (hb : ∀ k, k < bs.length → 0 < bs.getD k 0) : ∀ k, k ≤ bs.length → RdOk x bs k
  | 0, _ => ⟨rfl, rfl, hx, hb, fun _ _ => Nat.dvd_refl _, Nat.dvd_refl _, fun _ h => absurd h (by omega)⟩
  | k + 1, hk => by
    obtain ⟨h1, h2, h3, h4, h5, h6, h7⟩ := rdOk hx hb k (by omega)
    have e1 : (rdTo x bs (k + 1)).1 = (rdTo x bs k).1 / Nat.gcd (rdTo x bs k).1 ((rdTo x bs k).2.getD k 0) := rfl
    have e2 : (rdTo x bs (k + 1)).2 = (rdTo x bs k).2.set k ((rdTo x bs k).2.getD k 0 / Nat.gcd (rdTo x bs k).1 ((rdTo x bs k).2.getD k 0)) := rfl
    refine (fun (q : _ ∧ _ ∧ _ ∧ _ ∧ _ ∧ _ ∧ _) => ⟨q.1, q.2.1, q.2.2.1, q.2.2.2.1, q.2.2.2.2.1, q.2.2.2.2.2.1, q.2.2.2.2.2.2⟩) ?_
    rw [e1, e2]
    generalize (rdTo x bs k).1 = y at *
    generalize (rdTo x bs k).2 = cs at *
    have hkc : k < cs.length := by omega
    have hg : 0 < Nat.gcd y (cs.getD k 0) := Nat.gcd_pos_of_pos_left _ h3
    have hgl := Nat.gcd_dvd_left y (cs.getD k 0)
    have hgr := Nat.gcd_dvd_right y (cs.getD k 0)
    have hck := h4 k (by omega)
    have hcop : Nat.Coprime (y / Nat.gcd y (cs.getD k 0)) (cs.getD k 0 / Nat.gcd y (cs.getD k 0)) := Nat.coprime_div_gcd_div_gcd hg
    have hps := prodN_set hkc hg hgr
    generalize Nat.gcd y (cs.getD k 0) = g at *
    refine ⟨by rw [List.length_set]; exact h1, ?_, Nat.div_pos (Nat.le_of_dvd h3 hgl) hg, ?_, ?_, ?_, ?_⟩
    · apply Nat.eq_of_mul_eq_mul_left hg
      rw [← Nat.mul_assoc, Nat.mul_div_cancel' hgl, h2, hps]
      simp only [Nat.mul_assoc, Nat.mul_left_comm, Nat.mul_comm]
    · intro j hj
      rw [getD_set hkc]
      split
      · exact Nat.div_pos (Nat.le_of_dvd hck hgr) hg
      · exact h4 j hj
    · intro j hj
      rw [getD_set hkc]
      split
      · rename_i e; subst e
        exact Nat.dvd_trans (Nat.div_dvd_of_dvd hgr) (h5 j hj)
      · exact h5 j hj
    · exact Nat.dvd_trans (Nat.div_dvd_of_dvd hgl) h6
    · intro j hj
      rw [getD_set hkc]
      split
      · exact hcop
      · exact Nat.Coprime.coprime_dvd_left (Nat.div_dvd_of_dvd hgl) (h7 j (by omega))
structure DmOk (us bs : List Nat) (k : Nat) : Prop where
  len : (dmTo us bs k).2.length = bs.length
  eq : (dmTo us bs k).1 * prodN bs = pTo us k * prodN (dmTo us bs k).2
  pos : 0 < (dmTo us bs k).1
  bpos : ∀ j, j < bs.length → 0 < (dmTo us bs k).2.getD j 0
  dvd : ∀ j, j < bs.length → (dmTo us bs k).2.getD j 0 ∣ bs.getD j 0
  le : (dmTo us bs k).1 ≤ pTo us k
  cop : ∀ j, j < bs.length → Nat.Coprime (dmTo us bs k).1 ((dmTo us bs k).2.getD j 0)
theorem dmOk {us bs : List Nat} (ha : ∀ k, k < us.length → 0 < us.getD k 0) (hb : ∀ k, k < bs.length → 0 < bs.getD k 0) : ∀ k, k ≤ us.length → DmOk us bs k
  | 0, _ => ⟨rfl, rfl, Nat.one_pos, hb, fun _ _ => Nat.dvd_refl _, Nat.le_refl _, fun _ _ => Nat.coprime_one_left _⟩
  | k + 1, hk => by
    obtain ⟨h1, h2, h3, h4, h5, h6, h7⟩ := dmOk ha hb k (by omega)
    have hx := ha k (by omega)
    have hr := rdOk (bs := (dmTo us bs k).2) hx (fun j hj => h4 j (by omega)) _ (Nat.le_refl _)
    have e1 : (dmTo us bs (k + 1)).1 = (dmTo us bs k).1 * (rdTo (us.getD k 0) (dmTo us bs k).2 (dmTo us bs k).2.length).1 := rfl
    have e2 : (dmTo us bs (k + 1)).2 = (rdTo (us.getD k 0) (dmTo us bs k).2 (dmTo us bs k).2.length).2 := rfl
    have e3 : pTo us (k + 1) = pTo us k * us.getD k 0 := rfl
    obtain ⟨r1, r2, r3, r4, r5, r6, r7⟩ := hr
    refine (fun (q : _ ∧ _ ∧ _ ∧ _ ∧ _ ∧ _ ∧ _) => ⟨q.1, q.2.1, q.2.2.1, q.2.2.2.1, q.2.2.2.2.1, q.2.2.2.2.2.1, q.2.2.2.2.2.2⟩) ?_
    rw [e1, e2, e3]
    generalize us.getD k 0 = x at *
    generalize (dmTo us bs k).1 = p at *
    generalize (dmTo us bs k).2 = cs at *
    generalize (rdTo x cs cs.length).1 = y at *
    generalize (rdTo x cs cs.length).2 = ds at *
    generalize pTo us k = A at *
    have hyx := Nat.le_of_dvd hx r6
    have hcs : 0 < prodN cs := by
      have := pTo_pos (l := cs) (fun j hj => h4 j (by omega)) _ (Nat.le_refl _)
      rwa [pTo_all] at this
    refine ⟨by omega, ?_, Nat.mul_pos h3 r3, fun j hj => r4 j (by omega), fun j hj => Nat.dvd_trans (r5 j (by omega)) (h5 j hj), Nat.mul_le_mul h6 hyx, fun j hj => ?_⟩
    · apply Nat.eq_of_mul_eq_mul_right hcs
      calc p * y * prodN bs * prodN cs = (p * prodN bs) * (y * prodN cs) := by simp only [Nat.mul_assoc, Nat.mul_left_comm, Nat.mul_comm]
        _ = (A * prodN cs) * (x * prodN ds) := by rw [h2, r2]
        _ = A * x * prodN ds * prodN cs := by simp only [Nat.mul_assoc, Nat.mul_left_comm, Nat.mul_comm]
    · refine Nat.Coprime.mul_left ?_ (r7 j (by omega))
      exact Nat.Coprime.coprime_dvd_right (r5 j (by omega)) (h7 j hj)
theorem coprime_prod {p : Nat} : ∀ {l : List Nat}, (∀ j, j < l.length → Nat.Coprime p (l.getD j 0)) → Nat.Coprime p (prodN l)
  | [], _ => Nat.coprime_one_right _
  | x :: l, h => by
    rw [prodN_cons]
    refine Nat.Coprime.mul_right (h 0 (by simp)) (coprime_prod fun j hj => ?_)
    have := h (j + 1) (by simpa using hj)
    simpa using this
theorem dmTo_eq {us bs : List Nat} (hl : us.length = bs.length) (ha : ∀ k, k < us.length → 0 < us.getD k 0) (hb : ∀ k, k < bs.length → 0 < bs.getD k 0) {q : Nat} (hq : pTo us us.length = q * pTo bs us.length) : (dmTo us bs us.length).1 = q := by
  have h := dmOk ha hb _ (Nat.le_refl _)
  have hB := pTo_pos hb bs.length (Nat.le_refl _)
  rw [hl, pTo_all bs, ← hl] at hq
  rw [pTo_all] at hB
  have h1 := h.eq
  rw [hq] at h1
  have hc : Nat.Coprime (dmTo us bs us.length).1 (prodN (dmTo us bs us.length).2) := coprime_prod fun j hj => h.cop j (by rw [h.len] at hj; exact hj)
  have h2 : (dmTo us bs us.length).1 = q * prodN (dmTo us bs us.length).2 := by
    apply Nat.eq_of_mul_eq_mul_right hB
    rw [h1]
    simp only [Nat.mul_assoc, Nat.mul_left_comm, Nat.mul_comm]
  have hd : prodN (dmTo us bs us.length).2 ∣ (dmTo us bs us.length).1 := ⟨q, by rw [Nat.mul_comm]; exact h2⟩
  have h3 : prodN (dmTo us bs us.length).2 = 1 := Nat.Coprime.eq_one_of_dvd hc.symm hd
  rw [h3, Nat.mul_one] at h2
  exact h2
end Go.Proofs.Ytmjneokgnnbekaa
