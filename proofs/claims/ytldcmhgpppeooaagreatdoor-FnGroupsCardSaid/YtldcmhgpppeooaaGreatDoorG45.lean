/- Small weights, sums of weights of both, multiples added (the reference's): contracts. (As in Dim and DemC; never together with these.) Weights in simple roots, by determinants: linear in the weight; what a word takes off a dominant weight is a sum of simple roots; bounds. Plain law. Groups of at most 48 elements. Plain law. The reference's elements of a finite group of at most 200 elements; groups of at most 48: contracts. -/
import Derived.Test.YtldcmhgpppeooaaGreatDoorG04
import Derived.Test.YtldcmhgpppeooaaGreatDoorG10
import Derived.Test.YtldcmhgpppeooaaGreatDoorG11
import Derived.Deep.RegionHeld3
import Derived.Test.YtldcmhgpppeooaaGreatDoorG37
import Derived.Test.YtldcmhgpppeooaaGreatDoorG44
import Derived.Test.YtldcmhgpppeooaaGreatDoorG35
import Derived.Test.YtldcmhgpppeooaaGreatDoorG15
import Derived.Test.YtldcmhgpppeooaaGreatDoorG19
import Derived.Test.YtldcmhgpppeooaaGreatDoorG33
namespace Go.Proofs.YtldcmhgpppeooaaGreatDoor
set_option maxRecDepth 100000
open Go.RowKit

def Sml (n : Nat) (v : List Int) : Prop := v.length = n ∧ ∀ j, j < v.length → 0 ≤ v.getD j 0 ∧ v.getD j 0 ≤ 4
instance (n : Nat) (v : List Int) : Decidable (Sml n v) := by unfold Sml; infer_instance
def addTo (a b : List Int) (k : Nat) : List Int := (List.range k).map fun j => wrap64 (a.getD j 0 + b.getD j 0)
theorem addTo_succ (a b : List Int) (k : Nat) : addTo a b (k + 1) = addTo a b k ++ [wrap64 (a.getD k 0 + b.getD k 0)] := by unfold addTo; rw [List.range_succ, List.map_append]; rfl
theorem addTo_length (a b : List Int) (k : Nat) : (addTo a b k).length = k := by simp [addTo]
def shiftL (v r : List Int) (k : Int) : List Int := (List.range v.length).map fun j => v.getD j 0 + k * r.getD j 0
theorem shiftL_length (v r : List Int) (k : Int) : (shiftL v r k).length = v.length := by simp [shiftL]
theorem shiftL_getD (v r : List Int) (k : Int) {j : Nat} (hj : j < v.length) : (shiftL v r k).getD j 0 = v.getD j 0 + k * r.getD j 0 := by simp [shiftL, List.getD, hj]
def shiftTo (v r : List Int) (k : Int) (t : Nat) : List Int := (List.range t).map fun j => v.getD j 0 + k * r.getD j 0
theorem shiftTo_length (v r : List Int) (k : Int) (t : Nat) : (shiftTo v r k t).length = t := by simp [shiftTo]
theorem shiftTo_succ (v r : List Int) (k : Int) (t : Nat) : shiftTo v r k (t + 1) = shiftTo v r k t ++ [v.getD t 0 + k * r.getD t 0] := by simp [shiftTo, List.range_succ]
theorem shiftTo_all (v r : List Int) (k : Int) : shiftTo v r k v.length = shiftL v r k := rfl
theorem mul_bound {x y : Int} (hx : -1000 ≤ x ∧ x ≤ 1000) (hy : -1000 ≤ y ∧ y ≤ 1000) : -1000000 ≤ x * y ∧ x * y ≤ 1000000 := by
  have h : (x * y).natAbs ≤ 1000 * 1000 := by
    rw [Int.natAbs_mul]
    exact Nat.mul_le_mul (by omega) (by omega)
  omega
end Go.Proofs.YtldcmhgpppeooaaGreatDoor
namespace Go.Proofs.YtldcmhgpppeooaaGreatDoor
set_option maxRecDepth 100000
open Go.RowKit Game
set_option linter.unusedSimpArgs false

/-! ### determinants of functions -/
def minF (M : Nat → Nat → Int) (t : Nat) : Nat → Nat → Int := fun r s => M (r + 1) (if s < t then s else s + 1)
def detF : Nat → (Nat → Nat → Int) → Int
  | 0, _ => 1
  | n + 1, M => sumTo (n + 1) fun t => sgn t * M 0 t * detF n (minF M t)
theorem ent_minor (m : List (List Int)) (t r s : Nat) : ent (minorOf m t) r s = minF (ent m) t r s := by
  have hg : (minorOf m t).getD r [] = cutAt (m.getD (r + 1) []) t := by
    unfold minorOf
    simp only [List.getD, List.getElem?_map, List.getElem?_drop]
    rw [Nat.add_comm 1 r]
    cases m[r + 1]? with
    | none => simp [cutAt]
    | some r => simp
  show ((minorOf m t).getD r []).getD s 0 = (m.getD (r + 1) []).getD (if s < t then s else s + 1) 0
  rw [hg, cutAt_getD]
  generalize m.getD (r + 1) [] = row
  have out : ∀ k, row.length ≤ k → row.getD k 0 = 0 := fun k hk => by simp [List.getD, hk]
  by_cases h1 : s < t
  · rw [if_pos h1]
    by_cases h2 : s < row.length
    · rw [if_pos ⟨h1, h2⟩]
    · rw [if_neg (fun h => h2 h.2), out _ (by omega), out _ (by omega)]
  · rw [if_neg h1, if_neg (fun h => h1 h.1)]
    by_cases h2 : t ≤ row.length
    · rw [Nat.min_eq_left h2, show t + 1 + (s - t) = s + 1 by omega]
    · rw [out _ (by omega), out _ (by omega)]
theorem det_F : ∀ (n : Nat) (m : List (List Int)), det n m = detF n (ent m)
  | 0, _ => rfl
  | n + 1, m => by
    simp only [det, detF]
    refine sumTo_congr (n + 1) fun t _ => ?_
    rw [det_F n, show ent (minorOf m t) = minF (ent m) t from funext fun r => funext fun s => ent_minor m t r s]
def updF (M : Nat → Nat → Int) (j : Nat) (a : Nat → Int) : Nat → Nat → Int := fun r s => if s = j then a r else M r s
theorem minF_same (M : Nat → Nat → Int) (j : Nat) (a : Nat → Int) : minF (updF M j a) j = minF M j := by
  funext r s
  show updF M j a (r + 1) (if s < j then s else s + 1) = M (r + 1) (if s < j then s else s + 1)
  unfold updF
  rw [if_neg (by split <;> omega)]
theorem minF_other (M : Nat → Nat → Int) {j t : Nat} (h : t ≠ j) (a : Nat → Int) : minF (updF M j a) t = updF (minF M t) (if j < t then j else j - 1) (fun r => a (r + 1)) := by
  funext r s
  show updF M j a (r + 1) (if s < t then s else s + 1) = updF (minF M t) (if j < t then j else j - 1) (fun r => a (r + 1)) r s
  unfold updF minF
  have e : ((if s < t then s else s + 1) = j) ↔ (s = if j < t then j else j - 1) := by split <;> split <;> omega
  by_cases h1 : (if s < t then s else s + 1) = j
  · rw [if_pos h1, if_pos (e.1 h1)]
  · rw [if_neg h1, if_neg (fun h2 => h1 (e.2 h2))]
theorem lin1 (g x y a b D : Int) : g * (x * a + y * b) * D = x * (g * a * D) + y * (g * b * D) := by
  simp only [Int.mul_add, Int.add_mul, Int.mul_assoc, Int.mul_left_comm, Int.mul_comm]
theorem lin2 (g m x y A B : Int) : g * m * (x * A + y * B) = x * (g * m * A) + y * (g * m * B) := by
  simp only [Int.mul_add, Int.add_mul, Int.mul_assoc, Int.mul_left_comm, Int.mul_comm]
theorem detF_lin : ∀ (n : Nat) (M : Nat → Nat → Int) (j : Nat) (a b : Nat → Int) (x y : Int), j < n → detF n (updF M j fun r => x * a r + y * b r) = x * detF n (updF M j a) + y * detF n (updF M j b)
  | 0, _, _, _, _, _, _, h => absurd h (by omega)
  | n + 1, M, j, a, b, x, y, hj => by
    simp only [detF]
    rw [← sumTo_mul, ← sumTo_mul, ← sumTo_add]
    refine sumTo_congr (n + 1) fun t ht => ?_
    by_cases e : t = j
    · subst e
      rw [minF_same, minF_same, minF_same]
      have e1 : ∀ f : Nat → Int, updF M t f 0 t = f 0 := fun f => by unfold updF; rw [if_pos rfl]
      rw [e1, e1, e1]
      exact lin1 _ _ _ _ _ _
    · rw [minF_other M e, minF_other M e, minF_other M e]
      have e1 : ∀ f : Nat → Int, updF M j f 0 t = M 0 t := fun f => by unfold updF; rw [if_neg e]
      rw [e1, e1, e1, detF_lin n (minF M t) _ (fun r => a (r + 1)) (fun r => b (r + 1)) x y (by split <;> omega)]
      exact lin2 _ _ _ _ _ _

/-! ### coordinates -/
def crd (c : List (List Int)) (v : List Int) : List Int := (List.range c.length).map fun j => det c.length (colL c j v)
def difB (c : List (List Int)) (v : List Int) : Bool := (crd c v).all fun x => decide (0 ≤ x) && decide (x.tmod (dC c) = 0)
def qL (c : List (List Int)) (v : List Int) : List Int := (crd c v).map fun x => x.tdiv (dC c)
theorem crd_length (c : List (List Int)) (v : List Int) : (crd c v).length = c.length := by simp [crd]
theorem qL_length (c : List (List Int)) (v : List Int) : (qL c v).length = c.length := by simp [qL, crd]
theorem ent_colL {c : List (List Int)} (hC : IsC c) {j : Nat} (hj : j < c.length) {v : List Int} (hv : v.length = c.length) : ent (colL c j v) = updF (ent c) j (toV v) := by
  funext r s
  show ((colL c j v).getD r []).getD s 0 = if s = j then v.getD r 0 else (c.getD r []).getD s 0
  by_cases hr : r < c.length
  · have e : (colL c j v).getD r [] = (c.getD r []).set j (v.getD r 0) := by simp [colL, List.getD, hr]
    have hl := hC.2.2.1 r hr
    rw [e]
    generalize c.getD r [] = row at *
    generalize v.getD r 0 = x
    by_cases h : s = j
    · subst h
      rw [if_pos rfl]
      simp [List.getD, hl, hj]
    · rw [if_neg h]
      simp [List.getD, List.getElem?_set, Ne.symm h]
  · have e : (colL c j v).getD r [] = [] := by simp [colL, List.getD, Nat.not_lt.1 hr]
    have e2 : c.getD r [] = [] := by simp [List.getD, Nat.not_lt.1 hr]
    have e3 : v.getD r 0 = 0 := by simp [List.getD, hv, Nat.not_lt.1 hr]
    rw [e, e2, e3]
    split <;> simp
def crF (c : List (List Int)) (j : Nat) (f : Nat → Int) : Int := detF c.length (updF (ent c) j f)
theorem crd_getD {c : List (List Int)} (hC : IsC c) {v : List Int} (hv : v.length = c.length) {j : Nat} (hj : j < c.length) : (crd c v).getD j 0 = crF c j (toV v) := by
  have e : (crd c v).getD j 0 = det c.length (colL c j v) := by simp [crd, List.getD, hj]
  rw [e, det_F, ent_colL hC hj hv]; rfl
theorem crF_self (c : List (List Int)) (j : Nat) : crF c j (fun k => ent c k j) = dC c := by
  unfold crF dC
  rw [det_F]
  congr 1
  funext r s
  unfold updF
  by_cases h : s = j
  · rw [if_pos h, h]
  · rw [if_neg h]
theorem toV_colOf (c : List (List Int)) (i : Nat) : toV (colOf c i) = fun k => ent c k i := by
  funext k
  show (colOf c i).getD k 0 = ent c k i
  by_cases h : k < c.length
  · simp [colOf, List.getD, h]
  · rw [ent_out (Nat.not_lt.1 h)]
    simp [colOf, List.getD, Nat.not_lt.1 h]
structure CrOk (c : List (List Int)) : Prop where
  hC : IsC c
  pos : 0 < dC c
  zero : ∀ i j, i < c.length → j < c.length → i ≠ j → crF c j (fun k => ent c k i) = 0
theorem crOk_of {c : List (List Int)} (hC : IsC c) (h : crB c = true) : CrOk c := by
  unfold crB at h
  rw [Bool.and_eq_true] at h
  refine ⟨hC, of_decide_eq_true h.1, fun i j hi hj hne => ?_⟩
  have h1 := List.all_eq_true.1 h.2 j (List.mem_range.2 hj)
  have h2 := List.all_eq_true.1 h1 i (List.mem_range.2 hi)
  rw [Bool.or_eq_true] at h2
  rcases h2 with h3 | h3
  · exact absurd (of_decide_eq_true h3) hne
  · have h4 := of_decide_eq_true h3
    rw [det_F, ent_colL hC hj (by simp [colOf]), toV_colOf] at h4
    exact h4
/-- a sum of simple roots -/
def PosF (c : List (List Int)) (f : Nat → Int) : Prop := ∀ j, j < c.length → 0 ≤ crF c j f ∧ dC c ∣ crF c j f
theorem difB_iff {c : List (List Int)} (hC : IsC c) {v : List Int} (hv : v.length = c.length) : difB c v = true ↔ PosF c (toV v) := by
  unfold difB PosF
  rw [List.all_eq_true]
  constructor
  · intro h j hj
    have h1 := h ((crd c v).getD j 0) (by simp [List.getD, crd_length, hj])
    rw [Bool.and_eq_true, crd_getD hC hv hj] at h1
    exact ⟨of_decide_eq_true h1.1, Int.dvd_of_tmod_eq_zero (of_decide_eq_true h1.2)⟩
  · intro h x hx
    obtain ⟨j, hj, rfl⟩ := List.mem_iff_getElem.1 hx
    have hj' : j < c.length := by rw [crd_length] at hj; exact hj
    have e : (crd c v)[j] = crF c j (toV v) := by rw [← crd_getD hC hv hj']; simp [List.getD, hj]
    rw [e, Bool.and_eq_true]
    exact ⟨decide_eq_true (h j hj').1, decide_eq_true (Int.tmod_eq_zero_of_dvd (h j hj').2)⟩
theorem PosF.step {c : List (List Int)} (hK : CrOk c) {f : Nat → Int} (h : PosF c f) {k : Int} (hk : 0 ≤ k) {i : Nat} (hi : i < c.length) : PosF c (fun r => f r + k * ent c r i) := by
  intro j hj
  have hl : crF c j (fun r => f r + k * ent c r i) = crF c j f + k * crF c j (fun r => ent c r i) := by
    have := detF_lin c.length (ent c) j f (fun r => ent c r i) 1 k hj
    simp only [Int.one_mul] at this
    exact this
  rw [hl]
  obtain ⟨h1, h2⟩ := h j hj
  by_cases e : i = j
  · subst e
    rw [crF_self]
    exact ⟨Int.add_nonneg h1 (Int.mul_nonneg hk (Int.le_of_lt hK.pos)), Int.dvd_add h2 (Int.dvd_mul_left _ _)⟩
  · rw [hK.zero i j hi hj e, Int.mul_zero, Int.add_zero]
    exact ⟨h1, h2⟩
theorem PosF.play {c : List (List Int)} (hK : CrOk c) (u d : Nat → Int) : ∀ (l : List Nat) (x : Nat → Int), Plays (ent c) c.length l x d → PosF c (fun r => x r - u r) → PosF c (fun r => d r - u r)
  | [], x, h, hp => by
    have e : x = d := h.2
    rw [← e]; exact hp
  | i :: l, x, h, hp => by
    obtain ⟨hi, hx, hl⟩ := Plays.cons.1 h
    refine PosF.play hK u d l _ hl ?_
    have h2 := PosF.step hK hp (k := - x i) (by omega) hi
    have e : (fun r => (x r - u r) + (- x i) * ent c r i) = fun r => Game.s (ent c) i x r - u r := by
      funext r
      unfold Game.s
      rw [Int.neg_mul]; omega
    rw [e] at h2
    exact h2

/-! ### signs -/
theorem len_any {A : Mat} {n : Nat} (hA : Car A n) {d1 d2 : Vec} (h1 : ∀ i, i < n → 0 < d1 i) (h2 : ∀ i, i < n → 0 < d2 i) {w l1 l2 : List Nat} (hw : ∀ i ∈ w, i < n) (p1 : Plays A n l1 (act A w d1) d1) (p2 : Plays A n l2 (act A w d2) d2) : l2.length ≤ l1.length := by
  have ha := word_act hA h1 w hw l1 p1
  have hd2 : Dom n d2 := fun i hi => Int.le_of_lt (h2 i hi)
  obtain ⟨l, hl, hle⟩ := word_play hA hd2 l1 p1.1.lt
  rw [← ha] at hl
  have := (Plays.unique hA hd2 p2 hl).1
  omega
theorem sign_same {A : Mat} {n : Nat} (hA : Car A n) {d1 d2 : Vec} (h1 : ∀ i, i < n → 0 < d1 i) (h2 : ∀ i, i < n → 0 < d2 i) {w : List Nat} (hw : ∀ i ∈ w, i < n) {i : Nat} (hi : i < n) (hpos : 0 < act A w d1 i) : 0 < act A w d2 i := by
  have hd1 : Dom n d1 := fun i hi => Int.le_of_lt (h1 i hi)
  have hd2 : Dom n d2 := fun i hi => Int.le_of_lt (h2 i hi)
  obtain ⟨l1, p1, -⟩ := word_play hA hd1 w hw
  obtain ⟨l2, p2, -⟩ := word_play hA hd2 w hw
  have hne := Plays.ne hA h2 p2 hi
  by_cases h : act A w d2 i < 0
  · obtain ⟨l', q, hlen, -⟩ := Plays.first hA hd2 p2 hi h
    have q' := (Plays.cons.1 q).2.2
    have r1 : Plays A n (i :: l1) (act A (i :: w) d1) d1 := by
      refine Plays.cons.2 ⟨hi, ?_, ?_⟩
      · simp only [Game.act, Game.s, hA.two i hi]; omega
      · simp only [Game.act]; rw [s_s hA hi]; exact p1
    have hw' : ∀ k ∈ i :: w, k < n := fun k hk => by
      rcases List.mem_cons.1 hk with e | e
      · rw [e]; exact hi
      · exact hw k e
    have e1 := len_any hA h2 h1 hw' (l1 := l') q' r1
    have e2 := len_any hA h1 h2 hw p1 p2
    simp only [List.length_cons] at e1
    omega
  · omega
theorem act_lin (A : Mat) (x y : Int) (a b : Vec) : ∀ w : List Nat, act A w (fun k => x * a k + y * b k) = fun k => x * act A w a k + y * act A w b k
  | [] => rfl
  | i :: w => by
    simp only [Game.act]
    rw [act_lin A x y a b w]
    funext k
    unfold Game.s
    simp only [Int.mul_add, Int.add_mul, Int.mul_sub, Int.mul_assoc]
    omega
theorem act_box {A : Mat} {n : Nat} (hA : Car A n) {r d : Vec} (hr : ∀ i, i < n → 0 < r i) (hd : ∀ i, i < n → 0 < d i ∧ d i < 6 * r i) {w : List Nat} (hw : ∀ i ∈ w, i < n) {i : Nat} (hi : i < n) {M : Int} (hM : -M ≤ act A w r i ∧ act A w r i ≤ M) :
    -(6 * M) ≤ act A w d i ∧ act A w d i ≤ 6 * M := by
  have h1 : ∀ i, i < n → 0 < d i := fun i hi => (hd i hi).1
  have h2 : ∀ i, i < n → 0 < (fun k => 6 * r k + (-1) * d k) i := fun i hi => by have := hd i hi; show 0 < 6 * r i + (-1) * d i; omega
  have e : act A w (fun k => 6 * r k + (-1) * d k) i = 6 * act A w r i + (-1) * act A w d i := congrFun (act_lin A 6 (-1) r d w) i
  have s1 := sign_same hA hr h1 hw hi
  have s2 := sign_same hA hr h2 hw hi
  have s3 := sign_same hA h1 hr hw hi
  have s4 := sign_same hA h2 hr hw hi
  rw [e] at s2 s4
  obtain ⟨l1, p1, -⟩ := word_play hA (fun i hi => Int.le_of_lt (h1 i hi)) w hw
  obtain ⟨l2, p2, -⟩ := word_play hA (fun i hi => Int.le_of_lt (hr i hi)) w hw
  have n1 := Plays.ne hA h1 p1 hi
  have n2 := Plays.ne hA hr p2 hi
  generalize act A w r i = p at *
  generalize act A w d i = q at *
  omega

/-! ### the dot action -/
def plusL (n : Nat) (v : List Int) : List Int := addTo v (onesL n) n
def dotL (c : List (List Int)) (w v : List Int) : List Int := shiftL (actW c w (plusL c.length v)) (onesL c.length) (-1)
theorem plusL_length (n : Nat) (v : List Int) : (plusL n v).length = n := addTo_length _ _ _
theorem plusL_getD {n : Nat} {v : List Int} (hv : Sml n v) {j : Nat} (hj : j < n) : (plusL n v).getD j 0 = v.getD j 0 + 1 := by
  have h := hv.2 j (by rw [hv.1]; exact hj)
  have e : (onesL n).getD j 0 = 1 := by simp [onesL, List.getD, hj]
  have e2 : (plusL n v).getD j 0 = wrap64 (v.getD j 0 + (onesL n).getD j 0) := by simp [plusL, addTo, List.getD, hj]
  rw [e2, e]
  exact IntWalk.wrap64_in _ ⟨by omega, by omega⟩
theorem dotL_length {c : List (List Int)} {w v : List Int} : (dotL c w v).length = c.length := by unfold dotL; rw [shiftL_length, actW_length, plusL_length]
theorem plus_toV {n : Nat} {v : List Int} (hv : Sml n v) {j : Nat} (hj : j < n) : toV (plusL n v) j = v.getD j 0 + 1 := plusL_getD hv hj
theorem toV_out {v : List Int} {j : Nat} (h : v.length ≤ j) : toV v j = 0 := by show v.getD j 0 = 0; simp [List.getD, h]
theorem plus_bd {n : Nat} {v : List Int} (hv : Sml n v) : Bd n 5 (toV (plusL n v)) := fun k hk => by
  rw [plus_toV hv hk]
  have := hv.2 k (by rw [hv.1]; exact hk)
  omega
theorem plus_pos {n : Nat} {v : List Int} (hv : Sml n v) : ∀ k, k < n → 0 < toV (plusL n v) k := fun k hk => by
  rw [plus_toV hv hk]
  have := hv.2 k (by rw [hv.1]; exact hk)
  omega
theorem pow4_24 : ∀ k, k ≤ 24 → (4 : Int) ^ k * 5 ≤ 1152921504606846976 := by decide
theorem act_toV {c : List (List Int)} (hG : Grp c) {v : List Int} (hv : Sml c.length v) {n : Nat} {W : List Nat} (hW : Elt c n W) : toV (actW c (intsOf W) (plusL c.length v)) = act (ent c) W (toV (plusL c.length v)) := by
  have h24 := elt24 hG.hC hG.fin hW
  exact toV_actW hG.hC (plusL_length _ _) (plus_bd hv) W hW.nf.lt (fun k hk => pow4_24 k (by have := hW.len; omega))
theorem dot_wt {c : List (List Int)} (hG : Grp c) {v : List Int} (hv : Sml c.length v) {n : Nat} {W : List Nat} (hW : Elt c n W) : wtOk c (dotL c (intsOf W) v) ∧ ∀ j, j < c.length → -200 ≤ (dotL c (intsOf W) v).getD j 0 ∧ (dotL c (intsOf W) v).getD j 0 ≤ 200 := by
  have h24 := elt24 hG.hC hG.fin hW
  have hA := car_of hG.hC
  have key : ∀ j, j < c.length → -200 ≤ (dotL c (intsOf W) v).getD j 0 ∧ (dotL c (intsOf W) v).getD j 0 ≤ 200 := by
    intro j hj
    have e1 : (onesL c.length).getD j 0 = 1 := by simp [onesL, List.getD, hj]
    unfold dotL
    rw [shiftL_getD _ _ _ (by rw [actW_length, plusL_length]; exact hj), e1]
    have e2 : (actW c (intsOf W) (plusL c.length v)).getD j 0 = act (ent c) W (toV (plusL c.length v)) j := congrFun (act_toV hG hv hW) j
    have h3 := hG.bd n W hW j
    have e3 : (imgL c W).getD j 0 = act (ent c) W (toV (onesL c.length)) j := congrFun (toV_image hG.hC hW.nf.lt (by have := hW.len; omega)) j
    rw [e3] at h3
    have h4 := act_box (r := toV (onesL c.length)) (d := toV (plusL c.length v)) hA (ones_pos c.length) (fun i hi => ⟨plus_pos hv i hi, by
      have h5 := plus_bd hv i hi
      rw [toV_ones _ _ hi]; omega⟩) hW.nf.lt hj h3
    rw [e2]
    omega
  exact ⟨⟨hG.hC, dotL_length, fun j hj => by rw [dotL_length] at hj; have := key j hj; omega⟩, key⟩
theorem shift_sub {n : Nat} {x u : List Int} (hx : x.length = n) (hu : u.length = n) : toV (shiftL x u (-1)) = fun r => toV x r - toV u r := by
  funext r
  by_cases h : r < n
  · show (shiftL x u (-1)).getD r 0 = x.getD r 0 - u.getD r 0
    rw [shiftL_getD _ _ _ (by omega)]; omega
  · rw [toV_out (by rw [shiftL_length]; omega), toV_out (by omega), toV_out (by omega)]; rfl
/-- what lies below a weight of the dot orbit lies below the dominant one -/
theorem dot_below {c : List (List Int)} (hG : Grp c) (hK : CrOk c) {v u : List Int} (hv : Sml c.length v) (hu : u.length = c.length) {n : Nat} {W : List Nat} (hW : Elt c n W)
    (h : difB c (shiftL (dotL c (intsOf W) v) u (-1)) = true) : difB c (shiftL v u (-1)) = true := by
  have hA := car_of hG.hC
  rw [difB_iff hG.hC (by rw [shiftL_length, dotL_length]), shift_sub dotL_length hu] at h
  rw [difB_iff hG.hC (by rw [shiftL_length]; exact hv.1), shift_sub hv.1 hu]
  obtain ⟨l, hl, -⟩ := word_play hA (fun i hi => Int.le_of_lt (plus_pos hv i hi)) W hW.nf.lt
  have e1 : (fun r => toV (dotL c (intsOf W) v) r - toV u r) = fun r => act (ent c) W (toV (plusL c.length v)) r - (toV (onesL c.length) r + toV u r) := by
    funext r
    unfold dotL
    rw [shift_sub (n := c.length) (by rw [actW_length, plusL_length]) (onesL_len _), act_toV hG hv hW]
    show _ - _ - _ = _ - (_ + _)
    omega
  have e2 : (fun r => toV v r - toV u r) = fun r => toV (plusL c.length v) r - (toV (onesL c.length) r + toV u r) := by
    funext r
    by_cases h : r < c.length
    · rw [plus_toV hv h, toV_ones _ _ h]
      show v.getD r 0 - _ = _
      omega
    · rw [toV_out (v := v) (by have := hv.1; omega), toV_out (v := plusL c.length v) (by rw [plusL_length]; omega), toV_out (v := onesL c.length) (by rw [onesL_len]; omega)]; omega
  rw [e1] at h
  rw [e2]
  exact PosF.play hK _ _ l _ hl h
end Go.Proofs.YtldcmhgpppeooaaGreatDoor
namespace Go.Proofs.YtldcmhgpppeooaaGreatDoor
set_option maxRecDepth 100000
open Go.RowKit Game

theorem size_fin {c : List (List Int)} (hf : finB c = true) : szB c = true := (Bool.and_eq_true_iff.1 (szK_fin (fin_isC hf) hf)).2
theorem crOk_fin {c : List (List Int)} (hf : finB c = true) : CrOk c := crOk_of (fin_isC hf) (Bool.and_eq_true_iff.1 (szK_fin (fin_isC hf) hf)).1
/-- a finite group of at most 48 elements -/
def fewB (c : List (List Int)) : Bool := finB c && decide (szO c ≤ 48)
def fewL (c : List (List Int)) : List (List Int) := if fewB c = true then elemL c else []
theorem fewB_fin {c : List (List Int)} (h : fewB c = true) : finB c = true := (Bool.and_eq_true_iff.1 h).1
theorem fewB_48 {c : List (List Int)} (h : fewB c = true) : szO c ≤ 48 := of_decide_eq_true (Bool.and_eq_true_iff.1 h).2
theorem size_pos {c : List (List Int)} (hf : finB c = true) : 1 ≤ szO c := by
  have h := size_fin hf
  have hs : szO c = prodT (nameL c) := if_pos hf
  unfold szB szC at h
  rw [hs]
  exact of_decide_eq_true (Bool.and_eq_true_iff.1 h).1
theorem grp_few {c : List (List Int)} (h : fewB c = true) : Grp c := grp_of (fewB_fin h) (size_fin (fewB_fin h)) (by have := fewB_48 h; omega)
theorem few_iff (c : List (List Int)) : fewB c = true ↔ 1 ≤ szO c ∧ szO c ≤ 48 := by
  constructor
  · intro h; exact ⟨size_pos (fewB_fin h), fewB_48 h⟩
  · intro ⟨h1, h2⟩
    have hf : finB c = true := by
      by_cases hf : finB c = true
      · exact hf
      · have : szO c = 0 := if_neg hf
        omega
    unfold fewB
    rw [hf, decide_eq_true h2]; rfl
theorem elem_at {c : List (List Int)} (h : fewB c = true) {k : Nat} (hk : k < (elemL c).length) :
    ∃ n W, Elt c n W ∧ (elemL c).getD k [] = intsOf W ∧ n ≤ 9 ∧ W.length = n := by
  have hG := grp_few h
  obtain ⟨n, W, hW, e⟩ := (hG.mem ((elemL c).getD k [])).1 (by simp [List.getD, hk])
  exact ⟨n, W, hW, e, hG.short (fewB_48 h) n W hW, hW.len⟩
theorem elt_word {c : List (List Int)} {n : Nat} {W : List Nat} (hC : IsC c) (hW : Elt c n W) (hn : n ≤ 9) : isWordB c (intsOf W) = true := by
  have hl := hW.len
  unfold isWordB
  rw [decide_eq_true hC, decide_eq_true (by rw [intsOf_length]; omega), Bool.true_and, Bool.true_and]
  unfold lettersB
  rw [List.all_eq_true]
  intro x hx
  obtain ⟨i, hi, rfl⟩ := List.mem_map.1 hx
  have := hW.nf.lt i hi
  simp; omega

def sgnW (w : List Int) : Int := if w.length % 2 = 0 then 1 else -1
end Go.Proofs.YtldcmhgpppeooaaGreatDoor
namespace Go.Proofs.YtldcmhgpppeooaaGreatDoor
set_option maxRecDepth 100000
open Go.RowKit Game

theorem AllSt.rowFacts {c Q : List (List Int)} {k i : Nat} (h : AllSt c Q k i) (hG : Grp c) (hk : k < Q.length) :
    (Q.getD k []).length ≤ 24 ∧ (∀ j, j < (Q.getD k []).length → 0 ≤ (Q.getD k []).getD j 0 ∧ (Q.getD k []).getD j 0 < c.length) ∧
    ∀ t, t < c.length → normG c 30 (actW c (Q.getD k [] ++ [(t : Int)]) (onesL c.length)) = some (nfI c (Q.getD k [] ++ [(t : Int)])) ∧ (nfI c (Q.getD k [] ++ [(t : Int)])).length ≤ 25 := by
  obtain ⟨n, W, hW, hWe⟩ := h.mem (Q.getD k []) (by simp [List.getD, hk])
  have h24 := elt24 hG.hC hG.fin hW
  rw [hWe]
  refine ⟨by rw [intsOf_length, hW.len]; exact h24, fun j hj => ?_, fun t ht => ?_⟩
  · rw [intsOf_length] at hj
    rw [intsOf_getD _ _ hj]
    have := hW.nf.lt (W.getD j 0) (by simp [List.getD, hj])
    omega
  · obtain ⟨X, hX, hXe, -, hXl⟩ := word_push hG.hC hG.fin hW ht
    have e : intsOf W ++ [(t : Int)] = intsOf (W ++ [t]) := by rw [intsOf_append]; rfl
    rw [hXe, intsOf_length, e]
    exact ⟨hX.norm, by omega⟩
theorem AllSt.rowsFew {c Q : List (List Int)} {k i : Nat} (h : AllSt c Q k i) (hG : Grp c) : ∀ j, j < Q.length → (Q.getD j []).length ≤ 1048576 := by
  intro j hj
  obtain ⟨n, W, hW, hWe⟩ := h.mem (Q.getD j []) (by simp [List.getD, hj])
  have h24 := elt24 hG.hC hG.fin hW
  rw [hWe, intsOf_length, hW.len]; omega

set_option maxHeartbeats 8000000 in
theorem spec_l13All_ok (gc oc n cc : Nat) (c : List (List Int)) (w : World) (hn : c.length = n) (hG : Grp c) (hgc : gc < w.heap.size) (hr : Rows2 w gc oc c) :
    Calls Tryz.prog 87 #[(Value.slice (some ⟨gc, oc, none⟩) n cc)] w (GotRows w (elemL c)) := by
  subst hn
  have hC := hG.hC
  have hn4 := hC.2.1
  have HG := Lib.hid hG; clear hG
  go_enter Tryz.func87, Tryz.ntmps87
  go_wp2
  go_loopw [3, 4, 5, 6] (fun ov kv _ _ wr => ∃ (k g' c' m : Nat) (rs : List RowRef), k ≤ m ∧ m ≤ 200 ∧ kv = .int .i64 k ∧ ov = (Value.slice (some ⟨g', 0, none⟩) m c') ∧ Hid (rs.length = m) ∧ Hid (AllSt c (contents rs) k 0) ∧ OwnRows wr w.heap.size g' c' rs ∧ Below w.heap.size w wr) (fun _ kv _ _ _ => 200 - (intOf kv).toNat)
  case atStart =>
    exact ⟨0, w.heap.size + 1, 1, 1, [(w.heap.size, 0, [])], by omega, by omega, rfl, rfl, rfl, AllSt.start hC, start_rows w, (by repeat (first | with_reducible exact Below.refl _ _ | with_reducible assumption | with_reducible refine below_drewN ?_ _ | with_reducible refine Below.drew ?_ | (with_reducible refine Below.alloc ?_ ?_ _; rotate_left; · first | (simp; done) | (simp; omega) | exact Below.size (by assumption) | (have hsz := Below.size (by assumption : Below _ _ _); simp at hsz ⊢; omega)) | (with_reducible refine Below.setCell ?_ ?_ _; rotate_left; · first | (simp; done) | (simp; omega))))⟩
  case round =>
    obtain ⟨k, g', c', m, rs, hkm, hm200, rfl, rfl, hm, hst, hR, hb⟩ := hrel
    by_cases hlt : k < m
    · clear hkm
      go_wp2
      go_loopw [3, 5, 6] (fun ov iv _ wj => ∃ (i g' c' m : Nat) (rs : List RowRef), i ≤ c.length ∧ k < m ∧ m ≤ 200 ∧ iv = .int .i64 i ∧ ov = (Value.slice (some ⟨g', 0, none⟩) m c') ∧ Hid (rs.length = m) ∧ Hid (AllSt c (contents rs) k i) ∧ OwnRows wj w.heap.size g' c' rs ∧ Below w.heap.size w wj) (fun _ iv _ _ => c.length - (intOf iv).toNat)
      case atStart =>
        exact ⟨0, g', c', m, rs, Nat.zero_le _, hlt, hm200, rfl, rfl, hm, hst, hR, hb⟩
      case round =>
        clear hR hb hm hst hlt hm200
        obtain ⟨i, g', c', m, rs, hi, hlt, hm200, rfl, rfl, hm, hst, hR, hbj⟩ := hrel
        by_cases hil : i < c.length
        · have hkr : k < rs.length := by rw [hm.out]; exact hlt
          have hkc : k < (contents rs).length := by rw [contents_length]; exact hkr
          have hcl : (contents rs).getD k [] = rs[k].2.2 := by simp [contents, List.getD, hkr]
          obtain ⟨hWl, hWin, hWn⟩ := hst.out.rowFacts HG.out hkc
          have hWn := hWn i hil
          have Hrows := Lib.hid (hst.out.rowsFew HG.out)
          have hadd := hst.out.add HG.out hkc hil
          have hskip := AllSt.skip hst.out
          unfold reach at hskip
          have hsub := fun (h : AllSt c (putL (contents rs) (nfI c ((contents rs).getD k [] ++ [(i : Int)]))) k (i + 1)) => h.sub HG.out
          rw [hcl] at hWl hWin hWn hadd hskip hsub
          have hRo := hR.2.1 rs[k] (List.getElem_mem _)
          have hqk : wr.cell? ⟨g', k, none⟩ = some (rowVal rs[k]) := by rw [hR.1.cell k (by simpa using hkr)]; simp
          clear hcl
          generalize rs[k] = RR at *
          obtain ⟨gW, cW, W⟩ := RR
          simp only at hRo hWl hWin hWn hadd hskip hsub
          obtain ⟨n1, hn1⟩ : ∃ n1, W.length = n1 := ⟨_, rfl⟩
          have hqk' : wr.cell? ⟨g', k, none⟩ = some (Value.slice (some ⟨gW, 0, none⟩) n1 cW) := by rw [hqk]; unfold rowVal; simp only [hn1]
          have hgR := hR.lt
          rw [hn1] at hWl hadd hskip
          obtain ⟨hnorm, hXl⟩ := hWn
          have hin2 := letters_push hWin hil
          generalize nfI c (W ++ [(i : Int)]) = X at *
          have Hn1 := Lib.hid hn1; have Hnorm := Lib.hid hnorm; have Hin2 := Lib.hid hin2; have Hadd := Lib.hid hadd; have Hskip := Lib.hid hskip; have Hsub := Lib.hid hsub
          clear hqk hn1 hnorm hin2 hadd hskip hsub hWin hkc hkr
          obtain ⟨xl, hxl⟩ : ∃ xl, X.length = xl := ⟨_, rfl⟩
          rw [hxl] at hXl
          have Hxl := Lib.hid hxl; clear hxl
          obtain ⟨wk, hwk⟩ : ∃ wk, wk = wr.alloc (.cells #[.int .i64 (i : Int)] 3) := ⟨_, rfl⟩
          have hbk : Below wr.heap.size wr wk := by rw [hwk]; exact (Below.refl _ _).alloc (Nat.le_refl _) _
          have hok : Own wk wr.heap.size wr.heap.size 1 [(i : Int)] := by rw [hwk]; exact Own.new _ (Nat.le_refl _)
          have hcall := spec_ConcatWords_any gW 0 n1 cW wr.heap.size 0 1 1 W [(i : Int)] wk Hn1.out rfl (by rw [Hn1.out]; omega) (by simp) (Nat.lt_of_lt_of_le hRo.lt hbk.size) hok.lt (hRo.cells.below hbk hRo.lt) hok.cells
          rw [hwk] at hcall
          have Hcall := Lib.hid hcall; clear hcall
          go_wp2_with fail
          refine Hcall.out.mono ?_
          rintro e w2 ⟨g2, c2, rfl, ho2, hb2⟩
          have hl2 : (W ++ [(i : Int)]).length = n1 + 1 := by simp [Hn1.out]
          rw [hl2]
          have Hl2 := Lib.hid hl2
          rw [← hwk] at hb2 ho2
          have hb2' : Below wr.heap.size wr w2 := hbk.trans (hb2.mono hbk.size)
          have hB2 : Below w.heap.size w w2 := hbj.trans (hb2'.mono hbj.size)
          clear hl2 hwk hbk hok hb2 Hcall
          go_wp2_with fail
          refine (spec_l8Normal_any gc oc _ cc g2 0 (n1 + 1) c2 c (W ++ [(i : Int)]) X w2 rfl Hl2.out hC (by rw [Hl2.out]; omega) Hin2.out Hnorm.out (Nat.lt_of_lt_of_le hgc hB2.size) ho2.lt (hr.below hB2 hgc) ho2.cells).mono ?_
          rintro e w3 ⟨g3, c3, rfl, ho3, hb3⟩
          rw [Hxl.out]
          have hb3' : Below wr.heap.size wr w3 := hb2'.trans (hb3.mono hb2'.size)
          have hR3 := hR.below hb3'
          have hbo3 : Below w.heap.size w w3 := hbj.trans (hb3'.mono hbj.size)
          have hox3 : Own w3 w.heap.size g3 c3 X := ho3.mono (by have := hB2.size; omega)
          have q3 : w3.cell? ⟨g', k, none⟩ = some (Value.slice (some ⟨gW, 0, none⟩) n1 cW) := (hb3'.cell (p := ⟨g', k, none⟩) hgR).trans hqk'
          clear hb3 hb2' hB2 ho2 hR hbj hRo ho3 hqk' hb3'
          by_cases hxt : n1 < xl
          · have hxI : (n1 : Int) < (xl : Int) := by omega
            by_cases hmem : X ∈ contents rs
            · have hcall := spec_l7In_any g' 0 m c' g3 0 xl c3 (contents rs) X w3 (by rw [contents_length]; exact hm.out) Hxl.out (by rw [contents_length, hm.out]; omega) Hrows.out hR3.rows2 hox3.cells
              rw [decide_eq_true hmem] at hcall
              have hnx := Hskip.out (fun _ => hmem)
              have Hcall := Lib.hid hcall; have Hnx := Lib.hid hnx
              clear hcall hmem hnx
              go_wp2_with fail
              refine Hcall.out.mono ?_
              rintro e w4 ⟨rfl, hs4⟩
              have hbo4 := below_still hbo3 hs4
              have hR4 := hR3.still hs4
              clear hs4
              go_wp2_with fail
              go_roundw
              case rel => exact ⟨i + 1, g', c', m, rs, by omega, hlt, hm200, by go_num, rfl, hm, Hnx.out, hR4, hbo4⟩
              case measure => simp [intOf]; omega
            · have hcall := spec_l7In_any g' 0 m c' g3 0 xl c3 (contents rs) X w3 (by rw [contents_length]; exact hm.out) Hxl.out (by rw [contents_length, hm.out]; omega) Hrows.out hR3.rows2 hox3.cells
              rw [decide_eq_false hmem] at hcall
              have hnx := Hadd.out (by rw [Hxl.out]; exact hxt)
              have hsb := Hsub.out hnx
              have Hcall := Lib.hid hcall; have Hnx := Lib.hid hnx
              clear hcall hmem hnx
              go_wp2_with fail
              refine Hcall.out.mono ?_
              rintro e w4 ⟨rfl, hs4⟩
              have hbo4 := below_still hbo3 hs4
              have hR4 := hR3.still hs4
              have hox4 := hox3.still hs4
              clear hs4
              go_wp2_with fail
              refine (spec_l11Put_any w.heap.size g' c' m g3 0 xl c3 rs X w4 hm.out Hxl.out (by rw [hm.out]; omega) (by rw [Hxl.out]; omega) hR4 hox4.lt hox4.cells).mono ?_
              rintro e w5 ⟨g5, c5, rs5, rfl, hc5, hR5, hg5, hb5⟩
              obtain ⟨m5, hm5⟩ : ∃ m5, (putL (contents rs) X).length = m5 := ⟨_, rfl⟩
              rw [hm5] at hsb ⊢
              have hge : m ≤ m5 := by
                have h1 := putL_len (contents rs) X
                rw [contents_length, hm.out, hm5] at h1
                exact h1
              have Hm5 := Lib.hid hm5; have Hc5 := Lib.hid hc5
              have hbo5 : Below w.heap.size w w5 := hbo4.trans (hb5.mono hbo4.size)
              clear hm5 hc5 hb5
              go_wp2_with fail
              go_roundw
              case rel =>
                refine ⟨i + 1, g5, c5, m5, rs5, by omega, by omega, hsb, by go_num, rfl, ?_, ?_, hR5, hbo5⟩
                · show _ = _
                  rw [← Hm5.out, ← Hc5.out, contents_length]
                · show AllSt _ _ _ _
                  rw [Hc5.out]; exact Hnx.out
              case measure => simp [intOf]; omega
          · have hxI : ¬ (n1 : Int) < (xl : Int) := by omega
            have hnx := Hskip.out (fun h => absurd h (by rw [Hxl.out]; exact hxt))
            have Hnx := Lib.hid hnx; clear hnx
            go_wp2_with fail
            go_roundw
            case rel => exact ⟨i + 1, g', c', m, rs, by omega, hlt, hm200, by go_num, rfl, hm, Hnx.out, hR3, hbo3⟩
            case measure => simp [intOf]; omega
        · obtain rfl : i = c.length := by omega
          have hnx := hst.out.next
          have Hnx := Lib.hid hnx; clear hnx
          go_wp2
          go_roundw
          case rel => exact ⟨k + 1, g', c', m, rs, by omega, hm200, by go_num, rfl, hm, Hnx.out, hR, hbj⟩
          case measure => simp [intOf]; omega
    · obtain rfl : k = m := by omega
      have hall : contents rs = elemL c := AllSt.all (by rw [contents_length, hm.out]; exact hst.out) HG.out
      have Hall := Lib.hid hall; clear hall
      go_wp2
      go_ret
      exact ⟨g', c', rs, by rw [← Hall.out, contents_length, hm.out]; rfl, Hall.out, hR, hb⟩

end Go.Proofs.YtldcmhgpppeooaaGreatDoor
