/- Weights in simple roots, by determinants: linear in the weight; what a word takes off a dominant weight is a sum of simple roots; bounds. Plain law. IsWord of both: contracts. Groups of at most 48 elements. Plain law. -/
import Derived.Test.YtnpechcnmchneaaGreatDoorG29
import Derived.Test.YtnpechcnmchneaaGreatDoorG30
import Derived.Test.YtnpechcnmchneaaGreatDoorG03
import Derived.Test.YtnpechcnmchneaaGreatDoorG05
import Derived.BigQuiet
import Derived.Test.YtnpechcnmchneaaGreatDoorG24
namespace Go.Proofs.YtnpechcnmchneaaGreatDoor
set_option maxRecDepth 100000
open Go.RowKit Game
set_option linter.unusedSimpArgs false

/-! ### determinants of functions -/
def minF (M : Nat → Nat → Int) (t : Nat) : Nat → Nat → Int := fun r s => M (r + 1) (if s < t then s else s + 1)
def detF : Nat → (Nat → Nat → Int) → Int
  | 0, _ => 1
  | n + 1, M => sumTo (n + 1) fun t => sgn t * M 0 t * detF n (minF M t)
theorem ent_minor (m : List (List Int)) (t r s : Nat) : ent (minorOf m t) r s = minF (ent m) t r s := by
  have hg : (minorOf m t).getD r [] = cutAt (m.getD (r + 1) []) t := by
    unfold minorOf
    simp only [List.getD, List.getElem?_map, List.getElem?_drop]
    rw [Nat.add_comm 1 r]
    cases m[r + 1]? with
    | none => simp [cutAt]
    | some r => simp
  show ((minorOf m t).getD r []).getD s 0 = (m.getD (r + 1) []).getD (if s < t then s else s + 1) 0
  rw [hg, cutAt_getD]
  generalize m.getD (r + 1) [] = row
  have out : ∀ k, row.length ≤ k → row.getD k 0 = 0 := fun k hk => by simp [List.getD, hk]
  by_cases h1 : s < t
  · rw [if_pos h1]
    by_cases h2 : s < row.length
    · rw [if_pos ⟨h1, h2⟩]
    · rw [if_neg (fun h => h2 h.2), out _ (by omega), out _ (by omega)]
  · rw [if_neg h1, if_neg (fun h => h1 h.1)]
    by_cases h2 : t ≤ row.length
    · rw [Nat.min_eq_left h2, show t + 1 + (s - t) = s + 1 by omega]
    · rw [out _ (by omega), out _ (by omega)]
theorem det_F : ∀ (n : Nat) (m : List (List Int)), det n m = detF n (ent m)
  | 0, _ => rfl
  | n + 1, m => by
    simp only [det, detF]
    refine sumTo_congr (n + 1) fun t _ => ?_
    rw [det_F n, show ent (minorOf m t) = minF (ent m) t from funext fun r => funext fun s => ent_minor m t r s]
def updF (M : Nat → Nat → Int) (j : Nat) (a : Nat → Int) : Nat → Nat → Int := fun r s => if s = j then a r else M r s
theorem minF_same (M : Nat → Nat → Int) (j : Nat) (a : Nat → Int) : minF (updF M j a) j = minF M j := by
  funext r s
  show updF M j a (r + 1) (if s < j then s else s + 1) = M (r + 1) (if s < j then s else s + 1)
  unfold updF
  rw [if_neg (by split <;> omega)]
theorem minF_other (M : Nat → Nat → Int) {j t : Nat} (h : t ≠ j) (a : Nat → Int) : minF (updF M j a) t = updF (minF M t) (if j < t then j else j - 1) (fun r => a (r + 1)) := by
  funext r s
  show updF M j a (r + 1) (if s < t then s else s + 1) = updF (minF M t) (if j < t then j else j - 1) (fun r => a (r + 1)) r s
  unfold updF minF
  have e : ((if s < t then s else s + 1) = j) ↔ (s = if j < t then j else j - 1) := by split <;> split <;> omega
  by_cases h1 : (if s < t then s else s + 1) = j
  · rw [if_pos h1, if_pos (e.1 h1)]
  · rw [if_neg h1, if_neg (fun h2 => h1 (e.2 h2))]
theorem lin1 (g x y a b D : Int) : g * (x * a + y * b) * D = x * (g * a * D) + y * (g * b * D) := by
  simp only [Int.mul_add, Int.add_mul, Int.mul_assoc, Int.mul_left_comm, Int.mul_comm]
theorem lin2 (g m x y A B : Int) : g * m * (x * A + y * B) = x * (g * m * A) + y * (g * m * B) := by
  simp only [Int.mul_add, Int.add_mul, Int.mul_assoc, Int.mul_left_comm, Int.mul_comm]
theorem detF_lin : ∀ (n : Nat) (M : Nat → Nat → Int) (j : Nat) (a b : Nat → Int) (x y : Int), j < n → detF n (updF M j fun r => x * a r + y * b r) = x * detF n (updF M j a) + y * detF n (updF M j b)
  | 0, _, _, _, _, _, _, h => absurd h (by omega)
  | n + 1, M, j, a, b, x, y, hj => by
    simp only [detF]
    rw [← sumTo_mul, ← sumTo_mul, ← sumTo_add]
    refine sumTo_congr (n + 1) fun t ht => ?_
    by_cases e : t = j
    · subst e
      rw [minF_same, minF_same, minF_same]
      have e1 : ∀ f : Nat → Int, updF M t f 0 t = f 0 := fun f => by unfold updF; rw [if_pos rfl]
      rw [e1, e1, e1]
      exact lin1 _ _ _ _ _ _
    · rw [minF_other M e, minF_other M e, minF_other M e]
      have e1 : ∀ f : Nat → Int, updF M j f 0 t = M 0 t := fun f => by unfold updF; rw [if_neg e]
      rw [e1, e1, e1, detF_lin n (minF M t) _ (fun r => a (r + 1)) (fun r => b (r + 1)) x y (by split <;> omega)]
      exact lin2 _ _ _ _ _ _

/-! ### coordinates -/
def crd (c : List (List Int)) (v : List Int) : List Int := (List.range c.length).map fun j => det c.length (colL c j v)
def difB (c : List (List Int)) (v : List Int) : Bool := (crd c v).all fun x => decide (0 ≤ x) && decide (x.tmod (dC c) = 0)
def qL (c : List (List Int)) (v : List Int) : List Int := (crd c v).map fun x => x.tdiv (dC c)
theorem crd_length (c : List (List Int)) (v : List Int) : (crd c v).length = c.length := by simp [crd]
theorem qL_length (c : List (List Int)) (v : List Int) : (qL c v).length = c.length := by simp [qL, crd]
theorem ent_colL {c : List (List Int)} (hC : IsC c) {j : Nat} (hj : j < c.length) {v : List Int} (hv : v.length = c.length) : ent (colL c j v) = updF (ent c) j (toV v) := by
  funext r s
  show ((colL c j v).getD r []).getD s 0 = if s = j then v.getD r 0 else (c.getD r []).getD s 0
  by_cases hr : r < c.length
  · have e : (colL c j v).getD r [] = (c.getD r []).set j (v.getD r 0) := by simp [colL, List.getD, hr]
    have hl := hC.2.2.1 r hr
    rw [e]
    generalize c.getD r [] = row at *
    generalize v.getD r 0 = x
    by_cases h : s = j
    · subst h
      rw [if_pos rfl]
      simp [List.getD, hl, hj]
    · rw [if_neg h]
      simp [List.getD, List.getElem?_set, Ne.symm h]
  · have e : (colL c j v).getD r [] = [] := by simp [colL, List.getD, Nat.not_lt.1 hr]
    have e2 : c.getD r [] = [] := by simp [List.getD, Nat.not_lt.1 hr]
    have e3 : v.getD r 0 = 0 := by simp [List.getD, hv, Nat.not_lt.1 hr]
    rw [e, e2, e3]
    split <;> simp
def crF (c : List (List Int)) (j : Nat) (f : Nat → Int) : Int := detF c.length (updF (ent c) j f)
theorem crd_getD {c : List (List Int)} (hC : IsC c) {v : List Int} (hv : v.length = c.length) {j : Nat} (hj : j < c.length) : (crd c v).getD j 0 = crF c j (toV v) := by
  have e : (crd c v).getD j 0 = det c.length (colL c j v) := by simp [crd, List.getD, hj]
  rw [e, det_F, ent_colL hC hj hv]; rfl
theorem crF_self (c : List (List Int)) (j : Nat) : crF c j (fun k => ent c k j) = dC c := by
  unfold crF dC
  rw [det_F]
  congr 1
  funext r s
  unfold updF
  by_cases h : s = j
  · rw [if_pos h, h]
  · rw [if_neg h]
theorem toV_colOf (c : List (List Int)) (i : Nat) : toV (colOf c i) = fun k => ent c k i := by
  funext k
  show (colOf c i).getD k 0 = ent c k i
  by_cases h : k < c.length
  · simp [colOf, List.getD, h]
  · rw [ent_out (Nat.not_lt.1 h)]
    simp [colOf, List.getD, Nat.not_lt.1 h]
structure CrOk (c : List (List Int)) : Prop where
  hC : IsC c
  pos : 0 < dC c
  zero : ∀ i j, i < c.length → j < c.length → i ≠ j → crF c j (fun k => ent c k i) = 0
theorem crOk_of {c : List (List Int)} (hC : IsC c) (h : crB c = true) : CrOk c := by
  unfold crB at h
  rw [Bool.and_eq_true] at h
  refine ⟨hC, of_decide_eq_true h.1, fun i j hi hj hne => ?_⟩
  have h1 := List.all_eq_true.1 h.2 j (List.mem_range.2 hj)
  have h2 := List.all_eq_true.1 h1 i (List.mem_range.2 hi)
  rw [Bool.or_eq_true] at h2
  rcases h2 with h3 | h3
  · exact absurd (of_decide_eq_true h3) hne
  · have h4 := of_decide_eq_true h3
    rw [det_F, ent_colL hC hj (by simp [colOf]), toV_colOf] at h4
    exact h4
/-- a sum of simple roots -/
def PosF (c : List (List Int)) (f : Nat → Int) : Prop := ∀ j, j < c.length → 0 ≤ crF c j f ∧ dC c ∣ crF c j f
theorem difB_iff {c : List (List Int)} (hC : IsC c) {v : List Int} (hv : v.length = c.length) : difB c v = true ↔ PosF c (toV v) := by
  unfold difB PosF
  rw [List.all_eq_true]
  constructor
  · intro h j hj
    have h1 := h ((crd c v).getD j 0) (by simp [List.getD, crd_length, hj])
    rw [Bool.and_eq_true, crd_getD hC hv hj] at h1
    exact ⟨of_decide_eq_true h1.1, Int.dvd_of_tmod_eq_zero (of_decide_eq_true h1.2)⟩
  · intro h x hx
    obtain ⟨j, hj, rfl⟩ := List.mem_iff_getElem.1 hx
    have hj' : j < c.length := by rw [crd_length] at hj; exact hj
    have e : (crd c v)[j] = crF c j (toV v) := by rw [← crd_getD hC hv hj']; simp [List.getD, hj]
    rw [e, Bool.and_eq_true]
    exact ⟨decide_eq_true (h j hj').1, decide_eq_true (Int.tmod_eq_zero_of_dvd (h j hj').2)⟩
theorem PosF.step {c : List (List Int)} (hK : CrOk c) {f : Nat → Int} (h : PosF c f) {k : Int} (hk : 0 ≤ k) {i : Nat} (hi : i < c.length) : PosF c (fun r => f r + k * ent c r i) := by
  intro j hj
  have hl : crF c j (fun r => f r + k * ent c r i) = crF c j f + k * crF c j (fun r => ent c r i) := by
    have := detF_lin c.length (ent c) j f (fun r => ent c r i) 1 k hj
    simp only [Int.one_mul] at this
    exact this
  rw [hl]
  obtain ⟨h1, h2⟩ := h j hj
  by_cases e : i = j
  · subst e
    rw [crF_self]
    exact ⟨Int.add_nonneg h1 (Int.mul_nonneg hk (Int.le_of_lt hK.pos)), Int.dvd_add h2 (Int.dvd_mul_left _ _)⟩
  · rw [hK.zero i j hi hj e, Int.mul_zero, Int.add_zero]
    exact ⟨h1, h2⟩
theorem PosF.play {c : List (List Int)} (hK : CrOk c) (u d : Nat → Int) : ∀ (l : List Nat) (x : Nat → Int), Plays (ent c) c.length l x d → PosF c (fun r => x r - u r) → PosF c (fun r => d r - u r)
  | [], x, h, hp => by
    have e : x = d := h.2
    rw [← e]; exact hp
  | i :: l, x, h, hp => by
    obtain ⟨hi, hx, hl⟩ := Plays.cons.1 h
    refine PosF.play hK u d l _ hl ?_
    have h2 := PosF.step hK hp (k := - x i) (by omega) hi
    have e : (fun r => (x r - u r) + (- x i) * ent c r i) = fun r => Game.s (ent c) i x r - u r := by
      funext r
      unfold Game.s
      rw [Int.neg_mul]; omega
    rw [e] at h2
    exact h2

/-! ### signs -/
theorem len_any {A : Mat} {n : Nat} (hA : Car A n) {d1 d2 : Vec} (h1 : ∀ i, i < n → 0 < d1 i) (h2 : ∀ i, i < n → 0 < d2 i) {w l1 l2 : List Nat} (hw : ∀ i ∈ w, i < n) (p1 : Plays A n l1 (act A w d1) d1) (p2 : Plays A n l2 (act A w d2) d2) : l2.length ≤ l1.length := by
  have ha := word_act hA h1 w hw l1 p1
  have hd2 : Dom n d2 := fun i hi => Int.le_of_lt (h2 i hi)
  obtain ⟨l, hl, hle⟩ := word_play hA hd2 l1 p1.1.lt
  rw [← ha] at hl
  have := (Plays.unique hA hd2 p2 hl).1
  omega
theorem sign_same {A : Mat} {n : Nat} (hA : Car A n) {d1 d2 : Vec} (h1 : ∀ i, i < n → 0 < d1 i) (h2 : ∀ i, i < n → 0 < d2 i) {w : List Nat} (hw : ∀ i ∈ w, i < n) {i : Nat} (hi : i < n) (hpos : 0 < act A w d1 i) : 0 < act A w d2 i := by
  have hd1 : Dom n d1 := fun i hi => Int.le_of_lt (h1 i hi)
  have hd2 : Dom n d2 := fun i hi => Int.le_of_lt (h2 i hi)
  obtain ⟨l1, p1, -⟩ := word_play hA hd1 w hw
  obtain ⟨l2, p2, -⟩ := word_play hA hd2 w hw
  have hne := Plays.ne hA h2 p2 hi
  by_cases h : act A w d2 i < 0
  · obtain ⟨l', q, hlen, -⟩ := Plays.first hA hd2 p2 hi h
    have q' := (Plays.cons.1 q).2.2
    have r1 : Plays A n (i :: l1) (act A (i :: w) d1) d1 := by
      refine Plays.cons.2 ⟨hi, ?_, ?_⟩
      · simp only [Game.act, Game.s, hA.two i hi]; omega
      · simp only [Game.act]; rw [s_s hA hi]; exact p1
    have hw' : ∀ k ∈ i :: w, k < n := fun k hk => by
      rcases List.mem_cons.1 hk with e | e
      · rw [e]; exact hi
      · exact hw k e
    have e1 := len_any hA h2 h1 hw' (l1 := l') q' r1
    have e2 := len_any hA h1 h2 hw p1 p2
    simp only [List.length_cons] at e1
    omega
  · omega
theorem act_lin (A : Mat) (x y : Int) (a b : Vec) : ∀ w : List Nat, act A w (fun k => x * a k + y * b k) = fun k => x * act A w a k + y * act A w b k
  | [] => rfl
  | i :: w => by
    simp only [Game.act]
    rw [act_lin A x y a b w]
    funext k
    unfold Game.s
    simp only [Int.mul_add, Int.add_mul, Int.mul_sub, Int.mul_assoc]
    omega
theorem act_box {A : Mat} {n : Nat} (hA : Car A n) {r d : Vec} (hr : ∀ i, i < n → 0 < r i) (hd : ∀ i, i < n → 0 < d i ∧ d i < 6 * r i) {w : List Nat} (hw : ∀ i ∈ w, i < n) {i : Nat} (hi : i < n) {M : Int} (hM : -M ≤ act A w r i ∧ act A w r i ≤ M) :
    -(6 * M) ≤ act A w d i ∧ act A w d i ≤ 6 * M := by
  have h1 : ∀ i, i < n → 0 < d i := fun i hi => (hd i hi).1
  have h2 : ∀ i, i < n → 0 < (fun k => 6 * r k + (-1) * d k) i := fun i hi => by have := hd i hi; show 0 < 6 * r i + (-1) * d i; omega
  have e : act A w (fun k => 6 * r k + (-1) * d k) i = 6 * act A w r i + (-1) * act A w d i := congrFun (act_lin A 6 (-1) r d w) i
  have s1 := sign_same hA hr h1 hw hi
  have s2 := sign_same hA hr h2 hw hi
  have s3 := sign_same hA h1 hr hw hi
  have s4 := sign_same hA h2 hr hw hi
  rw [e] at s2 s4
  obtain ⟨l1, p1, -⟩ := word_play hA (fun i hi => Int.le_of_lt (h1 i hi)) w hw
  obtain ⟨l2, p2, -⟩ := word_play hA (fun i hi => Int.le_of_lt (hr i hi)) w hw
  have n1 := Plays.ne hA h1 p1 hi
  have n2 := Plays.ne hA hr p2 hi
  generalize act A w r i = p at *
  generalize act A w d i = q at *
  omega

/-! ### the dot action -/
def plusL (n : Nat) (v : List Int) : List Int := addTo v (onesL n) n
def dotL (c : List (List Int)) (w v : List Int) : List Int := shiftL (actW c w (plusL c.length v)) (onesL c.length) (-1)
theorem plusL_length (n : Nat) (v : List Int) : (plusL n v).length = n := addTo_length _ _ _
theorem plusL_getD {n : Nat} {v : List Int} (hv : Sml n v) {j : Nat} (hj : j < n) : (plusL n v).getD j 0 = v.getD j 0 + 1 := by
  have h := hv.2 j (by rw [hv.1]; exact hj)
  have e : (onesL n).getD j 0 = 1 := by simp [onesL, List.getD, hj]
  have e2 : (plusL n v).getD j 0 = wrap64 (v.getD j 0 + (onesL n).getD j 0) := by simp [plusL, addTo, List.getD, hj]
  rw [e2, e]
  exact IntWalk.wrap64_in _ ⟨by omega, by omega⟩
theorem dotL_length {c : List (List Int)} {w v : List Int} : (dotL c w v).length = c.length := by unfold dotL; rw [shiftL_length, actW_length, plusL_length]
theorem plus_toV {n : Nat} {v : List Int} (hv : Sml n v) {j : Nat} (hj : j < n) : toV (plusL n v) j = v.getD j 0 + 1 := plusL_getD hv hj
theorem toV_out {v : List Int} {j : Nat} (h : v.length ≤ j) : toV v j = 0 := by show v.getD j 0 = 0; simp [List.getD, h]
theorem plus_bd {n : Nat} {v : List Int} (hv : Sml n v) : Bd n 5 (toV (plusL n v)) := fun k hk => by
  rw [plus_toV hv hk]
  have := hv.2 k (by rw [hv.1]; exact hk)
  omega
theorem plus_pos {n : Nat} {v : List Int} (hv : Sml n v) : ∀ k, k < n → 0 < toV (plusL n v) k := fun k hk => by
  rw [plus_toV hv hk]
  have := hv.2 k (by rw [hv.1]; exact hk)
  omega
theorem pow4_24 : ∀ k, k ≤ 24 → (4 : Int) ^ k * 5 ≤ 1152921504606846976 := by decide
theorem act_toV {c : List (List Int)} (hG : Grp c) {v : List Int} (hv : Sml c.length v) {n : Nat} {W : List Nat} (hW : Elt c n W) : toV (actW c (intsOf W) (plusL c.length v)) = act (ent c) W (toV (plusL c.length v)) := by
  have h24 := elt24 hG.hC hG.fin hW
  exact toV_actW hG.hC (plusL_length _ _) (plus_bd hv) W hW.nf.lt (fun k hk => pow4_24 k (by have := hW.len; omega))
theorem dot_wt {c : List (List Int)} (hG : Grp c) {v : List Int} (hv : Sml c.length v) {n : Nat} {W : List Nat} (hW : Elt c n W) : wtOk c (dotL c (intsOf W) v) ∧ ∀ j, j < c.length → -200 ≤ (dotL c (intsOf W) v).getD j 0 ∧ (dotL c (intsOf W) v).getD j 0 ≤ 200 := by
  have h24 := elt24 hG.hC hG.fin hW
  have hA := car_of hG.hC
  have key : ∀ j, j < c.length → -200 ≤ (dotL c (intsOf W) v).getD j 0 ∧ (dotL c (intsOf W) v).getD j 0 ≤ 200 := by
    intro j hj
    have e1 : (onesL c.length).getD j 0 = 1 := by simp [onesL, List.getD, hj]
    unfold dotL
    rw [shiftL_getD _ _ _ (by rw [actW_length, plusL_length]; exact hj), e1]
    have e2 : (actW c (intsOf W) (plusL c.length v)).getD j 0 = act (ent c) W (toV (plusL c.length v)) j := congrFun (act_toV hG hv hW) j
    have h3 := hG.bd n W hW j
    have e3 : (imgL c W).getD j 0 = act (ent c) W (toV (onesL c.length)) j := congrFun (toV_image hG.hC hW.nf.lt (by have := hW.len; omega)) j
    rw [e3] at h3
    have h4 := act_box (r := toV (onesL c.length)) (d := toV (plusL c.length v)) hA (ones_pos c.length) (fun i hi => ⟨plus_pos hv i hi, by
      have h5 := plus_bd hv i hi
      rw [toV_ones _ _ hi]; omega⟩) hW.nf.lt hj h3
    rw [e2]
    omega
  exact ⟨⟨hG.hC, dotL_length, fun j hj => by rw [dotL_length] at hj; have := key j hj; omega⟩, key⟩
theorem shift_sub {n : Nat} {x u : List Int} (hx : x.length = n) (hu : u.length = n) : toV (shiftL x u (-1)) = fun r => toV x r - toV u r := by
  funext r
  by_cases h : r < n
  · show (shiftL x u (-1)).getD r 0 = x.getD r 0 - u.getD r 0
    rw [shiftL_getD _ _ _ (by omega)]; omega
  · rw [toV_out (by rw [shiftL_length]; omega), toV_out (by omega), toV_out (by omega)]; rfl
/-- what lies below a weight of the dot orbit lies below the dominant one -/
theorem dot_below {c : List (List Int)} (hG : Grp c) (hK : CrOk c) {v u : List Int} (hv : Sml c.length v) (hu : u.length = c.length) {n : Nat} {W : List Nat} (hW : Elt c n W)
    (h : difB c (shiftL (dotL c (intsOf W) v) u (-1)) = true) : difB c (shiftL v u (-1)) = true := by
  have hA := car_of hG.hC
  rw [difB_iff hG.hC (by rw [shiftL_length, dotL_length]), shift_sub dotL_length hu] at h
  rw [difB_iff hG.hC (by rw [shiftL_length]; exact hv.1), shift_sub hv.1 hu]
  obtain ⟨l, hl, -⟩ := word_play hA (fun i hi => Int.le_of_lt (plus_pos hv i hi)) W hW.nf.lt
  have e1 : (fun r => toV (dotL c (intsOf W) v) r - toV u r) = fun r => act (ent c) W (toV (plusL c.length v)) r - (toV (onesL c.length) r + toV u r) := by
    funext r
    unfold dotL
    rw [shift_sub (n := c.length) (by rw [actW_length, plusL_length]) (onesL_len _), act_toV hG hv hW]
    show _ - _ - _ = _ - (_ + _)
    omega
  have e2 : (fun r => toV v r - toV u r) = fun r => toV (plusL c.length v) r - (toV (onesL c.length) r + toV u r) := by
    funext r
    by_cases h : r < c.length
    · rw [plus_toV hv h, toV_ones _ _ h]
      show v.getD r 0 - _ = _
      omega
    · rw [toV_out (v := v) (by have := hv.1; omega), toV_out (v := plusL c.length v) (by rw [plusL_length]; omega), toV_out (v := onesL c.length) (by rw [onesL_len]; omega)]; omega
  rw [e1] at h
  rw [e2]
  exact PosF.play hK _ _ l _ hl h
end Go.Proofs.YtnpechcnmchneaaGreatDoor
namespace Go.Proofs.YtnpechcnmchneaaGreatDoor
set_option maxRecDepth 100000
open Go.RowKit Game

def lettersB (n : Nat) (l : List Int) : Bool := l.all fun x => decide (0 ≤ x) && decide (x < (n : Int))
def isWordB (c : List (List Int)) (l : List Int) : Bool := decide (IsC c) && (decide (l.length ≤ 15) && lettersB c.length l)
theorem letters_out {n : Nat} {l : List Int} {k : Nat} (hk : k < l.length) (h : ¬ (0 ≤ l.getD k 0 ∧ l.getD k 0 < (n : Int))) : lettersB n l = false := by
  have e : l.getD k 0 = l[k] := by simp [List.getD, hk]
  rw [e] at h
  rw [← Bool.not_eq_true]
  intro ht
  have := List.all_eq_true.1 ht l[k] (List.getElem_mem hk)
  simp only [Bool.and_eq_true, decide_eq_true_eq] at this
  exact h this
theorem letters_in {n : Nat} {l : List Int} (h : ∀ k, k < l.length → 0 ≤ l.getD k 0 ∧ l.getD k 0 < (n : Int)) : lettersB n l = true := by
  refine List.all_eq_true.2 fun x hx => ?_
  obtain ⟨k, hk, rfl⟩ := List.getElem_of_mem hx
  have := h k hk
  have e : l.getD k 0 = l[k] := by simp [List.getD, hk]
  rw [e] at this
  simpa using this
theorem isWordB_of {c : List (List Int)} {l : List Int} (h : isWordB c l = true) : IsC c ∧ l.length ≤ 15 ∧ ∀ x ∈ l, 0 ≤ x ∧ x < (c.length : Int) := by
  simp only [isWordB, Bool.and_eq_true, decide_eq_true_eq] at h
  refine ⟨h.1, h.2.1, fun x hx => ?_⟩
  have := List.all_eq_true.1 h.2.2 x hx
  simpa using this

set_option maxHeartbeats 1000000 in
theorem impl_isWordOf_any (gc oc n cc g o m cp : Nat) (l : List Int) (w : World) (hm : l.length = m) (hl : l.length ≤ 1048576) (hc : Cells w g o l) :
    Calls Tryz.prog 148 #[(Value.slice (some ⟨gc, oc, none⟩) n cc), (Value.slice (some ⟨g, o, none⟩) m cp)] w (Reads w (.bool (lettersB n l))) := by
  subst hm
  go_enter Tryz.func148, Tryz.ntmps148
  go_wp2
  go_loopw [9] (fun i wr => ∃ k : Nat, k ≤ l.length ∧ i = .int .i64 k ∧ Hid (∀ j, j < k → 0 ≤ l.getD j 0 ∧ l.getD j 0 < (n : Int)) ∧ ∃ q, wr = w.drewN q) (fun i _ => l.length - (intOf i).toNat)
  case atStart => exact ⟨0, Nat.zero_le _, rfl, fun j h => absurd h (by omega), (by first | exact ⟨_, rfl⟩ | exact ⟨0, rfl⟩ | exact still2 _ _ _ | exact still3 _ _ _ _)⟩
  case round =>
    obtain ⟨k, hk, rfl, hp, q, rfl⟩ := hrel
    by_cases hlt : k < l.length
    · have c1 := hc k hlt
      have HA : Hid (¬ (0 ≤ l.getD k 0 ∧ l.getD k 0 < (n : Int)) → lettersB n l = false) := letters_out hlt
      have HB : Hid (0 ≤ l.getD k 0 ∧ l.getD k 0 < (n : Int) → ∀ j, j < k + 1 → 0 ≤ l.getD j 0 ∧ l.getD j 0 < (n : Int)) := fun h j hj => by
        by_cases e : j = k
        · subst e; exact h
        · exact hp.out j (by omega)
      generalize l.getD k 0 = x at *
      have hcall := impl_isPoint_any gc oc n cc x (w.drewN q)
      by_cases hx : 0 ≤ x ∧ x < (n : Int)
      · have hT : (decide (0 ≤ x) && decide (x < (n : Int))) = true := by simpa using hx
        rw [hT] at hcall
        have hb := HB.out hx
        have Hb := Lib.hid hb; have Hcall := Lib.hid hcall
        clear hb hcall hT HA HB hp hx
        go_wp2_with fail
        refine Hcall.out.mono ?_
        rintro e w2 ⟨rfl, q2, rfl⟩
        go_wp2_with fail
        go_roundw
        case rel => exact ⟨k + 1, by omega, by go_num, Hb.out, (by first | exact ⟨_, rfl⟩ | exact ⟨0, rfl⟩ | exact still2 _ _ _ | exact still3 _ _ _ _)⟩
        case measure => simp [intOf]; omega
      · have hT : (decide (0 ≤ x) && decide (x < (n : Int))) = false := by
          rw [← Bool.not_eq_true, Bool.and_eq_true, decide_eq_true_eq, decide_eq_true_eq]; exact hx
        rw [hT] at hcall
        have ha := HA.out hx
        have Ha := Lib.hid ha; have Hcall := Lib.hid hcall
        clear ha hcall hT HA HB hp hx
        go_wp2_with fail
        refine Hcall.out.mono ?_
        rintro e w2 ⟨rfl, q2, rfl⟩
        go_wp2_with fail
        go_ret
        exact ⟨ret_bool Ha.out.symm, (by first | exact ⟨_, rfl⟩ | exact ⟨0, rfl⟩ | exact still2 _ _ _ | exact still3 _ _ _ _)⟩
    · obtain rfl : k = l.length := by omega
      have Hf : Hid (lettersB n l = true) := letters_in hp.out
      clear hp
      go_wp2
      go_ret
      exact ⟨ret_bool Hf.out.symm, (by first | exact ⟨_, rfl⟩ | exact ⟨0, rfl⟩ | exact still2 _ _ _ | exact still3 _ _ _ _)⟩

set_option maxHeartbeats 1000000 in
theorem impl_IsWord_any (gc oc n cc g o m cp : Nat) (c : List (List Int)) (l : List Int) (w : World) (hn : c.length = n) (hm : l.length = m) (hx : c.length ≤ 1048576) (hrl : ∀ j, j < c.length → (c.getD j []).length ≤ 1048576) (hl : l.length ≤ 1048576) (hr : Rows2 w gc oc c) (hc : Cells w g o l) :
    Calls Tryz.prog 101 #[(Value.slice (some ⟨gc, oc, none⟩) n cc), (Value.slice (some ⟨g, o, none⟩) m cp)] w (Reads w (.bool (isWordB c l))) := by
  subst hn; subst hm
  have hcall := impl_IsCartan gc oc _ cc c w rfl (by omega) (fun j hj => by have := hrl j hj; omega) hr
  have hcall2 := fun W (hW : ∃ q, W = w.drewN q) => impl_isWordOf_any gc oc c.length cc g o _ cp l W rfl hl (hc.still hW)
  have Hcall2 := Lib.hid hcall2
  clear hr hc hcall2 hrl
  by_cases hC : IsC c
  · rw [decide_eq_true hC] at hcall
    have Hcall := Lib.hid hcall
    by_cases h15 : l.length ≤ 15
    · have hv : isWordB c l = lettersB c.length l := by unfold isWordB; rw [decide_eq_true hC, decide_eq_true h15]; simp
      rw [hv]
      have h15I : (l.length : Int) ≤ 15 := by omega
      clear hcall hv
      generalize lettersB c.length l = b at *
      go_enter Tryz.func101, Tryz.ntmps101
      go_wp2_with fail
      refine Hcall.out.mono ?_
      rintro e w2 ⟨rfl, hs2⟩
      have Hc3 := Lib.hid (Hcall2.out w2 hs2)
      go_wp2_with fail
      refine Hc3.out.mono ?_
      rintro e w3 ⟨rfl, hs3⟩
      have hs := still_trans hs2 hs3
      cases b
      all_goals
        go_wp2_with fail
        go_ret
        exact ⟨rfl, hs⟩
    · have hv : isWordB c l = false := by unfold isWordB; rw [decide_eq_false h15]; simp
      have Hv := Lib.hid hv
      have h15I : (15 : Int) < (l.length : Int) := by omega
      clear hcall hv h15
      go_enter Tryz.func101, Tryz.ntmps101
      go_wp2_with fail
      refine Hcall.out.mono ?_
      rintro e w2 ⟨rfl, hs2⟩
      go_wp2_with fail
      go_ret
      exact ⟨ret_bool Hv.out.symm, hs2⟩
  · rw [decide_eq_false hC] at hcall
    have Hcall := Lib.hid hcall
    have hv : isWordB c l = false := by unfold isWordB; rw [decide_eq_false hC]; simp
    have Hv := Lib.hid hv
    clear hcall hv
    go_enter Tryz.func101, Tryz.ntmps101
    go_wp2_with fail
    refine Hcall.out.mono ?_
    rintro e w2 ⟨rfl, hs2⟩
    go_wp2_with fail
    go_ret
    exact ⟨ret_bool Hv.out.symm, hs2⟩

set_option maxHeartbeats 1000000 in
theorem spec_IsWord_any (gc oc n cc g o m cp : Nat) (c : List (List Int)) (l : List Int) (w : World) (hn : c.length = n) (hm : l.length = m) (hx : c.length ≤ 1048576) (hrl : ∀ j, j < c.length → (c.getD j []).length ≤ 1048576) (hl : l.length ≤ 1048576) (hr : Rows2 w gc oc c) (hc : Cells w g o l) :
    Calls Tryz.prog 92 #[(Value.slice (some ⟨gc, oc, none⟩) n cc), (Value.slice (some ⟨g, o, none⟩) m cp)] w (Reads w (.bool (isWordB c l))) := by
  subst hn; subst hm
  have hcall2 := fun W (hW : ∃ q, W = w.drewN q) => spec_IsCartan gc oc _ cc c W rfl (by omega) (fun j hj => by have := hrl j hj; omega) (hr.still hW)
  have Hcall2 := Lib.hid hcall2
  clear hr hcall2 hrl
  go_enter Tryz.func92, Tryz.ntmps92
  go_wp2
  go_loopw [5] (fun i wr => ∃ k : Nat, k ≤ l.length ∧ i = .int .i64 k ∧ Hid (∀ j, j < k → 0 ≤ l.getD j 0 ∧ l.getD j 0 < (c.length : Int)) ∧ ∃ q, wr = w.drewN q) (fun i _ => l.length - (intOf i).toNat)
  case atStart => exact ⟨0, Nat.zero_le _, rfl, fun j h => absurd h (by omega), (by first | exact ⟨_, rfl⟩ | exact ⟨0, rfl⟩ | exact still2 _ _ _ | exact still3 _ _ _ _)⟩
  case round =>
    obtain ⟨k, hk, rfl, hp, q, rfl⟩ := hrel
    by_cases hlt : k < l.length
    · have c1 := hc k hlt
      have HA : Hid (¬ (0 ≤ l.getD k 0 ∧ l.getD k 0 < (c.length : Int)) → isWordB c l = false) := fun h => by unfold isWordB; rw [letters_out hlt h]; simp
      have HB : Hid (0 ≤ l.getD k 0 ∧ l.getD k 0 < (c.length : Int) → ∀ j, j < k + 1 → 0 ≤ l.getD j 0 ∧ l.getD j 0 < (c.length : Int)) := fun h j hj => by
        by_cases e : j = k
        · subst e; exact h
        · exact hp.out j (by omega)
      generalize l.getD k 0 = x at *
      have hcall := spec_l1In x 0 ((c.length : Int) - 1) (w.drewN q)
      by_cases hx : 0 ≤ x ∧ x < (c.length : Int)
      · have hT : (decide (0 ≤ x) && decide (x ≤ (c.length : Int) - 1)) = true := by simp only [Bool.and_eq_true, decide_eq_true_eq]; omega
        rw [hT] at hcall
        have hb := HB.out hx
        have Hb := Lib.hid hb; have Hcall := Lib.hid hcall
        clear hb hcall hT HA HB hp hx
        go_wp2_with fail
        refine Hcall.out.mono ?_
        rintro e w2 ⟨rfl, q2, rfl⟩
        go_wp2_with fail
        go_roundw
        case rel => exact ⟨k + 1, by omega, by go_num, Hb.out, (by first | exact ⟨_, rfl⟩ | exact ⟨0, rfl⟩ | exact still2 _ _ _ | exact still3 _ _ _ _)⟩
        case measure => simp [intOf]; omega
      · have hT : (decide (0 ≤ x) && decide (x ≤ (c.length : Int) - 1)) = false := by
          rw [← Bool.not_eq_true, Bool.and_eq_true, decide_eq_true_eq, decide_eq_true_eq]; omega
        rw [hT] at hcall
        have ha := HA.out hx
        have Ha := Lib.hid ha; have Hcall := Lib.hid hcall
        clear ha hcall hT HA HB hp hx
        go_wp2_with fail
        refine Hcall.out.mono ?_
        rintro e w2 ⟨rfl, q2, rfl⟩
        go_wp2_with fail
        go_ret
        exact ⟨ret_bool Ha.out.symm, (by first | exact ⟨_, rfl⟩ | exact ⟨0, rfl⟩ | exact still2 _ _ _ | exact still3 _ _ _ _)⟩
    · obtain rfl : k = l.length := by omega
      have hf : lettersB c.length l = true := letters_in hp.out
      have hcall := Hcall2.out (w.drewN q) (by first | exact ⟨_, rfl⟩ | exact ⟨0, rfl⟩ | exact still2 _ _ _ | exact still3 _ _ _ _)
      clear hp
      by_cases hC : IsC c
      · have hv : isWordB c l = decide (l.length ≤ 15) := by unfold isWordB; rw [decide_eq_true hC, hf]; simp
        rw [decide_eq_true hC] at hcall
        have Hcall := Lib.hid hcall; have Hv := Lib.hid hv
        clear hcall hv hf
        by_cases h15 : l.length ≤ 15
        · have h15I : (l.length : Int) ≤ 15 := by omega
          go_wp2_with fail
          refine Hcall.out.mono ?_
          rintro e w2 ⟨rfl, q2, rfl⟩
          go_wp2_with fail
          go_ret
          exact ⟨ret_bool (by rw [Hv.out, decide_eq_true h15]), (by first | exact ⟨_, rfl⟩ | exact ⟨0, rfl⟩ | exact still2 _ _ _ | exact still3 _ _ _ _)⟩
        · have h15I : (15 : Int) < (l.length : Int) := by omega
          go_wp2_with fail
          refine Hcall.out.mono ?_
          rintro e w2 ⟨rfl, q2, rfl⟩
          go_wp2_with fail
          go_ret
          exact ⟨ret_bool (by rw [Hv.out]; simp; omega), (by first | exact ⟨_, rfl⟩ | exact ⟨0, rfl⟩ | exact still2 _ _ _ | exact still3 _ _ _ _)⟩
      · have hv : isWordB c l = false := by unfold isWordB; rw [decide_eq_false hC]; simp
        rw [decide_eq_false hC] at hcall
        have Hcall := Lib.hid hcall; have Hv := Lib.hid hv
        clear hcall hv hf
        go_wp2_with fail
        refine Hcall.out.mono ?_
        rintro e w2 ⟨rfl, q2, rfl⟩
        go_wp2_with fail
        go_ret
        exact ⟨ret_bool Hv.out.symm, (by first | exact ⟨_, rfl⟩ | exact ⟨0, rfl⟩ | exact still2 _ _ _ | exact still3 _ _ _ _)⟩
end Go.Proofs.YtnpechcnmchneaaGreatDoor
namespace Go.Proofs.YtnpechcnmchneaaGreatDoor
set_option maxRecDepth 100000
open Go.RowKit Game

theorem size_fin {c : List (List Int)} (hf : finB c = true) : szB c = true := (Bool.and_eq_true_iff.1 (szK_fin (fin_isC hf) hf)).2
theorem crOk_fin {c : List (List Int)} (hf : finB c = true) : CrOk c := crOk_of (fin_isC hf) (Bool.and_eq_true_iff.1 (szK_fin (fin_isC hf) hf)).1
/-- a finite group of at most 48 elements -/
def fewB (c : List (List Int)) : Bool := finB c && decide (szO c ≤ 48)
def fewL (c : List (List Int)) : List (List Int) := if fewB c = true then elemL c else []
theorem fewB_fin {c : List (List Int)} (h : fewB c = true) : finB c = true := (Bool.and_eq_true_iff.1 h).1
theorem fewB_48 {c : List (List Int)} (h : fewB c = true) : szO c ≤ 48 := of_decide_eq_true (Bool.and_eq_true_iff.1 h).2
theorem size_pos {c : List (List Int)} (hf : finB c = true) : 1 ≤ szO c := by
  have h := size_fin hf
  have hs : szO c = prodT (nameL c) := if_pos hf
  unfold szB szC at h
  rw [hs]
  exact of_decide_eq_true (Bool.and_eq_true_iff.1 h).1
theorem grp_few {c : List (List Int)} (h : fewB c = true) : Grp c := grp_of (fewB_fin h) (size_fin (fewB_fin h)) (by have := fewB_48 h; omega)
theorem few_iff (c : List (List Int)) : fewB c = true ↔ 1 ≤ szO c ∧ szO c ≤ 48 := by
  constructor
  · intro h; exact ⟨size_pos (fewB_fin h), fewB_48 h⟩
  · intro ⟨h1, h2⟩
    have hf : finB c = true := by
      by_cases hf : finB c = true
      · exact hf
      · have : szO c = 0 := if_neg hf
        omega
    unfold fewB
    rw [hf, decide_eq_true h2]; rfl
theorem elem_at {c : List (List Int)} (h : fewB c = true) {k : Nat} (hk : k < (elemL c).length) :
    ∃ n W, Elt c n W ∧ (elemL c).getD k [] = intsOf W ∧ n ≤ 9 ∧ W.length = n := by
  have hG := grp_few h
  obtain ⟨n, W, hW, e⟩ := (hG.mem ((elemL c).getD k [])).1 (by simp [List.getD, hk])
  exact ⟨n, W, hW, e, hG.short (fewB_48 h) n W hW, hW.len⟩
theorem elt_word {c : List (List Int)} {n : Nat} {W : List Nat} (hC : IsC c) (hW : Elt c n W) (hn : n ≤ 9) : isWordB c (intsOf W) = true := by
  have hl := hW.len
  unfold isWordB
  rw [decide_eq_true hC, decide_eq_true (by rw [intsOf_length]; omega), Bool.true_and, Bool.true_and]
  unfold lettersB
  rw [List.all_eq_true]
  intro x hx
  obtain ⟨i, hi, rfl⟩ := List.mem_map.1 hx
  have := hW.nf.lt i hi
  simp; omega

def sgnW (w : List Int) : Int := if w.length % 2 = 0 then 1 else -1
end Go.Proofs.YtnpechcnmchneaaGreatDoor
