/- Bruhat's order: what the reference's comparison says is 'a subword of the second word is the first element'. Plain law. Lengths of polynomials of Kazhdan and Lusztig on the way; what the kernel has found. Plain law. -/
import Derived.Test.YtdedkfbiookofaaGreatDoorM17
import Derived.Test.YtdedkfbiookofaaGreatDoorM30
namespace Go.Proofs.YtdedkfbiookofaaGreatDoor
set_option maxRecDepth 100000
open Go.RowKit Game
namespace Game
variable {A : Mat} {n : Nat} {d : Vec}
/-- some letters of y, in their order, play v -/
def BelW (A : Mat) (d : Vec) (v : Vec) (y : List Nat) : Prop := ∃ z : List Nat, z.Sublist y ∧ act A z d = v
theorem sub_red (hC : Car A n) (hd : Strict n d) : ∀ (k : Nat) (z : List Nat), z.length ≤ k → (∀ i ∈ z, i < n) → ∃ z', z'.Sublist z ∧ Red A n d z' ∧ act A z' d = act A z d
  | 0, z, hk, _ => by
    obtain rfl : z = [] := List.length_eq_zero_iff.1 (by omega)
    exact ⟨[], List.Sublist.refl _, Red.nil, rfl⟩
  | k + 1, z, hk, hz => by
    by_cases hr : Red A n d z
    · exact ⟨z, List.Sublist.refl _, hr, rfl⟩
    · obtain ⟨a, b, hab, hb, hact⟩ := deletion hC hd hz hr
      have hs : ((z.eraseIdx b).eraseIdx a).Sublist z := (List.eraseIdx_sublist _ _).trans (List.eraseIdx_sublist _ _)
      obtain ⟨z', h1, h2, h3⟩ := sub_red hC hd k ((z.eraseIdx b).eraseIdx a) (by rw [List.length_eraseIdx, List.length_eraseIdx]; split <;> split <;> omega) (fun i hi => hz i (hs.subset hi))
      exact ⟨z', h1.trans hs, h2, h3.trans (hact d)⟩
theorem BelW.red (hC : Car A n) (hd : Strict n d) {v : Vec} {y : List Nat} (hy : ∀ i ∈ y, i < n) (h : BelW A d v y) : ∃ z, z.Sublist y ∧ Red A n d z ∧ act A z d = v := by
  obtain ⟨z, h1, h2⟩ := h
  obtain ⟨z', k1, k2, k3⟩ := sub_red hC hd z.length z (Nat.le_refl _) (fun i hi => hy i (h1.subset hi))
  exact ⟨z', k1.trans h1, k2, k3.trans h2⟩
theorem BelW.down (hC : Car A n) (hd : Strict n d) {v : Vec} {y : List Nat} (hy : ∀ i ∈ y, i < n) (h : BelW A d v y) {i : Nat} (hi : i < n) (hneg : v i < 0) : BelW A d (s A i v) y := by
  obtain ⟨z, h1, h2, h3⟩ := h.red hC hd hy
  obtain ⟨k, -, hk⟩ := exchange hC hd h2 hi (by rw [h3]; exact hneg)
  refine ⟨z.eraseIdx k, (List.eraseIdx_sublist _ _).trans h1, ?_⟩
  rw [hk d]
  show s A i (act A z d) = _
  rw [h3]
theorem s_at (hC : Car A n) {i : Nat} (hi : i < n) (v : Vec) : s A i v i = - v i := by
  have h := hC.1 i hi
  unfold s
  rw [h]; omega
theorem bel_neg (hC : Car A n) (hd : Strict n d) {v : Vec} {t : Nat} {y : List Nat} (ht : t < n) (hy : ∀ i ∈ y, i < n) (hneg : v t < 0) : BelW A d v (t :: y) ↔ BelW A d (s A t v) y := by
  constructor
  · rintro ⟨z, h1, h2⟩
    cases h1 with
    | cons _ h => exact BelW.down hC hd hy ⟨z, h, h2⟩ ht hneg
    | cons_cons _ h =>
      refine ⟨_, h, ?_⟩
      rw [← h2]
      exact (s_s hC ht _).symm
  · rintro ⟨z, h1, h2⟩
    exact ⟨t :: z, h1.cons_cons t, by show s A t (act A z d) = v; rw [h2]; exact s_s hC ht v⟩
theorem bel_pos (hC : Car A n) (hd : Strict n d) {v : Vec} {t : Nat} {y : List Nat} (ht : t < n) (hy : ∀ i ∈ y, i < n) (hpos : 0 < v t) : BelW A d v (t :: y) ↔ BelW A d v y := by
  constructor
  · rintro ⟨z, h1, h2⟩
    cases h1 with
    | cons _ h => exact ⟨z, h, h2⟩
    | cons_cons _ h =>
      rename_i z1
      have h3 : act A z1 d = s A t v := by rw [← h2]; exact (s_s hC ht _).symm
      have h4 := BelW.down hC hd hy ⟨z1, h, h3⟩ ht (by rw [s_at hC ht]; omega)
      rw [s_s hC ht] at h4
      exact h4
  · rintro ⟨z, h1, h2⟩
    exact ⟨z, h1.cons t, h2⟩
end Game
theorem imI_act {c : List (List Int)} {m : Nat} {v : List Int} (h : Lets c m v) (hm : m ≤ 30) : toV (imI c v) = act (ent c) (v.map Int.toNat) (toV (onesL c.length)) := by
  have := toV_image h.isC h.nats_lt (by rw [List.length_map]; have := h.few; omega)
  rwa [h.nats] at this
theorem lets_cons {c : List (List Int)} {m : Nat} {v : List Int} (h : Lets c m v) {i : Nat} (hi : i < c.length) : Lets c (m + 1) ((i : Int) :: v) :=
  lets_of h.isC (by rw [List.length_cons]; have := h.few; omega) fun x hx => by
    rcases List.mem_cons.1 hx with g | g
    · subst g; omega
    · exact h.mem x g
theorem imI_s {c : List (List Int)} {m : Nat} {v : List Int} (h : Lets c m v) (hm : m ≤ 29) {i : Nat} (hi : i < c.length) : toV (imI c ((i : Int) :: v)) = s (ent c) i (toV (imI c v)) := by
  rw [imI_act (lets_cons h hi) (by omega), imI_act h (by omega), List.map_cons, Int.toNat_natCast]; rfl
theorem ones_strict (n : Nat) : Strict n (toV (onesL n)) := ones_pos n
/-- the element of U is below that of V -/
def BelV (c : List (List Int)) (U V : List Int) : Prop := BelW (ent c) (toV (onesL c.length)) (toV (imI c U)) (V.map Int.toNat)
theorem BelV.img {c : List (List Int)} {U U' V : List Int} (h : imI c U = imI c U') : BelV c U V ↔ BelV c U' V := by unfold BelV; rw [h]
theorem belV_neg {c : List (List Int)} {m : Nat} {U V : List Int} (hU : Lets c m U) (hm : m ≤ 29) (hV : Lets c 15 V) {t : Nat} (ht : t < c.length) (h : (imI c U).getD t 0 < 0) : BelV c U ((t : Int) :: V) ↔ BelV c ((t : Int) :: U) V := by
  unfold BelV
  rw [imI_s hU hm ht, List.map_cons, Int.toNat_natCast]
  exact bel_neg (car_of hU.isC) (ones_strict _) ht hV.nats_lt h
theorem belV_pos {c : List (List Int)} {m : Nat} {U V : List Int} (hU : Lets c m U) (hm : m ≤ 30) (hV : Lets c 15 V) {t : Nat} (ht : t < c.length) (h : ¬ (imI c U).getD t 0 < 0) : BelV c U ((t : Int) :: V) ↔ BelV c U V := by
  unfold BelV
  rw [List.map_cons, Int.toNat_natCast]
  have hn := imI_ne (hU.mono hm) ht
  exact bel_pos (car_of hU.isC) (ones_strict _) ht hV.nats_lt (show 0 < (imI c U).getD t 0 by omega)
/-- what is not above u is not above its longer neighbour -/
theorem belV_up {c : List (List Int)} {m : Nat} {U V : List Int} (hU : Lets c m U) (hm : m ≤ 29) (hV : Lets c 15 V) {t : Nat} (ht : t < c.length) (h : ¬ (imI c U).getD t 0 < 0) (hb : BelV c ((t : Int) :: U) V) : BelV c U V := by
  unfold BelV at hb ⊢
  rw [imI_s hU hm ht] at hb
  have hn := imI_ne (hU.mono (show m ≤ 30 by omega)) ht
  have hC := car_of hU.isC
  have hp : 0 < toV (imI c U) t := show 0 < (imI c U).getD t 0 by omega
  have := BelW.down hC (ones_strict _) hV.nats_lt hb ht (by rw [s_at hC ht]; omega)
  rwa [s_s hC ht] at this
theorem belV_nil {c : List (List Int)} {U : List Int} : BelV c U [] ↔ imI c U = onesL c.length := by
  constructor
  · rintro ⟨z, h1, h2⟩
    obtain rfl : z = [] := List.eq_nil_of_sublist_nil h1
    exact toV_inj (by rw [imI_length, onesL_len]) h2.symm
  · intro h
    exact ⟨[], List.Sublist.refl _, by rw [h]; rfl⟩
theorem none_ones {c : List (List Int)} {m : Nat} {U : List Int} (hU : Lets c m U) (hm : m ≤ 30) (h : firstNeg (imI c U) = none) : imI c U = onesL c.length := by
  have h1 := (nfI_ok (hU.mono hm)).norm
  have h2 : nfI c U = [] := normG_none h1 h
  have h3 := (nfI_ok (hU.mono hm)).img
  rw [h2] at h3
  exact h3.symm
theorem ones_none (n : Nat) : firstNeg (onesL n) = none := firstNeg_nil fun j hj => by
  rw [onesL_len] at hj
  have := ones_pos n j hj
  exact Int.le_of_lt this
theorem head_tail {c : List (List Int)} {t : Int} {V : List Int} {m : Nat} (hV : Lets c m (t :: V)) : ∃ k : Nat, t = (k : Int) ∧ k < c.length ∧ Lets c m V := by
  have h := hV.mem t (by simp)
  exact ⟨t.toNat, by omega, by omega, lets_of hV.isC (by have := hV.few; rw [List.length_cons] at this; omega) fun x hx => hV.mem x (by simp [hx])⟩
/-- what is left when letters are taken away: nothing exactly for elements below -/
theorem subU_bel {c : List (List Int)} : ∀ (V : List Int) {U : List Int}, Lets c 15 V → Nw c U → (subU c V U = [] ↔ BelV c U V)
  | [], U, _, hU => by
    rw [belV_nil]
    show U = [] ↔ _
    constructor
    · rintro rfl; rfl
    · intro h
      exact hU.none.1 (by rw [h]; exact ones_none _)
  | t :: V, U, hV, hU => by
    obtain ⟨k, rfl, hk, hV1⟩ := head_tail hV
    show subU c V (subN c U (k : Int)) = [] ↔ _
    by_cases hn : (imI c U).getD k 0 < 0
    · rw [subN_neg hn, belV_neg hU.lets (by decide) hV1 hk hn, subU_bel V hV1 (hU.down hk hn)]
      exact BelV.img (by rw [hU.img hk]; rfl)
    · rw [subN_pos hn, belV_pos hU.lets (by decide) hV1 hk hn, subU_bel V hV1 hU]
def rI (c : List (List Int)) : List Int → List Int → List Int
  | [], x => if firstNeg x = none then [1] else []
  | t :: V, x => if x.getD t.toNat 0 < 0 then rI c V (refl c t.toNat x) else addP (shI (rI c V (refl c t.toNat x)) 1) (subP' (shI (rI c V x) 1) (rI c V x))
def rS (c : List (List Int)) : List Int → List Int → List Int
  | [], U => if U = [] then [1] else []
  | t :: V, U => if subU c (t :: V) U = [] then (if (nfI c (t :: U)).length < U.length then rS c V (nfI c (t :: U)) else addP (shS (rS c V (nfI c (t :: U))) 1) (addP (shS (rS c V U) 1) (negP (rS c V U)))) else []
theorem rI_le (c : List (List Int)) : ∀ V x, (rI c V x).length ≤ V.length + 1
  | [], x => by unfold rI; split <;> simp
  | t :: V, x => by
    unfold rI
    split
    · exact Nat.le_trans (rI_le c V _) (by simp)
    · have h1 := rI_le c V (refl c t.toNat x)
      have h2 := rI_le c V x
      have h3 := shI_le (rI c V (refl c t.toNat x)) 1
      have h4 := shI_le (rI c V x) 1
      have h5 := subP_le (shI (rI c V x) 1) (rI c V x)
      have h6 := addP_le (shI (rI c V (refl c t.toNat x)) 1) (subP' (shI (rI c V x) 1) (rI c V x))
      rw [List.length_cons]; omega
theorem rS_le (c : List (List Int)) : ∀ V U, (rS c V U).length ≤ V.length + 1
  | [], x => by unfold rS; split <;> simp
  | t :: V, U => by
    unfold rS
    split
    · split
      · exact Nat.le_trans (rS_le c V _) (by simp)
      · have h1 := rS_le c V (nfI c (t :: U))
        have h2 := rS_le c V U
        have h3 := shS_le (rS c V (nfI c (t :: U))) 1
        have h4 := shS_le (rS c V U) 1
        have h5 := addP_le (shS (rS c V U) 1) (negP (rS c V U))
        have h6 := addP_le (shS (rS c V (nfI c (t :: U))) 1) (addP (shS (rS c V U) 1) (negP (rS c V U)))
        rw [negP_length] at h5
        rw [List.length_cons]; omega
    · simp
theorem wrap_neg (a b : Int) : wrap64 (a - b) = wrap64 (a + wrap64 (-b)) := by
  unfold wrap64; omega
theorem subP_eq (a b : List Int) : subP' a b = addP a (negP b) := by
  unfold subP' addP
  rw [negP_length]
  congr 1
  apply List.map_congr_left
  intro i _
  by_cases hi : i < b.length
  · rw [if_pos hi, if_pos hi]
    have e : (negP b).getD i 0 = wrap64 (- b.getD i 0) := by simp [negP, List.getD, hi]
    rw [e]; exact wrap_neg _ _
  · rw [if_neg hi, if_neg hi]
theorem trimN_sh (k : Nat) (p : List Int) : ∀ j, j ≤ p.length → trimN (List.replicate k 0 ++ p) (k + j) = if trimN p j = 0 then 0 else k + trimN p j
  | 0, _ => by
    have h : ∀ q, q ≤ k → trimN (List.replicate k (0 : Int) ++ p) q = 0 := by
      intro q
      induction q with
      | zero => intro _; rfl
      | succ q ih =>
        intro hq
        have e : (List.replicate k (0 : Int) ++ p).getD q 0 = 0 := by
          rw [List.getD, List.getElem?_append_left (by simp; omega)]; simp [show q < k by omega]
        rw [trimN, if_pos e]; exact ih (by omega)
    simp only [Nat.add_zero]
    rw [h k (Nat.le_refl _)]; simp [trimN]
  | j + 1, hj => by
    have e : (List.replicate k (0 : Int) ++ p).getD (k + j) 0 = p.getD j 0 := by
      rw [List.getD, List.getElem?_append_right (by simp), List.length_replicate, Nat.add_sub_cancel_left]; rfl
    rw [← Nat.add_assoc, trimN, trimN, e]
    by_cases h : p.getD j 0 = 0
    · rw [if_pos h, if_pos h]; exact trimN_sh k p j (by omega)
    · rw [if_neg h, if_neg h, if_neg (by omega)]; omega
theorem sh_eq (p : List Int) (k : Nat) : shI p k = shS p k := by
  unfold shI shS
  by_cases h0 : p.length = 0
  · rw [if_pos h0]
    obtain rfl := List.length_eq_zero_iff.1 h0
    rfl
  · rw [if_neg h0]
    have e : trim (List.replicate k 0 ++ p) = (List.replicate k 0 ++ p).take (if trimN p p.length = 0 then 0 else k + trimN p p.length) := by
      rw [← trimN_sh k p p.length (Nat.le_refl _)]
      unfold trim
      rw [List.length_append, List.length_replicate]
    rw [e]
    by_cases h : trimN p p.length = 0
    · have : trim p = [] := by unfold trim; rw [h]; rfl
      rw [if_pos this, if_pos h]; rfl
    · have : trim p ≠ [] := by
        intro hh
        have := trim_length p
        rw [hh] at this
        exact h this.symm
      rw [if_neg this, if_neg h, List.take_append, List.length_replicate, Nat.add_sub_cancel_left, List.take_of_length_le (l := List.replicate k (0 : Int)) (by simp)]
      rfl
theorem r_zero {c : List (List Int)} : ∀ (V : List Int) {U : List Int}, Lets c 15 V → Lets c (30 - V.length) U → ¬ BelV c U V → rI c V (imI c U) = []
  | [], U, _, hU, hb => by
    unfold rI
    rw [if_neg]
    intro h
    exact hb (belV_nil.2 (none_ones hU (by simp) h))
  | t :: V, U, hV, hU, hb => by
    obtain ⟨k, rfl, hk, hV1⟩ := head_tail hV
    have hl := hV.few
    rw [List.length_cons] at hl hU
    have hU1 := (lets_cons hU hk).mono (show 30 - (V.length + 1) + 1 ≤ 30 - V.length by omega)
    have hU2 := hU.mono (show 30 - (V.length + 1) ≤ 30 - V.length by omega)
    unfold rI
    rw [Int.toNat_natCast, ← imI_cons]
    by_cases hn : (imI c U).getD k 0 < 0
    · rw [if_pos hn]
      exact r_zero V hV1 hU1 fun h => hb ((belV_neg hU (by omega) hV1 hk hn).2 h)
    · rw [if_neg hn, r_zero V hV1 hU1 fun h => hb ((belV_pos hU (by omega) hV1 hk hn).2 (belV_up hU (by omega) hV1 hk hn h)), r_zero V hV1 hU2 fun h => hb ((belV_pos hU (by omega) hV1 hk hn).2 h)]
      rfl
theorem nfI_up {c : List (List Int)} {U : List Int} (hU : Nw c U) {k : Nat} (hk : k < c.length) (hn : ¬ (imI c U).getD k 0 < 0) : (nfI c ((k : Int) :: U)).length = U.length + 1 := by
  have h1 := hU.cons hk
  have hne := imI_ne (hU.lets.mono (show 15 ≤ 30 by omega)) hk
  have h2 : (imI c ((k : Int) :: U)).getD k 0 < 0 := by
    have e : toV (imI c ((k : Int) :: U)) k = - toV (imI c U) k := by rw [imI_s hU.lets (by decide) hk, s_at (car_of hU.lets.isC) hk]
    have e2 : (imI c ((k : Int) :: U)).getD k 0 = - (imI c U).getD k 0 := e
    omega
  have h3 := nfI_down (h1.mono (show 16 ≤ 29 by omega)) hk h2
  have h4 : nfI c ((k : Int) :: (k : Int) :: U) = nfI c U := nfI_img (imI_back (hU.lets.mono (by omega)) hk)
  rw [h4, hU.self] at h3
  omega
theorem r_eq {c : List (List Int)} : ∀ (V : List Int) {U : List Int}, Lets c 15 V → Nw c U → rI c V (imI c U) = rS c V U
  | [], U, _, hU => by
    unfold rI rS
    by_cases h : U = []
    · rw [if_pos h, if_pos (hU.none.2 h)]
    · rw [if_neg h, if_neg (fun hh => h (hU.none.1 hh))]
  | t :: V, U, hV, hU => by
    obtain ⟨k, rfl, hk, hV1⟩ := head_tail hV
    have hl := hV.few
    rw [List.length_cons] at hl
    unfold rS
    by_cases hs : subU c ((k : Int) :: V) U = []
    · rw [if_pos hs]
      have hb := (subU_bel _ hV hU).1 hs
      unfold rI
      rw [Int.toNat_natCast, ← imI_cons]
      by_cases hn : (imI c U).getD k 0 < 0
      · have hlen := nfI_down (hU.lets.mono (show 15 ≤ 29 by omega)) hk hn
        rw [hU.self] at hlen
        rw [if_pos hn, if_pos (by omega), ← r_eq V hV1 (hU.down hk hn), hU.img hk]
        rfl
      · have hlen := nfI_up hU hk hn
        have hb1 := (belV_pos hU.lets (by decide) hV1 hk hn).1 hb
        have hs1 := (subU_bel _ hV1 hU).2 hb1
        have h3 := subU_len V hV1.mem hU
        rw [hs1, List.length_nil] at h3
        have h4 := nfI_ok ((hU.cons hk).mono (show 16 ≤ 30 by omega))
        have hX : Nw c (nfI c ((k : Int) :: U)) := ⟨⟨h4.lets.isC, by omega, h4.lets.inr⟩, nfI_self ((hU.cons hk).mono (by omega))⟩
        rw [if_neg hn, if_neg (by omega), ← r_eq V hV1 hX, ← r_eq V hV1 hU, hU.img hk, ← imI_cons, ← sh_eq, ← sh_eq, subP_eq]
    · rw [if_neg hs]
      exact r_zero _ hV (hU.lets.mono (by rw [List.length_cons]; omega)) fun h => hs ((subU_bel _ hV hU).2 h)
end Go.Proofs.YtdedkfbiookofaaGreatDoor
namespace Go.Proofs.YtdedkfbiookofaaGreatDoor
set_option maxRecDepth 100000
open Go.RowKit Game
/-- what a table of elements must be for the polynomials -/
structure KlOk (n N : Nat) (L T : List (List Int)) : Prop where
  len : L.length = N
  tlen : T.length = N
  few : N ≤ 24
  rank : n ≤ 4
  short : ∀ x, lenA L x ≤ 24
  head : ∀ v, v < N → v ≠ 0 → 0 < lenA L v ∧ headA L v < n ∧ tabA T v (headA L v) < v ∧ ∀ z, z < v → lenA L z ≤ lenA L v
  letter : ∀ v, v < N → v ≠ 0 → (L.getD v []).getD 0 0 = (headA L v : Int)
  row : ∀ x, x < N → (T.getD x []).length = n
  tab : ∀ x s, x < N → s < n → (T.getD x []).getD s 0 = (tabA T x s : Int) ∧ tabA T x s < N
theorem kl_head {n : Nat} {L T : List (List Int)} (h : klFacts n L T = true) : ∀ v, v < L.length → v ≠ 0 → 0 < lenA L v ∧ headA L v < n ∧ tabA T v (headA L v) < v ∧ ∀ z, z < v → lenA L z ≤ lenA L v := by
  intro v hv h0
  unfold klFacts at h
  rw [List.all_eq_true] at h
  have := h v (List.mem_range.2 hv)
  rw [Bool.or_eq_true, Bool.and_eq_true, Bool.and_eq_true, Bool.and_eq_true, List.all_eq_true] at this
  rcases this with h1 | ⟨h1, h2, h3, h4⟩
  · exact absurd (of_decide_eq_true h1) h0
  · exact ⟨of_decide_eq_true h1, of_decide_eq_true h2, of_decide_eq_true h3, fun z hz => of_decide_eq_true (h4 z (List.mem_range.2 hz))⟩
variable {n N : Nat} {L T : List (List Int)}
theorem mul_len61 (a b : List Int) : (mul a b).length ≤ 61 := mul_length_le a b
theorem zStepS_le (H : KlOk n N L T) {R : List (List (List Int))} {u m k s z q : Nat} {p : List Int} (hp : p.length ≤ 100 + q) : (zStepS L T R u m k s p z).length ≤ 100 + q := by
  unfold zStepS
  split
  · have h1 := addP_le p (negP (shS (mul (pol R z u) [muS (pol R k z) ((lenA L k : Int) - lenA L z)]) ((lenA L m - lenA L z) / 2)))
    rw [negP_length] at h1
    have h2 := shS_le (mul (pol R z u) [muS (pol R k z) ((lenA L k : Int) - lenA L z)]) ((lenA L m - lenA L z) / 2)
    have h3 := mul_len61 (pol R z u) [muS (pol R k z) ((lenA L k : Int) - lenA L z)]
    have h4 := H.short m
    omega
  · exact hp
theorem nextZ_le (H : KlOk n N L T) {R : List (List (List Int))} {m u : Nat} (hR : ∀ i x, i < m → (pol R i x).length ≤ 100 + i) (hm : m < N) (h0 : m ≠ 0) : ∀ t, (nextZ L T R m u t).length ≤ 100 + m
  | 0 => by
    obtain ⟨-, -, hk, -⟩ := H.head m hm h0
    show (nextS0 L T R m u).length ≤ _
    unfold nextS0
    have h1 := hR _ (tabA T u (headA L m)) hk
    have h2 := hR _ u hk
    split
    · have h3 := addP_le (pol R (tabA T m (headA L m)) (tabA T u (headA L m))) (shS (pol R (tabA T m (headA L m)) u) 1)
      have h4 := shS_le (pol R (tabA T m (headA L m)) u) 1
      omega
    · have h3 := addP_le (shS (pol R (tabA T m (headA L m)) (tabA T u (headA L m))) 1) (pol R (tabA T m (headA L m)) u)
      have h4 := shS_le (pol R (tabA T m (headA L m)) (tabA T u (headA L m))) 1
      omega
  | t + 1 => by rw [nextZ_succ]; exact zStepS_le H (nextZ_le H hR hm h0 t)
theorem pol_app_lt {R : List (List (List Int))} {x : List (List Int)} {i u : Nat} (h : i < R.length) : pol (R ++ [x]) i u = pol R i u := by
  unfold pol; simp [List.getD, List.getElem?_append_left h]
theorem pol_app_at {R : List (List (List Int))} {x : List (List Int)} {u : Nat} : pol (R ++ [x]) R.length u = x.getD u [] := by
  unfold pol; simp [List.getD]
theorem pol_out {R : List (List (List Int))} {i u : Nat} (h : R.length ≤ i) : pol R i u = [] := by
  unfold pol; simp [List.getD, List.getElem?_eq_none h]
theorem klRows_len (H : KlOk n N L T) : ∀ t, t < N → ∀ i u, (pol (rowsTo L T t) i u).length ≤ 100 + i
  | 0, _, i, u => by
    cases i with
    | zero =>
      show ((firstTo L.length).getD u []).length ≤ _
      unfold firstTo
      by_cases hu : u < L.length
      · simp only [List.getD, List.getElem?_map, List.getElem?_range hu]
        simp only [Option.map_some, Option.getD_some]
        split <;> simp
      · simp [List.getD, Nat.not_lt.1 hu]
    | succ i => rw [pol_out (by show 1 ≤ i + 1; omega)]; simp
  | t + 1, ht, i, u => by
    rw [rowsTo_succ]
    have ih := klRows_len H t (by omega)
    have hl := rowsTo_length L T t
    rcases Nat.lt_trichotomy i (rowsTo L T t).length with h | h | h
    · rw [pol_app_lt h]; exact ih i u
    · subst h
      rw [pol_app_at, hl]
      unfold nextTo'
      by_cases hu : u < L.length
      · simp only [List.getD, List.getElem?_map, List.getElem?_range hu]
        exact nextZ_le H (fun i x _ => ih i x) (by omega) (by omega) _
      · simp [List.getD, Nat.not_lt.1 hu]
    · rw [pol_out (by rw [List.length_append]; exact h)]; simp
/-- what is known of a table that is filled column by column -/
def Known (P : List (List (List Int))) (N v u : Nat) : Prop := ∀ i j, i < N → (j < v ∨ j = v ∧ i < u) → (pol P i j).length ≤ 100 + j
theorem zStep_le {P : List (List (List Int))} {u v w s z q : Nat} {p : List Int} (hp : p.length ≤ 100 + q) : (zStep L T P u v w s p z).length ≤ 100 + q := by
  unfold zStep
  split
  · exact hp
  · have h1 := subP_le p (mul [muI L (pol P z w) z w] (shI (pol P u z) ((lenA L v - lenA L z) / 2)))
    have h3 := mul_len61 [muI L (pol P z w) z w] (shI (pol P u z) ((lenA L v - lenA L z) / 2))
    omega
theorem madeTo_le (H : KlOk n N L T) {P : List (List (List Int))} {u v : Nat} (hP : Known P N v 0) (hu : u < N) (hv : v < N) (h0 : v ≠ 0) : ∀ t, (madeTo L T P u v t).length ≤ 100 + v
  | 0 => by
    obtain ⟨-, hs, hk, -⟩ := H.head v hv h0
    show (madeS0 L T P u v).length ≤ _
    unfold madeS0
    have h1 := hP (tabA T u (headA L v)) (tabA T v (headA L v)) (H.tab u _ hu hs).2 (.inl hk)
    have h2 := hP u (tabA T v (headA L v)) hu (.inl hk)
    split
    · have h3 := addP_le (pol P (tabA T u (headA L v)) (tabA T v (headA L v))) (shI (pol P u (tabA T v (headA L v))) 1)
      have h4 := shI_le (pol P u (tabA T v (headA L v))) 1
      omega
    · have h3 := addP_le (shI (pol P (tabA T u (headA L v)) (tabA T v (headA L v))) 1) (pol P u (tabA T v (headA L v)))
      have h4 := shI_le (pol P (tabA T u (headA L v)) (tabA T v (headA L v))) 1
      omega
  | t + 1 => by rw [madeTo_succ]; exact zStep_le (madeTo_le H hP hu hv h0 t)
theorem madeI_le (H : KlOk n N L T) {P : List (List (List Int))} {u v : Nat} (hP : Known P N v 0) (hu : u < N) (hv : v < N) : (madeI L T P u v).length ≤ 100 + v := by
  unfold madeI
  split
  · simp only [List.length_cons, List.length_nil]; omega
  · split
    · simp
    · rename_i h1 h2
      by_cases h0 : v = 0
      · subst h0
        have h3 : lenA L u = 0 ∨ 0 < lenA L u := Nat.eq_zero_or_pos _
        obtain ⟨-, -, -, h4⟩ := H.head u hu h1
        exact absurd (h4 0 (by omega)) (by omega)
      · exact madeTo_le H hP hu hv h0 _
theorem setP_at {P : List (List (List Int))} {u v : Nat} {p : List Int} (hu : u < P.length) (hv : v < (P.getD u []).length) : pol (setP P u v p) u v = p := by
  unfold pol setP
  simp only [List.getD, List.getElem?_set_self hu, Option.getD_some]
  simp only [List.getD] at hv
  rw [List.getElem?_set_self hv]; rfl
theorem setP_ne {P : List (List (List Int))} {u v i j : Nat} {p : List Int} (h : i ≠ u ∨ j ≠ v) : pol (setP P u v p) i j = pol P i j := by
  unfold pol setP
  by_cases hi : i = u
  · subst hi
    have hj : j ≠ v := by rcases h with h | h; exact absurd rfl h; exact h
    by_cases hl : i < P.length
    · simp only [List.getD, List.getElem?_set_self hl, Option.getD_some]
      rw [List.getElem?_set_ne (Ne.symm hj)]
    · rw [List.set_eq_of_length_le (by omega)]
  · simp only [List.getD]
    rw [List.getElem?_set_ne (Ne.symm hi)]
theorem setP_length (P : List (List (List Int))) (u v : Nat) (p : List Int) : (setP P u v p).length = P.length := by simp [setP]
theorem setP_row (P : List (List (List Int))) (u v i : Nat) (p : List Int) : ((setP P u v p).getD i []).length = (P.getD i []).length := by
  unfold setP
  by_cases hi : i = u
  · subst hi
    by_cases hl : i < P.length
    · simp only [List.getD, List.getElem?_set_self hl, Option.getD_some, List.length_set]
    · rw [List.set_eq_of_length_le (by omega)]
  · simp only [List.getD]
    rw [List.getElem?_set_ne (Ne.symm hi)]
theorem Known.next {P : List (List (List Int))} {v u : Nat} {p : List Int} (h : Known P N v u) (hp : p.length ≤ 100 + v) (hl : P.length = N) (hr : (P.getD u []).length = N) (hu : u < N) (hv : v < N) : Known (setP P u v p) N v (u + 1) := by
  intro i j hi hj
  by_cases e : i = u ∧ j = v
  · obtain ⟨rfl, rfl⟩ := e
    rw [setP_at (by omega) (by omega)]; exact hp
  · rw [setP_ne (by omega)]
    exact h i j hi (by omega)
end Go.Proofs.YtdedkfbiookofaaGreatDoor
