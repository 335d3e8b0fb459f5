/- ClmE Red ClmR ClmD ClmI -/
import Derived.Test.YtkjglfafphffiaaGreatDoorC26
import Derived.Test.YtkjglfafphffiaaGreatDoorC40
import Derived.Test.YtkjglfafphffiaaGreatDoorC27
import Derived.Test.YtkjglfafphffiaaGreatDoorC37
namespace Go.Proofs.YtkjglfafphffiaaGreatDoor
set_option maxRecDepth 100000
open Go.RowKit Game
theorem applyA_snoc {c : List (List Int)} (a : Int) : ∀ (ps v : List Int), applyA c v (ps ++ [a]) = match applyA c v ps with | none => none | some y => braidA c y a
  | [], v => by
    show (match braidA c v a with | none => none | some y => applyA c y []) = braidA c v a
    cases braidA c v a <;> rfl
  | p :: ps, v => by
    show (match braidA c v p with | none => none | some y => applyA c y (ps ++ [a])) = match (match braidA c v p with | none => none | some y => applyA c y ps) with | none => none | some y => braidA c y a
    cases braidA c v p with
    | none => rfl
    | some y => exact applyA_snoc a ps y
def Led (c : List (List Int)) (a : List Int) (Q : List BNode) : Prop := ∀ N ∈ Q, applyA c a N.2 = some N.1
theorem Led.step {c : List (List Int)} {a : List Int} {Q : List BNode} (h : Led c a Q) {N : BNode} (hN : applyA c a N.2 = some N.1) {p : Int} (hp : p ∈ placesL c N.1) : Led c a (bpStep c N Q p) := by
  rcases bpStep_cases c N Q p with ⟨e, -⟩ | ⟨e, -⟩
  · rw [e]; exact h
  · rw [e]
    intro M hM
    rcases List.mem_append.1 hM with g | g
    · exact h M g
    · rw [List.mem_singleton] at g
      subst g
      obtain ⟨y, hy⟩ := Option.isSome_iff_exists.1 (placesL_mem hp).2
      show applyA c a (N.2 ++ [p]) = some ((braidA c N.1 p).getD N.1)
      rw [applyA_snoc, hN, hy]
      exact hy
theorem Led.row {c : List (List Int)} {a : List Int} {Q : List BNode} (h : Led c a Q) {N : BNode} (hN : applyA c a N.2 = some N.1) : ∀ t, t ≤ (placesL c N.1).length → Led c a (bpRow c N Q t)
  | 0, _ => h
  | t + 1, ht => by
    rw [bpRow_succ (by omega)]
    exact (h.row hN t (by omega)).step hN (getD_memI (by omega))
theorem bpGo_led {c : List (List Int)} {a b : List Int} : ∀ (f k : Nat) (Q : List BNode) (p : List Int), Led c a Q → bpGo c b f k Q = some p → applyA c a p = some b
  | 0, _, _, _, _, h => by cases h
  | f + 1, k, Q, p, hok, h => by
    by_cases hk : k < Q.length
    · have hN := hok _ (getD_mem hk)
      by_cases e : (Q.getD k ([], [])).1 = b
      · rw [bpGo_found hk e] at h
        injection h with h
        rw [← h, hN, e]
      · rw [bpGo_next hk e] at h
        exact bpGo_led f (k + 1) _ p (hok.row hN _ (Nat.le_refl _)) h
    · rw [bpGo_done (by omega)] at h
      cases h
theorem bpR_led {c : List (List Int)} {a b p : List Int} (h : bpR c a b = some p) : applyA c a p = some b :=
  bpGo_led 121 0 _ p (fun N hN => by rw [List.mem_singleton] at hN; subst hN; rfl) h
theorem applyA_img {c : List (List Int)} : ∀ {ps v y : List Int}, WordOk c v → applyA c v ps = some y → WordOk c y ∧ imI c y = imI c v
  | [], v, y, hW, h => by
    injection h with h
    subst h
    exact ⟨hW, rfl⟩
  | p :: ps, v, y, hW, h => by
    have h : (match braidA c v p with | none => none | some y => applyA c y ps) = some y := h
    cases hb : braidA c v p with
    | none => rw [hb] at h; cases h
    | some z =>
      rw [hb] at h
      obtain ⟨h1, h2⟩ := applyA_img (braidA_ok hW hb) h
      exact ⟨h1, h2.trans (braid_img hW hb)⟩
end Go.Proofs.YtkjglfafphffiaaGreatDoor
namespace Go.Proofs.YtkjglfafphffiaaGreatDoor
set_option maxRecDepth 100000
open Go.RowKit Game
theorem toV_imI {c : List (List Int)} {m : Nat} {v : List Int} (h : Lets c m v) (hm : m ≤ 30) : toV (imI c v) = act (ent c) (v.map Int.toNat) (toV (onesL c.length)) := by
  have := toV_image h.isC h.nats_lt (by rw [List.length_map]; have := h.few; omega)
  rwa [h.nats] at this
theorem redW_red {c : List (List Int)} {v : List Int} (h : redW c v = true) : WordOk c v ∧ Red (ent c) c.length (toV (onesL c.length)) (v.map Int.toNat) := by
  unfold redW at h
  rw [Bool.and_eq_true] at h
  have hW := wordOk_of h.1
  have hl := of_decide_eq_true h.2
  have hp := RedOf.plays (U := nfI c v) ⟨hW, rfl, hl.symm⟩
  rw [toV_imI hW.lets (by decide)] at hp
  exact ⟨hW, hp⟩
theorem red_redW {c : List (List Int)} {v : List Int} (hW : WordOk c v) (h : Red (ent c) c.length (toV (onesL c.length)) (v.map Int.toNat)) : redW c v = true := by
  obtain ⟨W, hN, e⟩ := nfI_ex (hW.lets.mono (show 15 ≤ 30 by omega))
  have := (Plays.unique (car_of hW.isC) (ones_dom _) h hN.plays).1
  unfold redW
  rw [hW.isWord, e, intsOf_length, this, List.length_map]
  simp
theorem wrap_in {x : Int} (h1 : -9223372036854775808 ≤ x) (h2 : x ≤ 9223372036854775807) : wrap64 x = x := by
  have e : IntKind.i64.wrap x = wrap64 x := by simp only [wrap64, IntKind.wrap_i64]
  rw [← e]; exact IntWalk.i64_in _ ⟨h1, h2⟩
theorem dot_exact {a r : List Int} {M : Int} (hM : 0 ≤ M) (hM2 : M ≤ 100000000000000000) (ha : ∀ k, -3 ≤ a.getD k 0 ∧ a.getD k 0 ≤ 3) (hr : ∀ k, -M ≤ r.getD k 0 ∧ r.getD k 0 ≤ M) :
    ∀ k, k ≤ 4 → dotTo a r k = sm (fun j => a.getD j 0 * r.getD j 0) k ∧ -(3 * M * k) ≤ sm (fun j => a.getD j 0 * r.getD j 0) k ∧ sm (fun j => a.getD j 0 * r.getD j 0) k ≤ 3 * M * k
  | 0, _ => by simp [dotTo, sm]
  | k + 1, h => by
    obtain ⟨h1, h2, h3⟩ := dot_exact hM hM2 ha hr k (by omega)
    have h4 := mul3 (hr k) (ha k)
    rw [Int.mul_comm (r.getD k 0) (a.getD k 0)] at h4
    have e : 3 * M * ((k + 1 : Nat) : Int) = 3 * M * (k : Int) + 3 * M := by rw [Int.natCast_add, Int.mul_add]; simp
    have hk : 3 * M * (k : Int) ≤ 3 * M * 3 := Int.mul_le_mul_of_nonneg_left (by omega) (by omega)
    unfold dotTo sm
    rw [h1, wrap_in (x := a.getD k 0 * r.getD k 0) (by omega) (by omega), wrap_in (by omega) (by omega)]
    refine ⟨rfl, by omega, by omega⟩
theorem ent_small {c : List (List Int)} (hC : IsC c) (i j : Nat) : -3 ≤ ent c i j ∧ ent c i j ≤ 3 := by
  by_cases hi : i < c.length
  · by_cases hj : j < c.length
    · exact (car_of hC).small hi hj
    · have e : ent c i j = 0 := by
        have hl := hC.2.2.1 i hi
        unfold ent
        exact (show (c.getD i []).getD j 0 = 0 by
          rw [List.getD_eq_getElem?_getD, List.getElem?_eq_none (by omega)]; rfl)
      omega
  · rw [ent_out (by omega)]; omega
theorem mirL_exact {c : List (List Int)} (hC : IsC c) {i : Nat} (hi : i < c.length) {r : List Int} (hrl : r.length = c.length) {M : Int} (hM : 0 ≤ M) (hM2 : M ≤ 100000000000000000) (hr : ∀ k, -M ≤ r.getD k 0 ∧ r.getD k 0 ≤ M) :
    (∀ k, k < c.length → toV (mirL c i r) k = mir (ent c) c.length i (toV r) k) ∧ ∀ k, -(13 * M) ≤ (mirL c i r).getD k 0 ∧ (mirL c i r).getD k 0 ≤ 13 * M := by
  have h4 := hC.2.1
  obtain ⟨h1, h2, h3⟩ := dot_exact hM hM2 (a := c.getD i []) (fun k => ent_small hC i k) hr c.length h4
  have hk : 3 * M * (c.length : Int) ≤ 3 * M * 4 := Int.mul_le_mul_of_nonneg_left (by omega) (by omega)
  have hri := hr i
  have e : mirL c i r = r.set i (r.getD i 0 - sm (fun j => (c.getD i []).getD j 0 * r.getD j 0) c.length) := by
    unfold mirL pairL
    rw [hrl, h1, wrap_in (by omega) (by omega)]
  have at' : ∀ k, (mirL c i r).getD k 0 = if k = i then r.getD i 0 - sm (fun j => (c.getD i []).getD j 0 * r.getD j 0) c.length else r.getD k 0 := fun k => by
    rw [e, List.getD_eq_getElem?_getD, List.getElem?_set]
    by_cases q : k = i
    · subst q; simp [hrl, hi]
    · rw [if_neg (Ne.symm q), if_neg q, List.getD_eq_getElem?_getD]
  refine ⟨fun k _ => ?_, fun k => ?_⟩
  · show (mirL c i r).getD k 0 = r.getD k 0 - (if k = i then sm (fun j => ent c i j * r.getD j 0) c.length else 0)
    rw [at']
    by_cases q : k = i
    · subst q; rw [if_pos rfl, if_pos rfl]; rfl
    · rw [if_neg q, if_neg q, Int.sub_zero]
  · rw [at']
    have := hr k
    split <;> omega
theorem pow13 {k : Nat} (h : k ≤ 14) : ((13 ^ k : Nat) : Int) ≤ 100000000000000000 := by
  have : 13 ^ k ≤ 13 ^ 14 := Nat.pow_le_pow_right (by decide) h
  have e : (13 ^ 14 : Nat) ≤ 100000000000000000 := by decide
  omega
theorem actR_exact {c : List (List Int)} (hC : IsC c) {r0 : List Int} (hr0 : r0.length = c.length) (hb : ∀ k, -1 ≤ r0.getD k 0 ∧ r0.getD k 0 ≤ 1) : ∀ (l : List Int), (∀ x ∈ l, 0 ≤ x ∧ x < (c.length : Int)) → l.length ≤ 15 →
    (∀ k, k < c.length → toV (actR c l r0) k = mirs (ent c) c.length (l.map Int.toNat) (toV r0) k) ∧ ∀ k, -((13 ^ l.length : Nat) : Int) ≤ (actR c l r0).getD k 0 ∧ (actR c l r0).getD k 0 ≤ ((13 ^ l.length : Nat) : Int)
  | [], _, _ => ⟨fun _ _ => rfl, fun k => by simpa [actR] using hb k⟩
  | x :: l, hx, hl => by
    have h0 := hx x (by simp)
    rw [List.length_cons] at hl
    obtain ⟨h1, h2⟩ := actR_exact hC hr0 hb l (fun y hy => hx y (List.mem_cons_of_mem _ hy)) (by omega)
    have hi : x.toNat < c.length := by omega
    obtain ⟨g1, g2⟩ := mirL_exact hC hi (r := actR c l r0) (by rw [actR_length]; exact hr0) (Int.natCast_nonneg _) (pow13 (by omega)) h2
    refine ⟨fun k hk => ?_, fun k => ?_⟩
    · show toV (mirL c x.toNat (actR c l r0)) k = mir (ent c) c.length x.toNat (mirs (ent c) c.length (l.map Int.toNat) (toV r0)) k
      rw [g1 k hk, mir_congr h1 k hk]
    · have := g2 k
      rw [List.length_cons, Nat.pow_succ]
      show _ ≤ (mirL c x.toNat (actR c l r0)).getD k 0 ∧ (mirL c x.toNat (actR c l r0)).getD k 0 ≤ _
      omega
theorem simpL_at {n i k : Nat} (hk : k < n) : (simpL n i).getD k 0 = if k = i then 1 else 0 := by
  unfold simpL
  rw [List.getD_eq_getElem?_getD, List.getElem?_set]
  by_cases e : i = k
  · subst e; simp [hk]
  · rw [if_neg e, if_neg (Ne.symm e)]; simp [hk]
theorem simpL_in (n i k : Nat) : -1 ≤ (simpL n i).getD k 0 ∧ (simpL n i).getD k 0 ≤ 1 := by
  by_cases hk : k < n
  · rw [simpL_at hk]; split <;> omega
  · rw [List.getD_eq_getElem?_getD, List.getElem?_eq_none (by rw [simpL_length]; omega)]; simp
theorem root_exact {c : List (List Int)} {v : List Int} (hW : WordOk c v) {k : Nat} (hk : k < v.length) : ∀ j, j < c.length → toV (actR c (v.take k) (simpL c.length (v.getD k 0).toNat)) j = mirs (ent c) c.length ((v.take k).map Int.toNat) (eV (v.getD k 0).toNat) j := by
  intro j hj
  have hm : ∀ x ∈ v.take k, 0 ≤ x ∧ x < (c.length : Int) := fun x hx => hW.lets.mem x (List.mem_of_mem_take hx)
  rw [(actR_exact hW.isC (simpL_length _ _) (simpL_in _ _) (v.take k) hm (by rw [List.length_take]; have := hW.few; omega)).1 j hj]
  have : ∀ (l : List Nat) (r r' : Vec), (∀ k, k < c.length → r k = r' k) → ∀ k, k < c.length → mirs (ent c) c.length l r k = mirs (ent c) c.length l r' k := by
    intro l
    induction l with
    | nil => intro r r' h; exact h
    | cons i l ih => intro r r' h; exact mir_congr (ih r r' h)
  exact this _ _ _ (fun k hk => simpL_at hk) j hj
theorem take_split {v : List Int} {j k : Nat} (hj : j < k) (hk : k ≤ v.length) : v.take k = v.take j ++ v.getD j 0 :: (v.take k).drop (j + 1) := by
  have h1 := (List.take_append_drop j (v.take k)).symm
  rw [List.take_take, Nat.min_eq_left (by omega)] at h1
  have h2 : j < (v.take k).length := by rw [List.length_take]; omega
  rw [List.drop_eq_getElem_cons h2] at h1
  have e : (v.take k)[j] = v.getD j 0 := by
    rw [List.getElem_take]
    simp [List.getD, show j < v.length by omega]
  rw [e] at h1
  exact h1
theorem posB_of {r : List Int} {n : Nat} (hl : r.length = n) (h : (∀ k, k < n → 0 ≤ toV r k) ∧ ∃ k, k < n ∧ 0 < toV r k) : posB r = true := by
  obtain ⟨h1, k, hk, h2⟩ := h
  unfold posB
  have hk' : k < r.length := by omega
  have e1 : (r.any fun x => decide (0 < x)) = true := List.any_eq_true.2 ⟨r[k], List.getElem_mem hk', decide_eq_true (by
    have : toV r k = r[k] := by simp [toV, List.getD, hk']
    rw [← this]; exact h2)⟩
  have e2 : (r.any fun x => decide (x < 0)) = false := by
    rw [List.any_eq_false]
    intro x hx
    obtain ⟨i, hi, rfl⟩ := List.getElem_of_mem hx
    have := h1 i (by omega)
    have e : toV r i = r[i] := by simp [toV, List.getD, hi]
    rw [e] at this
    simp; omega
  rw [e1, e2]; rfl
theorem red_diff {c : List (List Int)} {v : List Int} (h : redW c v = true) : diffB (seqL c v) = true := by
  obtain ⟨hW, hR⟩ := redW_red h
  have hA := car_of hW.isC
  have hd := ones_pos c.length
  have hlen : (seqL c v).length = v.length := by simp [seqL]
  have hat : ∀ k, k < v.length → (seqL c v).getD k [] = actR c (v.take k) (simpL c.length (v.getD k 0).toNat) := fun k hk => by simp [seqL, List.getD, hk]
  have hpre : ∀ k, k < v.length → Red (ent c) c.length (toV (onesL c.length)) ((v.take k).map Int.toNat ++ [(v.getD k 0).toNat]) := fun k hk => by
    have e : v = v.take (k + 1) ++ v.drop (k + 1) := (List.take_append_drop _ _).symm
    have e2 : v.take (k + 1) = v.take k ++ [v.getD k 0] := by rw [List.take_succ_eq_append_getElem hk]; simp [List.getD, hk]
    rw [e, e2, List.map_append, List.map_append] at hR
    have := hR.init hA hd
    simpa using this
  refine diffB_yes fun k hk => ?_
  rw [hlen] at hk
  have hroot := root_exact hW hk
  constructor
  · rw [hat k hk]
    have hp := posB_of (n := c.length) (by rw [actR_length, simpL_length]) (pos_of_all (r := toV (actR c (v.take k) (simpL c.length (v.getD k 0).toNat))) fun d' hd' => by
      rw [prs_congr hroot]
      exact root_pos hA hd (hpre k hk) hd')
    have := sign_one (actR c (v.take k) (simpL c.length (v.getD k 0).toNat))
    rw [hp] at this
    simpa using this
  · intro hmem
    obtain ⟨j, hj, e⟩ := List.getElem_of_mem hmem
    rw [List.length_take] at hj
    have hjk : j < k := by omega
    have hjv : j < v.length := by omega
    have e1 : (seqL c v).getD j [] = (seqL c v).getD k [] := by
      rw [← e, List.getElem_take]
      simp [List.getD, hlen, hjv]
    rw [hat j hjv, hat k hk] at e1
    have hroot2 := root_exact hW hjv
    have hsp := take_split hjk (Nat.le_of_lt hk)
    have hr := hpre k hk
    rw [hsp, List.map_append, List.map_cons] at hr
    refine roots_ne hA hd hr fun i hi => ?_
    rw [← hroot2 i hi, e1, hroot i hi]
    conv => rhs; rw [hsp, List.map_append, List.map_cons]
end Go.Proofs.YtkjglfafphffiaaGreatDoor
namespace Go.Proofs.YtkjglfafphffiaaGreatDoor
set_option maxRecDepth 100000
open Go.RowKit
namespace Game
variable {A : Mat} {n : Nat} {d d' : Vec}
theorem red_tr (hC : Car A n) (hd : Strict n d) (hd' : Strict n d') {y : List Nat} (h : Red A n d y) : Red (tr A) n d' y :=
  red_any hC (car_tr hC) (fun _ _ h => h.tr) hd hd' h
theorem red_of_tr (hC : Car A n) (hd : Strict n d) (hd' : Strict n d') {y : List Nat} (h : Red (tr A) n d' y) : Red A n d y :=
  red_any (car_tr hC) hC (fun _ _ h => BrMove.tr (A := tr A) h) hd' hd h
theorem red_more (hC : Car A n) (hd : Strict n d) (hd' : Strict n d') {p : List Nat} {b : Nat} (hb : b < n) (hp : Red A n d p) (h : 0 < prs n d' (mirs A n p (eV b))) : Red A n d (p ++ [b]) := by
  have h1 := red_tr hC hd hd' (red_rev hC hd hp)
  rw [prs_mirs hp.lt, prs_eV hb] at h
  have h2 := red_of_tr hC hd hd' (h1.cons (car_tr hC) hb h)
  have h3 := red_rev hC hd h2
  rwa [List.reverse_cons, List.reverse_reverse] at h3
theorem red_of_roots (hC : Car A n) (hd : Strict n d) (hd' : Strict n d') {y : List Nat} (hy : ∀ i ∈ y, i < n) (h : ∀ k (hk : k < y.length), 0 < prs n d' (mirs A n (y.take k) (eV y[k]))) : Red A n d y := by
  have : ∀ k, k ≤ y.length → Red A n d (y.take k) := by
    intro k
    induction k with
    | zero => intro _; rw [List.take_zero]; exact Red.nil
    | succ k ih =>
      intro hk
      rw [List.take_succ_eq_append_getElem (show k < y.length by omega)]
      exact red_more hC hd hd' (hy _ (List.getElem_mem _)) (ih (by omega)) (h k (by omega))
  have := this y.length (Nat.le_refl _)
  rwa [List.take_length] at this
theorem sm_nonneg {f : Nat → Int} : ∀ {k : Nat}, (∀ j, j < k → 0 ≤ f j) → 0 ≤ sm f k
  | 0, _ => Int.le_refl _
  | k + 1, h => by
    have h1 := sm_nonneg (f := f) (k := k) fun j hj => h j (by omega)
    have h2 := h k (by omega)
    show 0 ≤ sm f k + f k
    omega
theorem sm_pos {f : Nat → Int} : ∀ {k : Nat}, (∀ j, j < k → 0 ≤ f j) → (∃ j, j < k ∧ 0 < f j) → 0 < sm f k
  | 0, _, ⟨j, hj, _⟩ => absurd hj (by omega)
  | k + 1, h, ⟨j, hj, hp⟩ => by
    show 0 < sm f k + f k
    by_cases e : j = k
    · subst e
      have h1 := sm_nonneg (f := f) (k := j) fun j hj => h j (by omega)
      omega
    · have h1 := sm_pos (f := f) (k := k) (fun j hj => h j (by omega)) ⟨j, by omega, hp⟩
      have h2 := h k (by omega)
      omega
end Game
end Go.Proofs.YtkjglfafphffiaaGreatDoor
namespace Go.Proofs.YtkjglfafphffiaaGreatDoor
set_option maxRecDepth 100000
open Go.RowKit Game
theorem posB_at {r : List Int} (h : posB r = true) : (∀ k, 0 ≤ r.getD k 0) ∧ ∃ k, k < r.length ∧ 0 < r.getD k 0 := by
  unfold posB at h
  rw [Bool.and_eq_true] at h
  obtain ⟨h1, h2⟩ := h
  constructor
  · intro k
    by_cases hk : k < r.length
    · have h2' : (r.any fun x => decide (x < 0)) = false := by simpa using h2
      have := List.any_eq_false.1 h2' r[k] (List.getElem_mem hk)
      simp only [List.getD, List.getElem?_eq_getElem hk, Option.getD_some]
      simpa using this
    · simp [List.getD, List.getElem?_eq_none (show r.length ≤ k by omega)]
  · obtain ⟨x, hx, hp⟩ := List.any_eq_true.1 h1
    obtain ⟨k, hk, rfl⟩ := List.getElem_of_mem hx
    refine ⟨k, hk, ?_⟩
    simp only [List.getD, List.getElem?_eq_getElem hk, Option.getD_some]
    exact of_decide_eq_true hp
theorem diff_red {c : List (List Int)} {v : List Int} (hW : WordOk c v) (h : diffB (seqL c v) = true) : redW c v = true := by
  have hA := car_of hW.isC
  have hd := ones_pos c.length
  refine red_redW hW (red_of_roots hA hd hd hW.lets.nats_lt fun k hk => ?_)
  rw [List.length_map] at hk
  have h1 : diffAt (seqL c v) k := of_decide_eq_true (List.all_eq_true.1 h k (List.mem_range.2 (by simpa [seqL] using hk)))
  have h2 := h1.1
  have hat : (seqL c v).getD k [] = actR c (v.take k) (simpL c.length (v.getD k 0).toNat) := by simp [seqL, List.getD, hk]
  rw [hat] at h2
  have h3 : posB (actR c (v.take k) (simpL c.length (v.getD k 0).toNat)) = true := by
    rw [← sign_one, h2]; rfl
  obtain ⟨h4, j, hj, h5⟩ := posB_at h3
  rw [actR_length, simpL_length] at hj
  have hroot := root_exact hW hk
  have e1 : (v.map Int.toNat).take k = (v.take k).map Int.toNat := by rw [List.map_take]
  have e2 : (v.map Int.toNat)[k]'(by rw [List.length_map]; exact hk) = (v.getD k 0).toNat := by simp [List.getD, hk]
  rw [e1, e2, prs_congr (fun i hi => (hroot i hi).symm)]
  refine sm_pos (fun i hi => ?_) ⟨j, hj, ?_⟩
  · exact Int.mul_nonneg (Int.le_of_lt (hd i hi)) (h4 i)
  · exact Int.mul_pos (hd j hj) h5
end Go.Proofs.YtkjglfafphffiaaGreatDoor
namespace Go.Proofs.YtkjglfafphffiaaGreatDoor
set_option maxRecDepth 100000
open Go.RowKit
def listsK : Nat → List (List Int)
  | 0 => [[]]
  | k + 1 => [] :: (listsK k).flatMap fun l => [0 :: l, 1 :: l, 2 :: l, 3 :: l]
theorem listsK_mem : ∀ {k : Nat} {s : List Int}, s.length ≤ k → (∀ x ∈ s, 0 ≤ x ∧ x < 4) → s ∈ listsK k
  | 0, s, h, _ => by
    obtain rfl : s = [] := List.length_eq_zero_iff.1 (by omega)
    simp [listsK]
  | k + 1, [], _, _ => by simp [listsK]
  | k + 1, x :: s, h, hx => by
    have h1 := listsK_mem (k := k) (s := s) (by rw [List.length_cons] at h; omega) fun y hy => hx y (List.mem_cons_of_mem _ hy)
    have h2 := hx x (by simp)
    refine List.mem_cons_of_mem _ (List.mem_flatMap.2 ⟨s, h1, ?_⟩)
    rcases (show x = 0 ∨ x = 1 ∨ x = 2 ∨ x = 3 by omega) with rfl | rfl | rfl | rfl <;> simp
theorem sets_all : ∀ s ∈ listsK 4, ∀ n, n < 5 → takeB n s = true → s = [] ∨ ∃ m, m < 16 ∧ 1 ≤ m ∧ m < 2 ^ n ∧ setL m = s := by decide +kernel
theorem sets_fit : ∀ n, n < 5 → ∀ m, m < 16 → m < 2 ^ n → takeB n (setL m) = true := by decide +kernel
theorem setL_some : ∀ m, m < 16 → 1 ≤ m → setL m ≠ [] := by decide +kernel
theorem setBB_mask {c : List (List Int)} {s : List Int} (hC : IsC c) (h : setBB c s = true) : ∃ m, m < 16 ∧ 1 ≤ m ∧ m < 2 ^ c.length ∧ setL m = s := by
  obtain ⟨h1, h2, h3, -⟩ := setBB_yes hC h
  have h4 := hC.2.1
  unfold setBB at h
  rw [Bool.and_eq_true] at h
  have hm : s ∈ listsK 4 := listsK_mem h2 fun x hx => by
    obtain ⟨t, ht, rfl⟩ := List.getElem_of_mem hx
    have := h3 t ht
    simp only [List.getD, List.getElem?_eq_getElem ht, Option.getD_some] at this
    omega
  rcases sets_all s hm c.length (by omega) h.1 with e | e
  · subst e; simp at h1
  · exact e
theorem witFrom_some {c : List (List Int)} {m : Nat} (hm : minorAt c m ≤ 0) : ∀ (f k : Nat), k ≤ m → m < k + f → ∃ q, k ≤ q ∧ q ≤ m ∧ minorAt c q ≤ 0 ∧ witFrom c k f = setL q
  | 0, k, h1, h2 => by omega
  | f + 1, k, h1, h2 => by
    unfold witFrom
    split
    · exact ⟨k, Nat.le_refl _, h1, by assumption, rfl⟩
    · rename_i hn
      by_cases e : k = m
      · exact absurd (e ▸ hm) hn
      · obtain ⟨q, a1, a2, a3, a4⟩ := witFrom_some hm f (k + 1) (by omega) (by omega)
        exact ⟨q, by omega, a2, a3, a4⟩
theorem witFrom_get {c : List (List Int)} : ∀ (f k : Nat), witFrom c k f = [] ∨ ∃ q, k ≤ q ∧ q < k + f ∧ minorAt c q ≤ 0 ∧ witFrom c k f = setL q
  | 0, k => .inl rfl
  | f + 1, k => by
    unfold witFrom
    split
    · exact .inr ⟨k, Nat.le_refl _, by omega, by assumption, rfl⟩
    · rcases witFrom_get f (k + 1) with e | ⟨q, a1, a2, a3, a4⟩
      · exact .inl e
      · exact .inr ⟨q, by omega, by omega, a3, a4⟩
theorem not_fin {c : List (List Int)} {s : List Int} (hC : IsC c) (h : setBB c s = true) (hd : det s.length (pickL c s) ≤ 0) : finB c = false := by
  obtain ⟨m, h1, h2, h3, rfl⟩ := setBB_mask hC h
  obtain ⟨q, a1, a2, -, a4⟩ := witFrom_some (c := c) (m := m) hd (2 ^ c.length - 1) 1 h2 (by omega)
  unfold finB witness
  rw [if_pos hC, a4]
  have := setL_some q (by omega) a1
  cases he : setL q with
  | nil => exact absurd he this
  | cons x l => simp
theorem wit_made {c : List (List Int)} (hC : IsC c) (h : finB c = false) : setBB c (witness c) = true ∧ det (witness c).length (pickL c (witness c)) ≤ 0 := by
  unfold finB at h
  rw [decide_eq_true hC, Bool.true_and] at h
  have h4 := hC.2.1
  have hp : 2 ^ c.length ≤ 16 := pow_le16 h4
  have hw : witness c = witFrom c 1 (2 ^ c.length - 1) := if_pos hC
  rcases witFrom_get (c := c) (2 ^ c.length - 1) 1 with e | ⟨q, a1, a2, a3, a4⟩
  · rw [hw, e] at h; cases h
  · rw [hw, a4]
    refine ⟨?_, a3⟩
    unfold setBB
    rw [sets_fit c.length (by omega) q (by omega) (by omega), Bool.true_and]
    have := setL_some q (by omega) a1
    cases he : setL q with
    | nil => exact absurd he this
    | cons x l => simp
end Go.Proofs.YtkjglfafphffiaaGreatDoor
