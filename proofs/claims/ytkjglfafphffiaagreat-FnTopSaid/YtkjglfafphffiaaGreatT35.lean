/- Bruhat's order by subwords: plain law. (Split off Brs.) Bruhat's order does not depend on the reduced word; what shows that an element is below another one, or is not. Plain law. Paths of braid moves that are found lead there; braid moves do not leave the element. Plain law. Reduced words as the machine has them: their roots are positive and not the same; from other words two letters can be left out. Plain law. -/
import Derived.Test.YtkjglfafphffiaaGreatT34
import Derived.Test.YtkjglfafphffiaaGreatT26
import Derived.Test.YtkjglfafphffiaaGreatT33
import Derived.Test.YtkjglfafphffiaaGreatT27
import Derived.Test.YtkjglfafphffiaaGreatT21
namespace Go.Proofs.YtkjglfafphffiaaGreat
set_option maxRecDepth 100000
open Go.RowKit Game
namespace Game
variable {A : Mat} {n : Nat} {d : Vec}
end Game
theorem head_tail {c : List (List Int)} {t : Int} {V : List Int} {m : Nat} (hV : Lets c m (t :: V)) : ∃ k : Nat, t = (k : Int) ∧ k < c.length ∧ Lets c m V := by
  have h := hV.mem t (by simp)
  exact ⟨t.toNat, by omega, by omega, lets_of hV.isC (by have := hV.few; rw [List.length_cons] at this; omega) fun x hx => hV.mem x (by simp [hx])⟩
end Go.Proofs.YtkjglfafphffiaaGreat
namespace Go.Proofs.YtkjglfafphffiaaGreat
set_option maxRecDepth 100000
open Go.RowKit Game
namespace Game
variable {A : Mat} {n : Nat} {d : Vec}
end Game
theorem Nw.of_img {c : List (List Int)} {V x : List Int} (h : Nw c V) (he : imI c x = imI c V) : nfI c x = V := by
  rw [nfI_img he, h.self]
theorem refl_back {c : List (List Int)} {V : List Int} (h : Lets c 28 V) {i : Nat} (hi : i < c.length) : refl c i (refl c i (imI c V)) = imI c V := imI_back h hi
theorem nw_neg {c : List (List Int)} {V : List Int} {s : Int} (h : Nw c (s :: V)) : ∃ k : Nat, s = (k : Int) ∧ k < c.length ∧ (imI c (s :: V)).getD k 0 < 0 ∧ nfI c (s :: s :: V) = V ∧ Nw c V := by
  have hh := h.head
  obtain ⟨k, rfl⟩ : ∃ k : Nat, s = k := ⟨s.toNat, by omega⟩
  obtain ⟨h1, h2, h3⟩ := h.tail
  rw [Int.toNat_natCast] at h1 h2
  exact ⟨k, rfl, by omega, (firstNeg_lt h1).2.1, h3.of_img (by rw [imI_cons]; exact h2.symm), h3⟩
/-- the letters found do show it -/
theorem nb_made {c : List (List Int)} : ∀ (V U : List Int), Nw c V → Nw c U → subU c V U ≠ [] → nbR (nbGo c (dropL c V U) U V) = true
  | [], U, _, _, h => by
    show decide (([] : List Int).length < U.length) = true
    refine decide_eq_true ?_
    cases U with
    | nil => exact absurd rfl h
    | cons x U => simp
  | s :: V, U, hV, hU, h => by
    obtain ⟨k, rfl, hk, hn, he, hV1⟩ := nw_neg hV
    unfold dropL
    split
    · unfold nbGo
      rw [if_pos ⟨by omega, by omega, by rw [Int.toNat_natCast]; exact hn⟩, he, Int.toNat_natCast]
      have e : (if (imI c U).getD k 0 < 0 then nfI c ((k : Int) :: U) else U) = subN c U (k : Int) := by unfold subN; rw [Int.toNat_natCast]
      rw [e]
      exact nb_made V _ hV1 (hU.sub (by omega) (by omega)) h
    · rename_i hl
      show decide ((((k : Int) :: V) : List Int).length < U.length) = true
      exact decide_eq_true (by rw [List.length_cons]; omega)
/-- the places found make up the lesser element -/
theorem subP_img {c : List (List Int)} : ∀ (V : List Int) (k : Nat) (U : List Int), Nw c U → Lets c 15 V → subU c V U = [] → imI c ((subP c V k U).map fun p => V.getD (p.toNat - k) 0) = imI c U
  | [], k, U, _, _, h => by
    have h : U = [] := h
    rw [h]; rfl
  | s :: V, k, U, hU, hV, h => by
    obtain ⟨t, rfl, ht, hV1⟩ := head_tail hV
    have hge : ∀ p ∈ subP c V (k + 1) (subN c U (t : Int)), ((k + 1 : Nat) : Int) ≤ p := by
      have : ∀ (V : List Int) (k : Nat) (U : List Int), ∀ p ∈ subP c V k U, (k : Int) ≤ p := by
        intro V
        induction V with
        | nil => intro k U p hp; cases hp
        | cons x V ih =>
          intro k U p hp
          unfold subP at hp
          split at hp
          · rcases List.mem_cons.1 hp with e | e
            · omega
            · have := ih _ _ p e; omega
          · have := ih _ _ p hp; omega
      exact this V (k + 1) _
    have hsh : (subP c V (k + 1) (subN c U (t : Int))).map (fun p => ((t : Int) :: V).getD (p.toNat - k) 0) = (subP c V (k + 1) (subN c U (t : Int))).map (fun p => V.getD (p.toNat - (k + 1)) 0) :=
      List.map_congr_left fun p hp => by
        have := hge p hp
        obtain ⟨q, hq⟩ : ∃ q, p.toNat - k = q + 1 := ⟨p.toNat - k - 1, by omega⟩
        rw [hq, show p.toNat - (k + 1) = q by omega]
        simp
    have ih := subP_img V (k + 1) (subN c U (t : Int)) (hU.sub (by omega) (by omega)) hV1 h
    unfold subP
    rw [Int.toNat_natCast]
    split
    · rename_i hn
      rw [List.map_cons, hsh]
      have e0 : ((t : Int) :: V).getD ((k : Int).toNat - k) 0 = (t : Int) := by rw [Int.toNat_natCast, Nat.sub_self]; rfl
      rw [e0, imI_cons, ih, subN_img hU ht hn, refl_back (hU.lets.mono (by decide)) ht]
    · rename_i hn
      rw [hsh, ih, subN_pos hn]
theorem subP_asc {c : List (List Int)} : ∀ (V : List Int) (k : Nat) (U : List Int), (∀ p ∈ subP c V k U, (k : Int) ≤ p ∧ p < ((k + V.length : Nat) : Int)) ∧ (subP c V k U).Pairwise (· < ·)
  | [], _, _ => ⟨(fun p hp => nomatch hp), List.Pairwise.nil⟩
  | s :: V, k, U => by
    obtain ⟨h1, h2⟩ := subP_asc V (k + 1) (subN c U s)
    unfold subP
    split
    · refine ⟨fun p hp => ?_, List.pairwise_cons.2 ⟨fun p hp => ?_, h2⟩⟩
      · rcases List.mem_cons.1 hp with e | e
        · rw [e, List.length_cons]; omega
        · have := h1 p e; rw [List.length_cons]; omega
      · have := h1 p hp; omega
    · exact ⟨fun p hp => by have := h1 p hp; rw [List.length_cons]; omega, h2⟩
end Go.Proofs.YtkjglfafphffiaaGreat
namespace Go.Proofs.YtkjglfafphffiaaGreat
set_option maxRecDepth 100000
open Go.RowKit Game
theorem applyA_snoc {c : List (List Int)} (a : Int) : ∀ (ps v : List Int), applyA c v (ps ++ [a]) = match applyA c v ps with | none => none | some y => braidA c y a
  | [], v => by
    show (match braidA c v a with | none => none | some y => applyA c y []) = braidA c v a
    cases braidA c v a <;> rfl
  | p :: ps, v => by
    show (match braidA c v p with | none => none | some y => applyA c y (ps ++ [a])) = match (match braidA c v p with | none => none | some y => applyA c y ps) with | none => none | some y => braidA c y a
    cases braidA c v p with
    | none => rfl
    | some y => exact applyA_snoc a ps y
/-- the paths of a search lead to its words -/
def Led (c : List (List Int)) (a : List Int) (Q : List BNode) : Prop := ∀ N ∈ Q, applyA c a N.2 = some N.1
theorem Led.step {c : List (List Int)} {a : List Int} {Q : List BNode} (h : Led c a Q) {N : BNode} (hN : applyA c a N.2 = some N.1) {p : Int} (hp : p ∈ placesL c N.1) : Led c a (bpStep c N Q p) := by
  rcases bpStep_cases c N Q p with ⟨e, -⟩ | ⟨e, -⟩
  · rw [e]; exact h
  · rw [e]
    intro M hM
    rcases List.mem_append.1 hM with g | g
    · exact h M g
    · rw [List.mem_singleton] at g
      subst g
      obtain ⟨y, hy⟩ := Option.isSome_iff_exists.1 (placesL_mem hp).2
      show applyA c a (N.2 ++ [p]) = some ((braidA c N.1 p).getD N.1)
      rw [applyA_snoc, hN, hy]
      exact hy
theorem Led.row {c : List (List Int)} {a : List Int} {Q : List BNode} (h : Led c a Q) {N : BNode} (hN : applyA c a N.2 = some N.1) : ∀ t, t ≤ (placesL c N.1).length → Led c a (bpRow c N Q t)
  | 0, _ => h
  | t + 1, ht => by
    rw [bpRow_succ (by omega)]
    exact (h.row hN t (by omega)).step hN (getD_memI (by omega))
theorem bpGo_led {c : List (List Int)} {a b : List Int} : ∀ (f k : Nat) (Q : List BNode) (p : List Int), Led c a Q → bpGo c b f k Q = some p → applyA c a p = some b
  | 0, _, _, _, _, h => by cases h
  | f + 1, k, Q, p, hok, h => by
    by_cases hk : k < Q.length
    · have hN := hok _ (getD_mem hk)
      by_cases e : (Q.getD k ([], [])).1 = b
      · rw [bpGo_found hk e] at h
        injection h with h
        rw [← h, hN, e]
      · rw [bpGo_next hk e] at h
        exact bpGo_led f (k + 1) _ p (hok.row hN _ (Nat.le_refl _)) h
    · rw [bpGo_done (by omega)] at h
      cases h
theorem bpR_led {c : List (List Int)} {a b p : List Int} (h : bpR c a b = some p) : applyA c a p = some b :=
  bpGo_led 121 0 _ p (fun N hN => by rw [List.mem_singleton] at hN; subst hN; rfl) h
theorem applyA_img {c : List (List Int)} : ∀ {ps v y : List Int}, WordOk c v → applyA c v ps = some y → WordOk c y ∧ imI c y = imI c v
  | [], v, y, hW, h => by
    injection h with h
    subst h
    exact ⟨hW, rfl⟩
  | p :: ps, v, y, hW, h => by
    have h : (match braidA c v p with | none => none | some y => applyA c y ps) = some y := h
    cases hb : braidA c v p with
    | none => rw [hb] at h; cases h
    | some z =>
      rw [hb] at h
      obtain ⟨h1, h2⟩ := applyA_img (braidA_ok hW hb) h
      exact ⟨h1, h2.trans (braid_img hW hb)⟩
end Go.Proofs.YtkjglfafphffiaaGreat
namespace Go.Proofs.YtkjglfafphffiaaGreat
set_option maxRecDepth 100000
open Go.RowKit Game
theorem toV_imI {c : List (List Int)} {m : Nat} {v : List Int} (h : Lets c m v) (hm : m ≤ 30) : toV (imI c v) = act (ent c) (v.map Int.toNat) (toV (onesL c.length)) := by
  have := toV_image h.isC h.nats_lt (by rw [List.length_map]; have := h.few; omega)
  rwa [h.nats] at this
theorem redW_red {c : List (List Int)} {v : List Int} (h : redW c v = true) : WordOk c v ∧ Red (ent c) c.length (toV (onesL c.length)) (v.map Int.toNat) := by
  unfold redW at h
  rw [Bool.and_eq_true] at h
  have hW := wordOk_of h.1
  have hl := of_decide_eq_true h.2
  have hp := RedOf.plays (U := nfI c v) ⟨hW, rfl, hl.symm⟩
  rw [toV_imI hW.lets (by decide)] at hp
  exact ⟨hW, hp⟩
theorem red_redW {c : List (List Int)} {v : List Int} (hW : WordOk c v) (h : Red (ent c) c.length (toV (onesL c.length)) (v.map Int.toNat)) : redW c v = true := by
  obtain ⟨W, hN, e⟩ := nfI_ex (hW.lets.mono (show 15 ≤ 30 by omega))
  have := (Plays.unique (car_of hW.isC) (ones_dom _) h hN.plays).1
  unfold redW
  rw [hW.isWord, e, intsOf_length, this, List.length_map]
  simp
theorem wrap_in {x : Int} (h1 : -9223372036854775808 ≤ x) (h2 : x ≤ 9223372036854775807) : wrap64 x = x := by
  have e : IntKind.i64.wrap x = wrap64 x := by simp only [wrap64, IntKind.wrap_i64]
  rw [← e]; exact IntWalk.i64_in _ ⟨h1, h2⟩
theorem dot_exact {a r : List Int} {M : Int} (hM : 0 ≤ M) (hM2 : M ≤ 100000000000000000) (ha : ∀ k, -3 ≤ a.getD k 0 ∧ a.getD k 0 ≤ 3) (hr : ∀ k, -M ≤ r.getD k 0 ∧ r.getD k 0 ≤ M) :
    ∀ k, k ≤ 4 → dotTo a r k = sm (fun j => a.getD j 0 * r.getD j 0) k ∧ -(3 * M * k) ≤ sm (fun j => a.getD j 0 * r.getD j 0) k ∧ sm (fun j => a.getD j 0 * r.getD j 0) k ≤ 3 * M * k
  | 0, _ => by simp [dotTo, sm]
  | k + 1, h => by
    obtain ⟨h1, h2, h3⟩ := dot_exact hM hM2 ha hr k (by omega)
    have h4 := mul3 (hr k) (ha k)
    rw [Int.mul_comm (r.getD k 0) (a.getD k 0)] at h4
    have e : 3 * M * ((k + 1 : Nat) : Int) = 3 * M * (k : Int) + 3 * M := by rw [Int.natCast_add, Int.mul_add]; simp
    have hk : 3 * M * (k : Int) ≤ 3 * M * 3 := Int.mul_le_mul_of_nonneg_left (by omega) (by omega)
    unfold dotTo sm
    rw [h1, wrap_in (x := a.getD k 0 * r.getD k 0) (by omega) (by omega), wrap_in (by omega) (by omega)]
    refine ⟨rfl, by omega, by omega⟩
theorem ent_small {c : List (List Int)} (hC : IsC c) (i j : Nat) : -3 ≤ ent c i j ∧ ent c i j ≤ 3 := by
  by_cases hi : i < c.length
  · by_cases hj : j < c.length
    · exact (car_of hC).small hi hj
    · have e : ent c i j = 0 := by
        have hl := hC.2.2.1 i hi
        unfold ent
        exact (show (c.getD i []).getD j 0 = 0 by
          rw [List.getD_eq_getElem?_getD, List.getElem?_eq_none (by omega)]; rfl)
      omega
  · rw [ent_out (by omega)]; omega
theorem mirL_exact {c : List (List Int)} (hC : IsC c) {i : Nat} (hi : i < c.length) {r : List Int} (hrl : r.length = c.length) {M : Int} (hM : 0 ≤ M) (hM2 : M ≤ 100000000000000000) (hr : ∀ k, -M ≤ r.getD k 0 ∧ r.getD k 0 ≤ M) :
    (∀ k, k < c.length → toV (mirL c i r) k = mir (ent c) c.length i (toV r) k) ∧ ∀ k, -(13 * M) ≤ (mirL c i r).getD k 0 ∧ (mirL c i r).getD k 0 ≤ 13 * M := by
  have h4 := hC.2.1
  obtain ⟨h1, h2, h3⟩ := dot_exact hM hM2 (a := c.getD i []) (fun k => ent_small hC i k) hr c.length h4
  have hk : 3 * M * (c.length : Int) ≤ 3 * M * 4 := Int.mul_le_mul_of_nonneg_left (by omega) (by omega)
  have hri := hr i
  have e : mirL c i r = r.set i (r.getD i 0 - sm (fun j => (c.getD i []).getD j 0 * r.getD j 0) c.length) := by
    unfold mirL pairL
    rw [hrl, h1, wrap_in (by omega) (by omega)]
  have at' : ∀ k, (mirL c i r).getD k 0 = if k = i then r.getD i 0 - sm (fun j => (c.getD i []).getD j 0 * r.getD j 0) c.length else r.getD k 0 := fun k => by
    rw [e, List.getD_eq_getElem?_getD, List.getElem?_set]
    by_cases q : k = i
    · subst q; simp [hrl, hi]
    · rw [if_neg (Ne.symm q), if_neg q, List.getD_eq_getElem?_getD]
  refine ⟨fun k _ => ?_, fun k => ?_⟩
  · show (mirL c i r).getD k 0 = r.getD k 0 - (if k = i then sm (fun j => ent c i j * r.getD j 0) c.length else 0)
    rw [at']
    by_cases q : k = i
    · subst q; rw [if_pos rfl, if_pos rfl]; rfl
    · rw [if_neg q, if_neg q, Int.sub_zero]
  · rw [at']
    have := hr k
    split <;> omega
theorem pow13 {k : Nat} (h : k ≤ 14) : ((13 ^ k : Nat) : Int) ≤ 100000000000000000 := by
  have : 13 ^ k ≤ 13 ^ 14 := Nat.pow_le_pow_right (by decide) h
  have e : (13 ^ 14 : Nat) ≤ 100000000000000000 := by decide
  omega
theorem actR_exact {c : List (List Int)} (hC : IsC c) {r0 : List Int} (hr0 : r0.length = c.length) (hb : ∀ k, -1 ≤ r0.getD k 0 ∧ r0.getD k 0 ≤ 1) : ∀ (l : List Int), (∀ x ∈ l, 0 ≤ x ∧ x < (c.length : Int)) → l.length ≤ 15 →
    (∀ k, k < c.length → toV (actR c l r0) k = mirs (ent c) c.length (l.map Int.toNat) (toV r0) k) ∧ ∀ k, -((13 ^ l.length : Nat) : Int) ≤ (actR c l r0).getD k 0 ∧ (actR c l r0).getD k 0 ≤ ((13 ^ l.length : Nat) : Int)
  | [], _, _ => ⟨fun _ _ => rfl, fun k => by simpa [actR] using hb k⟩
  | x :: l, hx, hl => by
    have h0 := hx x (by simp)
    rw [List.length_cons] at hl
    obtain ⟨h1, h2⟩ := actR_exact hC hr0 hb l (fun y hy => hx y (List.mem_cons_of_mem _ hy)) (by omega)
    have hi : x.toNat < c.length := by omega
    obtain ⟨g1, g2⟩ := mirL_exact hC hi (r := actR c l r0) (by rw [actR_length]; exact hr0) (Int.natCast_nonneg _) (pow13 (by omega)) h2
    refine ⟨fun k hk => ?_, fun k => ?_⟩
    · show toV (mirL c x.toNat (actR c l r0)) k = mir (ent c) c.length x.toNat (mirs (ent c) c.length (l.map Int.toNat) (toV r0)) k
      rw [g1 k hk, mir_congr h1 k hk]
    · have := g2 k
      rw [List.length_cons, Nat.pow_succ]
      show _ ≤ (mirL c x.toNat (actR c l r0)).getD k 0 ∧ (mirL c x.toNat (actR c l r0)).getD k 0 ≤ _
      omega
theorem simpL_at {n i k : Nat} (hk : k < n) : (simpL n i).getD k 0 = if k = i then 1 else 0 := by
  unfold simpL
  rw [List.getD_eq_getElem?_getD, List.getElem?_set]
  by_cases e : i = k
  · subst e; simp [hk]
  · rw [if_neg e, if_neg (Ne.symm e)]; simp [hk]
theorem simpL_in (n i k : Nat) : -1 ≤ (simpL n i).getD k 0 ∧ (simpL n i).getD k 0 ≤ 1 := by
  by_cases hk : k < n
  · rw [simpL_at hk]; split <;> omega
  · rw [List.getD_eq_getElem?_getD, List.getElem?_eq_none (by rw [simpL_length]; omega)]; simp
/-- a root of a word, as the mathematics has it -/
theorem root_exact {c : List (List Int)} {v : List Int} (hW : WordOk c v) {k : Nat} (hk : k < v.length) : ∀ j, j < c.length → toV (actR c (v.take k) (simpL c.length (v.getD k 0).toNat)) j = mirs (ent c) c.length ((v.take k).map Int.toNat) (eV (v.getD k 0).toNat) j := by
  intro j hj
  have hm : ∀ x ∈ v.take k, 0 ≤ x ∧ x < (c.length : Int) := fun x hx => hW.lets.mem x (List.mem_of_mem_take hx)
  rw [(actR_exact hW.isC (simpL_length _ _) (simpL_in _ _) (v.take k) hm (by rw [List.length_take]; have := hW.few; omega)).1 j hj]
  have : ∀ (l : List Nat) (r r' : Vec), (∀ k, k < c.length → r k = r' k) → ∀ k, k < c.length → mirs (ent c) c.length l r k = mirs (ent c) c.length l r' k := by
    intro l
    induction l with
    | nil => intro r r' h; exact h
    | cons i l ih => intro r r' h; exact mir_congr (ih r r' h)
  exact this _ _ _ (fun k hk => simpL_at hk) j hj
theorem take_split {v : List Int} {j k : Nat} (hj : j < k) (hk : k ≤ v.length) : v.take k = v.take j ++ v.getD j 0 :: (v.take k).drop (j + 1) := by
  have h1 := (List.take_append_drop j (v.take k)).symm
  rw [List.take_take, Nat.min_eq_left (by omega)] at h1
  have h2 : j < (v.take k).length := by rw [List.length_take]; omega
  rw [List.drop_eq_getElem_cons h2] at h1
  have e : (v.take k)[j] = v.getD j 0 := by
    rw [List.getElem_take]
    simp [List.getD, show j < v.length by omega]
  rw [e] at h1
  exact h1
theorem posB_of {r : List Int} {n : Nat} (hl : r.length = n) (h : (∀ k, k < n → 0 ≤ toV r k) ∧ ∃ k, k < n ∧ 0 < toV r k) : posB r = true := by
  obtain ⟨h1, k, hk, h2⟩ := h
  unfold posB
  have hk' : k < r.length := by omega
  have e1 : (r.any fun x => decide (0 < x)) = true := List.any_eq_true.2 ⟨r[k], List.getElem_mem hk', decide_eq_true (by
    have : toV r k = r[k] := by simp [toV, List.getD, hk']
    rw [← this]; exact h2)⟩
  have e2 : (r.any fun x => decide (x < 0)) = false := by
    rw [List.any_eq_false]
    intro x hx
    obtain ⟨i, hi, rfl⟩ := List.getElem_of_mem hx
    have := h1 i (by omega)
    have e : toV r i = r[i] := by simp [toV, List.getD, hi]
    rw [e] at this
    simp; omega
  rw [e1, e2]; rfl
/-- the roots of a reduced word are positive and not the same -/
theorem red_diff {c : List (List Int)} {v : List Int} (h : redW c v = true) : diffB (seqL c v) = true := by
  obtain ⟨hW, hR⟩ := redW_red h
  have hA := car_of hW.isC
  have hd := ones_pos c.length
  have hlen : (seqL c v).length = v.length := by simp [seqL]
  have hat : ∀ k, k < v.length → (seqL c v).getD k [] = actR c (v.take k) (simpL c.length (v.getD k 0).toNat) := fun k hk => by simp [seqL, List.getD, hk]
  have hpre : ∀ k, k < v.length → Red (ent c) c.length (toV (onesL c.length)) ((v.take k).map Int.toNat ++ [(v.getD k 0).toNat]) := fun k hk => by
    have e : v = v.take (k + 1) ++ v.drop (k + 1) := (List.take_append_drop _ _).symm
    have e2 : v.take (k + 1) = v.take k ++ [v.getD k 0] := by rw [List.take_succ_eq_append_getElem hk]; simp [List.getD, hk]
    rw [e, e2, List.map_append, List.map_append] at hR
    have := hR.init hA hd
    simpa using this
  refine diffB_yes fun k hk => ?_
  rw [hlen] at hk
  have hroot := root_exact hW hk
  constructor
  · rw [hat k hk]
    have hp := posB_of (n := c.length) (by rw [actR_length, simpL_length]) (pos_of_all (r := toV (actR c (v.take k) (simpL c.length (v.getD k 0).toNat))) fun d' hd' => by
      rw [prs_congr hroot]
      exact root_pos hA hd (hpre k hk) hd')
    have := sign_one (actR c (v.take k) (simpL c.length (v.getD k 0).toNat))
    rw [hp] at this
    simpa using this
  · intro hmem
    obtain ⟨j, hj, e⟩ := List.getElem_of_mem hmem
    rw [List.length_take] at hj
    have hjk : j < k := by omega
    have hjv : j < v.length := by omega
    have e1 : (seqL c v).getD j [] = (seqL c v).getD k [] := by
      rw [← e, List.getElem_take]
      simp [List.getD, hlen, hjv]
    rw [hat j hjv, hat k hk] at e1
    have hroot2 := root_exact hW hjv
    have hsp := take_split hjk (Nat.le_of_lt hk)
    have hr := hpre k hk
    rw [hsp, List.map_append, List.map_cons] at hr
    refine roots_ne hA hd hr fun i hi => ?_
    rw [← hroot2 i hi, e1, hroot i hi]
    conv => rhs; rw [hsp, List.map_append, List.map_cons]
theorem map_erase (f : Int → Nat) : ∀ (l : List Int) (k : Nat), (l.eraseIdx k).map f = (l.map f).eraseIdx k
  | [], _ => rfl
  | _ :: _, 0 => rfl
  | x :: l, k + 1 => by simp [map_erase f l k]
/-- from a word that is not reduced two letters can be left out -/
theorem del_word {c : List (List Int)} {v : List Int} (hW : WordOk c v) (h : redW c v = false) : ∃ a b, a < b ∧ b < v.length ∧ imI c ((v.eraseIdx b).eraseIdx a) = imI c v := by
  obtain ⟨a, b, hab, hb, he⟩ := deletion (car_of hW.isC) (ones_pos c.length) hW.lets.nats_lt (fun q => by rw [red_redW hW q] at h; cases h)
  rw [List.length_map] at hb
  refine ⟨a, b, hab, hb, ?_⟩
  have hL : Lets c 15 ((v.eraseIdx b).eraseIdx a) := lets_of hW.isC (by
    have := hW.few
    have h1 := List.length_eraseIdx_le v b
    have h2 := List.length_eraseIdx_le (v.eraseIdx b) a
    omega) (fun x hx => hW.lets.mem x (List.mem_of_mem_eraseIdx (List.mem_of_mem_eraseIdx hx)))
  apply toV_inj (by rw [imI_length, imI_length])
  rw [toV_imI hL (by decide), toV_imI hW.lets (by decide), ← he]
  congr 1
  rw [map_erase, map_erase]
end Go.Proofs.YtkjglfafphffiaaGreat
