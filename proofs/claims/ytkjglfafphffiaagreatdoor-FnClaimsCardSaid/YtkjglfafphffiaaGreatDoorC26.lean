/- Mat -/
import Derived.Test.YtkjglfafphffiaaGreatDoorC24
import Derived.Test.YtkjglfafphffiaaGreatDoorC25
namespace Go.Proofs.YtkjglfafphffiaaGreatDoor
set_option maxRecDepth 100000
open Go.RowKit
namespace Game
variable {A : Mat} {n : Nat}
theorem meet_bond (hC : Car A n) {i j : Nat} (hi : i < n) (hj : j < n) (hne : i ≠ j) : (∃ m, Meet A n i j m ∧ bondP (A i j * A j i) = ((m + 1 : Nat) : Int) ∧ 1 ≤ m) ∨ (A i j ≤ -2 ∧ A j i ≤ -2) := by
  have h1 := hC.off i j hi hj hne
  have h2 := hC.off j i hj hi (Ne.symm hne)
  by_cases z : A i j = 0
  · exact .inl ⟨1, meet2 hC hi hj z (h1.2.2.1 z), by rw [z]; simp [bondP], by omega⟩
  by_cases z2 : A j i = 0
  · exact absurd (h1.2.2.2 z2) z
  have e1 : A i j = -1 ∨ A i j = -2 ∨ A i j = -3 := by omega
  have e2 : A j i = -1 ∨ A j i = -2 ∨ A j i = -3 := by omega
  rcases e1 with e1 | e1 | e1 <;> rcases e2 with e2 | e2 | e2
  · exact .inl ⟨2, meet3 hC hi hj e1 e2, by rw [e1, e2]; decide, by omega⟩
  · exact .inl ⟨3, meet4 hC hi hj e1 e2, by rw [e1, e2]; decide, by omega⟩
  · exact .inl ⟨5, meet6 hC hi hj e1 e2, by rw [e1, e2]; decide, by omega⟩
  · exact .inl ⟨3, (meet4 hC hj hi e2 e1).symm, by rw [e1, e2]; decide, by omega⟩
  · right; omega
  · right; omega
  · exact .inl ⟨5, (meet6 hC hj hi e2 e1).symm, by rw [e1, e2]; decide, by omega⟩
  · right; omega
  · right; omega
def BrMove (A : Mat) (n : Nat) (l l' : List Nat) : Prop :=
  ∃ (p r : List Nat) (i j m : Nat), i < n ∧ j < n ∧ i ≠ j ∧ bondP (A i j * A j i) = ((m + 1 : Nat) : Int) ∧ 1 ≤ m ∧ l = p ++ alt i j (m + 1) ++ r ∧ l' = p ++ alt j i (m + 1) ++ r
def Joined (A : Mat) (n : Nat) (l l' : List Nat) : Prop := ∀ S : List Nat → Prop, S l → (∀ a b, S a → BrMove A n a b → S b) → S l'
theorem Joined.refl (l : List Nat) : Joined A n l l := fun _ h _ => h
theorem Joined.trans {a b d : List Nat} (h : Joined A n a b) (k : Joined A n b d) : Joined A n a d := fun S hs hc => k S (h S hs hc) hc
theorem Joined.one {a b : List Nat} (h : BrMove A n a b) : Joined A n a b := fun _ hs hc => hc _ _ hs h
theorem Joined.cons {a b : List Nat} (i : Nat) (h : Joined A n a b) : Joined A n (i :: a) (i :: b) := fun S hs hc =>
  h (fun x => S (i :: x)) hs fun x y hx ⟨p, r, i', j', m, h1, h2, h3, h4, h5, e1, e2⟩ =>
    hc _ _ hx ⟨i :: p, r, i', j', m, h1, h2, h3, h4, h5, by rw [e1]; rfl, by rw [e2]; rfl⟩
theorem matsumoto (hC : Car A n) {d : Vec} (hd : Dom n d) : ∀ (k : Nat) (v : Vec) (l l' : List Nat), Plays A n l v d → Plays A n l' v d → l.length = k → Joined A n l l' := by
  intro k
  induction k using Nat.strongRecOn with
  | ind k ih =>
    intro v l l' h h' hl
    have hlen := (Plays.unique hC hd h h').1
    cases l with
    | nil =>
      have : l' = [] := List.eq_nil_of_length_eq_zero (by simpa using hlen)
      subst this
      exact Joined.refl _
    | cons i l1 =>
      cases l' with
      | nil => simp at hlen
      | cons j l1' =>
        simp only [List.length_cons] at hl hlen
        obtain ⟨hi, hvi, h1⟩ := Plays.cons.1 h
        obtain ⟨hj, hvj, h1'⟩ := Plays.cons.1 h'
        by_cases hne : i = j
        · subst hne
          exact (ih (k - 1) (by omega) (s A i v) l1 l1' h1 h1' (by omega)).cons i
        rcases meet_bond hC hi hj hne with ⟨m, hm, hb, hm1⟩ | ⟨e1, e2⟩
        · obtain ⟨g1, g2⟩ := hm.legal v hvi hvj
          obtain ⟨l2, p1, p2, -⟩ := h.any hC hd g1
          have p1' : Plays A n (i :: (alt j i m ++ l2)) v d := p1
          have q1 : Plays A n l2 (run A (alt j i (m + 1)) v) d := by
            rw [← hm.runs v]
            have e := p1.2
            rw [run_append] at e
            refine ⟨?_, e⟩
            have hleg := p1.1
            clear p1 p1' e hm hb g1 g2 p2
            generalize alt i j (m + 1) = ch at hleg ⊢
            revert hleg
            clear h h1 hvi hvj h' h1'
            revert v
            induction ch with
            | nil => intro v hleg; exact hleg
            | cons t ch ihc => intro v hleg; exact ihc _ hleg.2.2
          have q2 : Plays A n (alt j i (m + 1) ++ l2) v d := Plays.append g2 q1
          have q2' : Plays A n (j :: (alt i j m ++ l2)) v d := q2
          have a1 := ih (k - 1) (by omega) (s A i v) l1 (alt j i m ++ l2) h1 (Plays.cons.1 p1').2.2 (by omega)
          have hl2 := (Plays.unique hC hd h p1').1
          have hl3 := (Plays.unique hC hd h q2').1
          have a2 := ih (k - 1) (by omega) (s A j v) (alt i j m ++ l2) l1' (Plays.cons.1 q2').2.2 h1' (by simp only [List.length_cons] at hl3; omega)
          have a3 : Joined A n (i :: (alt j i m ++ l2)) (j :: (alt i j m ++ l2)) := Joined.one ⟨[], l2, i, j, m, hi, hj, hne, hb, hm1, rfl, rfl⟩
          exact ((a1.cons i).trans a3).trans (a2.cons j)
        · exfalso
          refine endless hC hd (k - 1) (fun k' _ => conf hC hd k') i j hi hj e1 e2 (s A i v) l1 h1 (by omega) ?_ ?_
          · simp only [s, hC.two i hi]; omega
          · simp only [s, hC.two i hi]
            have hm : v i * A j i ≥ v i * (-2) := Int.mul_le_mul_of_nonpos_left (by omega) e2
            omega
theorem red_plays (hC : Car A n) {d : Vec} (hd : ∀ i, i < n → 0 < d i) : ∀ (y : List Nat), (∀ i ∈ y, i < n) → ∀ W, Plays A n W (act A y d) d → W.length = y.length → Plays A n y (act A y d) d := by
  have hd0 : Dom n d := fun i hi => by have := hd i hi; omega
  intro y
  induction y with
  | nil => intro _ W _ _; exact ⟨trivial, rfl⟩
  | cons i y ih =>
    intro hy W hW hl
    have hi := hy i (by simp)
    have hy' : ∀ j ∈ y, j < n := fun j hj => hy j (List.mem_cons_of_mem _ hj)
    obtain ⟨l0, h1, h2⟩ := word_play hC hd0 y hy'
    simp only [act, List.length_cons] at hW hl ⊢
    rcases Int.lt_trichotomy (act A y d i) 0 with g | g | g
    · obtain ⟨l', g1, g2, -⟩ := h1.first hC hd0 hi g
      have := (Plays.unique hC hd0 (Plays.cons.1 g1).2.2 hW).1
      omega
    · exact absurd g (h1.ne hC hd hi)
    · have hp : Plays A n (i :: l0) (s A i (act A y d)) d := Plays.cons.2 ⟨hi, by simp only [s, hC.two i hi]; omega, by rw [s_s hC hi]; exact h1⟩
      have := (Plays.unique hC hd0 hp hW).1
      rw [List.length_cons] at this
      exact Plays.cons.2 ⟨hi, by simp only [s, hC.two i hi]; omega, by rw [s_s hC hi]; exact ih hy' l0 h1 (by omega)⟩
end Game
open Game
structure RedOf (c : List (List Int)) (U y : List Int) : Prop where
  word : WordOk c y
  nf : nfI c y = U
  len : y.length = U.length
theorem altL_ints (i j m : Nat) : intsOf (alt i j m) = altL (i : Int) (j : Int) m := by
  induction m generalizing i j with
  | zero => rfl
  | succ m ih =>
    have e : altL (i : Int) (j : Int) (m + 1) = (i : Int) :: altL (j : Int) (i : Int) m := by
      unfold altL
      rw [List.range_succ_eq_map, List.map_cons, List.map_map]
      congr 1
      refine List.map_congr_left fun k _ => ?_
      show (if (k + 1) % 2 = 0 then (i : Int) else j) = if k % 2 = 0 then (j : Int) else i
      by_cases h : k % 2 = 0
      · rw [if_neg (by omega), if_pos h]
      · rw [if_pos (by omega), if_neg h]
    rw [e, ← ih]
    rfl
theorem braid_of_move {c : List (List Int)} {a b : List Nat} (hW : WordOk c (intsOf a)) (h : BrMove (ent c) c.length a b) : ∃ k : Nat, k < a.length ∧ braidA c (intsOf a) (k : Int) = some (intsOf b) := by
  obtain ⟨p, r, i, j, m, hi, hj, hne, hb, hm, rfl, rfl⟩ := h
  have hal := alt_length i j (m + 1)
  refine ⟨p.length, by simp only [List.length_append, hal]; omega, ?_⟩
  rw [braidA_word hW.isWord]
  unfold braidM
  rw [if_pos (by omega), Int.toNat_natCast]
  have ei : (intsOf (p ++ alt i j (m + 1) ++ r)).getD p.length 0 = (i : Int) := by
    simp [intsOf, alt, List.getD]
  obtain ⟨m', rfl⟩ : ∃ m', m = m' + 1 := ⟨m - 1, by omega⟩
  have ej : (intsOf (p ++ alt i j (m' + 1 + 1) ++ r)).getD (p.length + 1) 0 = (j : Int) := by
    simp [intsOf, alt, List.getD]
  have hbond : (bondL c i j).toNat = m' + 1 + 1 := by unfold bondL; rw [if_neg hne, hb]; omega
  unfold braidK
  simp only [ei, ej, Int.toNat_natCast, hbond]
  have e1 : intsOf (p ++ alt i j (m' + 1 + 1) ++ r) = intsOf p ++ altL i j (m' + 1 + 1) ++ intsOf r := by rw [intsOf_append, intsOf_append, altL_ints]
  have e2 : intsOf (p ++ alt j i (m' + 1 + 1) ++ r) = intsOf p ++ altL j i (m' + 1 + 1) ++ intsOf r := by rw [intsOf_append, intsOf_append, altL_ints]
  have hpl : (intsOf p).length = p.length := intsOf_length p
  have hll : (intsOf p ++ altL (i : Int) (j : Int) (m' + 1 + 1) ++ intsOf r).length = p.length + (m' + 1 + 1) + r.length := by simp only [List.length_append, altL_length, intsOf_length]
  have hdrop : (intsOf p ++ altL (i : Int) (j : Int) (m' + 1 + 1) ++ intsOf r).drop p.length = altL i j (m' + 1 + 1) ++ intsOf r := by
    rw [List.append_assoc, List.drop_append_of_le_length (by omega), ← hpl, List.drop_length, List.nil_append]
  rw [e1, e2, hdrop, if_pos ⟨by omega, by omega, by omega, by omega, by rw [List.take_append_of_le_length (by rw [altL_length]; exact Nat.le_refl _)]; exact List.take_of_length_le (by rw [altL_length]; exact Nat.le_refl _)⟩]
  congr 1
  have t1 : (intsOf p ++ altL (i : Int) (j : Int) (m' + 1 + 1) ++ intsOf r).take p.length = intsOf p := by
    rw [List.append_assoc, List.take_append_of_le_length (by omega), List.take_of_length_le (by omega)]
  have t2 : (intsOf p ++ altL (i : Int) (j : Int) (m' + 1 + 1) ++ intsOf r).drop (p.length + (m' + 1 + 1)) = intsOf r := by
    have : p.length + (m' + 1 + 1) = (intsOf p ++ altL (i : Int) (j : Int) (m' + 1 + 1)).length := by simp only [List.length_append, altL_length, intsOf_length]
    rw [this, List.drop_left]
  rw [t1, t2]
theorem WordOk.nats {c : List (List Int)} {y : List Int} (h : WordOk c y) : intsOf (y.map Int.toNat) = y := h.lets.nats
theorem RedOf.plays {c : List (List Int)} {U y : List Int} (h : RedOf c U y) : Plays (ent c) c.length (y.map Int.toNat) (toV (imI c y)) (toV (onesL c.length)) := by
  have hL := h.word.lets
  have h30 := hL.mono (show 15 ≤ 30 by omega)
  obtain ⟨W, hW, e⟩ := nfI_ex h30
  have hi : toV (imI c y) = act (ent c) (y.map Int.toNat) (toV (onesL c.length)) := by
    have := toV_image hL.isC hL.nats_lt (by rw [List.length_map]; have := hL.few; omega)
    rwa [hL.nats] at this
  rw [hi]
  refine red_plays (car_of hL.isC) (ones_pos _) _ hL.nats_lt W hW.plays ?_
  have hl := h.len
  rw [← h.nf, e, intsOf_length] at hl
  rw [List.length_map]
  exact hl.symm
theorem RedOf.joined {c : List (List Int)} {U y z : List Int} (hy : RedOf c U y) (hz : RedOf c U z) (S : List Int → Prop) (h0 : S y) (hcl : ∀ a b (k : Nat), S a → k < a.length → braidA c a (k : Int) = some b → S b) : S z := by
  have hA := car_of hy.word.isC
  have him : imI c y = imI c z := by
    have h1 := (nfI_ok (hy.word.lets.mono (show 15 ≤ 30 by omega))).img
    have h2 := (nfI_ok (hz.word.lets.mono (show 15 ≤ 30 by omega))).img
    rw [hy.nf] at h1
    rw [hz.nf] at h2
    exact h1.symm.trans h2
  have p1 := hy.plays
  have p2 := hz.plays
  rw [← him] at p2
  have hj := matsumoto hA (ones_dom _) _ _ _ _ p1 p2 rfl
  have := hj (fun l => S (intsOf l) ∧ WordOk c (intsOf l)) ⟨by rw [hy.word.nats]; exact h0, by rw [hy.word.nats]; exact hy.word⟩ fun a b ⟨ha, hw⟩ hm => by
    obtain ⟨k, hk, e⟩ := braid_of_move hw hm
    exact ⟨hcl _ _ k ha (by rw [intsOf_length]; exact hk) e, braidA_ok hw e⟩
  rw [hz.word.nats] at this
  exact this.1
theorem braid_img {c : List (List Int)} {v y : List Int} {a : Int} (hW : WordOk c v) (h : braidA c v a = some y) : imI c y = imI c v := by
  have hw2 := braidA_ok hW h
  rw [braidA_word hW.isWord] at h
  unfold braidM at h
  split at h
  · unfold braidK at h
    simp only at h
    split at h
    · rename_i hc
      injection h with h
      obtain ⟨c1, c2, c3, c4, c5⟩ := hc
      generalize a.toNat = k at *
      have hx := hW.inr k (by omega)
      have hy := hW.inr (k + 1) (by omega)
      obtain ⟨i, hi⟩ : ∃ i : Nat, v.getD k 0 = i := ⟨(v.getD k 0).toNat, by omega⟩
      obtain ⟨j, hj⟩ : ∃ j : Nat, v.getD (k + 1) 0 = j := ⟨(v.getD (k + 1) 0).toNat, by omega⟩
      rw [hi, hj] at c2 c3 c4 c5 h
      rw [Int.toNat_natCast, Int.toNat_natCast] at c3 c4 c5 h
      have hne : i ≠ j := fun e => c2 (by rw [e])
      have hii : i < c.length := by omega
      have hjj : j < c.length := by omega
      have hA := car_of hW.isC
      rcases meet_bond hA hii hjj hne with ⟨m, hm, hb, hm1⟩ | ⟨e1, e2⟩
      · have hbond : (bondL c i j).toNat = m + 1 := by unfold bondL; rw [if_neg hne, hb]; omega
        rw [hbond] at c3 c4 c5 h
        have ev : v = v.take k ++ altL i j (m + 1) ++ v.drop (k + (m + 1)) := by
          have e1 : v = v.take k ++ v.drop k := (List.take_append_drop k v).symm
          have e2 : v.drop k = altL i j (m + 1) ++ v.drop (k + (m + 1)) := by
            rw [← c5, ← List.drop_drop, List.take_append_drop]
          rw [List.append_assoc, ← e2]; exact e1
        have hv := hW.lets
        have hsub : ∀ (u : List Int), (∀ x ∈ u, x ∈ v) → (∀ t ∈ u.map Int.toNat, t < c.length) ∧ intsOf (u.map Int.toNat) = u := fun u hu => by
          have hl := lets_of (m := u.length) hW.isC (Nat.le_refl _) (fun x hx => hv.mem x (hu x hx))
          exact ⟨hl.nats_lt, hl.nats⟩
        obtain ⟨q1, q2⟩ := hsub (v.take k) fun x hx => List.mem_of_mem_take hx
        obtain ⟨r1, r2⟩ := hsub (v.drop (k + (m + 1))) fun x hx => List.mem_of_mem_drop hx
        have key : ∀ (s t : Nat), s < c.length → t < c.length → ((v.take k).length + (m + 1) + (v.drop (k + (m + 1))).length ≤ 30) → toV (imI c (v.take k ++ altL s t (m + 1) ++ v.drop (k + (m + 1)))) = act (ent c) ((v.take k).map Int.toNat ++ alt s t (m + 1) ++ (v.drop (k + (m + 1))).map Int.toNat) (toV (onesL c.length)) := fun s t hs ht hlen => by
          have e : v.take k ++ altL s t (m + 1) ++ v.drop (k + (m + 1)) = intsOf ((v.take k).map Int.toNat ++ alt s t (m + 1) ++ (v.drop (k + (m + 1))).map Int.toNat) := by
            rw [intsOf_append, intsOf_append, altL_ints, q2, r2]
          rw [e]
          refine toV_image hW.isC (fun x hx => ?_) (by simp only [List.length_append, List.length_map, alt_length]; exact hlen)
          rcases List.mem_append.1 hx with g | g
          · rcases List.mem_append.1 g with g | g
            · exact q1 x g
            · have : x = s ∨ x = t := by
                have : (x : Int) ∈ altL s t (m + 1) := by rw [← altL_ints]; exact List.mem_map_of_mem g
                rcases altL_mem this with e | e <;> omega
              rcases this with rfl | rfl <;> assumption
          · exact r1 x g
        have hf := hW.few
        have hlen : (v.take k).length + (m + 1) + (v.drop (k + (m + 1))).length ≤ 30 := by simp only [List.length_take, List.length_drop]; omega
        have k1 := key i j hii hjj hlen
        have k2 := key j i hjj hii hlen
        rw [← ev] at k1
        rw [h] at k2
        refine toV_inj (by rw [imI_length, imI_length]) ?_
        rw [k1, k2, act_append, act_append, act_append, act_append, hm.acts]
      · exfalso
        have hz : bondL c i j = 0 := by
          have o1 := hA.off i j hii hjj hne
          have o2 := hA.off j i hjj hii (Ne.symm hne)
          have f1 : ent c i j = -2 ∨ ent c i j = -3 := by omega
          have f2 : ent c j i = -2 ∨ ent c j i = -3 := by omega
          unfold bondL
          rw [if_neg hne]
          rcases f1 with f1 | f1 <;> rcases f2 with f2 | f2 <;> (rw [f1, f2]; decide)
        rw [hz] at c3
        simp at c3
    · cases h
  · cases h
theorem RedOf.braid {c : List (List Int)} {U v y : List Int} {a : Int} (hv : RedOf c U v) (h : braidA c v a = some y) : RedOf c U y :=
  ⟨braidA_ok hv.word h, (nfI_img (braid_img hv.word h)).trans hv.nf, by rw [braidA_length h]; exact hv.len⟩
def descL (v : List Int) : List Nat := (List.range v.length).filter fun i => decide (v.getD i 0 < 0)
def allW (c : List (List Int)) : Nat → List Int → List (List Int)
  | 0, _ => [[]]
  | f + 1, v => if descL v = [] then [[]] else (descL v).flatMap fun i => (allW c f (refl c i v)).map fun y => (i : Int) :: y
theorem mem_descL {v : List Int} {i : Nat} : i ∈ descL v ↔ i < v.length ∧ v.getD i 0 < 0 := by simp [descL]
theorem descL_nil {c : List (List Int)} {U : List Int} (h : Nw c U) : descL (imI c U) = [] ↔ U = [] := by
  rw [← h.none]
  constructor
  · intro hd
    cases hf : firstNeg (imI c U) with
    | none => rfl
    | some i =>
      have h1 := firstNeg_lt hf
      have : i ∈ descL (imI c U) := mem_descL.2 ⟨h1.1, h1.2.1⟩
      rw [hd] at this
      cases this
  · intro hf
    refine List.eq_nil_iff_forall_not_mem.2 fun i hi => ?_
    have h1 := mem_descL.1 hi
    have := firstNeg_none hf i h1.1
    omega
theorem Nw.len_sub {c : List (List Int)} {U : List Int} (h : Nw c U) {i : Nat} (hi : i < c.length) (hneg : (imI c U).getD i 0 < 0) : (subN c U (i : Int)).length + 1 = U.length := by
  rw [subN_neg hneg, nfI_down (h.lets.mono (by omega)) hi hneg, h.self]
theorem imI_self {c : List (List Int)} {v : List Int} (h : Lets c 28 v) {i : Nat} (hi : i < c.length) : (imI c ((i : Int) :: v)).getD i 0 = - (imI c v).getD i 0 := by
  have hA := car_of h.isC
  have h1 := toV_image h.isC h.nats_lt (by rw [List.length_map]; have := h.few; omega)
  have h2 := toV_image h.isC (w := i :: v.map Int.toNat) (fun k hk => by
    rcases List.mem_cons.1 hk with g | g
    · rw [g]; exact hi
    · exact h.nats_lt k g) (by rw [List.length_cons, List.length_map]; have := h.few; omega)
  have e2 : intsOf (i :: v.map Int.toNat) = (i : Int) :: v := by
    show (i : Int) :: intsOf (v.map Int.toNat) = _
    rw [h.nats]
  rw [h.nats] at h1
  rw [e2] at h2
  have g1 := congrFun h1 i
  have g2 := congrFun h2 i
  simp only [act, s, hA.two i hi] at g2
  show toV (actW c ((i : Int) :: v) (onesL c.length)) i = - toV (actW c v (onesL c.length)) i
  omega
theorem mem_allW {c : List (List Int)} : ∀ (f : Nat) (U : List Int), Nw c U → U.length ≤ f → ∀ y, y ∈ allW c f (imI c U) ↔ RedOf c U y := by
  have hnil : ∀ U, Nw c U → U = [] → ∀ y, y ∈ [([] : List Int)] ↔ RedOf c U y := by
    rintro U hU rfl y
    rw [List.mem_singleton]
    constructor
    · rintro rfl
      exact ⟨hU.lets.word, hU.self, rfl⟩
    · intro h; exact List.eq_nil_of_length_eq_zero h.len
  intro f
  induction f with
  | zero => intro U hU hl; exact hnil U hU (List.eq_nil_of_length_eq_zero (by omega))
  | succ f ih =>
    intro U hU hl y
    unfold allW
    split
    · rename_i hd
      exact hnil U hU ((descL_nil hU).1 hd) y
    · rename_i hd
      rw [List.mem_flatMap]
      have hC := hU.lets.isC
      constructor
      · rintro ⟨i, hi, hy⟩
        obtain ⟨y', hy', rfl⟩ := List.mem_map.1 hy
        obtain ⟨h1, h2⟩ := mem_descL.1 hi
        rw [imI_length] at h1
        rw [← subN_img hU h1 h2] at hy'
        have hls := hU.len_sub h1 h2
        have hns := hU.sub (i := (i : Int)) (by omega) (by omega)
        have hr := (ih _ hns (by omega) y').1 hy'
        have hfew := hU.lets.few
        have hw : WordOk c ((i : Int) :: y') := (lets_of (m := 15) hC (by rw [List.length_cons, hr.len]; omega) fun x hx => by
          rcases List.mem_cons.1 hx with g | g
          · subst g; omega
          · exact hr.word.lets.mem x g).word
        have him : imI c ((i : Int) :: y') = imI c U := by
          rw [imI_cons]
          have e1 : imI c y' = imI c (subN c U (i : Int)) := by
            have := (nfI_ok (hr.word.lets.mono (show 15 ≤ 30 by omega))).img
            rw [hr.nf] at this
            exact this.symm
          rw [e1, subN_img hU h1 h2, ← imI_cons, ← imI_cons]
          exact imI_back (hU.lets.mono (by omega)) h1
        exact ⟨hw, (nfI_img him).trans hU.self, by rw [List.length_cons, hr.len]; omega⟩
      · intro h
        have hne : U ≠ [] := fun e => hd ((descL_nil hU).2 e)
        have hpos : 0 < U.length := List.length_pos_iff.2 hne
        cases y with
        | nil => have := h.len; simp at this; omega
        | cons x y' =>
          have hx := h.word.lets.mem x (by simp)
          obtain ⟨i, rfl⟩ : ∃ i : Nat, x = i := ⟨x.toNat, by omega⟩
          have hi : i < c.length := by omega
          have hlen := h.len
          rw [List.length_cons] at hlen
          have hfew := h.word.few
          rw [List.length_cons] at hfew
          have hL' : Lets c 14 y' := lets_of hC (by omega) fun z hz => h.word.lets.mem z (by simp [hz])
          have hnl := (nfI_ok (hL'.mono (show 14 ≤ 30 by omega))).len
          have him : imI c ((i : Int) :: y') = imI c U := by
            have := (nfI_ok (h.word.lets.mono (show 15 ≤ 30 by omega))).img
            rw [h.nf] at this
            exact this.symm
          have hy0 := imI_ne (hL'.mono (show 14 ≤ 30 by omega)) hi
          have hnn : ¬ (imI c y').getD i 0 < 0 := fun hneg => by
            have h1 := nfI_down (hL'.mono (show 14 ≤ 29 by omega)) hi hneg
            rw [h.nf] at h1
            omega
          have hneg : (imI c U).getD i 0 < 0 := by
            rw [← him, imI_cons]
            have := imI_self (hL'.mono (show 14 ≤ 28 by omega)) hi
            rw [imI_cons] at this
            omega
          refine ⟨i, mem_descL.2 ⟨by rw [imI_length]; exact hi, hneg⟩, List.mem_map.2 ⟨y', ?_, rfl⟩⟩
          rw [← subN_img hU hi hneg]
          have hls := hU.len_sub hi hneg
          refine (ih _ (hU.sub (by omega) (by omega)) (by omega) y').2 ⟨(hL'.mono (by omega)).word, ?_, by omega⟩
          have e1 : imI c y' = imI c (subN c U (i : Int)) := by
            rw [subN_img hU hi hneg, ← him, ← imI_cons]
            exact (imI_back (hL'.mono (show 14 ≤ 28 by omega)) hi).symm
          rw [nfI_img e1]
          exact (hU.sub (i := (i : Int)) (by omega) (by omega)).self
theorem lexCmp_cons (x : Int) (a b : List Int) : lexCmp (x :: a) (x :: b) = lexCmp a b := by simp [lexCmp]
theorem allW_asc {c : List (List Int)} : ∀ (f : Nat) (U : List Int), Nw c U → U.length ≤ f → Asc (allW c f (imI c U)) := by
  intro f
  induction f with
  | zero => intro U _ _; exact List.pairwise_singleton _ _
  | succ f ih =>
    intro U hU hl
    unfold allW
    split
    · exact List.pairwise_singleton _ _
    · rename_i hd
      have hsub : ∀ i, i < c.length → (imI c U).getD i 0 < 0 → Nw c (subN c U (i : Int)) ∧ (subN c U (i : Int)).length + 1 = U.length ∧ refl c i (imI c U) = imI c (subN c U (i : Int)) := fun i h1 h2 =>
        ⟨hU.sub (by omega) (by omega), hU.len_sub h1 h2, (subN_img hU h1 h2).symm⟩
      have hlen : ∀ i, i < c.length → (imI c U).getD i 0 < 0 → ∀ y ∈ allW c f (refl c i (imI c U)), y.length + 1 = U.length := fun i h1 h2 y hy => by
        obtain ⟨q1, q2, q3⟩ := hsub i h1 h2
        rw [q3] at hy
        have := ((mem_allW f _ q1 (by omega) y).1 hy).len
        omega
      unfold Asc
      rw [List.pairwise_flatMap]
      refine ⟨fun i hi => ?_, ?_⟩
      · obtain ⟨h1, h2⟩ := mem_descL.1 hi
        rw [imI_length] at h1
        obtain ⟨q1, q2, q3⟩ := hsub i h1 h2
        rw [List.pairwise_map]
        have ha := ih _ q1 (by omega)
        rw [← q3] at ha
        refine List.Pairwise.imp_of_mem ?_ ha
        intro a b ha' hb' hab
        have l1 := hlen i h1 h2 a ha'
        have l2 := hlen i h1 h2 b hb'
        unfold wordCmp at hab ⊢
        rw [if_neg (by omega), if_neg (by omega)] at hab
        rw [if_neg (by simp; omega), if_neg (by simp; omega), lexCmp_cons]
        exact hab
      · have hp : (descL (imI c U)).Pairwise (· < ·) := List.Pairwise.filter _ List.pairwise_lt_range
        refine List.Pairwise.imp_of_mem ?_ hp
        intro i j hi hj hij x hx y hy
        obtain ⟨h1, h2⟩ := mem_descL.1 hi
        obtain ⟨h3, h4⟩ := mem_descL.1 hj
        rw [imI_length] at h1 h3
        obtain ⟨a, ha, rfl⟩ := List.mem_map.1 hx
        obtain ⟨b, hb, rfl⟩ := List.mem_map.1 hy
        have l1 := hlen i h1 h2 a ha
        have l2 := hlen j h3 h4 b hb
        unfold wordCmp
        rw [if_neg (by simp; omega), if_neg (by simp; omega)]
        simp only [lexCmp]
        rw [if_pos (by omega)]
        omega
end Go.Proofs.YtkjglfafphffiaaGreatDoor
