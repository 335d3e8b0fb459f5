/- Images of roots under words, sequences of roots: contracts of both. Normal forms of words as the machine has them; lengths change by one. Plain law. The table of products with generators from the front. Plain law. TrimPoly, MulPoly, ProductCounts: contracts. MulPoly, ProductCounts: contracts. -/
import Derived.Test.YtobeigdjhepedaaGreatDoorG31
import Derived.Test.YtobeigdjhepedaaGreatDoorG01
import Derived.Deep.RegionHeld3
import Derived.Test.YtobeigdjhepedaaGreatDoorG23
import Derived.Test.YtobeigdjhepedaaGreatDoorG30
import Derived.Test.YtobeigdjhepedaaGreatDoorBase
namespace Go.Proofs.YtobeigdjhepedaaGreatDoor
set_option maxRecDepth 100000
open Go.RowKit

structure WordOk (c : List (List Int)) (v : List Int) : Prop where
  isC : IsC c
  few : v.length ≤ 15
  inr : ∀ k, k < v.length → 0 ≤ v.getD k 0 ∧ v.getD k 0 < (c.length : Int)
theorem wordOk_of {c : List (List Int)} {v : List Int} (h : isWordB c v = true) : WordOk c v := by
  obtain ⟨h1, h2, h3⟩ := isWordB_of h
  exact ⟨h1, h2, fun k hk => h3 _ (by simp [List.getD, hk])⟩
theorem WordOk.isWord {c : List (List Int)} {v : List Int} (h : WordOk c v) : isWordB c v = true := by
  unfold isWordB
  rw [decide_eq_true h.isC, decide_eq_true h.few, letters_in h.inr]
  rfl
theorem WordOk.take {c : List (List Int)} {v : List Int} (h : WordOk c v) (k : Nat) : WordOk c (v.take k) :=
  ⟨h.isC, by rw [List.length_take]; have := h.few; omega, fun j hj => by
    have hj' : j < v.length := by rw [List.length_take] at hj; omega
    have hjk : j < k := by rw [List.length_take] at hj; omega
    have := h.inr j hj'
    simpa [List.getD, hj', hjk] using this⟩

/-- a root's image under a word -/
def actR (c : List (List Int)) : List Int → List Int → List Int
  | [], r => r
  | i :: l, r => mirL c i.toNat (actR c l r)
theorem actR_length (c : List (List Int)) (l r : List Int) : (actR c l r).length = r.length := by
  induction l with
  | nil => rfl
  | cons i l ih => rw [actR, mirL_length, ih]
theorem actR_drop (c : List (List Int)) (l r : List Int) (k : Nat) (hk : k < l.length) : actR c (l.drop k) r = mirL c (l.getD k 0).toNat (actR c (l.drop (k + 1)) r) := by
  rw [List.drop_eq_getElem_cons hk]
  simp [actR, List.getD, hk]
/-- the roots of a word's letters -/
def seqL (c : List (List Int)) (v : List Int) : List (List Int) := (List.range v.length).map fun k => actR c (v.take k) (simpL c.length (v.getD k 0).toNat)
def seqTo (c : List (List Int)) (v : List Int) (t : Nat) : List (List Int) := (List.range t).map fun k => actR c (v.take k) (simpL c.length (v.getD k 0).toNat)
theorem seqTo_succ (c : List (List Int)) (v : List Int) (t : Nat) : seqTo c v (t + 1) = seqTo c v t ++ [actR c (v.take t) (simpL c.length (v.getD t 0).toNat)] := by simp [seqTo, List.range_succ]

def seqA (c : List (List Int)) (v : List Int) : List (List Int) := if isWordB c v = true then seqL c v else []

end Go.Proofs.YtobeigdjhepedaaGreatDoor
namespace Go.Proofs.YtobeigdjhepedaaGreatDoor
set_option maxRecDepth 100000
open Go.RowKit
namespace Game
variable {A : Mat} {n : Nat}

/-- a word and its play are of the same parity -/
theorem play_parity (hC : Car A n) {d : Vec} (hd : ∀ i, i < n → 0 < d i) : ∀ (w : List Nat), (∀ i ∈ w, i < n) → ∀ l, Plays A n l (act A w d) d → l.length % 2 = w.length % 2 := by
  have hd0 : Dom n d := fun i hi => by have := hd i hi; omega
  intro w
  induction w with
  | nil =>
    intro _ l h
    have := Dom.stuck hd0 h
    rw [this]
  | cons i w ih =>
    intro hw l h
    have hi := hw i (by simp)
    obtain ⟨l0, h1, h2⟩ := word_play hC hd0 w (fun j hj => hw j (List.mem_cons_of_mem _ hj))
    have hpar := ih (fun j hj => hw j (List.mem_cons_of_mem _ hj)) l0 h1
    simp only [act, List.length_cons] at h ⊢
    generalize act A w d = x at *
    rcases Int.lt_trichotomy (x i) 0 with g | g | g
    · obtain ⟨l', g1, g2, g3⟩ := h1.first hC hd0 hi g
      have := (Plays.unique hC hd0 (Plays.cons.1 g1).2.2 h).1
      omega
    · exact absurd g (h1.ne hC hd hi)
    · have hp : Plays A n (i :: l0) (s A i x) d := Plays.cons.2 ⟨hi, by simp only [s, hC.two i hi]; omega, by rw [s_s hC hi]; exact h1⟩
      have := (Plays.unique hC hd0 hp h).1
      rw [List.length_cons] at this
      omega
end Game
open Game

/-- letters of a matrix, at most m of them -/
structure Lets (c : List (List Int)) (m : Nat) (v : List Int) : Prop where
  isC : IsC c
  few : v.length ≤ m
  inr : ∀ k, k < v.length → 0 ≤ v.getD k 0 ∧ v.getD k 0 < (c.length : Int)
theorem WordOk.lets {c : List (List Int)} {v : List Int} (h : WordOk c v) : Lets c 15 v := ⟨h.isC, h.few, h.inr⟩
theorem Lets.word {c : List (List Int)} {v : List Int} (h : Lets c 15 v) : WordOk c v := ⟨h.isC, h.few, h.inr⟩
theorem Lets.mono {c : List (List Int)} {m m' : Nat} {v : List Int} (h : Lets c m v) (hm : m ≤ m') : Lets c m' v := ⟨h.isC, Nat.le_trans h.few hm, h.inr⟩
theorem Lets.mem {c : List (List Int)} {m : Nat} {v : List Int} (h : Lets c m v) : ∀ x ∈ v, 0 ≤ x ∧ x < (c.length : Int) := fun x hx => by
  obtain ⟨k, hk, rfl⟩ := List.mem_iff_getElem.1 hx
  have := h.inr k hk
  simpa [List.getD, hk] using this
theorem lets_of {c : List (List Int)} {m : Nat} {v : List Int} (hC : IsC c) (hl : v.length ≤ m) (h : ∀ x ∈ v, 0 ≤ x ∧ x < (c.length : Int)) : Lets c m v :=
  ⟨hC, hl, fun k hk => h _ (by simp [List.getD, hk])⟩
theorem Lets.app {c : List (List Int)} {m k : Nat} {v u : List Int} (h : Lets c m v) (h' : Lets c k u) : Lets c (m + k) (v ++ u) :=
  lets_of h.isC (by rw [List.length_append]; have := h.few; have := h'.few; omega) fun x hx => by
    rcases List.mem_append.1 hx with g | g
    · exact h.mem x g
    · exact h'.mem x g
theorem Lets.one {c : List (List Int)} (hC : IsC c) {i : Int} (h0 : 0 ≤ i) (h1 : i < (c.length : Int)) : Lets c 1 [i] :=
  lets_of hC (by simp) fun x hx => by rw [List.mem_singleton] at hx; subst hx; exact ⟨h0, h1⟩
theorem Lets.nats {c : List (List Int)} {m : Nat} {v : List Int} (h : Lets c m v) : intsOf (v.map Int.toNat) = v := by
  unfold intsOf
  rw [List.map_map]
  have : ∀ x ∈ v, ((fun (t : Nat) => (t : Int)) ∘ Int.toNat) x = id x := fun x hx => by
    have := (h.mem x hx).1
    simp; omega
  rw [List.map_congr_left this, List.map_id]
theorem Lets.nats_lt {c : List (List Int)} {m : Nat} {v : List Int} (h : Lets c m v) : ∀ i ∈ v.map Int.toNat, i < c.length := fun i hi => by
  obtain ⟨x, hx, rfl⟩ := List.mem_map.1 hi
  have := h.mem x hx
  omega
abbrev imI (c : List (List Int)) (v : List Int) : List Int := actW c v (onesL c.length)
theorem imI_length (c : List (List Int)) (v : List Int) : (imI c v).length = c.length := by unfold imI; rw [actW_length]; exact onesL_len _
theorem imI_cons (c : List (List Int)) (i : Nat) (v : List Int) : imI c ((i : Int) :: v) = refl c i (imI c v) := rfl
/-- what a normal form is -/
structure NfI (c : List (List Int)) (v y : List Int) : Prop where
  norm : normG c 30 (imI c v) = some y
  len : y.length ≤ v.length
  par : y.length % 2 = v.length % 2
  lets : Lets c v.length y
  img : imI c y = imI c v
theorem nfI_ex {c : List (List Int)} {v : List Int} (h : Lets c 30 v) : ∃ W, NfOf c (v.map Int.toNat) W ∧ nfI c v = intsOf W := by
  obtain ⟨W, hW⟩ := nf_of h.isC h.nats_lt (by rw [List.length_map]; exact h.few)
  refine ⟨W, hW, ?_⟩
  have := nfI_of hW
  rwa [h.nats] at this
theorem nfI_ok {c : List (List Int)} {v : List Int} (h : Lets c 30 v) : NfI c v (nfI c v) := by
  obtain ⟨W, hW, e⟩ := nfI_ex h
  have hn := hW.norm
  rw [h.nats] at hn
  have hi := hW.img
  rw [h.nats] at hi
  have hl := hW.len
  rw [List.length_map] at hl
  have hwl : (intsOf W).length = W.length := by simp [intsOf]
  rw [e]
  refine ⟨hn, by rw [hwl]; exact hl, ?_, lets_of h.isC (by rw [hwl]; exact hl) fun x hx => ?_, hi⟩
  · rw [hwl]
    have := play_parity (car_of h.isC) (ones_pos c.length) _ h.nats_lt W hW.plays
    rwa [List.length_map] at this
  · unfold intsOf at hx
    obtain ⟨i, hi', rfl⟩ := List.mem_map.1 hx
    have := hW.lt i hi'
    omega
/-- a normal form is its own -/
theorem nfI_self {c : List (List Int)} {v : List Int} (h : Lets c 30 v) : nfI c (nfI c v) = nfI c v := by
  have h1 := nfI_ok h
  unfold nfI
  rw [show actW c ((normG c 30 (actW c v (onesL c.length))).getD []) (onesL c.length) = actW c v (onesL c.length) from h1.img]
theorem nfI_img {c : List (List Int)} {v u : List Int} (h : imI c v = imI c u) : nfI c v = nfI c u := by
  unfold nfI
  rw [show actW c v (onesL c.length) = actW c u (onesL c.length) from h]
/-- no number of an image is 0 -/
theorem imI_ne {c : List (List Int)} {v : List Int} (h : Lets c 30 v) {i : Nat} (hi : i < c.length) : (imI c v).getD i 0 ≠ 0 :=
  normG_nz (nfI_ok h).norm i (by rw [imI_length]; exact hi)
/-- the element is shorter behind a letter at which its image is negative -/
theorem nfI_down {c : List (List Int)} {v : List Int} (h : Lets c 29 v) {i : Nat} (hi : i < c.length) (hneg : (imI c v).getD i 0 < 0) : (nfI c ((i : Int) :: v)).length + 1 = (nfI c v).length := by
  have hC := h.isC
  have hA := car_of hC
  have h30 := h.mono (show 29 ≤ 30 by omega)
  have h2 : Lets c 30 ((i : Int) :: v) := lets_of hC (by rw [List.length_cons]; have := h.few; omega) fun x hx => by
    rcases List.mem_cons.1 hx with g | g
    · subst g; omega
    · exact h.mem x g
  obtain ⟨W, hW, e⟩ := nfI_ex h30
  obtain ⟨X, hX, e2⟩ := nfI_ex h2
  have hwl : (intsOf W).length = W.length := by simp [intsOf]
  have hxl : (intsOf X).length = X.length := by simp [intsOf]
  rw [e, e2, hwl, hxl]
  have hv : toV (imI c v) = act (ent c) (v.map Int.toNat) (toV (onesL c.length)) := by
    have := toV_image hC h.nats_lt (by rw [List.length_map]; have := h.few; omega)
    rwa [h.nats] at this
  have hneg' : act (ent c) (v.map Int.toNat) (toV (onesL c.length)) i < 0 := by rw [← hv]; exact hneg
  obtain ⟨l', g1, g2, -⟩ := hW.plays.first hA (ones_dom _) hi hneg'
  have hp := (Plays.cons.1 g1).2.2
  have hm : (((i : Int) :: v).map Int.toNat) = i :: v.map Int.toNat := by rw [List.map_cons, Int.toNat_natCast]
  have hXp := hX.plays
  rw [hm] at hXp
  have := (Plays.unique hA (ones_dom _) hp hXp).1
  omega

/-! ### the star product -/
def starS (c : List (List Int)) (x : List Int) (i : Int) : List Int := if (nfI c (x ++ [i])).length < x.length then x else nfI c (x ++ [i])
def starTo (c : List (List Int)) (v : List Int) : Nat → List Int
  | 0 => []
  | k + 1 => starS c (starTo c v k) (v.getD k 0)
def starL (c : List (List Int)) (v : List Int) : List Int := starTo c v v.length
theorem starS_lets {c : List (List Int)} {m : Nat} {x : List Int} {i : Int} (h : Lets c m x) (hm : m ≤ 29) (h0 : 0 ≤ i) (h1 : i < (c.length : Int)) : Lets c (m + 1) (starS c x i) := by
  have hx := h.app (Lets.one h.isC h0 h1)
  unfold starS
  split
  · exact h.mono (by omega)
  · exact ((nfI_ok (hx.mono (by omega))).lets).mono (by have := hx.few; omega)
theorem starTo_lets {c : List (List Int)} {v : List Int} (h : WordOk c v) : ∀ k, k ≤ v.length → Lets c k (starTo c v k)
  | 0, _ => ⟨h.isC, Nat.le_refl _, fun k hk => by simp [starTo] at hk⟩
  | k + 1, hk => by
    have h1 := starTo_lets h k (by omega)
    have h2 := h.inr k (by omega)
    exact starS_lets h1 (by have := h.few; omega) h2.1 h2.2
/-- the lengths differ by one -/
theorem star_ne {c : List (List Int)} {m : Nat} {x : List Int} {i : Int} (h : Lets c m x) (hm : m ≤ 29) (h0 : 0 ≤ i) (h1 : i < (c.length : Int)) : (nfI c (x ++ [i])).length ≠ x.length := by
  have hx := (h.app (Lets.one h.isC h0 h1)).mono (show m + 1 ≤ 30 by omega)
  have := (nfI_ok hx).par
  rw [List.length_append, List.length_singleton] at this
  omega
end Go.Proofs.YtobeigdjhepedaaGreatDoor
namespace Go.Proofs.YtobeigdjhepedaaGreatDoor
set_option maxRecDepth 100000
open Go.RowKit Game

def lrow (c L : List (List Int)) (x : List Int) (t : Nat) : List Int := (List.range t).map fun i : Nat => idxL L (nfI c ([(i : Int)] ++ x))
theorem lrow_succ (c L : List (List Int)) (x : List Int) (t : Nat) : lrow c L x (t + 1) = lrow c L x t ++ [idxL L (nfI c ([(t : Int)] ++ x))] := by simp [lrow, List.range_succ]
theorem lrow_length (c L : List (List Int)) (x : List Int) (t : Nat) : (lrow c L x t).length = t := by simp [lrow]
def ltab (c L : List (List Int)) (k : Nat) : List (List Int) := (L.take k).map fun x => lrow c L x c.length
theorem ltab_succ {c L : List (List Int)} {k : Nat} (hk : k < L.length) : ltab c L (k + 1) = ltab c L k ++ [lrow c L (L.getD k []) c.length] := by
  unfold ltab
  rw [List.take_succ_eq_append_getElem hk, List.map_append]
  simp [List.getD, hk]
theorem ltab_length {c L : List (List Int)} {k : Nat} (hk : k ≤ L.length) : (ltab c L k).length = k := by simp [ltab]; omega
/-- LeftTable -/
def leftT (c : List (List Int)) : List (List Int) := ltab c (elA c) (elA c).length
theorem elem_lets {c : List (List Int)} (hG : Grp c) {x : List Int} (hx : x ∈ elemL c) : Lets c 24 x := by
  obtain ⟨n, W, hW, rfl⟩ := (hG.mem x).1 hx
  refine ⟨hG.hC, by rw [intsOf_length, hW.len]; exact elt24 hG.hC hG.fin hW, fun k hk => ?_⟩
  rw [intsOf_length] at hk
  have h := hW.nf.lt W[k] (List.getElem_mem _)
  simp [intsOf, List.getD, hk]
  omega
theorem left_lets {c : List (List Int)} (hG : Grp c) {x : List Int} (hx : x ∈ elemL c) {i : Nat} (hi : i < c.length) : Lets c 30 ([(i : Int)] ++ x) :=
  ((Lets.one hG.hC (by omega) (by omega)).app (elem_lets hG hx)).mono (by omega)
theorem left_mem {c : List (List Int)} (hG : Grp c) {x : List Int} (hx : x ∈ elemL c) {i : Nat} (hi : i < c.length) : nfI c ([(i : Int)] ++ x) ∈ elemL c := by
  have hL := left_lets hG hx hi
  obtain ⟨W, hW, he⟩ := nfI_ex hL
  rw [he]
  exact (hG.mem _).2 ⟨_, W, ⟨hW.self, rfl⟩, rfl⟩
theorem idx_i64 {L : List (List Int)} (h : L.length ≤ 1048576) (v : List Int) : -1 ≤ idxL L v ∧ idxL L v < 1048576 := by
  have h1 := idx_ge (L := L) (v := v)
  have h2 := idx_lt (L := L) (v := v)
  omega
end Go.Proofs.YtobeigdjhepedaaGreatDoor
namespace Go.Proofs.YtobeigdjhepedaaGreatDoor
set_option maxRecDepth 100000
open Go.RowKit

/-- how many numbers are left when zeros at the end are removed, of the first k -/
def trimN (xs : List Int) : Nat → Nat
  | 0 => 0
  | k + 1 => if xs.getD k 0 = 0 then trimN xs k else k + 1
def trim (xs : List Int) : List Int := xs.take (trimN xs xs.length)
theorem trimN_le (xs : List Int) (k : Nat) : trimN xs k ≤ k := by
  induction k with
  | zero => exact Nat.le_refl _
  | succ k ih => simp only [trimN]; split <;> omega
theorem trimN_zero {xs : List Int} {k : Nat} (hk : k < xs.length) (h : xs[k] = 0) : trimN xs (k + 1) = trimN xs k := by
  simp [trimN, List.getD, hk, h]
theorem trimN_stay {xs : List Int} {k : Nat} (hk : k < xs.length) (h : ¬ xs[k] = 0) : trimN xs (k + 1) = k + 1 := by
  simp [trimN, List.getD, hk, h]
theorem trim_length (xs : List Int) : (trim xs).length = trimN xs xs.length := by
  unfold trim; rw [List.length_take]; have := trimN_le xs xs.length; omega

set_option maxHeartbeats 400000 in
theorem impl_TrimPoly_any (g o n c : Nat) (xs : List Int) (w : World) (hn : xs.length = n) (hx : xs.length ≤ 1099511627776) (hcap : n ≤ c) (hg : g < w.heap.size) (hc : Cells w g o xs) :
    Calls Tryz.prog 142 #[(Value.slice (some ⟨g, o, none⟩) n c)] w (GotInts w (trim xs)) := by
  subst hn
  go_enter Tryz.func142, Tryz.ntmps142
  go_wp2
  go_loopw [3] (fun i wr => ∃ k : Nat, k ≤ xs.length ∧ i = .int .i64 k ∧ trimN xs xs.length = trimN xs k ∧ ∃ m, wr = w.drewN m) (fun i _ => (intOf i).toNat)
  case atStart => exact ⟨xs.length, Nat.le_refl _, rfl, rfl, 0, rfl⟩
  case round =>
    obtain ⟨k, hk, rfl, he, m, rfl⟩ := hrel
    have He := Lib.hid he; clear he
    by_cases h0 : 0 < k
    · have d1 : decide ((0 : Int) < (k : Int)) = true := by simp; omega
      have l0 : k - 1 < xs.length := by omega
      have c0 := hc (k - 1) l0
      have i1 : ((k : Int) - 1).toNat = k - 1 := by omega
      have i2 : 1 ≤ k := h0
      by_cases hz : xs[k - 1] = 0
      · have d2 : (xs[k - 1] == 0) = true := by simpa using hz
        have hs := trimN_zero l0 hz
        have Hz := Lib.hid hz; clear hz
        have Hs := Lib.hid hs; clear hs
        go_wp2
        go_roundw
        case rel => exact ⟨k - 1, by omega, by go_num, by rw [He.out, ← Hs.out, Nat.sub_add_cancel i2], m, rfl⟩
        case measure => simp [intOf]; omega
      · have d2 : (xs[k - 1] == 0) = false := by simpa using hz
        have hs := trimN_stay l0 hz
        rw [Nat.sub_add_cancel i2] at hs
        have Hz := Lib.hid hz; clear hz
        have Hs := Lib.hid hs; clear hs
        have hlen : (xs.take k).length = k := by rw [List.length_take]; omega
        have Hlen := Lib.hid hlen; clear hlen
        go_wp2_with (at_builtin; refine wpList_clone rfl _ _ rfl g o k c (xs.take k) Hlen.out hg (hc.take k) rfl rfl (by rw [Hlen.out]; omega) ?_)
        intro g1 c1 w1 ho hb
        go_wp2
        go_ret
        have e : trim xs = xs.take k := by unfold trim; rw [He.out, Hs.out]
        rw [e]
        exact GotInts.mk' g1 c1 Hlen.out ho ((below_drewN' w m).trans hb)
    · obtain rfl : k = 0 := by omega
      go_wp2_with (at_builtin; refine wpList_clone rfl _ _ rfl g o 0 c [] rfl hg (hc.take 0) rfl rfl (by simp) ?_)
      intro g1 c1 w1 ho hb
      go_wp2
      go_ret
      have e : trim xs = [] := by unfold trim; rw [He.out]; rfl
      rw [e]
      exact GotInts.mk' g1 c1 rfl ho ((below_drewN' w m).trans hb)

set_option maxHeartbeats 400000 in
theorem spec_TrimPoly_any (g o n c : Nat) (xs : List Int) (w : World) (hn : xs.length = n) (hx : xs.length ≤ 1099511627776) (hcap : n ≤ c) (hg : g < w.heap.size) (hc : Cells w g o xs) :
    Calls Tryz.prog 138 #[(Value.slice (some ⟨g, o, none⟩) n c)] w (GotInts w (trim xs)) := by
  subst hn
  go_enter Tryz.func138, Tryz.ntmps138
  go_wp2
  go_loopw [3] (fun i wr => ∃ k : Nat, k ≤ xs.length ∧ i = .int .i64 k ∧ trimN xs xs.length = trimN xs k ∧ ∃ m, wr = w.drewN m) (fun i _ => (intOf i).toNat)
  case atStart => exact ⟨xs.length, Nat.le_refl _, rfl, rfl, 0, rfl⟩
  case round =>
    obtain ⟨k, hk, rfl, he, m, rfl⟩ := hrel
    have He := Lib.hid he; clear he
    by_cases h0 : 0 < k
    · have d1 : decide ((0 : Int) < (k : Int)) = true := by simp; omega
      have l0 : k - 1 < xs.length := by omega
      have c0 := hc (k - 1) l0
      have i1 : ((k : Int) - 1).toNat = k - 1 := by omega
      have i2 : 1 ≤ k := h0
      by_cases hz : xs[k - 1] = 0
      · have d2 : (xs[k - 1] == 0) = true := by simpa using hz
        have hs := trimN_zero l0 hz
        have Hz := Lib.hid hz; clear hz
        have Hs := Lib.hid hs; clear hs
        go_wp2
        go_roundw
        case rel => exact ⟨k - 1, by omega, by go_num, by rw [He.out, ← Hs.out, Nat.sub_add_cancel i2], m, rfl⟩
        case measure => simp [intOf]; omega
      · have d2 : (xs[k - 1] == 0) = false := by simpa using hz
        have hs := trimN_stay l0 hz
        rw [Nat.sub_add_cancel i2] at hs
        have Hz := Lib.hid hz; clear hz
        have Hs := Lib.hid hs; clear hs
        have hlen : (xs.take k).length = k := by rw [List.length_take]; omega
        have Hlen := Lib.hid hlen; clear hlen
        go_wp2_with (at_builtin; refine wpList_clone rfl _ _ rfl g o k c (xs.take k) Hlen.out hg (hc.take k) rfl rfl (by rw [Hlen.out]; omega) ?_)
        intro g1 c1 w1 ho hb
        go_wp2
        go_ret
        have e : trim xs = xs.take k := by unfold trim; rw [He.out, Hs.out]
        rw [e]
        exact GotInts.mk' g1 c1 Hlen.out ho ((below_drewN' w m).trans hb)
    · obtain rfl : k = 0 := by omega
      go_wp2_with (at_builtin; refine wpList_clone rfl _ _ rfl g o 0 c [] rfl hg (hc.take 0) rfl rfl (by simp) ?_)
      intro g1 c1 w1 ho hb
      go_wp2
      go_ret
      have e : trim xs = [] := by unfold trim; rw [He.out]; rfl
      rw [e]
      exact GotInts.mk' g1 c1 rfl ho ((below_drewN' w m).trans hb)

end Go.Proofs.YtobeigdjhepedaaGreatDoor
namespace Go.Proofs.YtobeigdjhepedaaGreatDoor
set_option maxRecDepth 100000
open Go.RowKit

def addAt (out : List Int) (t : Nat) (v : Int) : List Int := out.set t (wrap64 (out.getD t 0 + v))
def rowTo (out : List Int) (x : Int) (ys : List Int) (i : Nat) : Nat → List Int
  | 0 => out
  | k + 1 => addAt (rowTo out x ys i k) (i + k) (wrap64 (x * ys.getD k 0))
def mulTo (xs ys : List Int) : Nat → List Int
  | 0 => List.replicate (xs.length + ys.length - 1) 0
  | i + 1 => rowTo (mulTo xs ys i) (xs.getD i 0) ys i ys.length
def mul (xs ys : List Int) : List Int := if xs.length = 0 ∨ ys.length = 0 ∨ 62 < xs.length + ys.length then [] else trim (mulTo xs ys xs.length)
theorem rowTo_length (out : List Int) (x : Int) (ys : List Int) (i k : Nat) : (rowTo out x ys i k).length = out.length := by
  induction k with
  | zero => rfl
  | succ k ih => simp [rowTo, addAt, ih]
theorem mulTo_length (xs ys : List Int) (i : Nat) : (mulTo xs ys i).length = xs.length + ys.length - 1 := by
  induction i with
  | zero => simp [mulTo]
  | succ i ih => rw [mulTo, rowTo_length, ih]
theorem mul_length_le (xs ys : List Int) : (mul xs ys).length ≤ 61 := by
  unfold mul
  split
  · simp
  · have h1 := trimN_le (mulTo xs ys xs.length) (mulTo xs ys xs.length).length
    rw [trim_length]
    rw [mulTo_length] at h1 ⊢
    omega
theorem rowTo_succ {out : List Int} {x : Int} {ys : List Int} {i k : Nat} (hk : k < ys.length) (h : i + k < (rowTo out x ys i k).length) :
    (rowTo out x ys i k).set (i + k) (wrap64 ((rowTo out x ys i k)[i + k] + wrap64 (x * ys[k]))) = rowTo out x ys i (k + 1) := by
  simp [rowTo, addAt, List.getD, hk, h]

theorem row_step {xs ys R : List Int} {i k : Nat} (hi : i < xs.length) (hk : k < ys.length) (hl : i + k < R.length) (hR : rowTo (mulTo xs ys i) (xs.getD i 0) ys i k = R) :
    R.set (i + k) (wrap64 (R[i + k] + wrap64 (xs[i] * ys[k]))) = rowTo (mulTo xs ys i) (xs.getD i 0) ys i (k + 1) := by
  subst hR
  rw [← rowTo_succ hk hl]
  simp [List.getD, hi]

set_option maxHeartbeats 1000000 in
theorem spec_MulPoly_any (g1 o1 n1 c1 g2 o2 n2 c2 : Nat) (xs ys : List Int) (w : World) (hn1 : xs.length = n1) (hn2 : ys.length = n2) (hx : xs.length ≤ 1099511627776) (hy : ys.length ≤ 1099511627776)
    (hg1 : g1 < w.heap.size) (hg2 : g2 < w.heap.size) (hc1 : Cells w g1 o1 xs) (hc2 : Cells w g2 o2 ys) :
    Calls Tryz.prog 169 #[(Value.slice (some ⟨g1, o1, none⟩) n1 c1), (Value.slice (some ⟨g2, o2, none⟩) n2 c2)] w (GotInts w (mul xs ys)) := by
  subst hn1; subst hn2
  by_cases hbad : xs.length = 0 ∨ ys.length = 0 ∨ 62 < xs.length + ys.length
  · have e : mul xs ys = [] := by unfold mul; rw [if_pos hbad]
    rw [e]
    by_cases h1 : xs.length = 0
    · have d1 : ((xs.length : Int) == 0) = true := by simp [h1]
      have H1 := Lib.hid h1; clear h1 hbad
      go_enter Tryz.func169, Tryz.ntmps169
      go_wp2
      go_ret
      exact GotInts.mk' _ _ rfl (Own.empty (Nat.le_refl _)) ((Below.refl _ _).alloc (Nat.le_refl _) _)
    · have d1 : ((xs.length : Int) == 0) = false := by simp; intro h; simp [h] at h1
      by_cases h2 : ys.length = 0
      · have d2 : ((ys.length : Int) == 0) = true := by simp [h2]
        have H1 := Lib.hid h1; have H2 := Lib.hid h2; clear h1 h2 hbad
        go_enter Tryz.func169, Tryz.ntmps169
        go_wp2
        go_ret
        exact GotInts.mk' _ _ rfl (Own.empty (Nat.le_refl _)) ((Below.refl _ _).alloc (Nat.le_refl _) _)
      · have d2 : ((ys.length : Int) == 0) = false := by simp; intro h; simp [h] at h2
        have d3 : decide ((62 : Int) < (xs.length : Int) + (ys.length : Int)) = true := by simp; omega
        have H1 := Lib.hid h1; have H2 := Lib.hid h2; clear h1 h2 hbad
        go_enter Tryz.func169, Tryz.ntmps169
        go_wp2
        go_ret
        exact GotInts.mk' _ _ rfl (Own.empty (Nat.le_refl _)) ((Below.refl _ _).alloc (Nat.le_refl _) _)
  · have hp1 : 0 < xs.length := by omega
    have hp2 : 0 < ys.length := by omega
    have hsm : xs.length + ys.length ≤ 62 := by omega
    have e : mul xs ys = trim (mulTo xs ys xs.length) := by unfold mul; rw [if_neg hbad]
    rw [e]
    clear e hbad
    have d1 : ((xs.length : Int) == 0) = false := by simp; intro h; simp [h] at hp1
    have d2 : ((ys.length : Int) == 0) = false := by simp; intro h; simp [h] at hp2
    have d3 : decide ((62 : Int) < (xs.length : Int) + (ys.length : Int)) = false := by simp; omega
    go_enter Tryz.func169, Tryz.ntmps169
    go_wp2_with (at_make; refine wpList_make_ints rfl _ _ rfl w.heap.size (xs.length + ys.length - 1) _ (by omega) rfl rfl (by omega) (Nat.le_refl _) ?_)
    intro w1 hown0 hgr
    have hb0 := below_of_grown hgr
    clear hgr
    go_wp2
    go_loopw [6] (fun i wr => ∃ k : Nat, k ≤ xs.length ∧ i = .int .i64 k ∧ Own wr w.heap.size w.heap.size (xs.length + ys.length - 1) (mulTo xs ys k) ∧ Below w.heap.size w wr) (fun i _ => xs.length - (intOf i).toNat)
    case atStart => exact ⟨0, Nat.zero_le _, rfl, hown0, hb0⟩
    case round =>
      obtain ⟨i, hi, rfl, ho, hb⟩ := hrel
      by_cases hlt : i < xs.length
      · have h1 := hc1.below hb hg1 i hlt
        obtain ⟨wo, rfl⟩ : ∃ wo : World, wo = wr := ⟨_, rfl⟩
        go_wp2
        go_loopw [7] (fun j wr => ∃ k : Nat, k ≤ ys.length ∧ j = .int .i64 k ∧ Own wr w.heap.size w.heap.size (xs.length + ys.length - 1) (rowTo (mulTo xs ys i) (xs.getD i 0) ys i k) ∧ Below w.heap.size w wr) (fun j _ => ys.length - (intOf j).toNat)
        case atStart => exact ⟨0, Nat.zero_le _, rfl, ho, hb⟩
        case round =>
          obtain ⟨k, hk, rfl, ho2, hb2⟩ := hrel
          by_cases hlt2 : k < ys.length
          · have q1 := hc1.below hb2 hg1 i hlt
            have q2 := hc2.below hb2 hg2 k hlt2
            obtain ⟨R, hR⟩ : ∃ R, rowTo (mulTo xs ys i) (xs.getD i 0) ys i k = R := ⟨_, rfl⟩
            have hl : i + k < R.length := by rw [← hR, rowTo_length, mulTo_length]; omega
            rw [hR] at ho2
            have q3 := ho2.cell (i + k) hl
            have f3 := ho2.frozen (i + k)
            have HR := Lib.hid hR; clear hR
            go_wp2
            go_region
            all_goals go_wp2
            all_goals
              go_roundw
              case rel =>
                have hs := ho2.set (i + k) (wrap64 (R[i + k] + wrap64 (xs[i] * ys[k])))
                rw [row_step hlt hlt2 hl HR.out] at hs
                exact ⟨k + 1, by omega, by go_num, by first | exact hs.1.drew | exact hs.1, by first | exact (hb2.grown hs.2 hb2.size (by intro j hj; cases hj; exact ho2.base)).drew | exact hb2.grown hs.2 hb2.size (by intro j hj; cases hj; exact ho2.base)⟩
              case measure => simp [intOf]; omega
          · obtain rfl : k = ys.length := by omega
            go_wp2
            go_roundw
            case rel => exact ⟨i + 1, by omega, by go_num, ho2, hb2⟩
            case measure => simp [intOf]; omega
      · obtain rfl : i = xs.length := by omega
        go_wp2_with fail
        refine (spec_TrimPoly_any w.heap.size 0 _ _ (mulTo xs ys xs.length) _ (mulTo_length _ _ _) (by rw [mulTo_length]; omega) (Nat.le_refl _) ho.lt ho.cells).mono ?_
        rintro e w2 ⟨g3, c3, rfl, ho3, hb3⟩
        go_wp2_with fail
        go_ret
        exact GotInts.mk' g3 c3 rfl (ho3.mono hb.size) (hb.trans (hb3.mono hb.size))

set_option maxHeartbeats 1000000 in
theorem impl_MulPoly_any (g1 o1 n1 c1 g2 o2 n2 c2 : Nat) (xs ys : List Int) (w : World) (hn1 : xs.length = n1) (hn2 : ys.length = n2) (hx : xs.length ≤ 1099511627776) (hy : ys.length ≤ 1099511627776)
    (hg1 : g1 < w.heap.size) (hg2 : g2 < w.heap.size) (hc1 : Cells w g1 o1 xs) (hc2 : Cells w g2 o2 ys) :
    Calls Tryz.prog 143 #[(Value.slice (some ⟨g1, o1, none⟩) n1 c1), (Value.slice (some ⟨g2, o2, none⟩) n2 c2)] w (GotInts w (mul xs ys)) := by
  subst hn1; subst hn2
  by_cases hbad : xs.length = 0 ∨ ys.length = 0 ∨ 62 < xs.length + ys.length
  · have e : mul xs ys = [] := by unfold mul; rw [if_pos hbad]
    rw [e]
    by_cases h3 : 62 < xs.length + ys.length
    · have d3 : decide ((62 : Int) < (xs.length : Int) + (ys.length : Int)) = true := by simp; omega
      clear hbad
      go_enter Tryz.func143, Tryz.ntmps143
      go_wp2
      go_ret
      exact GotInts.mk' _ _ rfl (Own.empty (Nat.le_refl _)) ((Below.refl _ _).alloc (Nat.le_refl _) _)
    · have d3 : decide ((62 : Int) < (xs.length : Int) + (ys.length : Int)) = false := by simp; omega
      by_cases h1 : xs.length = 0
      · have d1 : ((xs.length : Int) == 0) = true := by simp [h1]
        have H1 := Lib.hid h1; clear h1 hbad
        go_enter Tryz.func143, Tryz.ntmps143
        go_wp2
        go_ret
        exact GotInts.mk' _ _ rfl (Own.empty (Nat.le_refl _)) ((Below.refl _ _).alloc (Nat.le_refl _) _)
      · have d1 : ((xs.length : Int) == 0) = false := by simp; intro h; simp [h] at h1
        have d2 : ((ys.length : Int) == 0) = true := by simp; have : ys.length = 0 := (by omega); simpa using this
        have H1 := Lib.hid h1; clear h1 hbad
        go_enter Tryz.func143, Tryz.ntmps143
        go_wp2
        go_ret
        exact GotInts.mk' _ _ rfl (Own.empty (Nat.le_refl _)) ((Below.refl _ _).alloc (Nat.le_refl _) _)
  · have hp1 : 0 < xs.length := by omega
    have hp2 : 0 < ys.length := by omega
    have hsm : xs.length + ys.length ≤ 62 := by omega
    have e : mul xs ys = trim (mulTo xs ys xs.length) := by unfold mul; rw [if_neg hbad]
    rw [e]
    clear e hbad
    have d1 : ((xs.length : Int) == 0) = false := by simp; intro h; simp [h] at hp1
    have d2 : ((ys.length : Int) == 0) = false := by simp; intro h; simp [h] at hp2
    have d3 : decide ((62 : Int) < (xs.length : Int) + (ys.length : Int)) = false := by simp; omega
    go_enter Tryz.func143, Tryz.ntmps143
    go_wp2_with (at_make; refine wpList_make_ints rfl _ _ rfl w.heap.size (xs.length + ys.length - 1) _ (by omega) rfl rfl (by omega) (Nat.le_refl _) ?_)
    intro w1 hown0 hgr
    have hb0 := below_of_grown hgr
    clear hgr
    go_wp2
    go_loopw [36] (fun i wr => ∃ k : Nat, k ≤ xs.length ∧ i = .int .i64 k ∧ Own wr w.heap.size w.heap.size (xs.length + ys.length - 1) (mulTo xs ys k) ∧ Below w.heap.size w wr) (fun i _ => xs.length - (intOf i).toNat)
    case atStart => exact ⟨0, Nat.zero_le _, rfl, hown0, hb0⟩
    case round =>
      obtain ⟨i, hi, rfl, ho, hb⟩ := hrel
      by_cases hlt : i < xs.length
      · have h1 := hc1.below hb hg1 i hlt
        obtain ⟨wo, rfl⟩ : ∃ wo : World, wo = wr := ⟨_, rfl⟩
        go_wp2
        go_loopw [43] (fun j wr => ∃ k : Nat, k ≤ ys.length ∧ j = .int .i64 k ∧ Own wr w.heap.size w.heap.size (xs.length + ys.length - 1) (rowTo (mulTo xs ys i) (xs.getD i 0) ys i k) ∧ Below w.heap.size w wr) (fun j _ => ys.length - (intOf j).toNat)
        case atStart => exact ⟨0, Nat.zero_le _, rfl, ho, hb⟩
        case round =>
          obtain ⟨k, hk, rfl, ho2, hb2⟩ := hrel
          by_cases hlt2 : k < ys.length
          · have q1 := hc1.below hb2 hg1 i hlt
            have q2 := hc2.below hb2 hg2 k hlt2
            obtain ⟨R, hR⟩ : ∃ R, rowTo (mulTo xs ys i) (xs.getD i 0) ys i k = R := ⟨_, rfl⟩
            have hl : i + k < R.length := by rw [← hR, rowTo_length, mulTo_length]; omega
            rw [hR] at ho2
            have q3 := ho2.cell (i + k) hl
            have f3 := ho2.frozen (i + k)
            have HR := Lib.hid hR; clear hR
            go_wp2
            all_goals
              go_roundw
              case rel =>
                have hs := ho2.set (i + k) (wrap64 (R[i + k] + wrap64 (xs[i] * ys[k])))
                rw [row_step hlt hlt2 hl HR.out] at hs
                exact ⟨k + 1, by omega, by go_num, by first | exact hs.1.drew | exact hs.1, by first | exact (hb2.grown hs.2 hb2.size (by intro j hj; cases hj; exact ho2.base)).drew | exact hb2.grown hs.2 hb2.size (by intro j hj; cases hj; exact ho2.base)⟩
              case measure => simp [intOf]; omega
          · obtain rfl : k = ys.length := by omega
            go_wp2
            go_roundw
            case rel => exact ⟨i + 1, by omega, by go_num, ho2, hb2⟩
            case measure => simp [intOf]; omega
      · obtain rfl : i = xs.length := by omega
        go_wp2_with fail
        refine (impl_TrimPoly_any w.heap.size 0 _ _ (mulTo xs ys xs.length) _ (mulTo_length _ _ _) (by rw [mulTo_length]; omega) (Nat.le_refl _) ho.lt ho.cells).mono ?_
        rintro e w2 ⟨g3, c3, rfl, ho3, hb3⟩
        go_wp2_with fail
        go_ret
        exact GotInts.mk' g3 c3 rfl (ho3.mono hb.size) (hb.trans (hb3.mono hb.size))


end Go.Proofs.YtobeigdjhepedaaGreatDoor
