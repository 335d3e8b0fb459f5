/- Normal forms of words, equal elements, star products, the longest element covered: contracts of both. Letters that show that an element is not below another one: plain law; the reference's: contract. Plain law: subwords of normal forms (the Bruhat order); the letters that show that an element is not below another one. Matsumoto: reduced words of one element are joined by braid moves; the list of all of them, in order. Plain law. The numbers game: reduced words backwards and in the turned matrix, exchange, deletion, roots of reduced words. Plain law. Orders of points in which one matrix is another one: plain law. Types with a name: their matrices, names of parts, sizes. Plain law. slices.Index, slices.Contains, slices.Clone at lists of integers that may be nil; append of one integer: contracts. -/
import Derived.Test.YtdedkfbiookofaaGreatDoorK08
import Derived.Test.YtdedkfbiookofaaGreatDoorK04
import Derived.Test.YtdedkfbiookofaaGreatDoorK01
import Derived.Test.YtdedkfbiookofaaGreatDoorK00
import Derived.Deep.RegionHeld3
import Derived.Test.YtdedkfbiookofaaGreatDoorK10
import Derived.Deep.RegionWith
import Derived.Deep.Cut
import Derived.Deep.CutRange
import Derived.Test.YtdedkfbiookofaaGreatDoorK06
import Derived.Test.YtdedkfbiookofaaGreatDoorK02
import Derived.WalkSpells
namespace Go.Proofs.YtdedkfbiookofaaGreatDoor
set_option maxRecDepth 100000
open Go.RowKit Game
section
variable {w : World} {gc oc n cc : Nat} {c : List (List Int)}
set_option maxHeartbeats 1000000 in
theorem impl_reduced_any (gc oc n cc g o m cp : Nat) (c : List (List Int)) (v : List Int) (w : World) (hn : c.length = n) (hm : v.length = m) (hL : Lets c 30 v) (hgc : gc < w.heap.size) (hg : g < w.heap.size) (hr : Rows2 w gc oc c) (hv : Cells w g o v) :
    Calls Tryz.prog 91 #[(Value.slice (some ⟨gc, oc, none⟩) n cc), (Value.slice (some ⟨g, o, none⟩) m cp)] w (GotInts w (nfI c v)) := by
  have hl := hL.few
  have k1 := Lib.hid (impl_image_any gc oc n cc g o m cp c v w hn hm hL.isC (by omega) hL.inr hgc hg hr hv)
  have k2 := Lib.hid (fun (W : World) (B g2 c2 : Nat) (hb : Below w.heap.size w W) (ho : Own W B g2 c2 (imI c v)) => impl_normal_any gc oc n cc g2 0 c.length c2 30 c (imI c v) (nfI c v) W hn (imI_length c v) hL.isC (imI_length c v) (by omega) (nfI_ok hL).norm (Nat.lt_of_lt_of_le hgc hb.size) ho.lt (hr.below hb hgc) ho.cells)
  have Hl := Lib.hid (imI_length c v)
  clear hr hv hL hl hn hm
  generalize nfI c v = y at *
  go_enter Tryz.func91, Tryz.ntmps91
  go_wp2_with fail
  refine k1.out.mono ?_
  rintro e w1 ⟨g1, c1, rfl, ho1, hb1⟩
  rw [show (actW c v (onesL c.length)).length = c.length from Hl.out]
  go_wp2_with fail
  refine (k2.out w1 _ g1 c1 hb1 ho1).mono ?_
  rintro e w2 ⟨g2, c2, rfl, ho2, hb2⟩
  go_wp2_with fail
  go_ret
  exact ⟨g2, c2, rfl, ho2.mono hb1.size, hb1.trans (hb2.mono hb1.size)⟩
/-- what the reference's normal form of a list is -/
def nfA (c : List (List Int)) (v : List Int) : List Int := if isWordB c v = true then nfI c v else []
set_option maxHeartbeats 1000000 in
theorem spec_NormalForm_any (gc oc n cc g o m cp : Nat) (c : List (List Int)) (v : List Int) (w : World) (hn : c.length = n) (hm : v.length = m) (hx : c.length ≤ 1048576) (hrl : ∀ j, j < c.length → (c.getD j []).length ≤ 1048576) (hl : v.length ≤ 1048576)
    (hgc : gc < w.heap.size) (hg : g < w.heap.size) (hr : Rows2 w gc oc c) (hv : Cells w g o v) :
    Calls Tryz.prog 51 #[(Value.slice (some ⟨gc, oc, none⟩) n cc), (Value.slice (some ⟨g, o, none⟩) m cp)] w (GotIntsB w (nfA c v) (isWordB c v)) := by
  have hIW := spec_IsWord_any gc oc n cc g o m cp c v w hn hm hx hrl hl hr hv
  cases hw : isWordB c v with
  | false =>
    rw [hw] at hIW
    rw [show nfA c v = [] from if_neg (by rw [hw]; decide)]
    have Hi := Lib.hid hIW
    clear hIW hw hr hv
    go_enter Tryz.func51, Tryz.ntmps51
    go_wp2_with fail
    refine Hi.out.mono ?_
    rintro e w1 ⟨rfl, hs1⟩
    have hb1 := below_still (Below.refl w.heap.size w) hs1
    go_wp2_with fail
    go_ret2
    exact ⟨_, 0, rfl, Own.empty hb1.size, hb1.alloc hb1.size _⟩
  | true =>
    rw [hw] at hIW
    have hW := wordOk_of hw
    have hL := hW.lets.mono (show 15 ≤ 30 by omega)
    rw [show nfA c v = nfI c v from if_pos hw]
    have Hi := Lib.hid hIW
    have Hn := Lib.hid (fun W (hs : ∃ q, W = w.drewN q) => spec_l8Normal_any gc oc n cc g o m cp c v (nfI c v) W hn hm hW.isC hl hW.inr (nfI_ok hL).norm (Nat.lt_of_lt_of_le hgc (below_still (Below.refl w.heap.size w) hs).size) (Nat.lt_of_lt_of_le hg (below_still (Below.refl w.heap.size w) hs).size) (hr.still hs) (hv.still hs))
    clear hIW hw hr hv hW hL
    generalize nfI c v = y at *
    go_enter Tryz.func51, Tryz.ntmps51
    go_wp2_with fail
    refine Hi.out.mono ?_
    rintro e w1 ⟨rfl, hs1⟩
    have hb1 := below_still (Below.refl w.heap.size w) hs1
    go_wp2_with fail
    refine (Hn.out w1 hs1).mono ?_
    rintro e w2 ⟨g2, c2, rfl, ho2, hb2⟩
    go_wp2_with fail
    go_ret2
    exact ⟨g2, c2, rfl, ho2.mono hb1.size, hb1.trans (hb2.mono hb1.size)⟩
end
end Go.Proofs.YtdedkfbiookofaaGreatDoor
namespace Go.Proofs.YtdedkfbiookofaaGreatDoor
set_option maxRecDepth 100000
open Go.RowKit Game
/-- a normal form of at most 15 letters -/
structure Nw (c : List (List Int)) (U : List Int) : Prop where
  lets : Lets c 15 U
  self : nfI c U = U
theorem nw_nf {c : List (List Int)} {v : List Int} (h : WordOk c v) : Nw c (nfI c v) :=
  ⟨(nfI_ok (h.lets.mono (by omega))).lets.mono h.few, nfI_self (h.lets.mono (by omega))⟩
theorem Nw.cons {c : List (List Int)} {U : List Int} (h : Nw c U) {i : Nat} (hi : i < c.length) : Lets c 16 ((i : Int) :: U) :=
  lets_of h.lets.isC (by have := h.lets.few; simp; omega) fun x hx => by
    rcases List.mem_cons.1 hx with g | g
    · subst g; omega
    · exact h.lets.mem x g
theorem Nw.down {c : List (List Int)} {U : List Int} (h : Nw c U) {i : Nat} (hi : i < c.length) (hneg : (imI c U).getD i 0 < 0) : Nw c (nfI c ((i : Int) :: U)) := by
  have h1 := nfI_down (h.lets.mono (by omega)) hi hneg
  rw [h.self] at h1
  have h2 := nfI_ok ((h.cons hi).mono (show 16 ≤ 30 by omega))
  have := h.lets.few
  exact ⟨⟨h2.lets.isC, by omega, h2.lets.inr⟩, nfI_self ((h.cons hi).mono (by omega))⟩
theorem Nw.img {c : List (List Int)} {U : List Int} (h : Nw c U) {i : Nat} (hi : i < c.length) : imI c (nfI c ((i : Int) :: U)) = refl c i (imI c U) := by
  rw [(nfI_ok ((h.cons hi).mono (show 16 ≤ 30 by omega))).img]; rfl
end Go.Proofs.YtdedkfbiookofaaGreatDoor
namespace Go.Proofs.YtdedkfbiookofaaGreatDoor
set_option maxRecDepth 100000
open Go.RowKit Game
/-- a letter twice is none -/
theorem imI_back {c : List (List Int)} {V : List Int} (h : Lets c 28 V) {i : Nat} (hi : i < c.length) : imI c ((i : Int) :: (i : Int) :: V) = imI c V := by
  have hC := h.isC
  have hf := h.few
  have hlt := h.nats_lt
  have h1 : ∀ k ∈ (i :: i :: V.map Int.toNat), k < c.length := fun k hk => by
    rcases List.mem_cons.1 hk with g | g
    · omega
    · rcases List.mem_cons.1 g with g | g
      · omega
      · exact hlt k g
  have := imgL_of_act hC h1 hlt (by simp; omega) (by simp; omega) (fun u => by
    show s (ent c) i (s (ent c) i (act (ent c) (V.map Int.toNat) u)) = _
    rw [s_s (car_of hC) hi])
  have e : intsOf (i :: i :: V.map Int.toNat) = (i : Int) :: (i : Int) :: V := by
    show (i : Int) :: (i : Int) :: intsOf (V.map Int.toNat) = _
    rw [h.nats]
  unfold imgL at this
  rw [e, h.nats] at this
  exact this
theorem Nw.norm {c : List (List Int)} {U : List Int} (h : Nw c U) : normG c 30 (imI c U) = some U := by
  have := (nfI_ok (h.lets.mono (show 15 ≤ 30 by omega))).norm
  rwa [h.self] at this
theorem Nw.none {c : List (List Int)} {U : List Int} (h : Nw c U) : firstNeg (imI c U) = none ↔ U = [] := by
  constructor
  · intro hf; exact normG_none h.norm hf
  · rintro rfl
    cases hf : firstNeg (imI c []) with
    | none => rfl
    | some j =>
      obtain ⟨f', rest', e, h1, h2⟩ := normG_some h.norm hf
      cases h1
def subN (c : List (List Int)) (U : List Int) (i : Int) : List Int := if (imI c U).getD i.toNat 0 < 0 then nfI c (i :: U) else U
def subU (c : List (List Int)) : List Int → List Int → List Int
  | [], U => U
  | i :: y, U => subU c y (subN c U i)
/-- whether an element is below another one -/
def bruB (c : List (List Int)) (a b : List Int) : Bool := decide (subU c (nfI c b) (nfI c a) = [])
theorem Nw.sub {c : List (List Int)} {U : List Int} (h : Nw c U) {i : Int} (h0 : 0 ≤ i) (h1 : i < (c.length : Int)) : Nw c (subN c U i) := by
  obtain ⟨k, rfl⟩ : ∃ k : Nat, i = k := ⟨i.toNat, by omega⟩
  unfold subN
  rw [Int.toNat_natCast]
  split
  · exact h.down (by omega) (by assumption)
  · exact h
theorem subN_neg {c : List (List Int)} {U : List Int} {i : Nat} (hneg : (imI c U).getD i 0 < 0) : subN c U i = nfI c ((i : Int) :: U) := by
  unfold subN
  rw [Int.toNat_natCast, if_pos hneg]
theorem subN_pos {c : List (List Int)} {U : List Int} {i : Nat} (hneg : ¬ (imI c U).getD i 0 < 0) : subN c U i = U := by
  unfold subN
  rw [Int.toNat_natCast, if_neg hneg]
theorem subN_len {c : List (List Int)} {U : List Int} (h : Nw c U) {i : Int} (h0 : 0 ≤ i) (h1 : i < (c.length : Int)) : U.length ≤ (subN c U i).length + 1 := by
  obtain ⟨k, rfl⟩ : ∃ k : Nat, i = k := ⟨i.toNat, by omega⟩
  by_cases hn : (imI c U).getD k 0 < 0
  · rw [subN_neg hn]
    have := nfI_down (h.lets.mono (show 15 ≤ 29 by omega)) (by omega) hn
    rw [h.self] at this
    omega
  · rw [subN_pos hn]; omega
theorem subU_len {c : List (List Int)} : ∀ (y : List Int) {U : List Int}, (∀ x ∈ y, 0 ≤ x ∧ x < (c.length : Int)) → Nw c U → U.length ≤ (subU c y U).length + y.length
  | [], U, _, _ => by simp [subU]
  | i :: y, U, hy, h => by
    have hi := hy i (by simp)
    have h1 := subN_len h hi.1 hi.2
    have h2 := subU_len y (fun x hx => hy x (by simp [hx])) (h.sub hi.1 hi.2)
    show U.length ≤ (subU c y (subN c U i)).length + (y.length + 1)
    omega
end Go.Proofs.YtdedkfbiookofaaGreatDoor
namespace Go.Proofs.YtdedkfbiookofaaGreatDoor
set_option maxRecDepth 100000
open Go.RowKit
namespace Game
variable {A : Mat} {n : Nat}
theorem meet_bond (hC : Car A n) {i j : Nat} (hi : i < n) (hj : j < n) (hne : i ≠ j) : (∃ m, Meet A n i j m ∧ bondP (A i j * A j i) = ((m + 1 : Nat) : Int) ∧ 1 ≤ m) ∨ (A i j ≤ -2 ∧ A j i ≤ -2) := by
  have h1 := hC.off i j hi hj hne
  have h2 := hC.off j i hj hi (Ne.symm hne)
  by_cases z : A i j = 0
  · exact .inl ⟨1, meet2 hC hi hj z (h1.2.2.1 z), by rw [z]; simp [bondP], by omega⟩
  by_cases z2 : A j i = 0
  · exact absurd (h1.2.2.2 z2) z
  have e1 : A i j = -1 ∨ A i j = -2 ∨ A i j = -3 := by omega
  have e2 : A j i = -1 ∨ A j i = -2 ∨ A j i = -3 := by omega
  rcases e1 with e1 | e1 | e1 <;> rcases e2 with e2 | e2 | e2
  · exact .inl ⟨2, meet3 hC hi hj e1 e2, by rw [e1, e2]; decide, by omega⟩
  · exact .inl ⟨3, meet4 hC hi hj e1 e2, by rw [e1, e2]; decide, by omega⟩
  · exact .inl ⟨5, meet6 hC hi hj e1 e2, by rw [e1, e2]; decide, by omega⟩
  · exact .inl ⟨3, (meet4 hC hj hi e2 e1).symm, by rw [e1, e2]; decide, by omega⟩
  · right; omega
  · right; omega
  · exact .inl ⟨5, (meet6 hC hj hi e2 e1).symm, by rw [e1, e2]; decide, by omega⟩
  · right; omega
  · right; omega
/-- a braid move -/
def BrMove (A : Mat) (n : Nat) (l l' : List Nat) : Prop :=
  ∃ (p r : List Nat) (i j m : Nat), i < n ∧ j < n ∧ i ≠ j ∧ bondP (A i j * A j i) = ((m + 1 : Nat) : Int) ∧ 1 ≤ m ∧ l = p ++ alt i j (m + 1) ++ r ∧ l' = p ++ alt j i (m + 1) ++ r
/-- braid moves lead from one word to the other -/
def Joined (A : Mat) (n : Nat) (l l' : List Nat) : Prop := ∀ S : List Nat → Prop, S l → (∀ a b, S a → BrMove A n a b → S b) → S l'
theorem Joined.refl (l : List Nat) : Joined A n l l := fun _ h _ => h
theorem Joined.trans {a b d : List Nat} (h : Joined A n a b) (k : Joined A n b d) : Joined A n a d := fun S hs hc => k S (h S hs hc) hc
theorem Joined.one {a b : List Nat} (h : BrMove A n a b) : Joined A n a b := fun _ hs hc => hc _ _ hs h
theorem Joined.cons {a b : List Nat} (i : Nat) (h : Joined A n a b) : Joined A n (i :: a) (i :: b) := fun S hs hc =>
  h (fun x => S (i :: x)) hs fun x y hx ⟨p, r, i', j', m, h1, h2, h3, h4, h5, e1, e2⟩ =>
    hc _ _ hx ⟨i :: p, r, i', j', m, h1, h2, h3, h4, h5, by rw [e1]; rfl, by rw [e2]; rfl⟩
theorem matsumoto (hC : Car A n) {d : Vec} (hd : Dom n d) : ∀ (k : Nat) (v : Vec) (l l' : List Nat), Plays A n l v d → Plays A n l' v d → l.length = k → Joined A n l l' := by
  intro k
  induction k using Nat.strongRecOn with
  | ind k ih =>
    intro v l l' h h' hl
    have hlen := (Plays.unique hC hd h h').1
    cases l with
    | nil =>
      have : l' = [] := List.eq_nil_of_length_eq_zero (by simpa using hlen)
      subst this
      exact Joined.refl _
    | cons i l1 =>
      cases l' with
      | nil => simp at hlen
      | cons j l1' =>
        simp only [List.length_cons] at hl hlen
        obtain ⟨hi, hvi, h1⟩ := Plays.cons.1 h
        obtain ⟨hj, hvj, h1'⟩ := Plays.cons.1 h'
        by_cases hne : i = j
        · subst hne
          exact (ih (k - 1) (by omega) (s A i v) l1 l1' h1 h1' (by omega)).cons i
        rcases meet_bond hC hi hj hne with ⟨m, hm, hb, hm1⟩ | ⟨e1, e2⟩
        · obtain ⟨g1, g2⟩ := hm.legal v hvi hvj
          obtain ⟨l2, p1, p2, -⟩ := h.any hC hd g1
          have p1' : Plays A n (i :: (alt j i m ++ l2)) v d := p1
          have q1 : Plays A n l2 (run A (alt j i (m + 1)) v) d := by
            rw [← hm.runs v]
            have e := p1.2
            rw [run_append] at e
            refine ⟨?_, e⟩
            have hleg := p1.1
            clear p1 p1' e hm hb g1 g2 p2
            generalize alt i j (m + 1) = ch at hleg ⊢
            revert hleg
            clear h h1 hvi hvj h' h1'
            revert v
            induction ch with
            | nil => intro v hleg; exact hleg
            | cons t ch ihc => intro v hleg; exact ihc _ hleg.2.2
          have q2 : Plays A n (alt j i (m + 1) ++ l2) v d := Plays.append g2 q1
          have q2' : Plays A n (j :: (alt i j m ++ l2)) v d := q2
          have a1 := ih (k - 1) (by omega) (s A i v) l1 (alt j i m ++ l2) h1 (Plays.cons.1 p1').2.2 (by omega)
          have hl2 := (Plays.unique hC hd h p1').1
          have hl3 := (Plays.unique hC hd h q2').1
          have a2 := ih (k - 1) (by omega) (s A j v) (alt i j m ++ l2) l1' (Plays.cons.1 q2').2.2 h1' (by simp only [List.length_cons] at hl3; omega)
          have a3 : Joined A n (i :: (alt j i m ++ l2)) (j :: (alt i j m ++ l2)) := Joined.one ⟨[], l2, i, j, m, hi, hj, hne, hb, hm1, rfl, rfl⟩
          exact ((a1.cons i).trans a3).trans (a2.cons j)
        · exfalso
          refine endless hC hd (k - 1) (fun k' _ => conf hC hd k') i j hi hj e1 e2 (s A i v) l1 h1 (by omega) ?_ ?_
          · simp only [s, hC.two i hi]; omega
          · simp only [s, hC.two i hi]
            have hm : v i * A j i ≥ v i * (-2) := Int.mul_le_mul_of_nonpos_left (by omega) e2
            omega
end Game
open Game
end Go.Proofs.YtdedkfbiookofaaGreatDoor
namespace Go.Proofs.YtdedkfbiookofaaGreatDoor
set_option maxRecDepth 100000
open Go.RowKit
namespace Game
variable {A B : Mat} {n : Nat} {d d' : Vec}
/-- a reduced word -/
def Red (A : Mat) (n : Nat) (d : Vec) (y : List Nat) : Prop := Plays A n y (act A y d) d
def Strict (n : Nat) (d : Vec) : Prop := ∀ i, i < n → 0 < d i
theorem Strict.dom (h : Strict n d) : Dom n d := fun i hi => Int.le_of_lt (h i hi)
theorem Red.nil : Red A n d [] := ⟨trivial, rfl⟩
theorem Red.cons (hC : Car A n) {i : Nat} {y : List Nat} (hi : i < n) (h : Red A n d y) (hp : 0 < act A y d i) : Red A n d (i :: y) := by
  refine Plays.cons.2 ⟨hi, ?_, ?_⟩
  · simp only [act, s, hC.two i hi]; omega
  · simp only [act]; rw [s_s hC hi]; exact h
theorem Red.ne (hC : Car A n) (hd : Strict n d) {y : List Nat} (h : Red A n d y) {i : Nat} (hi : i < n) : act A y d i ≠ 0 := Plays.ne hC hd h hi
theorem act_rev (hC : Car A n) : ∀ {y : List Nat}, (∀ i ∈ y, i < n) → ∀ u, act A y.reverse (act A y u) = u
  | [], _, _ => rfl
  | i :: y, h, u => by
    rw [List.reverse_cons, act_append]
    simp only [act]
    rw [s_s hC (h i (by simp))]
    exact act_rev hC (fun j hj => h j (List.mem_cons_of_mem _ hj)) u
theorem BrMove.meet (hC : Car A n) {i j m : Nat} (hi : i < n) (hj : j < n) (hne : i ≠ j) (hb : bondP (A i j * A j i) = ((m + 1 : Nat) : Int)) : Meet A n i j m := by
  rcases meet_bond hC hi hj hne with ⟨m', h1, h2, -⟩ | ⟨h1, h2⟩
  · rw [h2] at hb
    have : m' = m := by omega
    subst this; exact h1
  · have h4 : 4 ≤ A i j * A j i := by
      have h5 : 0 ≤ (-2 - A i j) * (-2 - A j i) := Int.mul_nonneg (by omega) (by omega)
      have e : (-2 - A i j) * (-2 - A j i) = 4 + 2 * A i j + 2 * A j i + A i j * A j i := by
        simp only [Int.sub_mul, Int.mul_sub]; omega
      omega
    unfold bondP at hb
    rw [if_neg (by omega), if_neg (by omega), if_neg (by omega), if_neg (by omega)] at hb
    omega
theorem alt_last (i j : Nat) : ∀ m, (alt i j (m + 1)).eraseIdx m = alt i j m := by
  intro m
  induction m generalizing i j with
  | zero => rfl
  | succ m ih =>
    show (i :: alt j i (m + 1)).eraseIdx (m + 1) = i :: alt j i m
    rw [List.eraseIdx_cons_succ, ih]
theorem alt_fold (hC : Car A n) (u : Vec) : ∀ (t m i j : Nat), i < n → j < n → t ≤ m → act A ((alt i j (m + 3)).eraseIdx (t + 1)) u = act A ((alt i j (m + 1)).eraseIdx t) u
  | 0, m, i, j, hi, hj, _ => by
    show act A ((i :: j :: i :: alt j i m).eraseIdx 1) u = act A ((i :: alt j i m).eraseIdx 0) u
    show s A i (s A i (act A (alt j i m) u)) = act A (alt j i m) u
    exact s_s hC hi _
  | t + 1, m, i, j, hi, hj, h => by
    obtain ⟨m', rfl⟩ : ∃ m', m = m' + 1 := ⟨m - 1, by omega⟩
    show act A ((i :: alt j i (m' + 3)).eraseIdx (t + 2)) u = act A ((i :: alt j i (m' + 1)).eraseIdx (t + 1)) u
    rw [List.eraseIdx_cons_succ, List.eraseIdx_cons_succ]
    show s A i (act A _ u) = s A i (act A _ u)
    rw [alt_fold hC u t m' j i hj hi (by omega)]
theorem alt_del (hC : Car A n) (u : Vec) : ∀ (m t i j : Nat), i < n → j < n → t ≤ m → act A ((alt i j (m + 1)).eraseIdx t) u = act A ((alt j i (m + 1)).eraseIdx (m - t)) u
  | 0, t, i, j, _, _, h => by
    obtain rfl : t = 0 := by omega
    rfl
  | 1, t, i, j, _, _, h => by
    rcases (show t = 0 ∨ t = 1 by omega) with rfl | rfl <;> rfl
  | m + 2, t, i, j, hi, hj, h => by
    by_cases h0 : t = 0
    · subst h0
      show act A (alt j i (m + 2)) u = _
      rw [show m + 2 - 0 = m + 2 from rfl, alt_last]
    · by_cases h2 : t = m + 2
      · subst h2
        rw [alt_last, Nat.sub_self]
        rfl
      · obtain ⟨t', rfl⟩ : ∃ t', t = t' + 1 := ⟨t - 1, by omega⟩
        rw [alt_fold hC u t' m i j hi hj (by omega), show m + 2 - (t' + 1) = (m - t') + 1 by omega, alt_fold hC u (m - t') m j i hj hi (by omega), alt_del hC u m t' i j hi hj (by omega)]
/-- words from which a letter can be left out so that a given thing is left -/
def Drops (A : Mat) (f : Vec → Vec) (y : List Nat) : Prop := ∃ k, k < y.length ∧ ∀ u, act A (y.eraseIdx k) u = f u
theorem erase_in {p X : List Nat} {k : Nat} (h : k < p.length) : (p ++ X).eraseIdx k = p.eraseIdx k ++ X := List.eraseIdx_append_of_lt_length h X
theorem erase_out (p X : List Nat) (t : Nat) : (p ++ X).eraseIdx (p.length + t) = p ++ X.eraseIdx t := by
  rw [List.eraseIdx_append_of_length_le (by omega), Nat.add_sub_cancel_left]
theorem Drops.move (hC : Car A n) {f : Vec → Vec} {a b : List Nat} (h : BrMove A n a b) (ha : Drops A f a) : Drops A f b := by
  obtain ⟨p, r, i, j, m, hi, hj, hne, hb, -, rfl, rfl⟩ := h
  obtain ⟨k, hk, he⟩ := ha
  have hac := (BrMove.meet hC hi hj hne hb).acts
  simp only [List.length_append, alt_length] at hk
  simp only [List.append_assoc] at he ⊢
  by_cases h1 : k < p.length
  · refine ⟨k, by simp [alt_length]; omega, fun u => ?_⟩
    have := he u
    rw [erase_in h1, act_append, act_append] at this
    rw [erase_in h1, act_append, act_append, ← hac]
    exact this
  · obtain ⟨t, rfl⟩ : ∃ t, k = p.length + t := ⟨k - p.length, by omega⟩
    by_cases h2 : t < m + 1
    · refine ⟨p.length + (m - t), by simp [alt_length]; omega, fun u => ?_⟩
      have := he u
      rw [erase_out, erase_in (by rw [alt_length]; exact h2), act_append, act_append, alt_del hC _ m t i j hi hj (by omega)] at this
      rw [erase_out, erase_in (by rw [alt_length]; omega), act_append, act_append]
      exact this
    · obtain ⟨t', rfl⟩ : ∃ t', t = (m + 1) + t' := ⟨t - (m + 1), by omega⟩
      refine ⟨p.length + ((m + 1) + t'), by simp [alt_length]; omega, fun u => ?_⟩
      have := he u
      have e1 := erase_out (alt i j (m + 1)) r t'
      have e2 := erase_out (alt j i (m + 1)) r t'
      rw [alt_length] at e1 e2
      rw [erase_out, e1, act_append, act_append] at this
      rw [erase_out, e2, act_append, act_append, ← hac]
      exact this
theorem exchange (hC : Car A n) (hd : Strict n d) {y : List Nat} (hy : Red A n d y) {i : Nat} (hi : i < n) (hneg : act A y d i < 0) : ∃ k, k < y.length ∧ ∀ u, act A (y.eraseIdx k) u = act A (i :: y) u := by
  obtain ⟨l', h1, -, h3⟩ := Plays.first hC hd.dom hy hi hneg
  have hj := matsumoto hC hd.dom _ _ _ _ h1 hy rfl
  refine hj (Drops A (fun u => act A (i :: y) u)) ⟨0, by simp, fun u => ?_⟩ (fun a b ha hab => Drops.move hC hab ha)
  show act A l' u = s A i (act A y u)
  rw [h3]
  exact (s_s hC hi _).symm
/-- from a word that is not reduced two letters can be left out -/
theorem deletion (hC : Car A n) (hd : Strict n d) : ∀ {w : List Nat}, (∀ i ∈ w, i < n) → ¬ Red A n d w → ∃ a b, a < b ∧ b < w.length ∧ ∀ u, act A ((w.eraseIdx b).eraseIdx a) u = act A w u
  | [], _, h => absurd Red.nil h
  | i :: y, hw, h => by
    have hi := hw i (by simp)
    have hy : ∀ j ∈ y, j < n := fun j hj => hw j (List.mem_cons_of_mem _ hj)
    by_cases hr : Red A n d y
    · have hneg : act A y d i < 0 := by
        rcases Int.lt_trichotomy (act A y d i) 0 with g | g | g
        · exact g
        · exact absurd g (hr.ne hC hd hi)
        · exact absurd (hr.cons hC hi g) h
      obtain ⟨k, hk, he⟩ := exchange hC hd hr hi hneg
      exact ⟨0, k + 1, by omega, by simp; omega, fun u => he u⟩
    · obtain ⟨a, b, hab, hb, he⟩ := deletion hC hd hy hr
      refine ⟨a + 1, b + 1, by omega, by simp; omega, fun u => ?_⟩
      rw [List.eraseIdx_cons_succ, List.eraseIdx_cons_succ]
      show s A i (act A _ u) = s A i (act A y u)
      rw [he]
end Game
end Go.Proofs.YtdedkfbiookofaaGreatDoor
namespace Go.Proofs.YtdedkfbiookofaaGreatDoor
set_option maxRecDepth 100000
def ordStep (n : Nat) (o : List Nat) : List (List Nat) := ((List.range n).filter fun x => !(o.contains x)).map fun x => o ++ [x]
/-- all orders of k of n points -/
def ordsN (n : Nat) : Nat → List (List Nat)
  | 0 => [[]]
  | k + 1 => (ordsN n k).flatMap (ordStep n)
/-- the next point fits -/
def fit (a b : List (List Int)) (o : List Nat) (i : Nat) : Bool := (List.range o.length).all fun j => (ent a i (o.getD j 0) == ent b o.length j) && (ent a (o.getD j 0) i == ent b j o.length)
/-- all orders that begin so and make one matrix the other one -/
def mtF (a b : List (List Int)) : Nat → List Nat → List (List Nat)
  | 0, o => [o]
  | f + 1, o => (List.range a.length).flatMap fun i => if o.contains i || !(fit a b o i) then [] else mtF a b f (o ++ [i])
/-- as far as it goes, one matrix is the other one -/
def agr (a b : List (List Int)) (o : List Nat) : Bool := (List.range o.length).all fun k => (List.range o.length).all fun j => ent a (o.getD k 0) (o.getD j 0) == ent b k j
theorem ordsN_mem {n : Nat} : ∀ {k : Nat} {o : List Nat}, o ∈ ordsN n k → o.length = k ∧ o.Nodup ∧ ∀ x ∈ o, x < n
  | 0, o, h => by
    simp [ordsN] at h
    subst h
    exact ⟨rfl, List.Pairwise.nil, by simp⟩
  | k + 1, o, h => by
    simp only [ordsN, List.mem_flatMap, ordStep, List.mem_map, List.mem_filter, List.mem_range] at h
    obtain ⟨p, hp, x, ⟨hx, hx2⟩, rfl⟩ := h
    obtain ⟨h1, h2, h3⟩ := ordsN_mem hp
    refine ⟨by simp [h1], ?_, fun y hy => ?_⟩
    · rw [List.nodup_append]
      refine ⟨h2, by simp, fun a ha b hb => ?_⟩
      simp at hb hx2
      subst hb
      intro e
      subst e
      exact hx2 ha
    · rcases List.mem_append.1 hy with hy | hy
      · exact h3 y hy
      · simp at hy; subst hy; exact hx
theorem getD_app_lt (o : List Nat) (x : Nat) {j : Nat} (h : j < o.length) : (o ++ [x]).getD j 0 = o.getD j 0 := by
  simp [List.getD, List.getElem?_append_left h]
theorem getD_app_eq (o : List Nat) (x : Nat) : (o ++ [x]).getD o.length 0 = x := by simp [List.getD]
theorem agr_push (a b : List (List Int)) (o : List Nat) (x : Nat) (hd : ent a x x = ent b o.length o.length) : agr a b (o ++ [x]) = (agr a b o && fit a b o x) := by
  rw [Bool.eq_iff_iff]
  unfold agr fit
  simp only [List.all_eq_true, List.mem_range, Bool.and_eq_true, beq_iff_eq, List.length_append, List.length_cons, List.length_nil]
  constructor
  · intro h
    refine ⟨fun k hk j hj => ?_, fun j hj => ⟨?_, ?_⟩⟩
    · have := h k (by omega) j (by omega)
      rwa [getD_app_lt o x hk, getD_app_lt o x hj] at this
    · have := h o.length (by omega) j (by omega)
      rwa [getD_app_eq, getD_app_lt o x hj] at this
    · have := h j (by omega) o.length (by omega)
      rwa [getD_app_eq, getD_app_lt o x hj] at this
  · rintro ⟨h1, h2⟩ k hk j hj
    by_cases ek : k = o.length
    · by_cases ej : j = o.length
      · rw [ek, ej, getD_app_eq]; exact hd
      · rw [ek, getD_app_eq, getD_app_lt o x (by omega)]; exact (h2 j (by omega)).1
    · by_cases ej : j = o.length
      · rw [ej, getD_app_eq, getD_app_lt o x (by omega)]; exact (h2 k (by omega)).2
      · rw [getD_app_lt o x (by omega), getD_app_lt o x (by omega)]; exact h1 k (by omega) j (by omega)
theorem flat_filter {α β : Type} (l : List α) (p : α → Bool) (f : α → List β) : (l.filter p).flatMap f = l.flatMap fun x => if p x then f x else [] := by
  induction l with
  | nil => rfl
  | cons x l ih =>
    rw [List.filter_cons, List.flatMap_cons]
    split
    · rw [List.flatMap_cons, ih]
    · rw [ih]; rfl
theorem mtF_step (a b : List (List Int)) (f : Nat) (o : List Nat) : mtF a b (f + 1) o = ((ordStep a.length o).filter fun q => fit a b o (q.getD o.length 0)).flatMap (mtF a b f) := by
  have e : mtF a b (f + 1) o = (List.range a.length).flatMap fun i => if o.contains i || !(fit a b o i) then [] else mtF a b f (o ++ [i]) := rfl
  rw [e, flat_filter]
  unfold ordStep
  rw [List.flatMap_map, flat_filter]
  congr 1
  funext i
  rw [getD_app_eq]
  cases h1 : o.contains i <;> cases h2 : fit a b o i <;> simp
/-- the orders so far that agree, level by level -/
theorem mtF_all (a b : List (List Int)) (hd : ∀ i j, i < a.length → j < b.length → ent a i i = ent b j j) : ∀ (f k : Nat), k + f ≤ b.length → ((ordsN a.length k).filter (agr a b)).flatMap (mtF a b f) = (ordsN a.length (k + f)).filter (agr a b)
  | 0, k, _ => by
    have : ∀ l : List (List Nat), l.flatMap (mtF a b 0) = l := by
      intro l
      induction l with
      | nil => rfl
      | cons x l ih => rw [List.flatMap_cons, ih]; rfl
    rw [this, Nat.add_zero]
  | f + 1, k, hk => by
    have ih := mtF_all a b hd f (k + 1) (by omega)
    rw [show k + (f + 1) = k + 1 + f by omega, ← ih]
    have e : ∀ l : List (List Nat), (∀ o ∈ l, o.length = k ∧ ∀ x ∈ o, x < a.length) → (l.filter (agr a b)).flatMap (mtF a b (f + 1)) = ((l.flatMap (ordStep a.length)).filter (agr a b)).flatMap (mtF a b f) := by
      intro l
      induction l with
      | nil => intro _; rfl
      | cons o l ihl =>
        intro hl
        have h1 := ihl fun p hp => hl p (by simp [hp])
        obtain ⟨ho, -⟩ := hl o (by simp)
        have hst : (ordStep a.length o).filter (agr a b) = if agr a b o = true then (ordStep a.length o).filter fun q => fit a b o (q.getD o.length 0) else [] := by
          have hq : ∀ q ∈ ordStep a.length o, agr a b q = (agr a b o && fit a b o (q.getD o.length 0)) := by
            intro q hq
            simp only [ordStep, List.mem_map, List.mem_filter, List.mem_range] at hq
            obtain ⟨x, ⟨hx, -⟩, rfl⟩ := hq
            rw [getD_app_eq]
            exact agr_push a b o x (hd x o.length hx (by omega))
          by_cases hg : agr a b o = true
          · rw [if_pos hg]
            refine List.filter_congr fun q hq2 => ?_
            rw [hq q hq2, hg, Bool.true_and]
          · rw [if_neg hg]
            refine List.filter_eq_nil_iff.2 fun q hq2 => ?_
            rw [hq q hq2]
            simp [hg]
        rw [List.flatMap_cons, List.filter_append, List.flatMap_append, hst, ← h1, List.filter_cons]
        by_cases hg : agr a b o = true
        · rw [if_pos hg, if_pos hg, List.flatMap_cons, mtF_step]
        · rw [if_neg hg, if_neg hg]; rfl
    exact e _ fun o ho => ⟨(ordsN_mem ho).1, (ordsN_mem ho).2.2⟩
theorem mtF_orders (a b : List (List Int)) (hl : a.length = b.length) (hd : ∀ i j, i < a.length → j < b.length → ent a i i = ent b j j) : mtF a b b.length [] = (ordsN a.length a.length).filter (agr a b) := by
  have h := mtF_all a b hd b.length 0 (by omega)
  have e : (ordsN a.length 0).filter (agr a b) = [[]] := rfl
  rw [e, Nat.zero_add] at h
  have e2 : ([[]] : List (List Nat)).flatMap (mtF a b b.length) = mtF a b b.length [] := by simp
  rw [e2] at h
  rw [h, hl]
end Go.Proofs.YtdedkfbiookofaaGreatDoor
namespace Go.Proofs.YtdedkfbiookofaaGreatDoor
set_option maxRecDepth 100000
abbrev Bs := List UInt8
/-- all types, in their order -/
def types17 : List (Bs × List (List Int)) := [
  ([65, 49], [[2]]),
  ([65, 50], [[2, -1], [-1, 2]]),
  ([65, 51], [[2, -1, 0], [-1, 2, -1], [0, -1, 2]]),
  ([65, 52], [[2, -1, 0, 0], [-1, 2, -1, 0], [0, -1, 2, -1], [0, 0, -1, 2]]),
  ([66, 50], [[2, -1], [-2, 2]]),
  ([66, 51], [[2, -1, 0], [-1, 2, -1], [0, -2, 2]]),
  ([66, 52], [[2, -1, 0, 0], [-1, 2, -1, 0], [0, -1, 2, -1], [0, 0, -2, 2]]),
  ([67, 51], [[2, -1, 0], [-1, 2, -2], [0, -1, 2]]),
  ([67, 52], [[2, -1, 0, 0], [-1, 2, -1, 0], [0, -1, 2, -2], [0, 0, -1, 2]]),
  ([68, 52], [[2, -1, 0, 0], [-1, 2, -1, -1], [0, -1, 2, 0], [0, -1, 0, 2]]),
  ([70, 52], [[2, -1, 0, 0], [-1, 2, -1, 0], [0, -2, 2, -1], [0, 0, -1, 2]]),
  ([71, 50], [[2, -1], [-3, 2]]),
  ([65, 49, 126], [[2, -2], [-2, 2]]),
  ([65, 50, 126], [[2, -1, -1], [-1, 2, -1], [-1, -1, 2]]),
  ([65, 51, 126], [[2, -1, 0, -1], [-1, 2, -1, 0], [0, -1, 2, -1], [-1, 0, -1, 2]]),
  ([67, 50, 126], [[2, -1, 0], [-2, 2, -2], [0, -1, 2]]),
  ([71, 50, 126], [[2, -1, 0], [-1, 2, -1], [0, -3, 2]])]
def tyD : Bs × List (List Int) := ([], [])
theorem types_isC : ∀ t ∈ types17, IsC t.2 := by decide
theorem types_isC' {k : Nat} (h : k < 17) : IsC (types17.getD k tyD).2 := types_isC _ (by have hl : types17.length = 17 := rfl; simp [List.getD, hl, h])
theorem pick_getD (a : List (List Int)) (o : List Nat) (k : Nat) (hk : k < o.length) : (pickL a (intsOf o)).getD k [] = o.map fun j => ent a (o.getD k 0) j := by
  simp [pickL, intsOf, pickRow, List.getD, hk, ent]
theorem pick_agr {a b : List (List Int)} {o : List Nat} (hl : o.length = b.length) (hb : ∀ i, i < b.length → (b.getD i []).length = b.length) : (pickL a (intsOf o) = b) ↔ agr a b o = true := by
  have hpl : (pickL a (intsOf o)).length = o.length := by simp [pickL, intsOf]
  unfold agr
  simp only [List.all_eq_true, List.mem_range, beq_iff_eq]
  constructor
  · intro h k hk j hj
    have h1 := pick_getD a o k hk
    rw [h] at h1
    unfold ent
    rw [h1]
    simp [List.getD, hj, ent]
  · intro h
    apply List.ext_getElem (by omega)
    intro k h1 h2
    have hk : k < o.length := by omega
    have e1 := pick_getD a o k hk
    have e2 : (pickL a (intsOf o))[k] = (pickL a (intsOf o)).getD k [] := by simp [List.getD, h1]
    have e3 : b[k] = b.getD k [] := by simp [List.getD, h2]
    rw [e2, e1, e3]
    have hbl := hb k h2
    apply List.ext_getElem (by rw [List.length_map]; exact hl.trans hbl.symm)
    intro j g1 g2
    have hj : j < o.length := by simpa using g1
    have h3 := h k hk j hj
    unfold ent at h3
    have e4 : (b.getD k [])[j] = (b.getD k []).getD j 0 := by
      generalize b.getD k [] = r at *
      simp [List.getD, g2]
    rw [e4, ← h3]
    simp [List.getD, hj, ent]
/-- the first order in which one matrix is another one -/
def isoO (a b : List (List Int)) : Option (List Nat) := if a.length = b.length then (ordsN a.length a.length).find? (agr a b) else none
def isoB (a b : List (List Int)) : Bool := (isoO a b).isSome
theorem take_filter {α : Type} (p : α → Bool) : ∀ l : List α, (l.filter p).take 1 = (l.find? p).toList
  | [] => rfl
  | x :: l => by
    rw [List.filter_cons, List.find?_cons]
    cases h : p x with
    | true => simp
    | false => simpa using take_filter p l
theorem iso_mt {a b : List (List Int)} (ha : IsC a) (hb : IsC b) (hl : a.length = b.length) : (mtF a b b.length []).take 1 = (isoO a b).toList := by
  unfold isoO
  rw [if_pos hl, mtF_orders a b hl (fun i j hi hj => by rw [dg ha hi, dg hb hj]), take_filter]
theorem iso_mem {a b : List (List Int)} {o : List Nat} (h : isoO a b = some o) : o.length = a.length := by
  unfold isoO at h
  split at h
  · exact (ordsN_mem (List.mem_of_find?_eq_some h)).1
  · cases h
theorem iso_to {a b : List (List Int)} (hl : a.length = b.length) {i : Nat} (hi : i < (ordsN a.length a.length).length) (h : ((ordsN a.length a.length).take i).find? (agr a b) = none) (hy : agr a b ((ordsN a.length a.length).getD i []) = true) : isoO a b = some ((ordsN a.length a.length).getD i []) := by
  unfold isoO
  rw [if_pos hl]
  generalize ordsN a.length a.length = L at *
  have e : L.find? (agr a b) = (L.take i ++ L.drop i).find? (agr a b) := by rw [List.take_append_drop]
  have e2 : L.getD i [] = L[i] := by simp [List.getD, hi]
  rw [e, List.find?_append, h, List.drop_eq_getElem_cons hi, e2]
  rw [e2] at hy
  rw [Option.none_or, List.find?_cons_of_pos hy]
theorem find_step {α : Type} {p : α → Bool} {l : List α} {i : Nat} {d : α} (hi : i < l.length) (h : (l.take i).find? p = none) (hn : p (l.getD i d) = false) : (l.take (i + 1)).find? p = none := by
  have e : l.take (i + 1) = l.take i ++ [l[i]] := List.take_succ_eq_append_getElem hi
  have e2 : l.getD i d = l[i] := by simp [List.getD, hi]
  rw [e2] at hn
  rw [e, List.find?_append, h, Option.none_or, List.find?_cons_of_neg (by rw [hn]; simp)]
  rfl
/-- the name of a connected matrix -/
def nameP (c : List (List Int)) : Bs := match types17.find? fun t => isoB c t.2 with
  | some t => t.1
  | none => [63]
def nameTo (c : List (List Int)) (k : Nat) : Option Bs := ((types17.take k).find? fun t => isoB c t.2).map (·.1)
theorem nameTo_step {c : List (List Int)} {k : Nat} (hk : k < 17) (h : nameTo c k = none) : nameTo c (k + 1) = if isoB c (types17.getD k tyD).2 = true then some (types17.getD k tyD).1 else none := by
  have hl : types17.length = 17 := rfl
  have hk' : k < types17.length := by rw [hl]; exact hk
  unfold nameTo at *
  rw [Option.map_eq_none_iff] at h
  have e : types17.take (k + 1) = types17.take k ++ [types17[k]] := List.take_succ_eq_append_getElem hk'
  have e2 : types17.getD k tyD = types17[k] := by simp [List.getD, hk']
  rw [e, e2, List.find?_append, h]
  cases hb : isoB c types17[k].2 <;> simp [List.find?, hb]
theorem nameP_found {c : List (List Int)} {k : Nat} (hk : k < 17) (h : nameTo c k = none) (hi : isoB c (types17.getD k tyD).2 = true) : nameP c = (types17.getD k tyD).1 := by
  have h1 := nameTo_step hk h
  rw [if_pos hi] at h1
  unfold nameTo at h1
  unfold nameP
  have e : types17.find? (fun t => isoB c t.2) = (types17.take (k + 1) ++ types17.drop (k + 1)).find? fun t => isoB c t.2 := by rw [List.take_append_drop]
  rw [e, List.find?_append]
  cases hf : (types17.take (k + 1)).find? fun t => isoB c t.2 with
  | none => rw [hf] at h1; simp at h1
  | some t =>
    rw [hf] at h1
    simp only [Option.map_some, Option.some.injEq] at h1
    exact h1
theorem nameP_none {c : List (List Int)} (h : nameTo c 17 = none) : nameP c = [63] := by
  have e : types17.take 17 = types17 := rfl
  unfold nameTo at h
  rw [e, Option.map_eq_none_iff] at h
  unfold nameP
  rw [h]
def sizeT (s : Bs) : Int :=
  if s = [65, 49] then 2 else if s = [65, 50] then 6 else if s = [65, 51] then 24 else if s = [65, 52] then 120 else if s = [66, 50] then 8
  else if s = [66, 51] ∨ s = [67, 51] then 48 else if s = [66, 52] ∨ s = [67, 52] then 384 else if s = [68, 52] then 192 else if s = [70, 52] then 1152 else if s = [71, 50] then 12 else 0
def names17 : List Bs := types17.map (·.1) ++ [[63]]
theorem nameP_mem (c : List (List Int)) : nameP c ∈ names17 := by
  unfold nameP
  split
  · rename_i t h
    exact List.mem_append_left _ (List.mem_map_of_mem (List.mem_of_find?_eq_some h))
  · exact List.mem_append_right _ (by simp)
theorem names_noX : ∀ s ∈ names17, (120 : UInt8) ∉ s ∧ s.length ≤ 3 ∧ 1 ≤ s.length ∧ 0 ≤ sizeT s ∧ sizeT s ≤ 1152 := by decide
end Go.Proofs.YtdedkfbiookofaaGreatDoor
namespace Go.Proofs.YtdedkfbiookofaaGreatDoor
set_option maxRecDepth 100000
open Go.RowKit
/-- a list of integers of the call's own that may be nil -/
def OrdV (w : World) (B : Nat) (v : Value) (xs : List Int) : Prop := (v = .slice none 0 0 ∧ xs = []) ∨ ∃ g c, v = (Value.slice (some ⟨g, 0, none⟩) xs.length c) ∧ Own w B g c xs
theorem OrdV.below {w w' : World} {B : Nat} {v : Value} {xs : List Int} (h : OrdV w B v xs) (hb : Below w.heap.size w w') : OrdV w' B v xs := by
  rcases h with h | ⟨g, c, h1, h2⟩
  · exact .inl h
  · exact .inr ⟨g, c, h1, h2.below hb h2.lt⟩
set_option maxHeartbeats 400000 in
theorem slices_Index_none (x : Int) (w : World) : Calls Tryz.prog 259 #[.slice none 0 0, .int .i64 x] w (Reads w (.int .i64 (-1))) := by
  go_enter Tryz.func259, Tryz.ntmps259
  go_wp2
  go_loopw [5, 8] (fun _ i wr => i = .int .i64 0 ∧ ∃ n, wr = w.drewN n) (fun _ _ _ => 0)
  case atStart => exact ⟨rfl, 0, rfl⟩
  case round =>
    obtain ⟨rfl, n, rfl⟩ := hrel
    go_wp2
    go_ret
    exact ⟨rfl, n, rfl⟩
set_option maxHeartbeats 400000 in
theorem slices_Index_at (g o n c : Nat) (x : Int) (xs : List Int) (w : World) (hn : xs.length = n) (hx : n ≤ 1099511627776) (hc : Cells w g o xs) :
    Calls Tryz.prog 259 #[(Value.slice (some ⟨g, o, none⟩) n c), .int .i64 x] w fun e w' => ∃ r : Int, e = .returned (.int .i64 r) ∧ (decide (0 ≤ r) = decide (x ∈ xs)) ∧ ∃ q, w' = w.drewN q := by
  subst hn
  go_enter Tryz.func259, Tryz.ntmps259
  go_wp2
  go_loopw [5, 8] (fun _ i wr => ∃ k : Nat, k ≤ xs.length ∧ i = .int .i64 k ∧ Hid (x ∉ xs.take k) ∧ ∃ n, wr = w.drewN n) (fun _ i _ => xs.length - (intOf i).toNat)
  case atStart => exact ⟨0, Nat.zero_le _, rfl, Lib.hid (by simp), 0, rfl⟩
  case round =>
    obtain ⟨k, hk, rfl, hno, n, rfl⟩ := hrel
    by_cases hlt : k < xs.length
    · have q1 := hc k hlt
      have hm : Hid (xs.getD k 0 = x → x ∈ xs) := fun e => by rw [← e]; simp [List.getD, hlt]
      have hno2 : Hid (¬ x = xs.getD k 0 → x ∉ xs.take (k + 1)) := fun e hmem => by
        rw [List.take_succ_eq_append_getElem hlt] at hmem
        rcases List.mem_append.1 hmem with h | h
        · exact hno.out h
        · have e3 : xs.getD k 0 = xs[k] := by simp [List.getD, hlt]
          rw [List.mem_singleton, ← e3] at h
          exact e h
      generalize xs.getD k 0 = y at *
      by_cases hxy : x = y
      · have Hm := Lib.hid (hm.out hxy.symm)
        subst hxy
        go_wp2
        go_ret
        exact ⟨k, rfl, (by first | exact ⟨fun _ => Hm.out, fun _ => by omega⟩ | (rw [decide_eq_true Hm.out]; simp)), n, rfl⟩
      · have Hn := Lib.hid (hno2.out hxy)
        have hb : (x == y) = false := by rw [beq_eq_false_iff_ne]; exact hxy
        clear hno2 hm
        go_wp2
        go_roundw
        case rel => exact ⟨k + 1, by omega, by go_num, Hn, n, rfl⟩
        case measure => simp [intOf]; omega
    · obtain rfl : k = xs.length := by omega
      have h := hno.out
      rw [List.take_length] at h
      have H := Lib.hid h
      clear hno h
      go_wp2
      go_ret
      exact ⟨-1, rfl, by rw [decide_eq_false H.out]; rfl, n, rfl⟩
set_option maxHeartbeats 400000 in
theorem slices_Contains_ord (v : Value) (B : Nat) (x : Int) (xs : List Int) (w : World) (hx : xs.length ≤ 1048576) (h : OrdV w B v xs) :
    Calls Tryz.prog 249 #[v, .int .i64 x] w (Reads w (.bool (decide (x ∈ xs)))) := by
  rcases h with ⟨rfl, rfl⟩ | ⟨g, c, rfl, ho⟩
  · have h1 := Lib.hid (slices_Index_none x w)
    go_enter Tryz.func249, Tryz.ntmps249
    go_wp2_with fail
    refine h1.out.mono ?_
    rintro e w1 ⟨rfl, hs⟩
    go_wp2_with fail
    go_ret
    exact ⟨ret_bool (by simp), hs⟩
  · have h1 := Lib.hid (slices_Index_at g 0 _ c x xs w rfl (by omega) ho.cells)
    go_enter Tryz.func249, Tryz.ntmps249
    go_wp2_with fail
    refine h1.out.mono ?_
    rintro e w1 ⟨r, rfl, hr, hs⟩
    have Hr := Lib.hid hr
    clear hr
    go_wp2_with fail
    go_ret
    exact ⟨ret_bool Hr.out, hs⟩
set_option maxHeartbeats 400000 in
theorem slices_Clone_ord (v : Value) (B : Nat) (xs : List Int) (w : World) (hx : xs.length ≤ 1048576) (h : OrdV w B v xs) :
    Calls Tryz.prog 46 #[v] w fun e w' => ∃ v', e = .returned v' ∧ OrdV w' w.heap.size v' xs ∧ (xs ≠ [] → ∃ g c, v' = (Value.slice (some ⟨g, 0, none⟩) xs.length c) ∧ Own w' w.heap.size g c xs) ∧ Below w.heap.size w w' := by
  rcases h with ⟨rfl, rfl⟩ | ⟨g, c, rfl, ho⟩
  · have hnil : ∀ W, (binOp .eql 25 (.slice none 0 0) (.slice none 0 0)).run Tryz.prog W = .ok (.bool true) W := fun W => by kernel_rfl
    go_enter Tryz.func46, Tryz.ntmps46
    go_wp2_with fail
    go_ret
    exact ⟨_, rfl, .inl ⟨rfl, rfl⟩, fun h => absurd rfl h, Below.refl _ _⟩
  · have hnil : ∀ W, (binOp .eql 25 (Value.slice (some ⟨g, 0, none⟩) xs.length c) (.slice none 0 0)).run Tryz.prog W = .ok (.bool false) W := fun W => Lib.run_eql_slice_nil W 25 3 _ _ _ _ _ Tryz.underlying25
    have hc := ho.cells
    have hg := ho.lt
    clear ho
    go_enter Tryz.func46, Tryz.ntmps46
    go_wp2_with (at_builtin; refine wpList_clone rfl _ _ rfl g 0 _ c xs rfl hg hc rfl rfl (by omega) ?_)
    intro g1 c1 w1 ho1 hb1
    go_wp2_with fail
    go_ret
    exact ⟨_, rfl, .inr ⟨g1, c1, rfl, ho1⟩, fun _ => ⟨g1, c1, rfl, ho1⟩, hb1⟩
theorem run_append_ord {w : World} {B : Nat} {v : Value} {xs : List Int} (h : OrdV w B v xs) (hB : B ≤ w.heap.size) (z : Int) (hx : xs.length + 1 ≤ 1048576) (ty : TypeId) :
    ∃ g c w', (Builtin.append_ #[25, 25] ty #[v, (Value.slice (some ⟨w.heap.size, 0, none⟩) 1 1)]).run Tryz.prog (w.alloc (.cells #[.int .i64 z] 3)) = .ok (Value.slice (some ⟨g, 0, none⟩) (xs.length + 1) c) w' ∧ Own w' B g c (xs ++ [z]) ∧ (v = .slice none 0 0 → Below w.heap.size w w') ∧ (∀ g0 n0 c0, v = (Value.slice (some ⟨g0, 0, none⟩) n0 c0) → w.grownBy w' (some g0)) := by
  rcases h with ⟨rfl, rfl⟩ | ⟨g, c, rfl, ho⟩
  · obtain ⟨i0, hi, hz0, hz1, hz2⟩ := info_parts info3
    have hnew := Own.new (w := w) (B := w.heap.size) z (Nat.le_refl _)
    have hown0 : (w.alloc (.cells #[.int .i64 z] 3)).ownsRow B 3 1 (.slice none 0 0) 0 [] := ⟨rfl, .inl ⟨rfl, rfl⟩⟩
    obtain ⟨v', w', hr, ho, hg, hiff⟩ := run_append_own (P := Tryz.prog) (w.alloc (.cells #[.int .i64 z] 3)) B 25 ty 3 i0 (.int .i64 0) 1 8 Tryz.underlying25 hi hz0 hz1 hz2 rfl (by decide) _ 0 _ hown0 ⟨w.heap.size, 0, none⟩ 1 1 [.int .i64 z] rfl
      (fun j u hu => by
        have hj : j = 0 := by have := (List.getElem?_eq_some_iff.1 hu).1; simp at this; exact this
        subst hj
        have := hnew.cell 0 (by simp)
        simp at hu
        rw [Addr.add_lit, Nat.add_zero, this, ← hu]
        rfl) (fun u hu => by simp at hu; subst hu; rfl) (by unfold maxLen; omega) (by omega) (by simp; omega)
    rcases ho.2 with ⟨h1, h2⟩ | ⟨g', cap', cur, hv, hb, hh, hn, hm, hs, htk⟩
    · exact absurd (hiff.1 h1).2 (by omega)
    · refine ⟨g', cap', w', ?_, ?_, fun _ => ?_, fun g0 n0 c0 e => by cases e⟩
      · rw [hr, hv]; rfl
      · show w'.ownsRow B 3 1 (Value.slice (some ⟨g', 0, none⟩) (([] ++ [z] : List Int).length) cap') _ _
        rw [hv] at ho
        exact ho
      · exact ((Below.refl _ _).alloc (Nat.le_refl _) _).grown hg (by simp) (by intro k hk; simp [Value.ownBlock] at hk)
  · obtain ⟨g', cap', w', hr, h1, h2, h3⟩ := run_append_ints (ho.alloc (.cells #[.int .i64 z] 3)) (Own.new (B := w.heap.size) z (Nat.le_refl _)).cells (c2 := 1) (by simp; omega) ty
    refine ⟨g', cap', w', hr, h1, (fun e => by cases e), fun g0 n0 c0 e => ?_⟩
    cases e
    exact ⟨h2.os, h2.tape, h2.output, Nat.le_trans (by simp) h2.size, fun k hk hne => (h2.block k (by simp; omega) hne).trans (Below.heap_alloc _ _ _ hk)⟩
end Go.Proofs.YtdedkfbiookofaaGreatDoor
