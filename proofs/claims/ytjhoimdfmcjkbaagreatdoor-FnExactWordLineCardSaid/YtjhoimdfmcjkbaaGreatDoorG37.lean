/- Normal forms of words, equal elements, star products, the longest element covered: contracts of both. Letters that show that an element is not below another one: plain law; the reference's: contract. Plain law: subwords of normal forms (the Bruhat order); the letters that show that an element is not below another one. -/
import Derived.Test.YtjhoimdfmcjkbaaGreatDoorG34
import Derived.Test.YtjhoimdfmcjkbaaGreatDoorG27
import Derived.Test.YtjhoimdfmcjkbaaGreatDoorG32
import Derived.Test.YtjhoimdfmcjkbaaGreatDoorG36
import Derived.Deep.RegionHeld3
import Derived.Deep.RegionWith
import Derived.Deep.Cut
import Derived.Deep.CutRange
import Derived.Test.YtjhoimdfmcjkbaaGreatDoorG02
namespace Go.Proofs.YtjhoimdfmcjkbaaGreatDoor
set_option maxRecDepth 100000
open Go.RowKit Game

section
variable {w : World} {gc oc n cc : Nat} {c : List (List Int)}
set_option maxHeartbeats 1000000 in
theorem impl_reduced_any (gc oc n cc g o m cp : Nat) (c : List (List Int)) (v : List Int) (w : World) (hn : c.length = n) (hm : v.length = m) (hL : Lets c 30 v) (hgc : gc < w.heap.size) (hg : g < w.heap.size) (hr : Rows2 w gc oc c) (hv : Cells w g o v) :
    Calls Tryz.prog 23 #[(Value.slice (some ⟨gc, oc, none⟩) n cc), (Value.slice (some ⟨g, o, none⟩) m cp)] w (GotInts w (nfI c v)) := by
  have hl := hL.few
  have k1 := Lib.hid (impl_image_any gc oc n cc g o m cp c v w hn hm hL.isC (by omega) hL.inr hgc hg hr hv)
  have k2 := Lib.hid (fun (W : World) (B g2 c2 : Nat) (hb : Below w.heap.size w W) (ho : Own W B g2 c2 (imI c v)) => impl_normal_any gc oc n cc g2 0 c.length c2 30 c (imI c v) (nfI c v) W hn (imI_length c v) hL.isC (imI_length c v) (by omega) (nfI_ok hL).norm (Nat.lt_of_lt_of_le hgc hb.size) ho.lt (hr.below hb hgc) ho.cells)
  have Hl := Lib.hid (imI_length c v)
  clear hr hv hL hl hn hm
  generalize nfI c v = y at *
  go_enter Tryz.func23, Tryz.ntmps23
  go_wp2_with fail
  refine k1.out.mono ?_
  rintro e w1 ⟨g1, c1, rfl, ho1, hb1⟩
  rw [show (actW c v (onesL c.length)).length = c.length from Hl.out]
  go_wp2_with fail
  refine (k2.out w1 _ g1 c1 hb1 ho1).mono ?_
  rintro e w2 ⟨g2, c2, rfl, ho2, hb2⟩
  go_wp2_with fail
  go_ret
  exact ⟨g2, c2, rfl, ho2.mono hb1.size, hb1.trans (hb2.mono hb1.size)⟩

/-- what the reference's normal form of a list is -/
def nfA (c : List (List Int)) (v : List Int) : List Int := if isWordB c v = true then nfI c v else []
set_option maxHeartbeats 1000000 in
theorem spec_NormalForm_any (gc oc n cc g o m cp : Nat) (c : List (List Int)) (v : List Int) (w : World) (hn : c.length = n) (hm : v.length = m) (hx : c.length ≤ 1048576) (hrl : ∀ j, j < c.length → (c.getD j []).length ≤ 1048576) (hl : v.length ≤ 1048576)
    (hgc : gc < w.heap.size) (hg : g < w.heap.size) (hr : Rows2 w gc oc c) (hv : Cells w g o v) :
    Calls Tryz.prog 12 #[(Value.slice (some ⟨gc, oc, none⟩) n cc), (Value.slice (some ⟨g, o, none⟩) m cp)] w (GotIntsB w (nfA c v) (isWordB c v)) := by
  have hIW := spec_IsWord_any gc oc n cc g o m cp c v w hn hm hx hrl hl hr hv
  cases hw : isWordB c v with
  | false =>
    rw [hw] at hIW
    rw [show nfA c v = [] from if_neg (by rw [hw]; decide)]
    have Hi := Lib.hid hIW
    clear hIW hw hr hv
    go_enter Tryz.func12, Tryz.ntmps12
    go_wp2_with fail
    refine Hi.out.mono ?_
    rintro e w1 ⟨rfl, hs1⟩
    have hb1 := below_still (Below.refl w.heap.size w) hs1
    go_wp2_with fail
    go_ret2
    exact ⟨_, 0, rfl, Own.empty hb1.size, hb1.alloc hb1.size _⟩
  | true =>
    rw [hw] at hIW
    have hW := wordOk_of hw
    have hL := hW.lets.mono (show 15 ≤ 30 by omega)
    rw [show nfA c v = nfI c v from if_pos hw]
    have Hi := Lib.hid hIW
    have Hn := Lib.hid (fun W (hs : ∃ q, W = w.drewN q) => spec_l8Normal_any gc oc n cc g o m cp c v (nfI c v) W hn hm hW.isC hl hW.inr (nfI_ok hL).norm (Nat.lt_of_lt_of_le hgc (below_still (Below.refl w.heap.size w) hs).size) (Nat.lt_of_lt_of_le hg (below_still (Below.refl w.heap.size w) hs).size) (hr.still hs) (hv.still hs))
    clear hIW hw hr hv hW hL
    generalize nfI c v = y at *
    go_enter Tryz.func12, Tryz.ntmps12
    go_wp2_with fail
    refine Hi.out.mono ?_
    rintro e w1 ⟨rfl, hs1⟩
    have hb1 := below_still (Below.refl w.heap.size w) hs1
    go_wp2_with fail
    refine (Hn.out w1 hs1).mono ?_
    rintro e w2 ⟨g2, c2, rfl, ho2, hb2⟩
    go_wp2_with fail
    go_ret2
    exact ⟨g2, c2, rfl, ho2.mono hb1.size, hb1.trans (hb2.mono hb1.size)⟩

/-! ### the star product -/
def GotOwn (w : World) (B : Nat) (y : List Int) (e : Ending) (w' : World) : Prop := ∃ g cap, e = .returned (Value.slice (some ⟨g, 0, none⟩) y.length cap) ∧ Own w' B g cap y ∧ Below w.heap.size w w'
end
end Go.Proofs.YtjhoimdfmcjkbaaGreatDoor
namespace Go.Proofs.YtjhoimdfmcjkbaaGreatDoor
set_option maxRecDepth 100000
open Go.RowKit Game

/-- a normal form of at most 15 letters -/
structure Nw (c : List (List Int)) (U : List Int) : Prop where
  lets : Lets c 15 U
  self : nfI c U = U
theorem nw_nf {c : List (List Int)} {v : List Int} (h : WordOk c v) : Nw c (nfI c v) :=
  ⟨(nfI_ok (h.lets.mono (by omega))).lets.mono h.few, nfI_self (h.lets.mono (by omega))⟩
theorem Nw.cons {c : List (List Int)} {U : List Int} (h : Nw c U) {i : Nat} (hi : i < c.length) : Lets c 16 ((i : Int) :: U) :=
  lets_of h.lets.isC (by have := h.lets.few; simp; omega) fun x hx => by
    rcases List.mem_cons.1 hx with g | g
    · subst g; omega
    · exact h.lets.mem x g
theorem Nw.down {c : List (List Int)} {U : List Int} (h : Nw c U) {i : Nat} (hi : i < c.length) (hneg : (imI c U).getD i 0 < 0) : Nw c (nfI c ((i : Int) :: U)) := by
  have h1 := nfI_down (h.lets.mono (by omega)) hi hneg
  rw [h.self] at h1
  have h2 := nfI_ok ((h.cons hi).mono (show 16 ≤ 30 by omega))
  have := h.lets.few
  exact ⟨⟨h2.lets.isC, by omega, h2.lets.inr⟩, nfI_self ((h.cons hi).mono (by omega))⟩
theorem Nw.img {c : List (List Int)} {U : List Int} (h : Nw c U) {i : Nat} (hi : i < c.length) : imI c (nfI c ((i : Int) :: U)) = refl c i (imI c U) := by
  rw [(nfI_ok ((h.cons hi).mono (show 16 ≤ 30 by omega))).img]; rfl
theorem Nw.ne {c : List (List Int)} {U : List Int} (h : Nw c U) {i : Nat} (hi : i < c.length) : (imI c U).getD i 0 ≠ 0 := imI_ne (h.lets.mono (by omega)) hi
/-- letter after letter -/
def nbGo (c : List (List Int)) : List Int → List Int → List Int → Option (List Int × List Int)
  | [], U, V => some (U, V)
  | s :: ps, U, V => if 0 ≤ s ∧ s < (c.length : Int) ∧ (imI c V).getD s.toNat 0 < 0 then nbGo c ps (if (imI c U).getD s.toNat 0 < 0 then nfI c (s :: U) else U) (nfI c (s :: V)) else none
def nbR (r : Option (List Int × List Int)) : Bool := match r with
  | none => false
  | some (U, V) => decide (V.length < U.length)
def notB (c : List (List Int)) (a b ps : List Int) : Bool := nbR (nbGo c ps (nfI c a) (nfI c b))
theorem nbGo_drop {c : List (List Int)} {ps U V : List Int} {k : Nat} (hk : k < ps.length) : nbGo c (ps.drop k) U V = if 0 ≤ ps.getD k 0 ∧ ps.getD k 0 < (c.length : Int) ∧ (imI c V).getD (ps.getD k 0).toNat 0 < 0 then nbGo c (ps.drop (k + 1)) (if (imI c U).getD (ps.getD k 0).toNat 0 < 0 then nfI c (ps.getD k 0 :: U) else U) (nfI c (ps.getD k 0 :: V)) else none := by
  have e : ps.getD k 0 = ps[k] := by simp [List.getD, hk]
  rw [List.drop_eq_getElem_cons hk, e]
  rfl
theorem nbGo_end (c : List (List Int)) (ps U V : List Int) : nbGo c (ps.drop ps.length) U V = some (U, V) := by rw [List.drop_length]; rfl

end Go.Proofs.YtjhoimdfmcjkbaaGreatDoor
namespace Go.Proofs.YtjhoimdfmcjkbaaGreatDoor
set_option maxRecDepth 100000
open Go.RowKit Game

theorem normG_more {c : List (List Int)} : ∀ {f : Nat} {v x : List Int}, normG c f v = some x → normG c (f + 1) v = some x := by
  intro f
  induction f with
  | zero =>
    intro v x h
    simp only [normG] at h ⊢
    cases hz : nz v with
    | false => rw [hz] at h; simp at h
    | true =>
      cases hf : firstNeg v with
      | none => rw [hz, hf] at h; simpa using h
      | some i => rw [hz, hf] at h; simp at h
  | succ f ih =>
    intro v x h
    rw [normG] at h ⊢
    cases hz : nz v with
    | false => rw [hz] at h; simp at h
    | true =>
      rw [hz] at h
      cases hf : firstNeg v with
      | none => rw [hf] at h; simpa using h
      | some i =>
        rw [hf] at h
        simp only [if_true] at h ⊢
        cases hr : normG c f (refl c i v) with
        | none => rw [hr] at h; simp at h
        | some l => rw [hr] at h; rw [ih hr]; exact h
theorem normG_many {c : List (List Int)} {f : Nat} {v x : List Int} (h : normG c f v = some x) : ∀ k, normG c (f + k) v = some x
  | 0 => h
  | k + 1 => normG_more (normG_many h k)

/-- a letter twice is none -/
theorem imI_back {c : List (List Int)} {V : List Int} (h : Lets c 28 V) {i : Nat} (hi : i < c.length) : imI c ((i : Int) :: (i : Int) :: V) = imI c V := by
  have hC := h.isC
  have hf := h.few
  have hlt := h.nats_lt
  have h1 : ∀ k ∈ (i :: i :: V.map Int.toNat), k < c.length := fun k hk => by
    rcases List.mem_cons.1 hk with g | g
    · omega
    · rcases List.mem_cons.1 g with g | g
      · omega
      · exact hlt k g
  have := imgL_of_act hC h1 hlt (by simp; omega) (by simp; omega) (fun u => by
    show s (ent c) i (s (ent c) i (act (ent c) (V.map Int.toNat) u)) = _
    rw [s_s (car_of hC) hi])
  have e : intsOf (i :: i :: V.map Int.toNat) = (i : Int) :: (i : Int) :: V := by
    show (i : Int) :: (i : Int) :: intsOf (V.map Int.toNat) = _
    rw [h.nats]
  unfold imgL at this
  rw [e, h.nats] at this
  exact this

theorem Nw.norm {c : List (List Int)} {U : List Int} (h : Nw c U) : normG c 30 (imI c U) = some U := by
  have := (nfI_ok (h.lets.mono (show 15 ≤ 30 by omega))).norm
  rwa [h.self] at this
theorem Nw.head {c : List (List Int)} {i : Int} {V : List Int} (h : Nw c (i :: V)) : 0 ≤ i ∧ i < (c.length : Int) := h.lets.mem i (by simp)
/-- the first letter of a normal form, and what comes behind it -/
theorem Nw.tail {c : List (List Int)} {i : Int} {V : List Int} (h : Nw c (i :: V)) : firstNeg (imI c (i :: V)) = some i.toNat ∧ imI c V = refl c i.toNat (imI c (i :: V)) ∧ Nw c V := by
  have hi := h.head
  have hL : Lets c 14 V := lets_of h.lets.isC (by have := h.lets.few; rw [List.length_cons] at this; omega) fun x hx => h.lets.mem x (by simp [hx])
  obtain ⟨k, rfl⟩ : ∃ k : Nat, i = k := ⟨i.toNat, by omega⟩
  rw [Int.toNat_natCast]
  have hn := h.norm
  cases hf : firstNeg (imI c ((k : Int) :: V)) with
  | none => exact absurd (normG_none hn hf) (by simp)
  | some j =>
    obtain ⟨f', rest', e, h1, h2⟩ := normG_some hn hf
    injection h1 with h3 h4
    obtain rfl : k = j := by omega
    subst h4
    have hb : imI c V = refl c k (imI c ((k : Int) :: V)) := (imI_back (hL.mono (by omega)) (by omega)).symm
    refine ⟨rfl, hb, hL.mono (by omega), ?_⟩
    rw [← hb] at h2
    have h5 := normG_many h2 1
    rw [← e] at h5
    have h6 := (nfI_ok (hL.mono (show 14 ≤ 30 by omega))).norm
    rw [h6] at h5
    exact Option.some.inj h5
theorem Nw.none {c : List (List Int)} {U : List Int} (h : Nw c U) : firstNeg (imI c U) = none ↔ U = [] := by
  constructor
  · intro hf; exact normG_none h.norm hf
  · rintro rfl
    cases hf : firstNeg (imI c []) with
    | none => rfl
    | some j =>
      obtain ⟨f', rest', e, h1, h2⟩ := normG_some h.norm hf
      cases h1

/-! ### a word taken away letter by letter -/
def subN (c : List (List Int)) (U : List Int) (i : Int) : List Int := if (imI c U).getD i.toNat 0 < 0 then nfI c (i :: U) else U
def subU (c : List (List Int)) : List Int → List Int → List Int
  | [], U => U
  | i :: y, U => subU c y (subN c U i)
def subP (c : List (List Int)) : List Int → Nat → List Int → List Int
  | [], _, _ => []
  | i :: y, k, U => if (imI c U).getD i.toNat 0 < 0 then (k : Int) :: subP c y (k + 1) (subN c U i) else subP c y (k + 1) (subN c U i)
/-- whether an element is below another one -/
def bruB (c : List (List Int)) (a b : List Int) : Bool := decide (subU c (nfI c b) (nfI c a) = [])
/-- the places of letters of a normal form that make up an element -/
def subL (c : List (List Int)) (a b : List Int) : List Int := subP c (nfI c b) 0 (nfI c a)
theorem Nw.sub {c : List (List Int)} {U : List Int} (h : Nw c U) {i : Int} (h0 : 0 ≤ i) (h1 : i < (c.length : Int)) : Nw c (subN c U i) := by
  obtain ⟨k, rfl⟩ : ∃ k : Nat, i = k := ⟨i.toNat, by omega⟩
  unfold subN
  rw [Int.toNat_natCast]
  split
  · exact h.down (by omega) (by assumption)
  · exact h
theorem subN_img {c : List (List Int)} {U : List Int} (h : Nw c U) {i : Nat} (h1 : i < c.length) (hneg : (imI c U).getD i 0 < 0) : imI c (subN c U i) = refl c i (imI c U) := by
  unfold subN
  rw [Int.toNat_natCast, if_pos hneg]
  exact h.img h1
theorem subN_neg {c : List (List Int)} {U : List Int} {i : Nat} (hneg : (imI c U).getD i 0 < 0) : subN c U i = nfI c ((i : Int) :: U) := by
  unfold subN
  rw [Int.toNat_natCast, if_pos hneg]
theorem subN_pos {c : List (List Int)} {U : List Int} {i : Nat} (hneg : ¬ (imI c U).getD i 0 < 0) : subN c U i = U := by
  unfold subN
  rw [Int.toNat_natCast, if_neg hneg]
theorem subN_len {c : List (List Int)} {U : List Int} (h : Nw c U) {i : Int} (h0 : 0 ≤ i) (h1 : i < (c.length : Int)) : U.length ≤ (subN c U i).length + 1 := by
  obtain ⟨k, rfl⟩ : ∃ k : Nat, i = k := ⟨i.toNat, by omega⟩
  by_cases hn : (imI c U).getD k 0 < 0
  · rw [subN_neg hn]
    have := nfI_down (h.lets.mono (show 15 ≤ 29 by omega)) (by omega) hn
    rw [h.self] at this
    omega
  · rw [subN_pos hn]; omega
theorem subU_len {c : List (List Int)} : ∀ (y : List Int) {U : List Int}, (∀ x ∈ y, 0 ≤ x ∧ x < (c.length : Int)) → Nw c U → U.length ≤ (subU c y U).length + y.length
  | [], U, _, _ => by simp [subU]
  | i :: y, U, hy, h => by
    have hi := hy i (by simp)
    have h1 := subN_len h hi.1 hi.2
    have h2 := subU_len y (fun x hx => hy x (by simp [hx])) (h.sub hi.1 hi.2)
    show U.length ≤ (subU c y (subN c U i)).length + (y.length + 1)
    omega
theorem subU_nw {c : List (List Int)} : ∀ (y : List Int) {U : List Int}, (∀ x ∈ y, 0 ≤ x ∧ x < (c.length : Int)) → Nw c U → Nw c (subU c y U)
  | [], U, _, h => h
  | i :: y, U, hy, h => by
    have hi := hy i (by simp)
    exact subU_nw y (fun x hx => hy x (by simp [hx])) (h.sub hi.1 hi.2)
theorem subU_drop {c : List (List Int)} {y U : List Int} {k : Nat} (hk : k < y.length) : subU c (y.drop k) U = subU c (y.drop (k + 1)) (subN c U (y.getD k 0)) := by
  have e : y.getD k 0 = y[k] := by simp [List.getD, hk]
  rw [List.drop_eq_getElem_cons hk, e]
  rfl
theorem subP_drop {c : List (List Int)} {y U : List Int} {k : Nat} (hk : k < y.length) : subP c (y.drop k) k U = if (imI c U).getD (y.getD k 0).toNat 0 < 0 then (k : Int) :: subP c (y.drop (k + 1)) (k + 1) (subN c U (y.getD k 0)) else subP c (y.drop (k + 1)) (k + 1) (subN c U (y.getD k 0)) := by
  have e : y.getD k 0 = y[k] := by simp [List.getD, hk]
  rw [List.drop_eq_getElem_cons hk, e]
  rfl
theorem subP_len {c : List (List Int)} : ∀ (y : List Int) (k : Nat) (U : List Int), (subP c y k U).length ≤ y.length
  | [], k, U => by simp [subP]
  | i :: y, k, U => by
    have h := subP_len (c := c) y (k + 1) (subN c U i)
    unfold subP
    split
    · simp; omega
    · simp; omega

/-! ### the letters that show that an element is not below another one -/
def dropL (c : List (List Int)) : List Int → List Int → List Int
  | [], _ => []
  | s :: V, U => if U.length ≤ V.length + 1 then s :: dropL c V (subN c U s) else []
theorem dropL_len {c : List (List Int)} : ∀ (V U : List Int), (dropL c V U).length ≤ V.length
  | [], U => by simp [dropL]
  | s :: V, U => by
    have := dropL_len (c := c) V (subN c U s)
    unfold dropL
    split
    · simp; omega
    · simp

end Go.Proofs.YtjhoimdfmcjkbaaGreatDoor
