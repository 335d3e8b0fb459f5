/- Normal forms of words, equal elements, star products, the longest element covered: contracts of both. Letters that show that an element is not below another one: plain law; the reference's: contract. Plain law: subwords of normal forms (the Bruhat order); the letters that show that an element is not below another one. Matsumoto: reduced words of one element are joined by braid moves; the list of all of them, in order. Plain law. The numbers game: reduced words backwards and in the turned matrix, exchange, deletion, roots of reduced words. Plain law. -/
import Derived.Test.YtdedkfbiookofaaGreatDoorM14
import Derived.Test.YtdedkfbiookofaaGreatDoorM08
import Derived.Test.YtdedkfbiookofaaGreatDoorM16
import Derived.Deep.RegionHeld3
import Derived.Deep.RegionWith
import Derived.Deep.Cut
import Derived.Deep.CutRange
import Derived.Test.YtdedkfbiookofaaGreatDoorM01
namespace Go.Proofs.YtdedkfbiookofaaGreatDoor
set_option maxRecDepth 100000
open Go.RowKit Game
section
variable {w : World} {gc oc n cc : Nat} {c : List (List Int)}
set_option maxHeartbeats 1000000 in
theorem impl_reduced_any (gc oc n cc g o m cp : Nat) (c : List (List Int)) (v : List Int) (w : World) (hn : c.length = n) (hm : v.length = m) (hL : Lets c 30 v) (hgc : gc < w.heap.size) (hg : g < w.heap.size) (hr : Rows2 w gc oc c) (hv : Cells w g o v) :
    Calls Tryz.prog 91 #[(Value.slice (some ⟨gc, oc, none⟩) n cc), (Value.slice (some ⟨g, o, none⟩) m cp)] w (GotInts w (nfI c v)) := by
  have hl := hL.few
  have k1 := Lib.hid (impl_image_any gc oc n cc g o m cp c v w hn hm hL.isC (by omega) hL.inr hgc hg hr hv)
  have k2 := Lib.hid (fun (W : World) (B g2 c2 : Nat) (hb : Below w.heap.size w W) (ho : Own W B g2 c2 (imI c v)) => impl_normal_any gc oc n cc g2 0 c.length c2 30 c (imI c v) (nfI c v) W hn (imI_length c v) hL.isC (imI_length c v) (by omega) (nfI_ok hL).norm (Nat.lt_of_lt_of_le hgc hb.size) ho.lt (hr.below hb hgc) ho.cells)
  have Hl := Lib.hid (imI_length c v)
  clear hr hv hL hl hn hm
  generalize nfI c v = y at *
  go_enter Tryz.func91, Tryz.ntmps91
  go_wp2_with fail
  refine k1.out.mono ?_
  rintro e w1 ⟨g1, c1, rfl, ho1, hb1⟩
  rw [show (actW c v (onesL c.length)).length = c.length from Hl.out]
  go_wp2_with fail
  refine (k2.out w1 _ g1 c1 hb1 ho1).mono ?_
  rintro e w2 ⟨g2, c2, rfl, ho2, hb2⟩
  go_wp2_with fail
  go_ret
  exact ⟨g2, c2, rfl, ho2.mono hb1.size, hb1.trans (hb2.mono hb1.size)⟩
set_option maxHeartbeats 1000000 in
theorem impl_same_any (gc oc n cc g1 o1 n1 c1 g2 o2 n2 c2 : Nat) (c : List (List Int)) (a b : List Int) (w : World) (hn : c.length = n) (hn1 : a.length = n1) (hn2 : b.length = n2) (hA : Lets c 30 a) (hB : Lets c 30 b) (hgc : gc < w.heap.size) (hg1 : g1 < w.heap.size) (hg2 : g2 < w.heap.size) (hr : Rows2 w gc oc c) (h1 : Cells w g1 o1 a) (h2 : Cells w g2 o2 b) :
    Calls Tryz.prog 76 #[(Value.slice (some ⟨gc, oc, none⟩) n cc), (Value.slice (some ⟨g1, o1, none⟩) n1 c1), (Value.slice (some ⟨g2, o2, none⟩) n2 c2)] w (Gives w (.bool (decide (imI c a = imI c b)))) := by
  have hn4 := hA.isC.2.1
  have la := hA.few
  have lb := hB.few
  have k1 := Lib.hid (impl_image_any gc oc n cc g1 o1 n1 c1 c a w hn hn1 hA.isC (by omega) hA.inr hgc hg1 hr h1)
  have k2 := Lib.hid (fun (W : World) (hb : Below w.heap.size w W) => impl_image_any gc oc n cc g2 o2 n2 c2 c b W hn hn2 hB.isC (by omega) hB.inr (Nat.lt_of_lt_of_le hgc hb.size) (Nat.lt_of_lt_of_le hg2 hb.size) (hr.below hb hgc) (h2.below hb hg2))
  have Ha := Lib.hid (imI_length c a); have Hb := Lib.hid (imI_length c b)
  have k3 := Lib.hid (fun (W : World) (ga ca gb cb : Nat) (x1 : Cells W ga 0 (imI c a)) (x2 : Cells W gb 0 (imI c b)) => slices_Equal_any ga 0 c.length ca gb 0 c.length cb (imI c a) (imI c b) W (imI_length c a) (imI_length c b) (by rw [imI_length]; omega) (by rw [imI_length]; omega) x1 x2)
  clear hr h1 h2 hA hB la lb hn hn1 hn2
  generalize decide (imI c a = imI c b) = r at *
  go_enter Tryz.func76, Tryz.ntmps76
  go_wp2_with fail
  refine k1.out.mono ?_
  rintro e w1 ⟨ga, ca, rfl, ho1, hb1⟩
  rw [show (actW c a (onesL c.length)).length = c.length from Ha.out]
  go_wp2_with fail
  refine (k2.out w1 hb1).mono ?_
  rintro e w2 ⟨gb, cb, rfl, ho2, hb2⟩
  rw [show (actW c b (onesL c.length)).length = c.length from Hb.out]
  go_wp2_with fail
  refine (k3.out w2 ga ca gb cb (ho1.below hb2 ho1.lt).cells ho2.cells).mono ?_
  rintro e w3 ⟨rfl, hs3⟩
  go_wp2_with fail
  go_ret
  exact ⟨rfl, below_still (hb1.trans (hb2.mono hb1.size)) hs3⟩
/-- what the reference's normal form of a list is -/
def nfA (c : List (List Int)) (v : List Int) : List Int := if isWordB c v = true then nfI c v else []
set_option maxHeartbeats 1000000 in
theorem spec_NormalForm_any (gc oc n cc g o m cp : Nat) (c : List (List Int)) (v : List Int) (w : World) (hn : c.length = n) (hm : v.length = m) (hx : c.length ≤ 1048576) (hrl : ∀ j, j < c.length → (c.getD j []).length ≤ 1048576) (hl : v.length ≤ 1048576)
    (hgc : gc < w.heap.size) (hg : g < w.heap.size) (hr : Rows2 w gc oc c) (hv : Cells w g o v) :
    Calls Tryz.prog 51 #[(Value.slice (some ⟨gc, oc, none⟩) n cc), (Value.slice (some ⟨g, o, none⟩) m cp)] w (GotIntsB w (nfA c v) (isWordB c v)) := by
  have hIW := spec_IsWord_any gc oc n cc g o m cp c v w hn hm hx hrl hl hr hv
  cases hw : isWordB c v with
  | false =>
    rw [hw] at hIW
    rw [show nfA c v = [] from if_neg (by rw [hw]; decide)]
    have Hi := Lib.hid hIW
    clear hIW hw hr hv
    go_enter Tryz.func51, Tryz.ntmps51
    go_wp2_with fail
    refine Hi.out.mono ?_
    rintro e w1 ⟨rfl, hs1⟩
    have hb1 := below_still (Below.refl w.heap.size w) hs1
    go_wp2_with fail
    go_ret2
    exact ⟨_, 0, rfl, Own.empty hb1.size, hb1.alloc hb1.size _⟩
  | true =>
    rw [hw] at hIW
    have hW := wordOk_of hw
    have hL := hW.lets.mono (show 15 ≤ 30 by omega)
    rw [show nfA c v = nfI c v from if_pos hw]
    have Hi := Lib.hid hIW
    have Hn := Lib.hid (fun W (hs : ∃ q, W = w.drewN q) => spec_l8Normal_any gc oc n cc g o m cp c v (nfI c v) W hn hm hW.isC hl hW.inr (nfI_ok hL).norm (Nat.lt_of_lt_of_le hgc (below_still (Below.refl w.heap.size w) hs).size) (Nat.lt_of_lt_of_le hg (below_still (Below.refl w.heap.size w) hs).size) (hr.still hs) (hv.still hs))
    clear hIW hw hr hv hW hL
    generalize nfI c v = y at *
    go_enter Tryz.func51, Tryz.ntmps51
    go_wp2_with fail
    refine Hi.out.mono ?_
    rintro e w1 ⟨rfl, hs1⟩
    have hb1 := below_still (Below.refl w.heap.size w) hs1
    go_wp2_with fail
    refine (Hn.out w1 hs1).mono ?_
    rintro e w2 ⟨g2, c2, rfl, ho2, hb2⟩
    go_wp2_with fail
    go_ret2
    exact ⟨g2, c2, rfl, ho2.mono hb1.size, hb1.trans (hb2.mono hb1.size)⟩
set_option maxHeartbeats 1000000 in
theorem spec_AreSame_ok (gc oc n cc g1 o1 n1 c1 g2 o2 n2 c2 : Nat) (c : List (List Int)) (a b : List Int) (w : World) (hn : c.length = n) (hn1 : a.length = n1) (hn2 : b.length = n2) (hA : WordOk c a) (hB : WordOk c b) (hgc : gc < w.heap.size) (hg1 : g1 < w.heap.size) (hg2 : g2 < w.heap.size) (hr : Rows2 w gc oc c) (h1 : Cells w g1 o1 a) (h2 : Cells w g2 o2 b) :
    Calls Tryz.prog 72 #[(Value.slice (some ⟨gc, oc, none⟩) n cc), (Value.slice (some ⟨g1, o1, none⟩) n1 c1), (Value.slice (some ⟨g2, o2, none⟩) n2 c2)] w (Gives w (.bool (decide (imI c a = imI c b)))) := by
  have hn4 := hA.isC.2.1
  have hcl := hA.isC.2.2.1
  have la := hA.few
  have lb := hB.few
  have i1 := spec_IsWord_any gc oc n cc g1 o1 n1 c1 c a w hn hn1 (by omega) (fun j hj => by have := hcl j hj; omega) (by omega) hr h1
  have i2 := fun W (hb : Below w.heap.size w W) => spec_IsWord_any gc oc n cc g2 o2 n2 c2 c b W hn hn2 (by omega) (fun j hj => by have := hcl j hj; omega) (by omega) (hr.below hb hgc) (h2.below hb hg2)
  rw [hA.isWord] at i1
  rw [hB.isWord] at i2
  have I1 := Lib.hid i1; have I2 := Lib.hid i2
  have k1 := Lib.hid (fun (W : World) (hb : Below w.heap.size w W) => spec_l8Image_any gc oc n cc g1 o1 n1 c1 c a W hn hn1 hA.isC (by omega) hA.inr (Nat.lt_of_lt_of_le hgc hb.size) (Nat.lt_of_lt_of_le hg1 hb.size) (hr.below hb hgc) (h1.below hb hg1))
  have k2 := Lib.hid (fun (W : World) (hb : Below w.heap.size w W) => spec_l8Image_any gc oc n cc g2 o2 n2 c2 c b W hn hn2 hB.isC (by omega) hB.inr (Nat.lt_of_lt_of_le hgc hb.size) (Nat.lt_of_lt_of_le hg2 hb.size) (hr.below hb hgc) (h2.below hb hg2))
  have Ha := Lib.hid (imI_length c a); have Hb := Lib.hid (imI_length c b)
  have k3 := Lib.hid (fun (W : World) (ga ca gb cb : Nat) (x1 : Cells W ga 0 (imI c a)) (x2 : Cells W gb 0 (imI c b)) => spec_EqualWords_any ga 0 c.length ca gb 0 c.length cb (imI c a) (imI c b) W (imI_length c a) (imI_length c b) (by rw [imI_length]; omega) x1 x2)
  clear hr h1 h2 hA hB la lb hn hn1 hn2 i1 i2 hcl
  generalize decide (imI c a = imI c b) = r at *
  go_enter Tryz.func72, Tryz.ntmps72
  go_wp2_with fail
  refine I1.out.mono ?_
  rintro e v1 ⟨rfl, hs1⟩
  have hB1 := below_still (Below.refl w.heap.size w) hs1
  go_wp2_with fail
  refine (I2.out v1 hB1).mono ?_
  rintro e v2 ⟨rfl, hs2⟩
  have hB2 := below_still hB1 hs2
  go_wp2_with fail
  refine (k1.out v2 hB2).mono ?_
  rintro e w1 ⟨ga, ca, rfl, ho1, hb1⟩
  have hB3 := hB2.trans (hb1.mono hB2.size)
  rw [show (actW c a (onesL c.length)).length = c.length from Ha.out]
  go_wp2_with fail
  refine (k2.out w1 hB3).mono ?_
  rintro e w2 ⟨gb, cb, rfl, ho2, hb2⟩
  rw [show (actW c b (onesL c.length)).length = c.length from Hb.out]
  go_wp2_with fail
  refine (k3.out w2 ga ca gb cb (ho1.below hb2 ho1.lt).cells ho2.cells).mono ?_
  rintro e w3 ⟨rfl, hs3⟩
  go_wp2_with fail
  go_ret
  exact ⟨rfl, below_still (hB3.trans (hb2.mono hB3.size)) hs3⟩
end
end Go.Proofs.YtdedkfbiookofaaGreatDoor
namespace Go.Proofs.YtdedkfbiookofaaGreatDoor
set_option maxRecDepth 100000
open Go.RowKit Game
/-- a normal form of at most 15 letters -/
structure Nw (c : List (List Int)) (U : List Int) : Prop where
  lets : Lets c 15 U
  self : nfI c U = U
theorem nw_nf {c : List (List Int)} {v : List Int} (h : WordOk c v) : Nw c (nfI c v) :=
  ⟨(nfI_ok (h.lets.mono (by omega))).lets.mono h.few, nfI_self (h.lets.mono (by omega))⟩
theorem Nw.cons {c : List (List Int)} {U : List Int} (h : Nw c U) {i : Nat} (hi : i < c.length) : Lets c 16 ((i : Int) :: U) :=
  lets_of h.lets.isC (by have := h.lets.few; simp; omega) fun x hx => by
    rcases List.mem_cons.1 hx with g | g
    · subst g; omega
    · exact h.lets.mem x g
theorem Nw.down {c : List (List Int)} {U : List Int} (h : Nw c U) {i : Nat} (hi : i < c.length) (hneg : (imI c U).getD i 0 < 0) : Nw c (nfI c ((i : Int) :: U)) := by
  have h1 := nfI_down (h.lets.mono (by omega)) hi hneg
  rw [h.self] at h1
  have h2 := nfI_ok ((h.cons hi).mono (show 16 ≤ 30 by omega))
  have := h.lets.few
  exact ⟨⟨h2.lets.isC, by omega, h2.lets.inr⟩, nfI_self ((h.cons hi).mono (by omega))⟩
theorem Nw.img {c : List (List Int)} {U : List Int} (h : Nw c U) {i : Nat} (hi : i < c.length) : imI c (nfI c ((i : Int) :: U)) = refl c i (imI c U) := by
  rw [(nfI_ok ((h.cons hi).mono (show 16 ≤ 30 by omega))).img]; rfl
end Go.Proofs.YtdedkfbiookofaaGreatDoor
namespace Go.Proofs.YtdedkfbiookofaaGreatDoor
set_option maxRecDepth 100000
open Go.RowKit Game
theorem normG_more {c : List (List Int)} : ∀ {f : Nat} {v x : List Int}, normG c f v = some x → normG c (f + 1) v = some x := by
  intro f
  induction f with
  | zero =>
    intro v x h
    simp only [normG] at h ⊢
    cases hz : nz v with
    | false => rw [hz] at h; simp at h
    | true =>
      cases hf : firstNeg v with
      | none => rw [hz, hf] at h; simpa using h
      | some i => rw [hz, hf] at h; simp at h
  | succ f ih =>
    intro v x h
    rw [normG] at h ⊢
    cases hz : nz v with
    | false => rw [hz] at h; simp at h
    | true =>
      rw [hz] at h
      cases hf : firstNeg v with
      | none => rw [hf] at h; simpa using h
      | some i =>
        rw [hf] at h
        simp only [if_true] at h ⊢
        cases hr : normG c f (refl c i v) with
        | none => rw [hr] at h; simp at h
        | some l => rw [hr] at h; rw [ih hr]; exact h
theorem normG_many {c : List (List Int)} {f : Nat} {v x : List Int} (h : normG c f v = some x) : ∀ k, normG c (f + k) v = some x
  | 0 => h
  | k + 1 => normG_more (normG_many h k)
/-- a letter twice is none -/
theorem imI_back {c : List (List Int)} {V : List Int} (h : Lets c 28 V) {i : Nat} (hi : i < c.length) : imI c ((i : Int) :: (i : Int) :: V) = imI c V := by
  have hC := h.isC
  have hf := h.few
  have hlt := h.nats_lt
  have h1 : ∀ k ∈ (i :: i :: V.map Int.toNat), k < c.length := fun k hk => by
    rcases List.mem_cons.1 hk with g | g
    · omega
    · rcases List.mem_cons.1 g with g | g
      · omega
      · exact hlt k g
  have := imgL_of_act hC h1 hlt (by simp; omega) (by simp; omega) (fun u => by
    show s (ent c) i (s (ent c) i (act (ent c) (V.map Int.toNat) u)) = _
    rw [s_s (car_of hC) hi])
  have e : intsOf (i :: i :: V.map Int.toNat) = (i : Int) :: (i : Int) :: V := by
    show (i : Int) :: (i : Int) :: intsOf (V.map Int.toNat) = _
    rw [h.nats]
  unfold imgL at this
  rw [e, h.nats] at this
  exact this
theorem Nw.norm {c : List (List Int)} {U : List Int} (h : Nw c U) : normG c 30 (imI c U) = some U := by
  have := (nfI_ok (h.lets.mono (show 15 ≤ 30 by omega))).norm
  rwa [h.self] at this
theorem Nw.head {c : List (List Int)} {i : Int} {V : List Int} (h : Nw c (i :: V)) : 0 ≤ i ∧ i < (c.length : Int) := h.lets.mem i (by simp)
/-- the first letter of a normal form, and what comes behind it -/
theorem Nw.tail {c : List (List Int)} {i : Int} {V : List Int} (h : Nw c (i :: V)) : firstNeg (imI c (i :: V)) = some i.toNat ∧ imI c V = refl c i.toNat (imI c (i :: V)) ∧ Nw c V := by
  have hi := h.head
  have hL : Lets c 14 V := lets_of h.lets.isC (by have := h.lets.few; rw [List.length_cons] at this; omega) fun x hx => h.lets.mem x (by simp [hx])
  obtain ⟨k, rfl⟩ : ∃ k : Nat, i = k := ⟨i.toNat, by omega⟩
  rw [Int.toNat_natCast]
  have hn := h.norm
  cases hf : firstNeg (imI c ((k : Int) :: V)) with
  | none => exact absurd (normG_none hn hf) (by simp)
  | some j =>
    obtain ⟨f', rest', e, h1, h2⟩ := normG_some hn hf
    injection h1 with h3 h4
    obtain rfl : k = j := by omega
    subst h4
    have hb : imI c V = refl c k (imI c ((k : Int) :: V)) := (imI_back (hL.mono (by omega)) (by omega)).symm
    refine ⟨rfl, hb, hL.mono (by omega), ?_⟩
    rw [← hb] at h2
    have h5 := normG_many h2 1
    rw [← e] at h5
    have h6 := (nfI_ok (hL.mono (show 14 ≤ 30 by omega))).norm
    rw [h6] at h5
    exact Option.some.inj h5
theorem Nw.none {c : List (List Int)} {U : List Int} (h : Nw c U) : firstNeg (imI c U) = none ↔ U = [] := by
  constructor
  · intro hf; exact normG_none h.norm hf
  · rintro rfl
    cases hf : firstNeg (imI c []) with
    | none => rfl
    | some j =>
      obtain ⟨f', rest', e, h1, h2⟩ := normG_some h.norm hf
      cases h1
def subN (c : List (List Int)) (U : List Int) (i : Int) : List Int := if (imI c U).getD i.toNat 0 < 0 then nfI c (i :: U) else U
def subU (c : List (List Int)) : List Int → List Int → List Int
  | [], U => U
  | i :: y, U => subU c y (subN c U i)
def subP (c : List (List Int)) : List Int → Nat → List Int → List Int
  | [], _, _ => []
  | i :: y, k, U => if (imI c U).getD i.toNat 0 < 0 then (k : Int) :: subP c y (k + 1) (subN c U i) else subP c y (k + 1) (subN c U i)
/-- whether an element is below another one -/
def bruB (c : List (List Int)) (a b : List Int) : Bool := decide (subU c (nfI c b) (nfI c a) = [])
theorem Nw.sub {c : List (List Int)} {U : List Int} (h : Nw c U) {i : Int} (h0 : 0 ≤ i) (h1 : i < (c.length : Int)) : Nw c (subN c U i) := by
  obtain ⟨k, rfl⟩ : ∃ k : Nat, i = k := ⟨i.toNat, by omega⟩
  unfold subN
  rw [Int.toNat_natCast]
  split
  · exact h.down (by omega) (by assumption)
  · exact h
theorem subN_img {c : List (List Int)} {U : List Int} (h : Nw c U) {i : Nat} (h1 : i < c.length) (hneg : (imI c U).getD i 0 < 0) : imI c (subN c U i) = refl c i (imI c U) := by
  unfold subN
  rw [Int.toNat_natCast, if_pos hneg]
  exact h.img h1
theorem subN_neg {c : List (List Int)} {U : List Int} {i : Nat} (hneg : (imI c U).getD i 0 < 0) : subN c U i = nfI c ((i : Int) :: U) := by
  unfold subN
  rw [Int.toNat_natCast, if_pos hneg]
theorem subN_pos {c : List (List Int)} {U : List Int} {i : Nat} (hneg : ¬ (imI c U).getD i 0 < 0) : subN c U i = U := by
  unfold subN
  rw [Int.toNat_natCast, if_neg hneg]
theorem subN_len {c : List (List Int)} {U : List Int} (h : Nw c U) {i : Int} (h0 : 0 ≤ i) (h1 : i < (c.length : Int)) : U.length ≤ (subN c U i).length + 1 := by
  obtain ⟨k, rfl⟩ : ∃ k : Nat, i = k := ⟨i.toNat, by omega⟩
  by_cases hn : (imI c U).getD k 0 < 0
  · rw [subN_neg hn]
    have := nfI_down (h.lets.mono (show 15 ≤ 29 by omega)) (by omega) hn
    rw [h.self] at this
    omega
  · rw [subN_pos hn]; omega
theorem subU_len {c : List (List Int)} : ∀ (y : List Int) {U : List Int}, (∀ x ∈ y, 0 ≤ x ∧ x < (c.length : Int)) → Nw c U → U.length ≤ (subU c y U).length + y.length
  | [], U, _, _ => by simp [subU]
  | i :: y, U, hy, h => by
    have hi := hy i (by simp)
    have h1 := subN_len h hi.1 hi.2
    have h2 := subU_len y (fun x hx => hy x (by simp [hx])) (h.sub hi.1 hi.2)
    show U.length ≤ (subU c y (subN c U i)).length + (y.length + 1)
    omega
theorem subU_drop {c : List (List Int)} {y U : List Int} {k : Nat} (hk : k < y.length) : subU c (y.drop k) U = subU c (y.drop (k + 1)) (subN c U (y.getD k 0)) := by
  have e : y.getD k 0 = y[k] := by simp [List.getD, hk]
  rw [List.drop_eq_getElem_cons hk, e]
  rfl
theorem subP_drop {c : List (List Int)} {y U : List Int} {k : Nat} (hk : k < y.length) : subP c (y.drop k) k U = if (imI c U).getD (y.getD k 0).toNat 0 < 0 then (k : Int) :: subP c (y.drop (k + 1)) (k + 1) (subN c U (y.getD k 0)) else subP c (y.drop (k + 1)) (k + 1) (subN c U (y.getD k 0)) := by
  have e : y.getD k 0 = y[k] := by simp [List.getD, hk]
  rw [List.drop_eq_getElem_cons hk, e]
  rfl
end Go.Proofs.YtdedkfbiookofaaGreatDoor
namespace Go.Proofs.YtdedkfbiookofaaGreatDoor
set_option maxRecDepth 100000
open Go.RowKit
namespace Game
variable {A : Mat} {n : Nat}
theorem meet_bond (hC : Car A n) {i j : Nat} (hi : i < n) (hj : j < n) (hne : i ≠ j) : (∃ m, Meet A n i j m ∧ bondP (A i j * A j i) = ((m + 1 : Nat) : Int) ∧ 1 ≤ m) ∨ (A i j ≤ -2 ∧ A j i ≤ -2) := by
  have h1 := hC.off i j hi hj hne
  have h2 := hC.off j i hj hi (Ne.symm hne)
  by_cases z : A i j = 0
  · exact .inl ⟨1, meet2 hC hi hj z (h1.2.2.1 z), by rw [z]; simp [bondP], by omega⟩
  by_cases z2 : A j i = 0
  · exact absurd (h1.2.2.2 z2) z
  have e1 : A i j = -1 ∨ A i j = -2 ∨ A i j = -3 := by omega
  have e2 : A j i = -1 ∨ A j i = -2 ∨ A j i = -3 := by omega
  rcases e1 with e1 | e1 | e1 <;> rcases e2 with e2 | e2 | e2
  · exact .inl ⟨2, meet3 hC hi hj e1 e2, by rw [e1, e2]; decide, by omega⟩
  · exact .inl ⟨3, meet4 hC hi hj e1 e2, by rw [e1, e2]; decide, by omega⟩
  · exact .inl ⟨5, meet6 hC hi hj e1 e2, by rw [e1, e2]; decide, by omega⟩
  · exact .inl ⟨3, (meet4 hC hj hi e2 e1).symm, by rw [e1, e2]; decide, by omega⟩
  · right; omega
  · right; omega
  · exact .inl ⟨5, (meet6 hC hj hi e2 e1).symm, by rw [e1, e2]; decide, by omega⟩
  · right; omega
  · right; omega
/-- a braid move -/
def BrMove (A : Mat) (n : Nat) (l l' : List Nat) : Prop :=
  ∃ (p r : List Nat) (i j m : Nat), i < n ∧ j < n ∧ i ≠ j ∧ bondP (A i j * A j i) = ((m + 1 : Nat) : Int) ∧ 1 ≤ m ∧ l = p ++ alt i j (m + 1) ++ r ∧ l' = p ++ alt j i (m + 1) ++ r
/-- braid moves lead from one word to the other -/
def Joined (A : Mat) (n : Nat) (l l' : List Nat) : Prop := ∀ S : List Nat → Prop, S l → (∀ a b, S a → BrMove A n a b → S b) → S l'
theorem Joined.refl (l : List Nat) : Joined A n l l := fun _ h _ => h
theorem Joined.trans {a b d : List Nat} (h : Joined A n a b) (k : Joined A n b d) : Joined A n a d := fun S hs hc => k S (h S hs hc) hc
theorem Joined.one {a b : List Nat} (h : BrMove A n a b) : Joined A n a b := fun _ hs hc => hc _ _ hs h
theorem Joined.cons {a b : List Nat} (i : Nat) (h : Joined A n a b) : Joined A n (i :: a) (i :: b) := fun S hs hc =>
  h (fun x => S (i :: x)) hs fun x y hx ⟨p, r, i', j', m, h1, h2, h3, h4, h5, e1, e2⟩ =>
    hc _ _ hx ⟨i :: p, r, i', j', m, h1, h2, h3, h4, h5, by rw [e1]; rfl, by rw [e2]; rfl⟩
theorem matsumoto (hC : Car A n) {d : Vec} (hd : Dom n d) : ∀ (k : Nat) (v : Vec) (l l' : List Nat), Plays A n l v d → Plays A n l' v d → l.length = k → Joined A n l l' := by
  intro k
  induction k using Nat.strongRecOn with
  | ind k ih =>
    intro v l l' h h' hl
    have hlen := (Plays.unique hC hd h h').1
    cases l with
    | nil =>
      have : l' = [] := List.eq_nil_of_length_eq_zero (by simpa using hlen)
      subst this
      exact Joined.refl _
    | cons i l1 =>
      cases l' with
      | nil => simp at hlen
      | cons j l1' =>
        simp only [List.length_cons] at hl hlen
        obtain ⟨hi, hvi, h1⟩ := Plays.cons.1 h
        obtain ⟨hj, hvj, h1'⟩ := Plays.cons.1 h'
        by_cases hne : i = j
        · subst hne
          exact (ih (k - 1) (by omega) (s A i v) l1 l1' h1 h1' (by omega)).cons i
        rcases meet_bond hC hi hj hne with ⟨m, hm, hb, hm1⟩ | ⟨e1, e2⟩
        · obtain ⟨g1, g2⟩ := hm.legal v hvi hvj
          obtain ⟨l2, p1, p2, -⟩ := h.any hC hd g1
          have p1' : Plays A n (i :: (alt j i m ++ l2)) v d := p1
          have q1 : Plays A n l2 (run A (alt j i (m + 1)) v) d := by
            rw [← hm.runs v]
            have e := p1.2
            rw [run_append] at e
            refine ⟨?_, e⟩
            have hleg := p1.1
            clear p1 p1' e hm hb g1 g2 p2
            generalize alt i j (m + 1) = ch at hleg ⊢
            revert hleg
            clear h h1 hvi hvj h' h1'
            revert v
            induction ch with
            | nil => intro v hleg; exact hleg
            | cons t ch ihc => intro v hleg; exact ihc _ hleg.2.2
          have q2 : Plays A n (alt j i (m + 1) ++ l2) v d := Plays.append g2 q1
          have q2' : Plays A n (j :: (alt i j m ++ l2)) v d := q2
          have a1 := ih (k - 1) (by omega) (s A i v) l1 (alt j i m ++ l2) h1 (Plays.cons.1 p1').2.2 (by omega)
          have hl2 := (Plays.unique hC hd h p1').1
          have hl3 := (Plays.unique hC hd h q2').1
          have a2 := ih (k - 1) (by omega) (s A j v) (alt i j m ++ l2) l1' (Plays.cons.1 q2').2.2 h1' (by simp only [List.length_cons] at hl3; omega)
          have a3 : Joined A n (i :: (alt j i m ++ l2)) (j :: (alt i j m ++ l2)) := Joined.one ⟨[], l2, i, j, m, hi, hj, hne, hb, hm1, rfl, rfl⟩
          exact ((a1.cons i).trans a3).trans (a2.cons j)
        · exfalso
          refine endless hC hd (k - 1) (fun k' _ => conf hC hd k') i j hi hj e1 e2 (s A i v) l1 h1 (by omega) ?_ ?_
          · simp only [s, hC.two i hi]; omega
          · simp only [s, hC.two i hi]
            have hm : v i * A j i ≥ v i * (-2) := Int.mul_le_mul_of_nonpos_left (by omega) e2
            omega
end Game
open Game
end Go.Proofs.YtdedkfbiookofaaGreatDoor
namespace Go.Proofs.YtdedkfbiookofaaGreatDoor
set_option maxRecDepth 100000
open Go.RowKit
namespace Game
variable {A B : Mat} {n : Nat} {d d' : Vec}
/-- a reduced word -/
def Red (A : Mat) (n : Nat) (d : Vec) (y : List Nat) : Prop := Plays A n y (act A y d) d
def Strict (n : Nat) (d : Vec) : Prop := ∀ i, i < n → 0 < d i
theorem Strict.dom (h : Strict n d) : Dom n d := fun i hi => Int.le_of_lt (h i hi)
theorem Red.nil : Red A n d [] := ⟨trivial, rfl⟩
theorem Red.cons (hC : Car A n) {i : Nat} {y : List Nat} (hi : i < n) (h : Red A n d y) (hp : 0 < act A y d i) : Red A n d (i :: y) := by
  refine Plays.cons.2 ⟨hi, ?_, ?_⟩
  · simp only [act, s, hC.two i hi]; omega
  · simp only [act]; rw [s_s hC hi]; exact h
theorem Red.ne (hC : Car A n) (hd : Strict n d) {y : List Nat} (h : Red A n d y) {i : Nat} (hi : i < n) : act A y d i ≠ 0 := Plays.ne hC hd h hi
theorem act_rev (hC : Car A n) : ∀ {y : List Nat}, (∀ i ∈ y, i < n) → ∀ u, act A y.reverse (act A y u) = u
  | [], _, _ => rfl
  | i :: y, h, u => by
    rw [List.reverse_cons, act_append]
    simp only [act]
    rw [s_s hC (h i (by simp))]
    exact act_rev hC (fun j hj => h j (List.mem_cons_of_mem _ hj)) u
theorem BrMove.meet (hC : Car A n) {i j m : Nat} (hi : i < n) (hj : j < n) (hne : i ≠ j) (hb : bondP (A i j * A j i) = ((m + 1 : Nat) : Int)) : Meet A n i j m := by
  rcases meet_bond hC hi hj hne with ⟨m', h1, h2, -⟩ | ⟨h1, h2⟩
  · rw [h2] at hb
    have : m' = m := by omega
    subst this; exact h1
  · have h4 : 4 ≤ A i j * A j i := by
      have h5 : 0 ≤ (-2 - A i j) * (-2 - A j i) := Int.mul_nonneg (by omega) (by omega)
      have e : (-2 - A i j) * (-2 - A j i) = 4 + 2 * A i j + 2 * A j i + A i j * A j i := by
        simp only [Int.sub_mul, Int.mul_sub]; omega
      omega
    unfold bondP at hb
    rw [if_neg (by omega), if_neg (by omega), if_neg (by omega), if_neg (by omega)] at hb
    omega
theorem alt_last (i j : Nat) : ∀ m, (alt i j (m + 1)).eraseIdx m = alt i j m := by
  intro m
  induction m generalizing i j with
  | zero => rfl
  | succ m ih =>
    show (i :: alt j i (m + 1)).eraseIdx (m + 1) = i :: alt j i m
    rw [List.eraseIdx_cons_succ, ih]
theorem alt_fold (hC : Car A n) (u : Vec) : ∀ (t m i j : Nat), i < n → j < n → t ≤ m → act A ((alt i j (m + 3)).eraseIdx (t + 1)) u = act A ((alt i j (m + 1)).eraseIdx t) u
  | 0, m, i, j, hi, hj, _ => by
    show act A ((i :: j :: i :: alt j i m).eraseIdx 1) u = act A ((i :: alt j i m).eraseIdx 0) u
    show s A i (s A i (act A (alt j i m) u)) = act A (alt j i m) u
    exact s_s hC hi _
  | t + 1, m, i, j, hi, hj, h => by
    obtain ⟨m', rfl⟩ : ∃ m', m = m' + 1 := ⟨m - 1, by omega⟩
    show act A ((i :: alt j i (m' + 3)).eraseIdx (t + 2)) u = act A ((i :: alt j i (m' + 1)).eraseIdx (t + 1)) u
    rw [List.eraseIdx_cons_succ, List.eraseIdx_cons_succ]
    show s A i (act A _ u) = s A i (act A _ u)
    rw [alt_fold hC u t m' j i hj hi (by omega)]
theorem alt_del (hC : Car A n) (u : Vec) : ∀ (m t i j : Nat), i < n → j < n → t ≤ m → act A ((alt i j (m + 1)).eraseIdx t) u = act A ((alt j i (m + 1)).eraseIdx (m - t)) u
  | 0, t, i, j, _, _, h => by
    obtain rfl : t = 0 := by omega
    rfl
  | 1, t, i, j, _, _, h => by
    rcases (show t = 0 ∨ t = 1 by omega) with rfl | rfl <;> rfl
  | m + 2, t, i, j, hi, hj, h => by
    by_cases h0 : t = 0
    · subst h0
      show act A (alt j i (m + 2)) u = _
      rw [show m + 2 - 0 = m + 2 from rfl, alt_last]
    · by_cases h2 : t = m + 2
      · subst h2
        rw [alt_last, Nat.sub_self]
        rfl
      · obtain ⟨t', rfl⟩ : ∃ t', t = t' + 1 := ⟨t - 1, by omega⟩
        rw [alt_fold hC u t' m i j hi hj (by omega), show m + 2 - (t' + 1) = (m - t') + 1 by omega, alt_fold hC u (m - t') m j i hj hi (by omega), alt_del hC u m t' i j hi hj (by omega)]
/-- words from which a letter can be left out so that a given thing is left -/
def Drops (A : Mat) (f : Vec → Vec) (y : List Nat) : Prop := ∃ k, k < y.length ∧ ∀ u, act A (y.eraseIdx k) u = f u
theorem erase_in {p X : List Nat} {k : Nat} (h : k < p.length) : (p ++ X).eraseIdx k = p.eraseIdx k ++ X := List.eraseIdx_append_of_lt_length h X
theorem erase_out (p X : List Nat) (t : Nat) : (p ++ X).eraseIdx (p.length + t) = p ++ X.eraseIdx t := by
  rw [List.eraseIdx_append_of_length_le (by omega), Nat.add_sub_cancel_left]
theorem Drops.move (hC : Car A n) {f : Vec → Vec} {a b : List Nat} (h : BrMove A n a b) (ha : Drops A f a) : Drops A f b := by
  obtain ⟨p, r, i, j, m, hi, hj, hne, hb, -, rfl, rfl⟩ := h
  obtain ⟨k, hk, he⟩ := ha
  have hac := (BrMove.meet hC hi hj hne hb).acts
  simp only [List.length_append, alt_length] at hk
  simp only [List.append_assoc] at he ⊢
  by_cases h1 : k < p.length
  · refine ⟨k, by simp [alt_length]; omega, fun u => ?_⟩
    have := he u
    rw [erase_in h1, act_append, act_append] at this
    rw [erase_in h1, act_append, act_append, ← hac]
    exact this
  · obtain ⟨t, rfl⟩ : ∃ t, k = p.length + t := ⟨k - p.length, by omega⟩
    by_cases h2 : t < m + 1
    · refine ⟨p.length + (m - t), by simp [alt_length]; omega, fun u => ?_⟩
      have := he u
      rw [erase_out, erase_in (by rw [alt_length]; exact h2), act_append, act_append, alt_del hC _ m t i j hi hj (by omega)] at this
      rw [erase_out, erase_in (by rw [alt_length]; omega), act_append, act_append]
      exact this
    · obtain ⟨t', rfl⟩ : ∃ t', t = (m + 1) + t' := ⟨t - (m + 1), by omega⟩
      refine ⟨p.length + ((m + 1) + t'), by simp [alt_length]; omega, fun u => ?_⟩
      have := he u
      have e1 := erase_out (alt i j (m + 1)) r t'
      have e2 := erase_out (alt j i (m + 1)) r t'
      rw [alt_length] at e1 e2
      rw [erase_out, e1, act_append, act_append] at this
      rw [erase_out, e2, act_append, act_append, ← hac]
      exact this
theorem exchange (hC : Car A n) (hd : Strict n d) {y : List Nat} (hy : Red A n d y) {i : Nat} (hi : i < n) (hneg : act A y d i < 0) : ∃ k, k < y.length ∧ ∀ u, act A (y.eraseIdx k) u = act A (i :: y) u := by
  obtain ⟨l', h1, -, h3⟩ := Plays.first hC hd.dom hy hi hneg
  have hj := matsumoto hC hd.dom _ _ _ _ h1 hy rfl
  refine hj (Drops A (fun u => act A (i :: y) u)) ⟨0, by simp, fun u => ?_⟩ (fun a b ha hab => Drops.move hC hab ha)
  show act A l' u = s A i (act A y u)
  rw [h3]
  exact (s_s hC hi _).symm
/-- from a word that is not reduced two letters can be left out -/
theorem deletion (hC : Car A n) (hd : Strict n d) : ∀ {w : List Nat}, (∀ i ∈ w, i < n) → ¬ Red A n d w → ∃ a b, a < b ∧ b < w.length ∧ ∀ u, act A ((w.eraseIdx b).eraseIdx a) u = act A w u
  | [], _, h => absurd Red.nil h
  | i :: y, hw, h => by
    have hi := hw i (by simp)
    have hy : ∀ j ∈ y, j < n := fun j hj => hw j (List.mem_cons_of_mem _ hj)
    by_cases hr : Red A n d y
    · have hneg : act A y d i < 0 := by
        rcases Int.lt_trichotomy (act A y d i) 0 with g | g | g
        · exact g
        · exact absurd g (hr.ne hC hd hi)
        · exact absurd (hr.cons hC hi g) h
      obtain ⟨k, hk, he⟩ := exchange hC hd hr hi hneg
      exact ⟨0, k + 1, by omega, by simp; omega, fun u => he u⟩
    · obtain ⟨a, b, hab, hb, he⟩ := deletion hC hd hy hr
      refine ⟨a + 1, b + 1, by omega, by simp; omega, fun u => ?_⟩
      rw [List.eraseIdx_cons_succ, List.eraseIdx_cons_succ]
      show s A i (act A _ u) = s A i (act A y u)
      rw [he]
end Game
end Go.Proofs.YtdedkfbiookofaaGreatDoor
