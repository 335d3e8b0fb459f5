/- Letters that show that an element is not below another one: plain law; the reference's: contract. Plain law: subwords of normal forms (the Bruhat order); the letters that show that an element is not below another one. IsReduced of both, the places of braid moves of both, copies of matrices: contracts. The reference's matrices of types: contracts. New rows and a bool; small laws of sets of vectors. -/
import Derived.Test.YtnpechcnmchneaaGreatDoorG22
import Derived.Deep.RegionHeld3
import Derived.Deep.RegionWith
import Derived.Deep.Cut
import Derived.Deep.CutRange
import Derived.Test.YtnpechcnmchneaaGreatDoorG01
import Derived.Test.YtnpechcnmchneaaGreatDoorG32
import Derived.Test.YtnpechcnmchneaaGreatDoorG25
import Derived.Test.YtnpechcnmchneaaGreatDoorG26
import Derived.Test.YtnpechcnmchneaaGreatDoorG14
import Derived.Test.YtnpechcnmchneaaGreatDoorG28
import Derived.Test.YtnpechcnmchneaaGreatDoorG04
namespace Go.Proofs.YtnpechcnmchneaaGreatDoor
set_option maxRecDepth 100000
open Go.RowKit Game

/-- a normal form of at most 15 letters -/
structure Nw (c : List (List Int)) (U : List Int) : Prop where
  lets : Lets c 15 U
  self : nfI c U = U
theorem nw_nf {c : List (List Int)} {v : List Int} (h : WordOk c v) : Nw c (nfI c v) :=
  ⟨(nfI_ok (h.lets.mono (by omega))).lets.mono h.few, nfI_self (h.lets.mono (by omega))⟩
theorem Nw.cons {c : List (List Int)} {U : List Int} (h : Nw c U) {i : Nat} (hi : i < c.length) : Lets c 16 ((i : Int) :: U) :=
  lets_of h.lets.isC (by have := h.lets.few; simp; omega) fun x hx => by
    rcases List.mem_cons.1 hx with g | g
    · subst g; omega
    · exact h.lets.mem x g
theorem Nw.down {c : List (List Int)} {U : List Int} (h : Nw c U) {i : Nat} (hi : i < c.length) (hneg : (imI c U).getD i 0 < 0) : Nw c (nfI c ((i : Int) :: U)) := by
  have h1 := nfI_down (h.lets.mono (by omega)) hi hneg
  rw [h.self] at h1
  have h2 := nfI_ok ((h.cons hi).mono (show 16 ≤ 30 by omega))
  have := h.lets.few
  exact ⟨⟨h2.lets.isC, by omega, h2.lets.inr⟩, nfI_self ((h.cons hi).mono (by omega))⟩
theorem Nw.img {c : List (List Int)} {U : List Int} (h : Nw c U) {i : Nat} (hi : i < c.length) : imI c (nfI c ((i : Int) :: U)) = refl c i (imI c U) := by
  rw [(nfI_ok ((h.cons hi).mono (show 16 ≤ 30 by omega))).img]; rfl
theorem Nw.ne {c : List (List Int)} {U : List Int} (h : Nw c U) {i : Nat} (hi : i < c.length) : (imI c U).getD i 0 ≠ 0 := imI_ne (h.lets.mono (by omega)) hi
/-- letter after letter -/
def nbGo (c : List (List Int)) : List Int → List Int → List Int → Option (List Int × List Int)
  | [], U, V => some (U, V)
  | s :: ps, U, V => if 0 ≤ s ∧ s < (c.length : Int) ∧ (imI c V).getD s.toNat 0 < 0 then nbGo c ps (if (imI c U).getD s.toNat 0 < 0 then nfI c (s :: U) else U) (nfI c (s :: V)) else none
def nbR (r : Option (List Int × List Int)) : Bool := match r with
  | none => false
  | some (U, V) => decide (V.length < U.length)
def notB (c : List (List Int)) (a b ps : List Int) : Bool := nbR (nbGo c ps (nfI c a) (nfI c b))
theorem nbGo_drop {c : List (List Int)} {ps U V : List Int} {k : Nat} (hk : k < ps.length) : nbGo c (ps.drop k) U V = if 0 ≤ ps.getD k 0 ∧ ps.getD k 0 < (c.length : Int) ∧ (imI c V).getD (ps.getD k 0).toNat 0 < 0 then nbGo c (ps.drop (k + 1)) (if (imI c U).getD (ps.getD k 0).toNat 0 < 0 then nfI c (ps.getD k 0 :: U) else U) (nfI c (ps.getD k 0 :: V)) else none := by
  have e : ps.getD k 0 = ps[k] := by simp [List.getD, hk]
  rw [List.drop_eq_getElem_cons hk, e]
  rfl
theorem nbGo_end (c : List (List Int)) (ps U V : List Int) : nbGo c (ps.drop ps.length) U V = some (U, V) := by rw [List.drop_length]; rfl

end Go.Proofs.YtnpechcnmchneaaGreatDoor
namespace Go.Proofs.YtnpechcnmchneaaGreatDoor
set_option maxRecDepth 100000
open Go.RowKit Game

theorem normG_more {c : List (List Int)} : ∀ {f : Nat} {v x : List Int}, normG c f v = some x → normG c (f + 1) v = some x := by
  intro f
  induction f with
  | zero =>
    intro v x h
    simp only [normG] at h ⊢
    cases hz : nz v with
    | false => rw [hz] at h; simp at h
    | true =>
      cases hf : firstNeg v with
      | none => rw [hz, hf] at h; simpa using h
      | some i => rw [hz, hf] at h; simp at h
  | succ f ih =>
    intro v x h
    rw [normG] at h ⊢
    cases hz : nz v with
    | false => rw [hz] at h; simp at h
    | true =>
      rw [hz] at h
      cases hf : firstNeg v with
      | none => rw [hf] at h; simpa using h
      | some i =>
        rw [hf] at h
        simp only [if_true] at h ⊢
        cases hr : normG c f (refl c i v) with
        | none => rw [hr] at h; simp at h
        | some l => rw [hr] at h; rw [ih hr]; exact h
theorem normG_many {c : List (List Int)} {f : Nat} {v x : List Int} (h : normG c f v = some x) : ∀ k, normG c (f + k) v = some x
  | 0 => h
  | k + 1 => normG_more (normG_many h k)

/-- a letter twice is none -/
theorem imI_back {c : List (List Int)} {V : List Int} (h : Lets c 28 V) {i : Nat} (hi : i < c.length) : imI c ((i : Int) :: (i : Int) :: V) = imI c V := by
  have hC := h.isC
  have hf := h.few
  have hlt := h.nats_lt
  have h1 : ∀ k ∈ (i :: i :: V.map Int.toNat), k < c.length := fun k hk => by
    rcases List.mem_cons.1 hk with g | g
    · omega
    · rcases List.mem_cons.1 g with g | g
      · omega
      · exact hlt k g
  have := imgL_of_act hC h1 hlt (by simp; omega) (by simp; omega) (fun u => by
    show s (ent c) i (s (ent c) i (act (ent c) (V.map Int.toNat) u)) = _
    rw [s_s (car_of hC) hi])
  have e : intsOf (i :: i :: V.map Int.toNat) = (i : Int) :: (i : Int) :: V := by
    show (i : Int) :: (i : Int) :: intsOf (V.map Int.toNat) = _
    rw [h.nats]
  unfold imgL at this
  rw [e, h.nats] at this
  exact this

theorem Nw.norm {c : List (List Int)} {U : List Int} (h : Nw c U) : normG c 30 (imI c U) = some U := by
  have := (nfI_ok (h.lets.mono (show 15 ≤ 30 by omega))).norm
  rwa [h.self] at this
theorem Nw.head {c : List (List Int)} {i : Int} {V : List Int} (h : Nw c (i :: V)) : 0 ≤ i ∧ i < (c.length : Int) := h.lets.mem i (by simp)
/-- the first letter of a normal form, and what comes behind it -/
theorem Nw.tail {c : List (List Int)} {i : Int} {V : List Int} (h : Nw c (i :: V)) : firstNeg (imI c (i :: V)) = some i.toNat ∧ imI c V = refl c i.toNat (imI c (i :: V)) ∧ Nw c V := by
  have hi := h.head
  have hL : Lets c 14 V := lets_of h.lets.isC (by have := h.lets.few; rw [List.length_cons] at this; omega) fun x hx => h.lets.mem x (by simp [hx])
  obtain ⟨k, rfl⟩ : ∃ k : Nat, i = k := ⟨i.toNat, by omega⟩
  rw [Int.toNat_natCast]
  have hn := h.norm
  cases hf : firstNeg (imI c ((k : Int) :: V)) with
  | none => exact absurd (normG_none hn hf) (by simp)
  | some j =>
    obtain ⟨f', rest', e, h1, h2⟩ := normG_some hn hf
    injection h1 with h3 h4
    obtain rfl : k = j := by omega
    subst h4
    have hb : imI c V = refl c k (imI c ((k : Int) :: V)) := (imI_back (hL.mono (by omega)) (by omega)).symm
    refine ⟨rfl, hb, hL.mono (by omega), ?_⟩
    rw [← hb] at h2
    have h5 := normG_many h2 1
    rw [← e] at h5
    have h6 := (nfI_ok (hL.mono (show 14 ≤ 30 by omega))).norm
    rw [h6] at h5
    exact Option.some.inj h5
theorem Nw.none {c : List (List Int)} {U : List Int} (h : Nw c U) : firstNeg (imI c U) = none ↔ U = [] := by
  constructor
  · intro hf; exact normG_none h.norm hf
  · rintro rfl
    cases hf : firstNeg (imI c []) with
    | none => rfl
    | some j =>
      obtain ⟨f', rest', e, h1, h2⟩ := normG_some h.norm hf
      cases h1

/-! ### a word taken away letter by letter -/
def subN (c : List (List Int)) (U : List Int) (i : Int) : List Int := if (imI c U).getD i.toNat 0 < 0 then nfI c (i :: U) else U
def subU (c : List (List Int)) : List Int → List Int → List Int
  | [], U => U
  | i :: y, U => subU c y (subN c U i)
def subP (c : List (List Int)) : List Int → Nat → List Int → List Int
  | [], _, _ => []
  | i :: y, k, U => if (imI c U).getD i.toNat 0 < 0 then (k : Int) :: subP c y (k + 1) (subN c U i) else subP c y (k + 1) (subN c U i)
/-- whether an element is below another one -/
def bruB (c : List (List Int)) (a b : List Int) : Bool := decide (subU c (nfI c b) (nfI c a) = [])
/-- the places of letters of a normal form that make up an element -/
def subL (c : List (List Int)) (a b : List Int) : List Int := subP c (nfI c b) 0 (nfI c a)
theorem Nw.sub {c : List (List Int)} {U : List Int} (h : Nw c U) {i : Int} (h0 : 0 ≤ i) (h1 : i < (c.length : Int)) : Nw c (subN c U i) := by
  obtain ⟨k, rfl⟩ : ∃ k : Nat, i = k := ⟨i.toNat, by omega⟩
  unfold subN
  rw [Int.toNat_natCast]
  split
  · exact h.down (by omega) (by assumption)
  · exact h
theorem subN_img {c : List (List Int)} {U : List Int} (h : Nw c U) {i : Nat} (h1 : i < c.length) (hneg : (imI c U).getD i 0 < 0) : imI c (subN c U i) = refl c i (imI c U) := by
  unfold subN
  rw [Int.toNat_natCast, if_pos hneg]
  exact h.img h1
theorem subN_neg {c : List (List Int)} {U : List Int} {i : Nat} (hneg : (imI c U).getD i 0 < 0) : subN c U i = nfI c ((i : Int) :: U) := by
  unfold subN
  rw [Int.toNat_natCast, if_pos hneg]
theorem subN_pos {c : List (List Int)} {U : List Int} {i : Nat} (hneg : ¬ (imI c U).getD i 0 < 0) : subN c U i = U := by
  unfold subN
  rw [Int.toNat_natCast, if_neg hneg]
theorem subN_len {c : List (List Int)} {U : List Int} (h : Nw c U) {i : Int} (h0 : 0 ≤ i) (h1 : i < (c.length : Int)) : U.length ≤ (subN c U i).length + 1 := by
  obtain ⟨k, rfl⟩ : ∃ k : Nat, i = k := ⟨i.toNat, by omega⟩
  by_cases hn : (imI c U).getD k 0 < 0
  · rw [subN_neg hn]
    have := nfI_down (h.lets.mono (show 15 ≤ 29 by omega)) (by omega) hn
    rw [h.self] at this
    omega
  · rw [subN_pos hn]; omega
theorem subU_len {c : List (List Int)} : ∀ (y : List Int) {U : List Int}, (∀ x ∈ y, 0 ≤ x ∧ x < (c.length : Int)) → Nw c U → U.length ≤ (subU c y U).length + y.length
  | [], U, _, _ => by simp [subU]
  | i :: y, U, hy, h => by
    have hi := hy i (by simp)
    have h1 := subN_len h hi.1 hi.2
    have h2 := subU_len y (fun x hx => hy x (by simp [hx])) (h.sub hi.1 hi.2)
    show U.length ≤ (subU c y (subN c U i)).length + (y.length + 1)
    omega
theorem subU_nw {c : List (List Int)} : ∀ (y : List Int) {U : List Int}, (∀ x ∈ y, 0 ≤ x ∧ x < (c.length : Int)) → Nw c U → Nw c (subU c y U)
  | [], U, _, h => h
  | i :: y, U, hy, h => by
    have hi := hy i (by simp)
    exact subU_nw y (fun x hx => hy x (by simp [hx])) (h.sub hi.1 hi.2)
theorem subU_drop {c : List (List Int)} {y U : List Int} {k : Nat} (hk : k < y.length) : subU c (y.drop k) U = subU c (y.drop (k + 1)) (subN c U (y.getD k 0)) := by
  have e : y.getD k 0 = y[k] := by simp [List.getD, hk]
  rw [List.drop_eq_getElem_cons hk, e]
  rfl
theorem subP_drop {c : List (List Int)} {y U : List Int} {k : Nat} (hk : k < y.length) : subP c (y.drop k) k U = if (imI c U).getD (y.getD k 0).toNat 0 < 0 then (k : Int) :: subP c (y.drop (k + 1)) (k + 1) (subN c U (y.getD k 0)) else subP c (y.drop (k + 1)) (k + 1) (subN c U (y.getD k 0)) := by
  have e : y.getD k 0 = y[k] := by simp [List.getD, hk]
  rw [List.drop_eq_getElem_cons hk, e]
  rfl
theorem subP_len {c : List (List Int)} : ∀ (y : List Int) (k : Nat) (U : List Int), (subP c y k U).length ≤ y.length
  | [], k, U => by simp [subP]
  | i :: y, k, U => by
    have h := subP_len (c := c) y (k + 1) (subN c U i)
    unfold subP
    split
    · simp; omega
    · simp; omega

/-! ### the letters that show that an element is not below another one -/
def dropL (c : List (List Int)) : List Int → List Int → List Int
  | [], _ => []
  | s :: V, U => if U.length ≤ V.length + 1 then s :: dropL c V (subN c U s) else []
theorem dropL_len {c : List (List Int)} : ∀ (V U : List Int), (dropL c V U).length ≤ V.length
  | [], U => by simp [dropL]
  | s :: V, U => by
    have := dropL_len (c := c) V (subN c U s)
    unfold dropL
    split
    · simp; omega
    · simp

end Go.Proofs.YtnpechcnmchneaaGreatDoor
namespace Go.Proofs.YtnpechcnmchneaaGreatDoor
set_option maxRecDepth 100000
open Go.RowKit Game

/-- whether a list is a reduced word -/
def redW (c : List (List Int)) (v : List Int) : Bool := isWordB c v && decide ((nfI c v).length = v.length)
theorem redW_not {c : List (List Int)} {v : List Int} (h : isWordB c v = false) : redW c v = false := by unfold redW; rw [h]; rfl
theorem redW_word {c : List (List Int)} {v : List Int} (h : isWordB c v = true) : redW c v = decide ((nfI c v).length = v.length) := by unfold redW; rw [h]; rfl

/-! ### the places of braid moves -/
/-! ### copies of matrices -/
set_option maxHeartbeats 2000000 in
theorem spec_l2Copy_any (g o n cp : Nat) (rows : List (List Int)) (w : World) (hn : rows.length = n) (hx : rows.length ≤ 1048576) (hrl : ∀ j, j < rows.length → (rows.getD j []).length ≤ 1048576) (hg : g < w.heap.size) (hr : Rows2 w g o rows) :
    Calls Tryz.prog 144 #[(Value.slice (some ⟨g, o, none⟩) n cp)] w (GotRows w rows) := by
  subst hn
  go_enter Tryz.func144, Tryz.ntmps144
  go_wp2
  go_loopw [3, 4] (fun ov kv wr => ∃ (k g2 c2 : Nat) (rs : List RowRef), k ≤ rows.length ∧ kv = .int .i64 k ∧ ov = (Value.slice (some ⟨g2, 0, none⟩) k c2) ∧ Hid (rs.length = k) ∧ Hid (contents rs = rows.take k) ∧ OwnRows wr w.heap.size g2 c2 rs ∧ Below w.heap.size w wr) (fun _ kv _ => rows.length - (intOf kv).toNat)
  case atStart => exact ⟨0, w.heap.size, 0, [], Nat.zero_le _, rfl, rfl, rfl, rfl, OwnRows.empty (Nat.le_refl _), (Below.refl _ _).alloc (Nat.le_refl _) _⟩
  case round =>
    obtain ⟨k, g2, c2, rs, hk, rfl, rfl, hrk, hcon, hO, hb⟩ := hrel
    by_cases hlt : k < rows.length
    · obtain ⟨gj, oj, cj, q1, q2, q3, q4⟩ := (hr.below hb hg) k hlt
      have hlk := hrl k hlt
      have ht : rows.take (k + 1) = rows.take k ++ [rows.getD k []] := by
        rw [List.take_succ_eq_append_getElem hlt]; simp [List.getD, hlt]
      generalize rows.getD k [] = x at *
      obtain ⟨lx, hlx⟩ : ∃ lx, x.length = lx := ⟨_, rfl⟩
      rw [hlx] at q1 q2 hlk
      have Ht := Lib.hid ht; have Hlx := Lib.hid hlx; have Q4 := Lib.hid q4
      have hE := (Below.refl wr.heap.size wr).alloc (Nat.le_refl _) (.cells #[] 3)
      have q1' := (hE.cell (p := ⟨g, o + k, none⟩) (Nat.lt_of_lt_of_le hg hb.size)).trans q1
      clear ht hlx q4 hE
      go_wp2_with (at_builtin; refine wpList_clone rfl _ _ rfl gj oj lx cj x Hlx.out q3 Q4.out rfl rfl (by rw [Hlx.out]; omega) ?_)
      intro g3 c3 w3 ho3 hb3
      have hO3 := hO.below hb3
      have hB3 := hb.trans (hb3.mono hb.size)
      have hne : ∀ s ∈ rs, s.1 ≠ g3 := fun s hs e => by have h1 := (hO.2.1 s hs).lt; have h2 := ho3.base; omega
      have Hne := Lib.hid hne
      clear hO hne q1 q1' q3 hb3
      go_wp2_with (at_builtin; refine wpList_append_row (w := w3) rfl _ _ rfl w.heap.size g2 c2 k w3.heap.size rs (g3, c3, x) _ hrk.out (by unfold rowVal; rw [Hlx.out]) rfl hO3 (ho3.mono hb.size) Hne.out rfl rfl (by omega) ?_)
      intro g4 c4 w4 hO4 hg4 hor4
      have hB4 : Below w.heap.size w w4 := hB3.grown hg4 hB3.size (by intro t ht; cases ht; exact hO3.base)
      have hl4 : Hid ((rs ++ [(g3, c3, x)]).length = k + 1) := Lib.hid (by rw [List.length_append, hrk.out]; rfl)
      have hc4 : Hid (contents (rs ++ [(g3, c3, x)]) = rows.take (k + 1)) := Lib.hid (by rw [Ht.out, ← hcon.out]; simp [contents])
      clear hO3 hB3 hg4 hor4 hb
      go_wp2_with fail
      go_roundw
      case rel => exact ⟨k + 1, g4, c4, _, by omega, by go_num, rfl, hl4.out, hc4.out, hO4, hB4⟩
      case measure => simp [intOf]; omega
    · obtain rfl : k = rows.length := by omega
      have hc := hcon.out
      rw [List.take_length] at hc
      have Hc := Lib.hid hc
      clear hc
      go_wp2_with fail
      go_ret
      exact ⟨g2, c2, rs, rfl, Hc.out, hO, hb⟩
end Go.Proofs.YtnpechcnmchneaaGreatDoor
namespace Go.Proofs.YtnpechcnmchneaaGreatDoor
set_option maxRecDepth 100000
open Go.RowKit

set_option maxHeartbeats 1000000 in
theorem spec_l2Set_ok (gc oc n cc i j : Nat) (a b : Int) (c : List (List Int)) (w : World) (hn : c.length = n) (hn4 : n ≤ 4) (hsq : ∀ k, k < c.length → (c.getD k []).length = n) (hi : i < n) (hj : j < n) (hij : i ≠ j) (hgc : gc < w.heap.size) (hr : Rows2 w gc oc c) :
    Calls Tryz.prog 153 #[(Value.slice (some ⟨gc, oc, none⟩) n cc), .int .i64 i, .int .i64 j, .int .i64 a, .int .i64 b] w (GotRows w (setM (setM c i j a) j i b)) := by
  have H := Lib.hid (spec_l2Copy_any gc oc n cc c w hn (by omega) (fun k hk => by have := hsq k hk; omega) hgc hr)
  have Hn := Lib.hid hn; have Hsq := Lib.hid hsq
  clear hr hsq hgc hn
  go_enter Tryz.func153, Tryz.ntmps153
  go_wp2_with fail
  refine H.out.mono ?_
  rintro e w1 ⟨g1, c1, rs, rfl, hc, ho, hb⟩
  obtain ⟨gr, cr, -, hbr, hlr, hne, q1, q2, q3⟩ := ho.setMat hc i (by rw [Hn.out]; exact hi)
  rw [Hsq.out i (by rw [Hn.out]; exact hi)] at q1 q2
  obtain ⟨q4, q5⟩ := q2 j hj
  obtain ⟨rs2, -, hc2, hl2, ho2, hg2⟩ := q3 j a
  have hb2 := hb.grown hg2 hb.size (by intro t ht; cases ht; exact hbr)
  have hlen2 : (setM c i j a).length = n := by rw [setM_length]; exact Hn.out
  obtain ⟨gs, cs, -, hbs, hls, hne2, r1, r2, r3⟩ := ho2.setMat hc2 j (by rw [hlen2]; exact hj)
  have hrow : (setM c i j a).getD j [] = c.getD j [] := by simp [setM, List.getD, hij]
  rw [hrow, Hsq.out j (by rw [Hn.out]; exact hj)] at r1 r2
  obtain ⟨r4, r5⟩ := r2 i hi
  obtain ⟨rs3, -, hc3, hl3, ho3, hg3⟩ := r3 i b
  have hb3 := hb2.grown hg3 hb2.size (by intro t ht; cases ht; exact hbs)
  have hl : c.length = n := Hn.out
  rw [hl]
  have HO := Lib.hid ho3; have HC := Lib.hid hc3; have HB := Lib.hid hb3
  have Hlen : Hid ((setM (setM c i j a) j i b).length = n) := Lib.hid (by rw [setM_length]; exact hlen2)
  clear q2 q3 r2 r3 ho ho2 ho3 hb hb2 hb3 hc hc2 hc3 hg2 hg3 hrow hlen2 hl H hl2 hl3
  generalize (c.getD j []).getD i 0 = y1 at *
  generalize (c.getD i []).getD j 0 = y2 at *
  go_wp2_with fail
  go_ret
  exact ⟨g1, c1, rs3, congrArg (fun z => Ending.returned (Value.slice (some ⟨g1, 0, none⟩) z c1)) Hlen.out.symm, HC.out, HO.out, HB.out⟩
end Go.Proofs.YtnpechcnmchneaaGreatDoor
namespace Go.Proofs.YtnpechcnmchneaaGreatDoor
set_option maxRecDepth 100000
open Go.RowKit Game

theorem SeenM.neOwn {w : World} {b n m g cap B : Nat} {ks : List (List Int)} {xs : List Int} (h : SeenM w b n m ks) (ho : Own w B g cap xs) : b ≠ g := by
  rintro rfl
  obtain ⟨D, ⟨es, clock, hh, -⟩, -⟩ := h
  obtain ⟨cur, h2, -⟩ := ho.toV.row
  rw [hh] at h2
  simp at h2
theorem wfV_refl (c : List (List Int)) (i : Nat) (v : List Int) : WfV (refl c i v) := by
  intro j _
  by_cases h : j < v.length
  · have e : (refl c i v).getD j 0 = reflAt c i v j := by simp [refl, List.getD, h]
    rw [e]; exact wrap64_wf _
  · have e : (refl c i v).getD j 0 = 0 := by simp [refl, List.getD, h]
    rw [e]; decide
/-- new rows and a bool -/
def GotRowsB (w : World) (rows : List (List Int)) (b : Bool) (e : Ending) (w' : World) : Prop :=
  ∃ g cap rs, e = .returned (.tuple #[(Value.slice (some ⟨g, 0, none⟩) rows.length cap), .bool b]) ∧ contents rs = rows ∧ OwnRows w' w.heap.size g cap rs ∧ Below w.heap.size w w'
theorem GotRowsB.mk' {w w' : World} {rows : List (List Int)} {b : Bool} {n : Nat} (g cap : Nat) (rs : List RowRef) (hl : rs.length = n) (hc : contents rs = rows) (ho : OwnRows w' w.heap.size g cap rs) (hb : Below w.heap.size w w') :
    GotRowsB w rows b (.returned (.tuple #[(Value.slice (some ⟨g, 0, none⟩) n cap), .bool b])) w' := by
  subst hl; subst hc
  exact ⟨g, cap, rs, by rw [contents_length], rfl, ho, hb⟩
theorem start_rows (w : World) : OwnRows ((w.alloc (.cells #[] 3)).alloc (.cells #[(Value.slice (some ⟨w.heap.size, 0, none⟩) 0 0)] 28)) w.heap.size (w.heap.size + 1) 1 [(w.heap.size, 0, [])] := by
  have h1 : Own (w.alloc (.cells #[] 3)) w.heap.size w.heap.size 0 [] := Own.empty (w := w) (Nat.le_refl _)
  have h2 : OwnV ((w.alloc (.cells #[] 3)).alloc (.cells #[(Value.slice (some ⟨w.heap.size, 0, none⟩) 0 0)] 28)) w.heap.size 28 (w.heap.size + 1) 1 [(Value.slice (some ⟨w.heap.size, 0, none⟩) 0 0)] := by
    have := OwnV.new (w := w.alloc (.cells #[] 3)) (B := w.heap.size) (E := 28) (Value.slice (some ⟨w.heap.size, 0, none⟩) 0 0) rfl (by simp)
    simpa using this
  exact ⟨h2, ⟨fun r hr => by rw [List.mem_singleton] at hr; subst hr; exact h1.alloc _, by simp⟩⟩
theorem GotRowsB.held {w w' : World} {rows : List (List Int)} {b : Bool} {e : Ending} (h : GotRowsB w rows b e w') :
    ∃ g cap, e = .returned (.tuple #[(Value.slice (some ⟨g, 0, none⟩) rows.length cap), .bool b]) ∧ HeldR w' w.heap.size w'.heap.size g cap rows ∧ Below w.heap.size w w' := by
  obtain ⟨g, cap, rs, he, hc, ho, hb⟩ := h
  exact ⟨g, cap, he, ⟨rs, hc, ho, ho.lt, fun r hr => (ho.2.1 r hr).lt⟩, hb⟩
theorem rowsFew_of {rows : List (List Int)} (h1 : rows.length ≤ 200) (h2 : ∀ x ∈ rows, x.length ≤ 15) : rowsFew rows := by
  have h3 : ∀ j, j < rows.length → (rows.getD j []).length ≤ 15 := fun j hj => h2 _ (by simp [List.getD, hj])
  refine ⟨by omega, fun j hj => by have := h3 j hj; omega, ?_⟩
  have : ∀ k, k ≤ rows.length → sumLen rows k ≤ 15 * k := by
    intro k
    induction k with
    | zero => intro _; simp [sumLen]
    | succ k ih =>
      intro hk
      rw [sumLen_succ _ _ (by omega)]
      have := h3 k (by omega)
      have := ih (by omega)
      omega
  have := this rows.length (Nat.le_refl _)
  omega
end Go.Proofs.YtnpechcnmchneaaGreatDoor
