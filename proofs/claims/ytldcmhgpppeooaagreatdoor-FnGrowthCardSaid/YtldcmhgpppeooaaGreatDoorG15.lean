/- Images of roots under words, sequences of roots: contracts of both. Normal forms of words as the machine has them; lengths change by one. Plain law. BondOf, AlternatingWord of both: contracts. slices.Concat of lists of integers that hold one at least: contract. Braid moves of both: contracts. The reference's normal forms: contracts. -/
import Derived.Test.YtldcmhgpppeooaaGreatDoorG14
import Derived.Test.YtldcmhgpppeooaaGreatDoorG01
import Derived.Deep.RegionHeld3
import Derived.Test.YtldcmhgpppeooaaGreatDoorG12
import Derived.Test.YtldcmhgpppeooaaGreatDoorG03
import Derived.Test.YtldcmhgpppeooaaGreatDoorG04
import Derived.BigQuiet
import Derived.Lib.AppendZeros
import Derived.Test.YtldcmhgpppeooaaGreatDoorG02
import Derived.Test.YtldcmhgpppeooaaGreatDoorG10
namespace Go.Proofs.YtldcmhgpppeooaaGreatDoor
set_option maxRecDepth 100000
open Go.RowKit

structure WordOk (c : List (List Int)) (v : List Int) : Prop where
  isC : IsC c
  few : v.length ≤ 15
  inr : ∀ k, k < v.length → 0 ≤ v.getD k 0 ∧ v.getD k 0 < (c.length : Int)
theorem wordOk_of {c : List (List Int)} {v : List Int} (h : isWordB c v = true) : WordOk c v := by
  obtain ⟨h1, h2, h3⟩ := isWordB_of h
  exact ⟨h1, h2, fun k hk => h3 _ (by simp [List.getD, hk])⟩
theorem WordOk.isWord {c : List (List Int)} {v : List Int} (h : WordOk c v) : isWordB c v = true := by
  unfold isWordB
  rw [decide_eq_true h.isC, decide_eq_true h.few, letters_in h.inr]
  rfl
theorem WordOk.take {c : List (List Int)} {v : List Int} (h : WordOk c v) (k : Nat) : WordOk c (v.take k) :=
  ⟨h.isC, by rw [List.length_take]; have := h.few; omega, fun j hj => by
    have hj' : j < v.length := by rw [List.length_take] at hj; omega
    have hjk : j < k := by rw [List.length_take] at hj; omega
    have := h.inr j hj'
    simpa [List.getD, hj', hjk] using this⟩

/-- a root's image under a word -/
def actR (c : List (List Int)) : List Int → List Int → List Int
  | [], r => r
  | i :: l, r => mirL c i.toNat (actR c l r)
theorem actR_length (c : List (List Int)) (l r : List Int) : (actR c l r).length = r.length := by
  induction l with
  | nil => rfl
  | cons i l ih => rw [actR, mirL_length, ih]
theorem actR_drop (c : List (List Int)) (l r : List Int) (k : Nat) (hk : k < l.length) : actR c (l.drop k) r = mirL c (l.getD k 0).toNat (actR c (l.drop (k + 1)) r) := by
  rw [List.drop_eq_getElem_cons hk]
  simp [actR, List.getD, hk]
/-- the roots of a word's letters -/
def seqL (c : List (List Int)) (v : List Int) : List (List Int) := (List.range v.length).map fun k => actR c (v.take k) (simpL c.length (v.getD k 0).toNat)
def seqTo (c : List (List Int)) (v : List Int) (t : Nat) : List (List Int) := (List.range t).map fun k => actR c (v.take k) (simpL c.length (v.getD k 0).toNat)
theorem seqTo_succ (c : List (List Int)) (v : List Int) (t : Nat) : seqTo c v (t + 1) = seqTo c v t ++ [actR c (v.take t) (simpL c.length (v.getD t 0).toNat)] := by simp [seqTo, List.range_succ]

set_option maxHeartbeats 1000000 in
theorem impl_actedRoot_any (gc oc n cc g1 o1 n1 c1 g2 o2 n2 c2 : Nat) (c : List (List Int)) (l r : List Int) (w : World) (hn : c.length = n) (hn1 : l.length = n1) (hn2 : r.length = n2) (hC : IsC c) (hl : l.length ≤ 1048576)
    (hin : ∀ k, k < l.length → 0 ≤ l.getD k 0 ∧ l.getD k 0 < (c.length : Int)) (hrl : r.length = c.length) (hgc : gc < w.heap.size) (hg1 : g1 < w.heap.size) (hg2 : g2 < w.heap.size) (hr : Rows2 w gc oc c) (hc1 : Cells w g1 o1 l) (hc2 : Cells w g2 o2 r) :
    Calls Tryz.prog 98 #[(Value.slice (some ⟨gc, oc, none⟩) n cc), (Value.slice (some ⟨g1, o1, none⟩) n1 c1), (Value.slice (some ⟨g2, o2, none⟩) n2 c2)] w (GotInts w (actR c l r)) := by
  subst hn; subst hn1; subst hn2
  have hn4 := hC.2.1
  have hcl := hC.2.2.1
  have ew : IntKind.i64.wrap ((l.length : Int) - 1) = (l.length : Int) - 1 := IntWalk.i64_in _ (by omega)
  have Hrl := Lib.hid hrl; have Hcl := Lib.hid hcl; have Hr := Lib.hid hr
  clear hrl hcl hr
  go_enter Tryz.func98, Tryz.ntmps98
  go_wp2_with (at_builtin; refine wpList_clone rfl _ _ rfl g2 o2 _ c2 r rfl hg2 hc2 rfl rfl (by have := Hrl.out; omega) ?_)
  intro gv cv w1 ho1 hb1
  go_wp2
  clear ew
  go_loopw [7, 8] (fun s i wr => ∃ (k : Nat) (j : Int) (gv cv : Nat), k ≤ l.length ∧ i = .int .i64 j ∧ j = (k : Int) - 1 ∧ s = (Value.slice (some ⟨gv, 0, none⟩) r.length cv) ∧ Own wr w.heap.size gv cv (actR c (l.drop k) r) ∧ Below w.heap.size w wr) (fun _ i _ => (intOf i + 1).toNat)
  case atStart => exact ⟨l.length, _, gv, cv, Nat.le_refl _, rfl, rfl, rfl, by rw [List.drop_length]; exact ho1, hb1⟩
  case round =>
    clear ho1 hb1
    obtain ⟨k, j, gv, cv, hk, rfl, hj, rfl, ho, hb⟩ := hrel
    by_cases hlt : 0 < k
    · obtain ⟨t, rfl⟩ : ∃ t, k = t + 1 := ⟨k - 1, by omega⟩
      obtain rfl : j = (t : Int) := by omega
      have htl : t < l.length := by omega
      have q1 := hc1.below hb hg1 t htl
      have hit := hin t htl
      have hd := actR_drop c l r t htl
      obtain ⟨iN, hiN⟩ : ∃ iN : Nat, l.getD t 0 = iN := ⟨(l.getD t 0).toNat, by omega⟩
      rw [hiN] at q1 hit hd
      rw [Int.toNat_natCast] at hd
      have hic : iN < c.length := by omega
      have hal : (actR c (l.drop (t + 1)) r).length = r.length := actR_length _ _ _
      have hal2 : (actR c (l.drop (t + 1)) r).length = c.length := by rw [hal]; exact Hrl.out
      have hcall := impl_mirrored_any gc oc _ cc iN gv 0 r.length cv c (actR c (l.drop (t + 1)) r) wr rfl hal hic (by rw [hal2]; exact hic) (by rw [hal2, Hcl.out iN hic]; exact Nat.le_refl _) (by rw [Hcl.out iN hic]; omega) (Nat.lt_of_lt_of_le hgc hb.size) ho.lt (Hr.out.below hb hgc) ho.cells
      rw [← hd] at hcall
      have hal3 : (actR c (l.drop t) r).length = r.length := actR_length _ _ _
      have Hcall := Lib.hid hcall; have Hal3 := Lib.hid hal3
      clear hcall hd hiN hal hal2 hal3 hit
      clear hj
      go_wp2_with fail
      refine Hcall.out.mono ?_
      rintro e w2 ⟨g2, c2, rfl, ho2, hb2⟩
      rw [Hal3.out]
      go_wp2_with fail
      go_roundw
      case rel =>
        exact ⟨t, (t : Int) - 1, g2, c2, by omega, by go_num, rfl, rfl, ho2.mono hb.size, hb.trans (hb2.mono hb.size)⟩
      case measure => simp [intOf]
    · obtain rfl : k = 0 := by omega
      obtain rfl : j = -1 := by omega
      clear hj
      go_wp2
      go_ret
      exact GotInts.mk' gv cv (actR_length _ _ _) ho hb

def seqA (c : List (List Int)) (v : List Int) : List (List Int) := if isWordB c v = true then seqL c v else []

end Go.Proofs.YtldcmhgpppeooaaGreatDoor
namespace Go.Proofs.YtldcmhgpppeooaaGreatDoor
set_option maxRecDepth 100000
open Go.RowKit
namespace Game
variable {A : Mat} {n : Nat}

/-- a word and its play are of the same parity -/
theorem play_parity (hC : Car A n) {d : Vec} (hd : ∀ i, i < n → 0 < d i) : ∀ (w : List Nat), (∀ i ∈ w, i < n) → ∀ l, Plays A n l (act A w d) d → l.length % 2 = w.length % 2 := by
  have hd0 : Dom n d := fun i hi => by have := hd i hi; omega
  intro w
  induction w with
  | nil =>
    intro _ l h
    have := Dom.stuck hd0 h
    rw [this]
  | cons i w ih =>
    intro hw l h
    have hi := hw i (by simp)
    obtain ⟨l0, h1, h2⟩ := word_play hC hd0 w (fun j hj => hw j (List.mem_cons_of_mem _ hj))
    have hpar := ih (fun j hj => hw j (List.mem_cons_of_mem _ hj)) l0 h1
    simp only [act, List.length_cons] at h ⊢
    generalize act A w d = x at *
    rcases Int.lt_trichotomy (x i) 0 with g | g | g
    · obtain ⟨l', g1, g2, g3⟩ := h1.first hC hd0 hi g
      have := (Plays.unique hC hd0 (Plays.cons.1 g1).2.2 h).1
      omega
    · exact absurd g (h1.ne hC hd hi)
    · have hp : Plays A n (i :: l0) (s A i x) d := Plays.cons.2 ⟨hi, by simp only [s, hC.two i hi]; omega, by rw [s_s hC hi]; exact h1⟩
      have := (Plays.unique hC hd0 hp h).1
      rw [List.length_cons] at this
      omega
end Game
open Game

/-- letters of a matrix, at most m of them -/
structure Lets (c : List (List Int)) (m : Nat) (v : List Int) : Prop where
  isC : IsC c
  few : v.length ≤ m
  inr : ∀ k, k < v.length → 0 ≤ v.getD k 0 ∧ v.getD k 0 < (c.length : Int)
theorem WordOk.lets {c : List (List Int)} {v : List Int} (h : WordOk c v) : Lets c 15 v := ⟨h.isC, h.few, h.inr⟩
theorem Lets.word {c : List (List Int)} {v : List Int} (h : Lets c 15 v) : WordOk c v := ⟨h.isC, h.few, h.inr⟩
theorem Lets.mono {c : List (List Int)} {m m' : Nat} {v : List Int} (h : Lets c m v) (hm : m ≤ m') : Lets c m' v := ⟨h.isC, Nat.le_trans h.few hm, h.inr⟩
theorem Lets.mem {c : List (List Int)} {m : Nat} {v : List Int} (h : Lets c m v) : ∀ x ∈ v, 0 ≤ x ∧ x < (c.length : Int) := fun x hx => by
  obtain ⟨k, hk, rfl⟩ := List.mem_iff_getElem.1 hx
  have := h.inr k hk
  simpa [List.getD, hk] using this
theorem lets_of {c : List (List Int)} {m : Nat} {v : List Int} (hC : IsC c) (hl : v.length ≤ m) (h : ∀ x ∈ v, 0 ≤ x ∧ x < (c.length : Int)) : Lets c m v :=
  ⟨hC, hl, fun k hk => h _ (by simp [List.getD, hk])⟩
theorem Lets.app {c : List (List Int)} {m k : Nat} {v u : List Int} (h : Lets c m v) (h' : Lets c k u) : Lets c (m + k) (v ++ u) :=
  lets_of h.isC (by rw [List.length_append]; have := h.few; have := h'.few; omega) fun x hx => by
    rcases List.mem_append.1 hx with g | g
    · exact h.mem x g
    · exact h'.mem x g
theorem Lets.one {c : List (List Int)} (hC : IsC c) {i : Int} (h0 : 0 ≤ i) (h1 : i < (c.length : Int)) : Lets c 1 [i] :=
  lets_of hC (by simp) fun x hx => by rw [List.mem_singleton] at hx; subst hx; exact ⟨h0, h1⟩
theorem Lets.nats {c : List (List Int)} {m : Nat} {v : List Int} (h : Lets c m v) : intsOf (v.map Int.toNat) = v := by
  unfold intsOf
  rw [List.map_map]
  have : ∀ x ∈ v, ((fun (t : Nat) => (t : Int)) ∘ Int.toNat) x = id x := fun x hx => by
    have := (h.mem x hx).1
    simp; omega
  rw [List.map_congr_left this, List.map_id]
theorem Lets.nats_lt {c : List (List Int)} {m : Nat} {v : List Int} (h : Lets c m v) : ∀ i ∈ v.map Int.toNat, i < c.length := fun i hi => by
  obtain ⟨x, hx, rfl⟩ := List.mem_map.1 hi
  have := h.mem x hx
  omega
abbrev imI (c : List (List Int)) (v : List Int) : List Int := actW c v (onesL c.length)
theorem imI_length (c : List (List Int)) (v : List Int) : (imI c v).length = c.length := by unfold imI; rw [actW_length]; exact onesL_len _
theorem imI_cons (c : List (List Int)) (i : Nat) (v : List Int) : imI c ((i : Int) :: v) = refl c i (imI c v) := rfl
/-- what a normal form is -/
structure NfI (c : List (List Int)) (v y : List Int) : Prop where
  norm : normG c 30 (imI c v) = some y
  len : y.length ≤ v.length
  par : y.length % 2 = v.length % 2
  lets : Lets c v.length y
  img : imI c y = imI c v
theorem nfI_ex {c : List (List Int)} {v : List Int} (h : Lets c 30 v) : ∃ W, NfOf c (v.map Int.toNat) W ∧ nfI c v = intsOf W := by
  obtain ⟨W, hW⟩ := nf_of h.isC h.nats_lt (by rw [List.length_map]; exact h.few)
  refine ⟨W, hW, ?_⟩
  have := nfI_of hW
  rwa [h.nats] at this
theorem nfI_ok {c : List (List Int)} {v : List Int} (h : Lets c 30 v) : NfI c v (nfI c v) := by
  obtain ⟨W, hW, e⟩ := nfI_ex h
  have hn := hW.norm
  rw [h.nats] at hn
  have hi := hW.img
  rw [h.nats] at hi
  have hl := hW.len
  rw [List.length_map] at hl
  have hwl : (intsOf W).length = W.length := by simp [intsOf]
  rw [e]
  refine ⟨hn, by rw [hwl]; exact hl, ?_, lets_of h.isC (by rw [hwl]; exact hl) fun x hx => ?_, hi⟩
  · rw [hwl]
    have := play_parity (car_of h.isC) (ones_pos c.length) _ h.nats_lt W hW.plays
    rwa [List.length_map] at this
  · unfold intsOf at hx
    obtain ⟨i, hi', rfl⟩ := List.mem_map.1 hx
    have := hW.lt i hi'
    omega
/-- a normal form is its own -/
theorem nfI_self {c : List (List Int)} {v : List Int} (h : Lets c 30 v) : nfI c (nfI c v) = nfI c v := by
  have h1 := nfI_ok h
  unfold nfI
  rw [show actW c ((normG c 30 (actW c v (onesL c.length))).getD []) (onesL c.length) = actW c v (onesL c.length) from h1.img]
theorem nfI_img {c : List (List Int)} {v u : List Int} (h : imI c v = imI c u) : nfI c v = nfI c u := by
  unfold nfI
  rw [show actW c v (onesL c.length) = actW c u (onesL c.length) from h]
/-- no number of an image is 0 -/
theorem imI_ne {c : List (List Int)} {v : List Int} (h : Lets c 30 v) {i : Nat} (hi : i < c.length) : (imI c v).getD i 0 ≠ 0 :=
  normG_nz (nfI_ok h).norm i (by rw [imI_length]; exact hi)
/-- the element is shorter behind a letter at which its image is negative -/
theorem nfI_down {c : List (List Int)} {v : List Int} (h : Lets c 29 v) {i : Nat} (hi : i < c.length) (hneg : (imI c v).getD i 0 < 0) : (nfI c ((i : Int) :: v)).length + 1 = (nfI c v).length := by
  have hC := h.isC
  have hA := car_of hC
  have h30 := h.mono (show 29 ≤ 30 by omega)
  have h2 : Lets c 30 ((i : Int) :: v) := lets_of hC (by rw [List.length_cons]; have := h.few; omega) fun x hx => by
    rcases List.mem_cons.1 hx with g | g
    · subst g; omega
    · exact h.mem x g
  obtain ⟨W, hW, e⟩ := nfI_ex h30
  obtain ⟨X, hX, e2⟩ := nfI_ex h2
  have hwl : (intsOf W).length = W.length := by simp [intsOf]
  have hxl : (intsOf X).length = X.length := by simp [intsOf]
  rw [e, e2, hwl, hxl]
  have hv : toV (imI c v) = act (ent c) (v.map Int.toNat) (toV (onesL c.length)) := by
    have := toV_image hC h.nats_lt (by rw [List.length_map]; have := h.few; omega)
    rwa [h.nats] at this
  have hneg' : act (ent c) (v.map Int.toNat) (toV (onesL c.length)) i < 0 := by rw [← hv]; exact hneg
  obtain ⟨l', g1, g2, -⟩ := hW.plays.first hA (ones_dom _) hi hneg'
  have hp := (Plays.cons.1 g1).2.2
  have hm : (((i : Int) :: v).map Int.toNat) = i :: v.map Int.toNat := by rw [List.map_cons, Int.toNat_natCast]
  have hXp := hX.plays
  rw [hm] at hXp
  have := (Plays.unique hA (ones_dom _) hp hXp).1
  omega

/-! ### the star product -/
def starS (c : List (List Int)) (x : List Int) (i : Int) : List Int := if (nfI c (x ++ [i])).length < x.length then x else nfI c (x ++ [i])
def starTo (c : List (List Int)) (v : List Int) : Nat → List Int
  | 0 => []
  | k + 1 => starS c (starTo c v k) (v.getD k 0)
def starL (c : List (List Int)) (v : List Int) : List Int := starTo c v v.length
theorem starS_lets {c : List (List Int)} {m : Nat} {x : List Int} {i : Int} (h : Lets c m x) (hm : m ≤ 29) (h0 : 0 ≤ i) (h1 : i < (c.length : Int)) : Lets c (m + 1) (starS c x i) := by
  have hx := h.app (Lets.one h.isC h0 h1)
  unfold starS
  split
  · exact h.mono (by omega)
  · exact ((nfI_ok (hx.mono (by omega))).lets).mono (by have := hx.few; omega)
theorem starTo_lets {c : List (List Int)} {v : List Int} (h : WordOk c v) : ∀ k, k ≤ v.length → Lets c k (starTo c v k)
  | 0, _ => ⟨h.isC, Nat.le_refl _, fun k hk => by simp [starTo] at hk⟩
  | k + 1, hk => by
    have h1 := starTo_lets h k (by omega)
    have h2 := h.inr k (by omega)
    exact starS_lets h1 (by have := h.few; omega) h2.1 h2.2
/-- the lengths differ by one -/
theorem star_ne {c : List (List Int)} {m : Nat} {x : List Int} {i : Int} (h : Lets c m x) (hm : m ≤ 29) (h0 : 0 ≤ i) (h1 : i < (c.length : Int)) : (nfI c (x ++ [i])).length ≠ x.length := by
  have hx := (h.app (Lets.one h.isC h0 h1)).mono (show m + 1 ≤ 30 by omega)
  have := (nfI_ok hx).par
  rw [List.length_append, List.length_singleton] at this
  omega
end Go.Proofs.YtldcmhgpppeooaaGreatDoor
namespace Go.Proofs.YtldcmhgpppeooaaGreatDoor
set_option maxRecDepth 100000
open Go.RowKit

def bondP (p : Int) : Int := if p = 0 then 2 else if p = 1 then 3 else if p = 2 then 4 else if p = 3 then 6 else 0
def bondL (c : List (List Int)) (i j : Nat) : Int := if i = j then 1 else bondP (ent c i j * ent c j i)
theorem bondP_le (p : Int) : 0 ≤ bondP p ∧ bondP p ≤ 6 := by unfold bondP; (repeat' split) <;> omega
theorem bondL_le (c : List (List Int)) (i j : Nat) : 0 ≤ bondL c i j ∧ bondL c i j ≤ 6 := by
  unfold bondL; split
  · omega
  · exact bondP_le _
theorem ent_bd {c : List (List Int)} (hC : IsC c) {i j : Nat} (hi : i < c.length) (hj : j < c.length) : -3 ≤ ent c i j ∧ ent c i j ≤ 2 := by
  have := hC.2.2.2 i hi j hj
  unfold EntOk at this
  split at this <;> omega
theorem ent_mul {x y : Int} (hx : -3 ≤ x ∧ x ≤ 2) (hy : -3 ≤ y ∧ y ≤ 2) : -9223372036854775808 ≤ x * y ∧ x * y ≤ 9223372036854775807 := by
  have hx' : x = -3 ∨ x = -2 ∨ x = -1 ∨ x = 0 ∨ x = 1 ∨ x = 2 := by omega
  rcases hx' with rfl | rfl | rfl | rfl | rfl | rfl <;> omega

/-- letters in turn -/
def altL (i j : Int) (n : Nat) : List Int := (List.range n).map fun k => if k % 2 = 0 then i else j
theorem altL_length (i j : Int) (n : Nat) : (altL i j n).length = n := by simp [altL]
theorem altL_succ (i j : Int) (n : Nat) : altL i j (n + 1) = altL i j n ++ [if n % 2 = 0 then i else j] := by simp [altL, List.range_succ]

end Go.Proofs.YtldcmhgpppeooaaGreatDoor
namespace Go.Proofs.YtldcmhgpppeooaaGreatDoor
set_option maxRecDepth 100000
open Go.RowKit

theorem zeros_own (w : World) (B cap : Nat) (Z : Array Value) (hB : B ≤ w.heap.size) (hZ : Z.size = cap) (hcap : cap ≤ maxLen) : Own (w.drew.alloc (.cells Z 3)) B w.heap.size cap [] :=
  ⟨rfl, .inr ⟨w.heap.size, cap, Z, rfl, hB, heap_alloc_new w.drew _, Nat.zero_le _, hcap, by rw [hZ, Nat.mul_one], by simp⟩⟩
theorem wpList_append_ints_n {w : World} {ops : Array Oper} {rest : List Oper} {o : Oper} {a : Act} {Q : Exit → Act → World → Prop} (hgd : o.guard = none) (s x : Operand)
    (ho : o.op = .call { callee := .builtin .append, args := #[s, x], argTypes := #[27, 27] })
    (B g cap n1 : Nat) (xs : List Int) (hn1 : xs.length = n1) (hown : Own w B g cap xs) (g2 o2 n2 c2 : Nat) (ys : List Int) (hn2 : ys.length = n2) (hc : Cells w g2 o2 ys)
    (hs : a.eval s = (Value.slice (some ⟨g, 0, none⟩) n1 cap)) (hx : a.eval x = (Value.slice (some ⟨g2, o2, none⟩) n2 c2)) (hlen : n1 + n2 ≤ 1099511627776)
    (h : ∀ g' cap' w', Own w' B g' cap' (xs ++ ys) → w.grownBy w' (some g) → (g' = g ∨ g' = w.heap.size) → wpList Tryz.prog ops Q rest (a.put o.dst (Value.slice (some ⟨g', 0, none⟩) (n1 + n2) cap')) w') :
    wpList Tryz.prog ops Q (o :: rest) a w := by
  subst hn1; subst hn2
  exact wpList_append_ints hgd s x ho B g cap xs hown g2 o2 c2 ys hc hs hx hlen h

def lensTo (rows : List (List Int)) : Nat → Nat
  | 0 => 0
  | k + 1 => lensTo rows k + (rows.getD k []).length
def catTo (rows : List (List Int)) : Nat → List Int
  | 0 => []
  | k + 1 => catTo rows k ++ rows.getD k []
theorem catTo_length (rows : List (List Int)) : ∀ k, (catTo rows k).length = lensTo rows k
  | 0 => rfl
  | k + 1 => by simp only [catTo, lensTo, List.length_append, catTo_length rows k]
theorem lensTo_mono (rows : List (List Int)) {k m : Nat} (h : k ≤ m) : lensTo rows k ≤ lensTo rows m := by
  induction m with
  | zero => obtain rfl : k = 0 := by omega
            exact Nat.le_refl _
  | succ m ih =>
    by_cases e : k = m + 1
    · subst e; exact Nat.le_refl _
    · have := ih (by omega)
      simp only [lensTo]; omega

end Go.Proofs.YtldcmhgpppeooaaGreatDoor
namespace Go.Proofs.YtldcmhgpppeooaaGreatDoor
set_option maxRecDepth 100000
open Go.RowKit

/-- a braid move at a place -/
def braidK (c : List (List Int)) (v : List Int) (k : Nat) : Option (List Int) :=
  let x := v.getD k 0
  let y := v.getD (k + 1) 0
  let m := (bondL c x.toNat y.toNat).toNat
  if k + 1 < v.length ∧ x ≠ y ∧ 2 ≤ m ∧ k + m ≤ v.length ∧ (v.drop k).take m = altL x y m then some (v.take k ++ altL y x m ++ v.drop (k + m)) else none
def braidM (c : List (List Int)) (v : List Int) (a : Int) : Option (List Int) := if 0 ≤ a then braidK c v a.toNat else none
theorem impl_EqualWords_any (g1 o1 n1 c1 g2 o2 n2 c2 : Nat) (xs ys : List Int) (w : World) (hn1 : xs.length = n1) (hn2 : ys.length = n2) (hx : xs.length ≤ 1048576) (hy : ys.length ≤ 1048576)
    (hcx : Cells w g1 o1 xs) (hcy : Cells w g2 o2 ys) : Calls Tryz.prog 71 #[(Value.slice (some ⟨g1, o1, none⟩) n1 c1), (Value.slice (some ⟨g2, o2, none⟩) n2 c2)] w (Reads w (.bool (decide (xs = ys)))) := by
  have hcall := slices_Equal_any g1 o1 n1 c1 g2 o2 n2 c2 xs ys w hn1 hn2 (by omega) (by omega) hcx hcy
  have Hcall := Lib.hid hcall
  generalize decide (xs = ys) = r at *
  clear hcall
  go_enter Tryz.func71, Tryz.ntmps71
  go_wp2_with fail
  refine Hcall.out.mono ?_
  rintro e w1 ⟨rfl, hs1⟩
  go_wp2_with fail
  go_ret
  exact ⟨rfl, hs1⟩
theorem threeCells {w : World} {B : Nat} {a b d : Value} {t : TypeId} (h : w.heap[B]? = some (.cells #[a, b, d] t (0, 0))) : w.cell? ⟨B, 0, none⟩ = some a ∧ w.cell? ⟨B, 1, none⟩ = some b ∧ w.cell? ⟨B, 2, none⟩ = some d := by
  refine ⟨?_, ?_, ?_⟩ <;> simp [World.cell?, h]
/-- nothing, or a new list -/
def MayInts (w : World) (r : Option (List Int)) (e : Ending) (w' : World) : Prop :=
  (r = none ∧ e = .returned (.tuple #[.slice none 0 0, .bool false]) ∧ Below w.heap.size w w') ∨ (∃ y, r = some y ∧ GotIntsB w y true e w')
end Go.Proofs.YtldcmhgpppeooaaGreatDoor
namespace Go.Proofs.YtldcmhgpppeooaaGreatDoor
set_option maxRecDepth 100000
open Go.RowKit

set_option maxHeartbeats 4000000 in
theorem spec_l8Form_any (gc oc n cc g2 o2 n2 c2 f : Nat) (c : List (List Int)) (v word : List Int) (w : World) (hn : c.length = n) (hn2 : v.length = n2) (hC : IsC c) (hv : v.length = c.length) (hf : f ≤ 30) (hword : normG c f v = some word)
    (hgc : gc < w.heap.size) (hg2 : g2 < w.heap.size) (hr : Rows2 w gc oc c) (hc2 : Cells w g2 o2 v) :
    Calls Tryz.prog 96 #[(Value.slice (some ⟨gc, oc, none⟩) n cc), (Value.slice (some ⟨g2, o2, none⟩) n2 c2)] w (GotInts w word) := by
  subst hn; subst hn2
  have hn4 := hC.2.1
  have hv4 : v.length ≤ 4 := by omega
  have Hv := Lib.hid hv; clear hv
  have hwl := normG_len hword
  go_enter Tryz.func96, Tryz.ntmps96
  go_wp2
  go_loopw [1, 5, 6, 7] (fun vv s i _ wr => ∃ (p g' c' f' gu ou cu : Nat) (u pre rest : List Int), i = .int .i64 p ∧ s = (Value.slice (some ⟨g', 0, none⟩) p c') ∧ vv = (Value.slice (some ⟨gu, ou, none⟩) v.length cu) ∧ Hid (pre.length = p) ∧ p + f' ≤ 30 ∧ u.length = v.length ∧ Hid (normG c f' u = some rest) ∧ Hid (word = pre ++ rest) ∧ Cells wr gu ou u ∧ gu < wr.heap.size ∧ Own wr w.heap.size g' c' pre ∧ gu ≠ g' ∧ Below w.heap.size w wr) (fun _ _ i _ _ => 31 - (intOf i).toNat)
  case atStart =>
    exact ⟨0, w.heap.size, 0, f, g2, o2, c2, v, [], word, rfl, rfl, rfl, rfl, by omega, rfl, hword, rfl, hc2.below ((Below.refl _ _).alloc (Nat.le_refl _) _) hg2, by simp; omega, Own.empty (w := w) (Nat.le_refl _), by omega, (Below.refl _ _).alloc (Nat.le_refl _) _⟩
  case round =>
    obtain ⟨p, g', c', f', gu, ou, cu, u, pre, rest, rfl, rfl, rfl, hp, hpf, hul, hnorm, hw, hcu, hgu, hop, hne, hb⟩ := hrel
    have hp30 : (p : Int) ≤ 30 := by omega
    have hz := normG_nz hnorm.out
    have Hz := Lib.hid hz; have Hul := Lib.hid hul
    clear hz
    obtain ⟨wo, rfl⟩ : ∃ wo : World, wo = wr := ⟨_, rfl⟩
    have HCu := Lib.hid hcu
    clear hul
    go_wp2
    go_loopw [7] (fun i wr => ∃ k : Nat, k ≤ v.length ∧ i = .int .i64 k ∧ Hid (∀ j, j < k → 0 < u.getD j 0) ∧ wr = wo) (fun i _ => v.length - (intOf i).toNat)
    case atStart => exact ⟨0, Nat.zero_le _, rfl, fun j hj => absurd hj (by omega), rfl⟩
    case round =>
      obtain ⟨k, hk, rfl, hall, rfl⟩ := hrel
      by_cases hlt : k < v.length
      · have q1 := HCu.out k (by rw [Hul.out]; exact hlt)
        have hzk := Hz.out k (by rw [Hul.out]; exact hlt)
        by_cases hpos : 0 < u.getD k 0
        · have HY : Hid (∀ j, j < k + 1 → 0 < u.getD j 0) := fun j hj => by
            by_cases e : j = k
            · subst e; exact hpos
            · exact hall.out j (by omega)
          clear hzk
          generalize u.getD k 0 = x at *
          go_wp2
          go_roundw
          case rel => exact ⟨k + 1, by omega, by go_num, HY.out, trivial⟩
          case measure => simp [intOf]; omega
        · have hfn : firstNeg u = some k := firstNeg_of (by rw [Hul.out]; exact hlt) (by omega) (fun j hj => by have := hall.out j hj; omega)
          obtain ⟨f2, rest2, hf2, hrest, hn2⟩ := normG_some hnorm.out hfn
          have hic : k < c.length := by have := Hv.out; omega
          have hkne : ((k : Int) == (v.length : Int)) = false := by simp; omega
          subst hrest
          have Hn2 := Lib.hid hn2
          clear hzk hfn hn2 hnorm
          generalize u.getD k 0 = x at *
          go_wp2_with (at_builtin; refine wpList_append_int_n (w := wr) rfl _ _ rfl w.heap.size g' c' p pre (k : Int) hp.out hop rfl rfl (by omega) ?_)
          intro g3 c3 w3 ho3 hg3 hor
          have hcu3 : Cells w3 gu ou u := HCu.out.grown hg3 (by intro e; cases e; exact hne rfl)
          have hb3 : Below w.heap.size w w3 := hb.grown hg3 hb.size (by intro j hj; cases hj; exact hop.base)
          have hgu3 : gu < w3.heap.size := Nat.lt_of_lt_of_le hgu hg3.size
          have hcall3 := spec_l6Reflect_any gc oc _ cc gu ou v.length cu k c u w3 rfl Hul.out (by rw [Hul.out]; exact Nat.le_of_eq Hv.out) hn4 hC.2.2.1 (by rw [Hul.out]; exact hlt) (Nat.lt_of_lt_of_le hgc hb3.size) hgu3 (hr.below hb3 hgc) hcu3
          have Hcall3 := Lib.hid hcall3; clear hcall3
          go_wp2_with fail
          refine Hcall3.out.mono ?_
          rintro e w4 ⟨g5, c5, rfl, ho5, hb5⟩
          have hrl : (refl c k u).length = v.length := by rw [refl_length]; exact Hul.out
          rw [hrl]
          go_wp2_with fail
          go_roundw
          case rel =>
            refine ⟨p + 1, g3, c3, f2, g5, 0, c5, refl c k u, pre ++ [(k : Int)], rest2, by go_num, rfl, rfl, ?_, by omega, hrl, Hn2.out, ?_, ho5.cells, ho5.lt, ho3.below hb5 ho3.lt, by have h1 := ho3.lt; have h2 := ho5.base; omega, hb3.trans (hb5.mono hb3.size)⟩
            · show _ = _; rw [List.length_append, hp.out]; rfl
            · show _ = _; rw [hw.out, List.append_assoc]; rfl
          case measure => simp [intOf]; omega
      · obtain rfl : k = v.length := by omega
        have hfn : firstNeg u = none := firstNeg_nil (fun j hj => by have := hall.out j (by rw [← Hul.out]; exact hj); omega)
        have hrest := normG_none hnorm.out hfn
        have Hrest := Lib.hid hrest; clear hrest hfn
        go_wp2
        go_ret
        rw [hw.out, Hrest.out, List.append_nil]
        exact GotInts.mk' g' c' hp.out hop hb
end Go.Proofs.YtldcmhgpppeooaaGreatDoor
