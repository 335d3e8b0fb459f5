/- The reference's images, normal forms, concatenations, and lists of words: contracts. Plain law: the places of braid moves of a word, and the search for a path of braid moves. Normal forms of words as the machine has them; lengths change by one. Plain law. Every finite type of rank at most 4 is one of those enumerated: what holds at these (checked by the kernel) holds at all. Plain law. -/
import Derived.Test.YtdedkfbiookofaaGreatDoorK06
import Derived.Test.YtdedkfbiookofaaGreatDoorK01
import Derived.Test.YtdedkfbiookofaaGreatDoorK04
import Derived.Test.YtdedkfbiookofaaGreatDoorK07
import Derived.Test.YtdedkfbiookofaaGreatDoorK02
import Derived.Test.YtdedkfbiookofaaGreatDoorK00
import Derived.Deep.RegionHeld3
namespace Go.Proofs.YtdedkfbiookofaaGreatDoor
set_option maxRecDepth 100000
open Go.RowKit Game
set_option maxHeartbeats 2000000 in
theorem spec_l8Image_any (gc oc n cc g1 o1 n1 c1 : Nat) (c : List (List Int)) (l : List Int) (w : World) (hn : c.length = n) (hn1 : l.length = n1) (hC : IsC c) (hl : l.length ≤ 1048576)
    (hin : ∀ k, k < l.length → 0 ≤ l.getD k 0 ∧ l.getD k 0 < c.length) (hgc : gc < w.heap.size) (hg1 : g1 < w.heap.size) (hr : Rows2 w gc oc c) (hc1 : Cells w g1 o1 l) :
    Calls Tryz.prog 95 #[(Value.slice (some ⟨gc, oc, none⟩) n cc), (Value.slice (some ⟨g1, o1, none⟩) n1 c1)] w (GotInts w (actW c l (onesL c.length))) := by
  subst hn; subst hn1
  have hn4 := hC.2.1
  have ew : IntKind.i64.wrap ((l.length : Int) - 1) = (l.length : Int) - 1 := IntWalk.i64_in _ (by omega)
  go_enter Tryz.func95, Tryz.ntmps95
  go_wp2_with fail
  refine (spec_RhoOf_ok gc oc _ cc c w rfl hC hgc hr).mono ?_
  rintro e w1 ⟨gv, cv, rfl, ho1, hb1⟩
  rw [onesL_length]
  go_wp2_with fail
  clear ew
  go_loopw [5, 6] (fun s i wr => ∃ (k : Nat) (j : Int) (gv cv : Nat), k ≤ l.length ∧ i = .int .i64 j ∧ j = (k : Int) - 1 ∧ s = (Value.slice (some ⟨gv, 0, none⟩) c.length cv) ∧ Own wr w.heap.size gv cv (actW c (l.drop k) (onesL c.length)) ∧ Below w.heap.size w wr) (fun _ i _ => (intOf i + 1).toNat)
  case atStart => exact ⟨l.length, _, gv, cv, Nat.le_refl _, rfl, rfl, rfl, by rw [List.drop_length]; exact ho1, hb1⟩
  case round =>
    obtain ⟨k, j, gv, cv, hk, rfl, hj, rfl, ho, hb⟩ := hrel
    by_cases hlt : 0 < k
    · obtain ⟨t, rfl⟩ : ∃ t, k = t + 1 := ⟨k - 1, by omega⟩
      obtain rfl : j = (t : Int) := by omega
      have htl : t < l.length := by omega
      have q1 := hc1.below hb hg1 t htl
      have hit := hin t htl
      have hd := actW_drop c l (onesL c.length) t htl
      obtain ⟨iN, hiN⟩ : ∃ iN : Nat, l.getD t 0 = iN := ⟨(l.getD t 0).toNat, by omega⟩
      rw [hiN] at q1 hit hd
      rw [Int.toNat_natCast] at hd
      have hic : iN < c.length := by omega
      have hal : (actW c (l.drop (t + 1)) (onesL c.length)).length = c.length := by rw [actW_length]; exact onesL_length _
      have hcall := spec_l6Reflect_any gc oc _ cc gv 0 c.length cv iN c (actW c (l.drop (t + 1)) (onesL c.length)) wr rfl hal (by rw [hal]; exact Nat.le_refl _) hn4 hC.2.2.1 (by rw [hal]; exact hic) (Nat.lt_of_lt_of_le hgc hb.size) ho.lt (hr.below hb hgc) ho.cells
      have Hcall := Lib.hid hcall; have Hd := Lib.hid hd
      clear hcall hd hiN hal hit
      clear hj
      go_wp2_with fail
      refine Hcall.out.mono ?_
      rintro e w2 ⟨g2, c2, rfl, ho2, hb2⟩
      rw [← Hd.out] at ho2
      have hl2 : (actW c (l.drop t) (onesL c.length)).length = c.length := by rw [actW_length]; exact onesL_length _
      have e2 : (refl c iN (actW c (List.drop (t + 1) l) (onesL c.length))).length = c.length := by rw [refl_length, actW_length]; exact onesL_length _
      rw [e2]
      clear e2 hl2
      go_wp2_with fail
      go_roundw
      case rel =>
        exact ⟨t, (t : Int) - 1, g2, c2, by omega, by go_num, rfl, rfl, ho2.mono hb.size, hb.trans (hb2.mono hb.size)⟩
      case measure => simp [intOf]
    · obtain rfl : k = 0 := by omega
      obtain rfl : j = -1 := by omega
      clear hj
      go_wp2
      go_ret
      exact GotInts.mk' gv cv (by rw [actW_length]; exact onesL_length _) ho hb
set_option maxHeartbeats 2000000 in
theorem spec_l8Normal_any (gc oc n cc g1 o1 n1 c1 : Nat) (c : List (List Int)) (l word : List Int) (w : World) (hn : c.length = n) (hn1 : l.length = n1) (hC : IsC c) (hl : l.length ≤ 1048576)
    (hin : ∀ k, k < l.length → 0 ≤ l.getD k 0 ∧ l.getD k 0 < c.length) (hword : normG c 30 (actW c l (onesL c.length)) = some word) (hgc : gc < w.heap.size) (hg1 : g1 < w.heap.size) (hr : Rows2 w gc oc c) (hc1 : Cells w g1 o1 l) :
    Calls Tryz.prog 50 #[(Value.slice (some ⟨gc, oc, none⟩) n cc), (Value.slice (some ⟨g1, o1, none⟩) n1 c1)] w (GotInts w word) := by
  subst hn; subst hn1
  go_enter Tryz.func50, Tryz.ntmps50
  go_wp2_with fail
  refine (spec_l8Image_any gc oc _ cc g1 o1 _ c1 c l w rfl rfl hC hl hin hgc hg1 hr hc1).mono ?_
  rintro e w1 ⟨gv, cv, rfl, ho1, hb1⟩
  have hal : (actW c l (onesL c.length)).length = c.length := by rw [actW_length]; exact onesL_length _
  rw [hal]
  have Hal := Lib.hid hal; clear hal
  go_wp2_with fail
  refine (spec_l8Form_any gc oc _ cc gv 0 c.length cv 30 c (actW c l (onesL c.length)) word w1 rfl Hal.out hC Hal.out (by omega) hword (Nat.lt_of_lt_of_le hgc hb1.size) ho1.lt (hr.below hb1 hgc) ho1.cells).mono ?_
  rintro e w2 ⟨g2, c2, rfl, ho2, hb2⟩
  go_wp2_with fail
  go_ret
  exact ⟨g2, c2, rfl, ho2.mono hb1.size, hb1.trans (hb2.mono hb1.size)⟩
set_option maxHeartbeats 1000000 in
theorem spec_ConcatWords_any (g1 o1 n1 c1 g2 o2 n2 c2 : Nat) (xs ys : List Int) (w : World) (hn1 : xs.length = n1) (hn2 : ys.length = n2) (hx : xs.length ≤ 1048576) (hy : ys.length ≤ 1048576)
    (hg1 : g1 < w.heap.size) (hg2 : g2 < w.heap.size) (hc1 : Cells w g1 o1 xs) (hc2 : Cells w g2 o2 ys) :
    Calls Tryz.prog 96 #[(Value.slice (some ⟨g1, o1, none⟩) n1 c1), (Value.slice (some ⟨g2, o2, none⟩) n2 c2)] w (GotInts w (xs ++ ys)) := by
  subst hn1; subst hn2
  go_enter Tryz.func96, Tryz.ntmps96
  go_wp2_with (at_builtin; refine wpList_clone rfl _ _ rfl g1 o1 _ c1 xs rfl hg1 hc1 rfl rfl (by omega) ?_)
  intro g3 c3 w3 ho3 hb3
  go_wp2_with (at_builtin; refine wpList_append_ints rfl _ _ rfl w.heap.size g3 c3 xs ho3 g2 o2 c2 ys (hc2.below hb3 hg2) rfl rfl (by omega) ?_)
  intro g4 c4 w4 ho4 hg4 hor
  go_wp2_with fail
  go_ret
  exact GotInts.mk' g4 c4 (by simp) ho4 (hb3.grown hg4 hb3.size (by intro j hj; cases hj; exact ho3.base))
end Go.Proofs.YtdedkfbiookofaaGreatDoor
namespace Go.Proofs.YtdedkfbiookofaaGreatDoor
set_option maxRecDepth 100000
open Go.RowKit
abbrev BNode := List Int × List Int
end Go.Proofs.YtdedkfbiookofaaGreatDoor
namespace Go.Proofs.YtdedkfbiookofaaGreatDoor
set_option maxRecDepth 100000
open Go.RowKit
namespace Game
variable {A : Mat} {n : Nat}
/-- a word and its play are of the same parity -/
theorem play_parity (hC : Car A n) {d : Vec} (hd : ∀ i, i < n → 0 < d i) : ∀ (w : List Nat), (∀ i ∈ w, i < n) → ∀ l, Plays A n l (act A w d) d → l.length % 2 = w.length % 2 := by
  have hd0 : Dom n d := fun i hi => by have := hd i hi; omega
  intro w
  induction w with
  | nil =>
    intro _ l h
    have := Dom.stuck hd0 h
    rw [this]
  | cons i w ih =>
    intro hw l h
    have hi := hw i (by simp)
    obtain ⟨l0, h1, h2⟩ := word_play hC hd0 w (fun j hj => hw j (List.mem_cons_of_mem _ hj))
    have hpar := ih (fun j hj => hw j (List.mem_cons_of_mem _ hj)) l0 h1
    simp only [act, List.length_cons] at h ⊢
    generalize act A w d = x at *
    rcases Int.lt_trichotomy (x i) 0 with g | g | g
    · obtain ⟨l', g1, g2, g3⟩ := h1.first hC hd0 hi g
      have := (Plays.unique hC hd0 (Plays.cons.1 g1).2.2 h).1
      omega
    · exact absurd g (h1.ne hC hd hi)
    · have hp : Plays A n (i :: l0) (s A i x) d := Plays.cons.2 ⟨hi, by simp only [s, hC.two i hi]; omega, by rw [s_s hC hi]; exact h1⟩
      have := (Plays.unique hC hd0 hp h).1
      rw [List.length_cons] at this
      omega
end Game
open Game
/-- letters of a matrix, at most m of them -/
structure Lets (c : List (List Int)) (m : Nat) (v : List Int) : Prop where
  isC : IsC c
  few : v.length ≤ m
  inr : ∀ k, k < v.length → 0 ≤ v.getD k 0 ∧ v.getD k 0 < (c.length : Int)
theorem WordOk.lets {c : List (List Int)} {v : List Int} (h : WordOk c v) : Lets c 15 v := ⟨h.isC, h.few, h.inr⟩
theorem Lets.mono {c : List (List Int)} {m m' : Nat} {v : List Int} (h : Lets c m v) (hm : m ≤ m') : Lets c m' v := ⟨h.isC, Nat.le_trans h.few hm, h.inr⟩
theorem Lets.mem {c : List (List Int)} {m : Nat} {v : List Int} (h : Lets c m v) : ∀ x ∈ v, 0 ≤ x ∧ x < (c.length : Int) := fun x hx => by
  obtain ⟨k, hk, rfl⟩ := List.mem_iff_getElem.1 hx
  have := h.inr k hk
  simpa [List.getD, hk] using this
theorem lets_of {c : List (List Int)} {m : Nat} {v : List Int} (hC : IsC c) (hl : v.length ≤ m) (h : ∀ x ∈ v, 0 ≤ x ∧ x < (c.length : Int)) : Lets c m v :=
  ⟨hC, hl, fun k hk => h _ (by simp [List.getD, hk])⟩
theorem Lets.app {c : List (List Int)} {m k : Nat} {v u : List Int} (h : Lets c m v) (h' : Lets c k u) : Lets c (m + k) (v ++ u) :=
  lets_of h.isC (by rw [List.length_append]; have := h.few; have := h'.few; omega) fun x hx => by
    rcases List.mem_append.1 hx with g | g
    · exact h.mem x g
    · exact h'.mem x g
theorem Lets.one {c : List (List Int)} (hC : IsC c) {i : Int} (h0 : 0 ≤ i) (h1 : i < (c.length : Int)) : Lets c 1 [i] :=
  lets_of hC (by simp) fun x hx => by rw [List.mem_singleton] at hx; subst hx; exact ⟨h0, h1⟩
theorem Lets.nats {c : List (List Int)} {m : Nat} {v : List Int} (h : Lets c m v) : intsOf (v.map Int.toNat) = v := by
  unfold intsOf
  rw [List.map_map]
  have : ∀ x ∈ v, ((fun (t : Nat) => (t : Int)) ∘ Int.toNat) x = id x := fun x hx => by
    have := (h.mem x hx).1
    simp; omega
  rw [List.map_congr_left this, List.map_id]
theorem Lets.nats_lt {c : List (List Int)} {m : Nat} {v : List Int} (h : Lets c m v) : ∀ i ∈ v.map Int.toNat, i < c.length := fun i hi => by
  obtain ⟨x, hx, rfl⟩ := List.mem_map.1 hi
  have := h.mem x hx
  omega
abbrev imI (c : List (List Int)) (v : List Int) : List Int := actW c v (onesL c.length)
theorem imI_length (c : List (List Int)) (v : List Int) : (imI c v).length = c.length := by unfold imI; rw [actW_length]; exact onesL_len _
theorem imI_cons (c : List (List Int)) (i : Nat) (v : List Int) : imI c ((i : Int) :: v) = refl c i (imI c v) := rfl
/-- what a normal form is -/
structure NfI (c : List (List Int)) (v y : List Int) : Prop where
  norm : normG c 30 (imI c v) = some y
  len : y.length ≤ v.length
  par : y.length % 2 = v.length % 2
  lets : Lets c v.length y
  img : imI c y = imI c v
theorem nfI_ex {c : List (List Int)} {v : List Int} (h : Lets c 30 v) : ∃ W, NfOf c (v.map Int.toNat) W ∧ nfI c v = intsOf W := by
  obtain ⟨W, hW⟩ := nf_of h.isC h.nats_lt (by rw [List.length_map]; exact h.few)
  refine ⟨W, hW, ?_⟩
  have := nfI_of hW
  rwa [h.nats] at this
theorem nfI_ok {c : List (List Int)} {v : List Int} (h : Lets c 30 v) : NfI c v (nfI c v) := by
  obtain ⟨W, hW, e⟩ := nfI_ex h
  have hn := hW.norm
  rw [h.nats] at hn
  have hi := hW.img
  rw [h.nats] at hi
  have hl := hW.len
  rw [List.length_map] at hl
  have hwl : (intsOf W).length = W.length := by simp [intsOf]
  rw [e]
  refine ⟨hn, by rw [hwl]; exact hl, ?_, lets_of h.isC (by rw [hwl]; exact hl) fun x hx => ?_, hi⟩
  · rw [hwl]
    have := play_parity (car_of h.isC) (ones_pos c.length) _ h.nats_lt W hW.plays
    rwa [List.length_map] at this
  · unfold intsOf at hx
    obtain ⟨i, hi', rfl⟩ := List.mem_map.1 hx
    have := hW.lt i hi'
    omega
/-- a normal form is its own -/
theorem nfI_self {c : List (List Int)} {v : List Int} (h : Lets c 30 v) : nfI c (nfI c v) = nfI c v := by
  have h1 := nfI_ok h
  unfold nfI
  rw [show actW c ((normG c 30 (actW c v (onesL c.length))).getD []) (onesL c.length) = actW c v (onesL c.length) from h1.img]
theorem nfI_img {c : List (List Int)} {v u : List Int} (h : imI c v = imI c u) : nfI c v = nfI c u := by
  unfold nfI
  rw [show actW c v (onesL c.length) = actW c u (onesL c.length) from h]
/-- no number of an image is 0 -/
theorem imI_ne {c : List (List Int)} {v : List Int} (h : Lets c 30 v) {i : Nat} (hi : i < c.length) : (imI c v).getD i 0 ≠ 0 :=
  normG_nz (nfI_ok h).norm i (by rw [imI_length]; exact hi)
/-- the element is shorter behind a letter at which its image is negative -/
theorem nfI_down {c : List (List Int)} {v : List Int} (h : Lets c 29 v) {i : Nat} (hi : i < c.length) (hneg : (imI c v).getD i 0 < 0) : (nfI c ((i : Int) :: v)).length + 1 = (nfI c v).length := by
  have hC := h.isC
  have hA := car_of hC
  have h30 := h.mono (show 29 ≤ 30 by omega)
  have h2 : Lets c 30 ((i : Int) :: v) := lets_of hC (by rw [List.length_cons]; have := h.few; omega) fun x hx => by
    rcases List.mem_cons.1 hx with g | g
    · subst g; omega
    · exact h.mem x g
  obtain ⟨W, hW, e⟩ := nfI_ex h30
  obtain ⟨X, hX, e2⟩ := nfI_ex h2
  have hwl : (intsOf W).length = W.length := by simp [intsOf]
  have hxl : (intsOf X).length = X.length := by simp [intsOf]
  rw [e, e2, hwl, hxl]
  have hv : toV (imI c v) = act (ent c) (v.map Int.toNat) (toV (onesL c.length)) := by
    have := toV_image hC h.nats_lt (by rw [List.length_map]; have := h.few; omega)
    rwa [h.nats] at this
  have hneg' : act (ent c) (v.map Int.toNat) (toV (onesL c.length)) i < 0 := by rw [← hv]; exact hneg
  obtain ⟨l', g1, g2, -⟩ := hW.plays.first hA (ones_dom _) hi hneg'
  have hp := (Plays.cons.1 g1).2.2
  have hm : (((i : Int) :: v).map Int.toNat) = i :: v.map Int.toNat := by rw [List.map_cons, Int.toNat_natCast]
  have hXp := hX.plays
  rw [hm] at hXp
  have := (Plays.unique hA (ones_dom _) hp hXp).1
  omega
end Go.Proofs.YtdedkfbiookofaaGreatDoor
namespace Go.Proofs.YtdedkfbiookofaaGreatDoor
set_option maxRecDepth 100000
open Go.RowKit
def L6 : List (Int × Int) := [(0, 0), (-1, -1), (-1, -2), (-2, -1), (-1, -3), (-3, -1)]
def mat2 (a : Int × Int) : List (List Int) := [[2, a.1], [a.2, 2]]
def mat3 (a b e : Int × Int) : List (List Int) := [[2, a.1, b.1], [a.2, 2, e.1], [b.2, e.2, 2]]
def mat4 (a b d e f g : Int × Int) : List (List Int) := [[2, a.1, b.1, d.1], [a.2, 2, e.1, f.1], [b.2, e.2, 2, g.1], [d.2, f.2, g.2, 2]]
def bad3 (a b e : Int × Int) : Bool := decide (det 3 (mat3 a b e) ≤ 0)
def chk2 (P : List (List Int) → Bool) : Bool := L6.all fun a => P (mat2 a)
def chk3 (P : List (List Int) → Bool) : Bool := L6.all fun a => L6.all fun b => L6.all fun e => bad3 a b e || P (mat3 a b e)
def chk4 (P : List (List Int) → Bool) : Bool := L6.all fun a => L6.all fun b => L6.all fun e => bad3 a b e || L6.all fun d => L6.all fun f => bad3 a d f || L6.all fun g => bad3 b d g || (bad3 e f g || (decide (det 4 (mat4 a b d e f g) ≤ 0) || P (mat4 a b d e f g)))
def chk4At (P : List (List Int) → Bool) (a b : Int × Int) : Bool := L6.all fun e => bad3 a b e || L6.all fun d => L6.all fun f => bad3 a d f || L6.all fun g => bad3 b d g || (bad3 e f g || (decide (det 4 (mat4 a b d e f g) ≤ 0) || P (mat4 a b d e f g)))
theorem chk4_eq (P : List (List Int) → Bool) : chk4 P = L6.all fun a => L6.all fun b => chk4At P a b := rfl
theorem list1 {α : Type} {l : List α} (h : l.length = 1) : ∃ a, l = [a] := by
  match l, h with
  | [a], _ => exact ⟨a, rfl⟩
theorem list2 {α : Type} {l : List α} (h : l.length = 2) : ∃ a b, l = [a, b] := by
  match l, h with
  | [a, b], _ => exact ⟨a, b, rfl⟩
theorem list3 {α : Type} {l : List α} (h : l.length = 3) : ∃ a b c, l = [a, b, c] := by
  match l, h with
  | [a, b, c], _ => exact ⟨a, b, c, rfl⟩
theorem list4 {α : Type} {l : List α} (h : l.length = 4) : ∃ a b c d, l = [a, b, c, d] := by
  match l, h with
  | [a, b, c, d], _ => exact ⟨a, b, c, d, rfl⟩
theorem witFrom_pos {c : List (List Int)} : ∀ (f m : Nat), 1 ≤ m → m + f ≤ 16 → (witFrom c m f).length = 0 → ∀ k, m ≤ k → k < m + f → 0 < minorAt c k := by
  intro f
  induction f with
  | zero => intro m _ _ _ k h1 h2; omega
  | succ f ih =>
    intro m hm hf h k h1 h2
    unfold witFrom at h
    split at h
    · have := setL_ne m hm (by omega); omega
    · rename_i hd
      by_cases e : k = m
      · subst e; omega
      · exact ih (m + 1) (by omega) (by omega) h k (by omega) (by omega)
theorem fin_pos {c : List (List Int)} (hC : IsC c) (hf : finB c = true) : ∀ k, 1 ≤ k → k < 2 ^ c.length → 0 < minorAt c k := by
  intro k h1 h2
  have h16 := pow_le16 hC.2.1
  unfold finB at hf
  rw [Bool.and_eq_true] at hf
  have hw : (witness c).length = 0 := by simpa using hf.2
  unfold witness at hw
  rw [if_pos hC] at hw
  exact witFrom_pos (2 ^ c.length - 1) 1 (Nat.le_refl _) (by omega) hw k h1 (by omega)
theorem pair_ok : ∀ x ∈ [(-3 : Int), -2, -1, 0], ∀ y ∈ [(-3 : Int), -2, -1, 0], decide (x = 0) = decide (y = 0) → 0 < det 2 (mat2 (x, y)) → (x, y) ∈ L6 := by decide
theorem pair_in {x y : Int} (h1 : -3 ≤ x ∧ x ≤ 0) (h2 : -3 ≤ y ∧ y ≤ 0) (h3 : decide (x = 0) = decide (y = 0)) (h : 0 < det 2 (mat2 (x, y))) : (x, y) ∈ L6 := by
  have hx : x ∈ [(-3 : Int), -2, -1, 0] := by
    have : x = -3 ∨ x = -2 ∨ x = -1 ∨ x = 0 := by omega
    rcases this with rfl | rfl | rfl | rfl <;> simp
  have hy : y ∈ [(-3 : Int), -2, -1, 0] := by
    have : y = -3 ∨ y = -2 ∨ y = -1 ∨ y = 0 := by omega
    rcases this with rfl | rfl | rfl | rfl <;> simp
  exact pair_ok x hx y hy h3 h
theorem ent_diag {c : List (List Int)} (hC : IsC c) {i : Nat} (hi : i < c.length) : ent c i i = 2 := by
  have := hC.2.2.2 i hi i hi
  unfold EntOk at this
  rwa [if_pos rfl] at this
theorem ent_off {c : List (List Int)} (hC : IsC c) {i j : Nat} (hi : i < c.length) (hj : j < c.length) (hne : i ≠ j) : (-3 ≤ ent c i j ∧ ent c i j ≤ 0) ∧ decide (ent c i j = 0) = decide (ent c j i = 0) := by
  have := hC.2.2.2 i hi j hj
  unfold EntOk at this
  rw [if_neg hne] at this
  exact ⟨⟨this.1, this.2.1⟩, this.2.2⟩
theorem m2_3 (a : Int × Int) : minorAt (mat2 a) 3 = det 2 (mat2 a) := by kernel_rfl
theorem m3_3 (a b e : Int × Int) : minorAt (mat3 a b e) 3 = det 2 (mat2 a) := by kernel_rfl
theorem m3_5 (a b e : Int × Int) : minorAt (mat3 a b e) 5 = det 2 (mat2 b) := by kernel_rfl
theorem m3_6 (a b e : Int × Int) : minorAt (mat3 a b e) 6 = det 2 (mat2 e) := by kernel_rfl
theorem m3_7 (a b e : Int × Int) : minorAt (mat3 a b e) 7 = det 3 (mat3 a b e) := by kernel_rfl
theorem m4_3 (a b d e f g : Int × Int) : minorAt (mat4 a b d e f g) 3 = det 2 (mat2 a) := by kernel_rfl
theorem m4_5 (a b d e f g : Int × Int) : minorAt (mat4 a b d e f g) 5 = det 2 (mat2 b) := by kernel_rfl
theorem m4_9 (a b d e f g : Int × Int) : minorAt (mat4 a b d e f g) 9 = det 2 (mat2 d) := by kernel_rfl
theorem m4_6 (a b d e f g : Int × Int) : minorAt (mat4 a b d e f g) 6 = det 2 (mat2 e) := by kernel_rfl
theorem m4_10 (a b d e f g : Int × Int) : minorAt (mat4 a b d e f g) 10 = det 2 (mat2 f) := by kernel_rfl
theorem m4_12 (a b d e f g : Int × Int) : minorAt (mat4 a b d e f g) 12 = det 2 (mat2 g) := by kernel_rfl
theorem m4_7 (a b d e f g : Int × Int) : minorAt (mat4 a b d e f g) 7 = det 3 (mat3 a b e) := by kernel_rfl
theorem m4_11 (a b d e f g : Int × Int) : minorAt (mat4 a b d e f g) 11 = det 3 (mat3 a d f) := by kernel_rfl
theorem m4_13 (a b d e f g : Int × Int) : minorAt (mat4 a b d e f g) 13 = det 3 (mat3 b d g) := by kernel_rfl
theorem m4_14 (a b d e f g : Int × Int) : minorAt (mat4 a b d e f g) 14 = det 3 (mat3 e f g) := by kernel_rfl
theorem m4_15 (a b d e f g : Int × Int) : minorAt (mat4 a b d e f g) 15 = det 4 (mat4 a b d e f g) := by kernel_rfl
theorem good_of_2 {P : List (List Int) → Bool} (h2 : chk2 P = true) {c : List (List Int)} (hC : IsC c) (hf : finB c = true) (hn : c.length = 2) : P c = true := by
  have hpos := fin_pos hC hf
  obtain ⟨r0, r1, rfl⟩ := list2 hn
  obtain ⟨x00, x01, rfl⟩ := list2 (hC.2.2.1 0 (by simp))
  obtain ⟨x10, x11, rfl⟩ := list2 (hC.2.2.1 1 (by simp))
  have d0 : x00 = 2 := ent_diag hC (i := 0) (by simp)
  have d1 : x11 = 2 := ent_diag hC (i := 1) (by simp)
  subst d0; subst d1
  have o01 := ent_off hC (i := 0) (j := 1) (by simp) (by simp) (by decide)
  have o10 := ent_off hC (i := 1) (j := 0) (by simp) (by simp) (by decide)
  have p01 : (x01, x10) ∈ L6 := pair_in o01.1 o10.1 o01.2 (by have h0 := hpos 3 (by decide) (by simp); have h1 := m2_3 (x01, x10); exact h1 ▸ h0)
  have h := h2
  unfold chk2 at h
  have h1 := List.all_eq_true.1 h _ p01
  exact h1
theorem good_of_3 {P : List (List Int) → Bool} (hK : chk3 P = true) {c : List (List Int)} (hC : IsC c) (hf : finB c = true) (hn : c.length = 3) : P c = true := by
  have hpos := fin_pos hC hf
  obtain ⟨r0, r1, r2, rfl⟩ := list3 hn
  obtain ⟨x00, x01, x02, rfl⟩ := list3 (hC.2.2.1 0 (by simp))
  obtain ⟨x10, x11, x12, rfl⟩ := list3 (hC.2.2.1 1 (by simp))
  obtain ⟨x20, x21, x22, rfl⟩ := list3 (hC.2.2.1 2 (by simp))
  have d0 : x00 = 2 := ent_diag hC (i := 0) (by simp)
  have d1 : x11 = 2 := ent_diag hC (i := 1) (by simp)
  have d2 : x22 = 2 := ent_diag hC (i := 2) (by simp)
  subst d0; subst d1; subst d2
  have o01 := ent_off hC (i := 0) (j := 1) (by simp) (by simp) (by decide)
  have o10 := ent_off hC (i := 1) (j := 0) (by simp) (by simp) (by decide)
  have o02 := ent_off hC (i := 0) (j := 2) (by simp) (by simp) (by decide)
  have o20 := ent_off hC (i := 2) (j := 0) (by simp) (by simp) (by decide)
  have o12 := ent_off hC (i := 1) (j := 2) (by simp) (by simp) (by decide)
  have o21 := ent_off hC (i := 2) (j := 1) (by simp) (by simp) (by decide)
  have p01 : (x01, x10) ∈ L6 := pair_in o01.1 o10.1 o01.2 (by have h0 := hpos 3 (by decide) (by simp); have h1 := m3_3 (x01, x10) (x02, x20) (x12, x21); exact h1 ▸ h0)
  have p02 : (x02, x20) ∈ L6 := pair_in o02.1 o20.1 o02.2 (by have h0 := hpos 5 (by decide) (by simp); have h1 := m3_5 (x01, x10) (x02, x20) (x12, x21); exact h1 ▸ h0)
  have p12 : (x12, x21) ∈ L6 := pair_in o12.1 o21.1 o12.2 (by have h0 := hpos 6 (by decide) (by simp); have h1 := m3_6 (x01, x10) (x02, x20) (x12, x21); exact h1 ▸ h0)
  have h7 : 0 < det 3 (mat3 (x01, x10) (x02, x20) (x12, x21)) := by have h0 := hpos 7 (by decide) (by simp); have h1 := m3_7 (x01, x10) (x02, x20) (x12, x21); exact h1 ▸ h0
  have h := hK
  unfold chk3 at h
  have h1 := List.all_eq_true.1 h _ p01
  have h2 := List.all_eq_true.1 h1 _ p02
  have h3 := List.all_eq_true.1 h2 _ p12
  have hb : bad3 (x01, x10) (x02, x20) (x12, x21) = false := by unfold bad3; rw [decide_eq_false_iff_not]; omega
  rw [hb, Bool.false_or] at h3
  exact h3
set_option maxHeartbeats 2000000 in
theorem good_of_4 {P : List (List Int) → Bool} (hK : chk4 P = true) {c : List (List Int)} (hC : IsC c) (hf : finB c = true) (hn : c.length = 4) : P c = true := by
  have hpos := fin_pos hC hf
  obtain ⟨r0, r1, r2, r3, rfl⟩ := list4 hn
  obtain ⟨x00, x01, x02, x03, rfl⟩ := list4 (hC.2.2.1 0 (by simp))
  obtain ⟨x10, x11, x12, x13, rfl⟩ := list4 (hC.2.2.1 1 (by simp))
  obtain ⟨x20, x21, x22, x23, rfl⟩ := list4 (hC.2.2.1 2 (by simp))
  obtain ⟨x30, x31, x32, x33, rfl⟩ := list4 (hC.2.2.1 3 (by simp))
  have d0 : x00 = 2 := ent_diag hC (i := 0) (by simp)
  have d1 : x11 = 2 := ent_diag hC (i := 1) (by simp)
  have d2 : x22 = 2 := ent_diag hC (i := 2) (by simp)
  have d3 : x33 = 2 := ent_diag hC (i := 3) (by simp)
  subst d0; subst d1; subst d2; subst d3
  have o01 := ent_off hC (i := 0) (j := 1) (by simp) (by simp) (by decide)
  have o10 := ent_off hC (i := 1) (j := 0) (by simp) (by simp) (by decide)
  have o02 := ent_off hC (i := 0) (j := 2) (by simp) (by simp) (by decide)
  have o20 := ent_off hC (i := 2) (j := 0) (by simp) (by simp) (by decide)
  have o03 := ent_off hC (i := 0) (j := 3) (by simp) (by simp) (by decide)
  have o30 := ent_off hC (i := 3) (j := 0) (by simp) (by simp) (by decide)
  have o12 := ent_off hC (i := 1) (j := 2) (by simp) (by simp) (by decide)
  have o21 := ent_off hC (i := 2) (j := 1) (by simp) (by simp) (by decide)
  have o13 := ent_off hC (i := 1) (j := 3) (by simp) (by simp) (by decide)
  have o31 := ent_off hC (i := 3) (j := 1) (by simp) (by simp) (by decide)
  have o23 := ent_off hC (i := 2) (j := 3) (by simp) (by simp) (by decide)
  have o32 := ent_off hC (i := 3) (j := 2) (by simp) (by simp) (by decide)
  have p01 : (x01, x10) ∈ L6 := pair_in o01.1 o10.1 o01.2 (by have h0 := hpos 3 (by decide) (by simp); have h1 := m4_3 (x01, x10) (x02, x20) (x03, x30) (x12, x21) (x13, x31) (x23, x32); exact h1 ▸ h0)
  have p02 : (x02, x20) ∈ L6 := pair_in o02.1 o20.1 o02.2 (by have h0 := hpos 5 (by decide) (by simp); have h1 := m4_5 (x01, x10) (x02, x20) (x03, x30) (x12, x21) (x13, x31) (x23, x32); exact h1 ▸ h0)
  have p12 : (x12, x21) ∈ L6 := pair_in o12.1 o21.1 o12.2 (by have h0 := hpos 6 (by decide) (by simp); have h1 := m4_6 (x01, x10) (x02, x20) (x03, x30) (x12, x21) (x13, x31) (x23, x32); exact h1 ▸ h0)
  have p03 : (x03, x30) ∈ L6 := pair_in o03.1 o30.1 o03.2 (by have h0 := hpos 9 (by decide) (by simp); have h1 := m4_9 (x01, x10) (x02, x20) (x03, x30) (x12, x21) (x13, x31) (x23, x32); exact h1 ▸ h0)
  have p13 : (x13, x31) ∈ L6 := pair_in o13.1 o31.1 o13.2 (by have h0 := hpos 10 (by decide) (by simp); have h1 := m4_10 (x01, x10) (x02, x20) (x03, x30) (x12, x21) (x13, x31) (x23, x32); exact h1 ▸ h0)
  have p23 : (x23, x32) ∈ L6 := pair_in o23.1 o32.1 o23.2 (by have h0 := hpos 12 (by decide) (by simp); have h1 := m4_12 (x01, x10) (x02, x20) (x03, x30) (x12, x21) (x13, x31) (x23, x32); exact h1 ▸ h0)
  have h7 : 0 < det 3 (mat3 (x01, x10) (x02, x20) (x12, x21)) := by have h0 := hpos 7 (by decide) (by simp); have h1 := m4_7 (x01, x10) (x02, x20) (x03, x30) (x12, x21) (x13, x31) (x23, x32); exact h1 ▸ h0
  have h11 : 0 < det 3 (mat3 (x01, x10) (x03, x30) (x13, x31)) := by have h0 := hpos 11 (by decide) (by simp); have h1 := m4_11 (x01, x10) (x02, x20) (x03, x30) (x12, x21) (x13, x31) (x23, x32); exact h1 ▸ h0
  have h13 : 0 < det 3 (mat3 (x02, x20) (x03, x30) (x23, x32)) := by have h0 := hpos 13 (by decide) (by simp); have h1 := m4_13 (x01, x10) (x02, x20) (x03, x30) (x12, x21) (x13, x31) (x23, x32); exact h1 ▸ h0
  have h14 : 0 < det 3 (mat3 (x12, x21) (x13, x31) (x23, x32)) := by have h0 := hpos 14 (by decide) (by simp); have h1 := m4_14 (x01, x10) (x02, x20) (x03, x30) (x12, x21) (x13, x31) (x23, x32); exact h1 ▸ h0
  have h15 : 0 < det 4 (mat4 (x01, x10) (x02, x20) (x03, x30) (x12, x21) (x13, x31) (x23, x32)) := by have h0 := hpos 15 (by decide) (by simp); have h1 := m4_15 (x01, x10) (x02, x20) (x03, x30) (x12, x21) (x13, x31) (x23, x32); exact h1 ▸ h0
  have h := hK
  unfold chk4 at h
  have b7 : bad3 (x01, x10) (x02, x20) (x12, x21) = false := by unfold bad3; rw [decide_eq_false_iff_not]; omega
  have b11 : bad3 (x01, x10) (x03, x30) (x13, x31) = false := by unfold bad3; rw [decide_eq_false_iff_not]; omega
  have b13 : bad3 (x02, x20) (x03, x30) (x23, x32) = false := by unfold bad3; rw [decide_eq_false_iff_not]; omega
  have b14 : bad3 (x12, x21) (x13, x31) (x23, x32) = false := by unfold bad3; rw [decide_eq_false_iff_not]; omega
  have b15 : decide (det 4 (mat4 (x01, x10) (x02, x20) (x03, x30) (x12, x21) (x13, x31) (x23, x32)) ≤ 0) = false := by rw [decide_eq_false_iff_not]; omega
  have h1 := List.all_eq_true.1 h _ p01
  have h2 := List.all_eq_true.1 h1 _ p02
  have h3 := List.all_eq_true.1 h2 _ p12
  rw [b7, Bool.false_or] at h3
  have h4 := List.all_eq_true.1 h3 _ p03
  have h5 := List.all_eq_true.1 h4 _ p13
  rw [b11, Bool.false_or] at h5
  have h6 := List.all_eq_true.1 h5 _ p23
  rw [b13, Bool.false_or, b14, Bool.false_or, b15, Bool.false_or] at h6
  exact h6
theorem good_of_1 {P : List (List Int) → Bool} (hK : P [[2]] = true) {c : List (List Int)} (hC : IsC c) (hn : c.length = 1) : P c = true := by
  obtain ⟨r0, rfl⟩ := list1 hn
  obtain ⟨x00, rfl⟩ := list1 (hC.2.2.1 0 (by simp))
  have d0 : x00 = 2 := ent_diag hC (i := 0) (by simp)
  subst d0
  exact hK
theorem fin_all (P : List (List Int) → Bool) (p1 : P [[2]] = true) (p2 : chk2 P = true) (p3 : chk3 P = true) (p4 : chk4 P = true) {c : List (List Int)} (hC : IsC c) (hf : finB c = true) : P c = true := by
  have : c.length = 1 ∨ c.length = 2 ∨ c.length = 3 ∨ c.length = 4 := by have := hC.1; have := hC.2.1; omega
  rcases this with h | h | h | h
  · exact good_of_1 p1 hC h
  · exact good_of_2 p2 hC hf h
  · exact good_of_3 p3 hC hf h
  · exact good_of_4 p4 hC hf h
end Go.Proofs.YtdedkfbiookofaaGreatDoor
