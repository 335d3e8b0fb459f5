/- Images of roots under words, sequences of roots: contracts of both. Normal forms of words as the machine has them; lengths change by one. Plain law. -/
import Derived.Test.YtkjglfafphffiaaGreatT11
import Derived.Test.YtkjglfafphffiaaGreatT00
import Derived.Deep.RegionHeld3
import Derived.Test.YtkjglfafphffiaaGreatT10
namespace Go.Proofs.YtkjglfafphffiaaGreat
set_option maxRecDepth 100000
open Go.RowKit
structure WordOk (c : List (List Int)) (v : List Int) : Prop where
  isC : IsC c
  few : v.length ≤ 15
  inr : ∀ k, k < v.length → 0 ≤ v.getD k 0 ∧ v.getD k 0 < (c.length : Int)
theorem wordOk_of {c : List (List Int)} {v : List Int} (h : isWordB c v = true) : WordOk c v := by
  obtain ⟨h1, h2, h3⟩ := isWordB_of h
  exact ⟨h1, h2, fun k hk => h3 _ (by simp [List.getD, hk])⟩
theorem WordOk.isWord {c : List (List Int)} {v : List Int} (h : WordOk c v) : isWordB c v = true := by
  unfold isWordB
  rw [decide_eq_true h.isC, decide_eq_true h.few, letters_in h.inr]
  rfl
/-- a root's image under a word -/
def actR (c : List (List Int)) : List Int → List Int → List Int
  | [], r => r
  | i :: l, r => mirL c i.toNat (actR c l r)
theorem actR_length (c : List (List Int)) (l r : List Int) : (actR c l r).length = r.length := by
  induction l with
  | nil => rfl
  | cons i l ih => rw [actR, mirL_length, ih]
theorem actR_drop (c : List (List Int)) (l r : List Int) (k : Nat) (hk : k < l.length) : actR c (l.drop k) r = mirL c (l.getD k 0).toNat (actR c (l.drop (k + 1)) r) := by
  rw [List.drop_eq_getElem_cons hk]
  simp [actR, List.getD, hk]
/-- the roots of a word's letters -/
def seqL (c : List (List Int)) (v : List Int) : List (List Int) := (List.range v.length).map fun k => actR c (v.take k) (simpL c.length (v.getD k 0).toNat)
def seqTo (c : List (List Int)) (v : List Int) (t : Nat) : List (List Int) := (List.range t).map fun k => actR c (v.take k) (simpL c.length (v.getD k 0).toNat)
theorem seqTo_succ (c : List (List Int)) (v : List Int) (t : Nat) : seqTo c v (t + 1) = seqTo c v t ++ [actR c (v.take t) (simpL c.length (v.getD t 0).toNat)] := by simp [seqTo, List.range_succ]
set_option maxHeartbeats 1000000 in
theorem impl_actedRoot_any (gc oc n cc g1 o1 n1 c1 g2 o2 n2 c2 : Nat) (c : List (List Int)) (l r : List Int) (w : World) (hn : c.length = n) (hn1 : l.length = n1) (hn2 : r.length = n2) (hC : IsC c) (hl : l.length ≤ 1048576)
    (hin : ∀ k, k < l.length → 0 ≤ l.getD k 0 ∧ l.getD k 0 < (c.length : Int)) (hrl : r.length = c.length) (hgc : gc < w.heap.size) (hg1 : g1 < w.heap.size) (hg2 : g2 < w.heap.size) (hr : Rows2 w gc oc c) (hc1 : Cells w g1 o1 l) (hc2 : Cells w g2 o2 r) :
    Calls Tryz.prog 79 #[(Value.slice (some ⟨gc, oc, none⟩) n cc), (Value.slice (some ⟨g1, o1, none⟩) n1 c1), (Value.slice (some ⟨g2, o2, none⟩) n2 c2)] w (GotInts w (actR c l r)) := by
  subst hn; subst hn1; subst hn2
  have hn4 := hC.2.1
  have hcl := hC.2.2.1
  have ew : IntKind.i64.wrap ((l.length : Int) - 1) = (l.length : Int) - 1 := IntWalk.i64_in _ (by omega)
  have Hrl := Lib.hid hrl; have Hcl := Lib.hid hcl; have Hr := Lib.hid hr
  clear hrl hcl hr
  go_enter Tryz.func79, Tryz.ntmps79
  go_wp2_with (at_builtin; refine wpList_clone rfl _ _ rfl g2 o2 _ c2 r rfl hg2 hc2 rfl rfl (by have := Hrl.out; omega) ?_)
  intro gv cv w1 ho1 hb1
  go_wp2
  clear ew
  go_loopw [7, 8] (fun s i wr => ∃ (k : Nat) (j : Int) (gv cv : Nat), k ≤ l.length ∧ i = .int .i64 j ∧ j = (k : Int) - 1 ∧ s = (Value.slice (some ⟨gv, 0, none⟩) r.length cv) ∧ Own wr w.heap.size gv cv (actR c (l.drop k) r) ∧ Below w.heap.size w wr) (fun _ i _ => (intOf i + 1).toNat)
  case atStart => exact ⟨l.length, _, gv, cv, Nat.le_refl _, rfl, rfl, rfl, by rw [List.drop_length]; exact ho1, hb1⟩
  case round =>
    clear ho1 hb1
    obtain ⟨k, j, gv, cv, hk, rfl, hj, rfl, ho, hb⟩ := hrel
    by_cases hlt : 0 < k
    · obtain ⟨t, rfl⟩ : ∃ t, k = t + 1 := ⟨k - 1, by omega⟩
      obtain rfl : j = (t : Int) := by omega
      have htl : t < l.length := by omega
      have q1 := hc1.below hb hg1 t htl
      have hit := hin t htl
      have hd := actR_drop c l r t htl
      obtain ⟨iN, hiN⟩ : ∃ iN : Nat, l.getD t 0 = iN := ⟨(l.getD t 0).toNat, by omega⟩
      rw [hiN] at q1 hit hd
      rw [Int.toNat_natCast] at hd
      have hic : iN < c.length := by omega
      have hal : (actR c (l.drop (t + 1)) r).length = r.length := actR_length _ _ _
      have hal2 : (actR c (l.drop (t + 1)) r).length = c.length := by rw [hal]; exact Hrl.out
      have hcall := impl_mirrored_any gc oc _ cc iN gv 0 r.length cv c (actR c (l.drop (t + 1)) r) wr rfl hal hic (by rw [hal2]; exact hic) (by rw [hal2, Hcl.out iN hic]; exact Nat.le_refl _) (by rw [Hcl.out iN hic]; omega) (Nat.lt_of_lt_of_le hgc hb.size) ho.lt (Hr.out.below hb hgc) ho.cells
      rw [← hd] at hcall
      have hal3 : (actR c (l.drop t) r).length = r.length := actR_length _ _ _
      have Hcall := Lib.hid hcall; have Hal3 := Lib.hid hal3
      clear hcall hd hiN hal hal2 hal3 hit
      clear hj
      go_wp2_with fail
      refine Hcall.out.mono ?_
      rintro e w2 ⟨g2, c2, rfl, ho2, hb2⟩
      rw [Hal3.out]
      go_wp2_with fail
      go_roundw
      case rel =>
        exact ⟨t, (t : Int) - 1, g2, c2, by omega, by go_num, rfl, rfl, ho2.mono hb.size, hb.trans (hb2.mono hb.size)⟩
      case measure => simp [intOf]
    · obtain rfl : k = 0 := by omega
      obtain rfl : j = -1 := by omega
      clear hj
      go_wp2
      go_ret
      exact GotInts.mk' gv cv (actR_length _ _ _) ho hb
set_option maxRecDepth 100000 in
set_option maxHeartbeats 2000000 in
theorem impl_sequence_any (gc oc n cc g o m cp : Nat) (c : List (List Int)) (v : List Int) (w : World) (hn : c.length = n) (hm : v.length = m) (hcap : v.length ≤ cp) (hC : IsC c) (hl : v.length ≤ 1048576)
    (hin : ∀ k, k < v.length → 0 ≤ v.getD k 0 ∧ v.getD k 0 < (c.length : Int)) (hgc : gc < w.heap.size) (hg : g < w.heap.size) (hr : Rows2 w gc oc c) (hv : Cells w g o v) :
    Calls Tryz.prog 44 #[(Value.slice (some ⟨gc, oc, none⟩) n cc), (Value.slice (some ⟨g, o, none⟩) m cp)] w (GotRows w (seqL c v)) := by
  subst hn; subst hm
  have hn4 := hC.2.1
  have Hr := Lib.hid hr; have Hin := Lib.hid hin; have HC := Lib.hid hC
  clear hr hin hC
  go_enter Tryz.func44, Tryz.ntmps44
  go_wp2
  go_loopw [5, 11] (fun s i wr => ∃ (t gO cO : Nat) (rs : List RowRef), t ≤ v.length ∧ i = .int .i64 t ∧ s = (Value.slice (some ⟨gO, 0, none⟩) t cO) ∧ Hid (rs.length = t) ∧ Hid (contents rs = seqTo c v t) ∧ OwnRows wr w.heap.size gO cO rs ∧ Below w.heap.size w wr) (fun _ i _ => v.length - (intOf i).toNat)
  case atStart => exact ⟨0, _, 0, [], Nat.zero_le _, rfl, rfl, rfl, rfl, OwnRows.empty (Nat.le_refl _), (Below.refl _ _).alloc (Nat.le_refl _) _⟩
  case round =>
    obtain ⟨t, gO, cO, rs, ht, rfl, rfl, hrs, hcont, ho, hb⟩ := hrel
    by_cases hlt : t < v.length
    · have q1 := hv.below hb hg t hlt
      have hit := Hin.out t hlt
      have hsucc := seqTo_succ c v t
      obtain ⟨iN, hiN⟩ : ∃ iN : Nat, v.getD t 0 = iN := ⟨(v.getD t 0).toNat, by omega⟩
      rw [hiN] at q1 hit hsucc
      rw [Int.toNat_natCast] at hsucc
      have hic : iN < c.length := by omega
      have hsl := simpL_length c.length iN
      have hrl : (actR c (v.take t) (simpL c.length iN)).length = c.length := by rw [actR_length]; exact hsl
      have hinT : ∀ k, k < (v.take t).length → 0 ≤ (v.take t).getD k 0 ∧ (v.take t).getD k 0 < (c.length : Int) := fun k hk => by
        have hk' : k < v.length := by rw [List.length_take] at hk; omega
        have hkt : k < t := by rw [List.length_take] at hk; omega
        have := Hin.out k hk'
        simpa [List.getD, hk', hkt] using this
      have htl : (v.take t).length = t := by rw [List.length_take]; omega
      have kS := Lib.hid (fun W => impl_simple_any c.length iN W (by omega) hic)
      have kR := Lib.hid (fun (W : World) (B gA cA : Nat) (hW : Below w.heap.size w W) (hA : Own W B gA cA (simpL c.length iN)) => impl_actedRoot_any gc oc _ cc g o t cp gA 0 c.length cA c (v.take t) (simpL c.length iN) W rfl htl hsl HC.out (by rw [htl]; omega) hinT hsl (Nat.lt_of_lt_of_le hgc hW.size) (Nat.lt_of_lt_of_le hg hW.size) hA.lt (Hr.out.below hW hgc) ((hv.take t).below hW hg) hA.cells)
      generalize actR c (v.take t) (simpL c.length iN) = row at *
      generalize simpL c.length iN = x0 at *
      have Hsl := Lib.hid hsl; have Hrl := Lib.hid hrl; have Hsucc := Lib.hid hsucc
      clear hsl hrl hsucc hiN hinT htl hit
      have b1 : (0 : Int) ≤ (t : Int) := by omega
      have b2 : (t : Int) ≤ (cp : Int) := by omega
      have b3 : (t : Int) ≤ (v.length : Int) := by omega
      have hbD := Lib.hid (show Below w.heap.size w wr.drew from Below.drew hb)
      have hoD := Lib.hid (show OwnRows wr.drew w.heap.size gO cO rs from ho)
      have HNe := Lib.hid (fun (x : Nat) (hx : wr.drew.heap.size ≤ x) => show ∀ s ∈ rs, s.1 ≠ x from fun s hs e => by have h1 := (ho.2.1 s hs).lt; have h2 : wr.heap.size ≤ x := hx; omega)
      have HoB := Lib.hid (fun (W1 W2 : World) (h1 : Below wr.drew.heap.size wr.drew W1) (h2 : Below W1.heap.size W1 W2) => show OwnRows W2 w.heap.size gO cO rs from (hoD.out.below h1).below h2)
      have Hrv := Lib.hid (fun (gB cB : Nat) => show rowVal (gB, cB, row) = (Value.slice (some ⟨gB, 0, none⟩) c.length cB) from by unfold rowVal; rw [Hrl.out])
      clear ho
      go_wp2
      go_region_held3 (fun _ => True) (exact trivial)
        (first
          | (go_at_call 80; refine (kS.out _).mono ?_; rintro e wA ⟨gA, cA, rfl, hoA, hbA⟩; rw [Hsl.out])
          | (go_at_call 79; refine (kR.out _ _ gA cA (hbD.out.trans (hbA.mono hbD.out.size)) hoA).mono ?_; rintro e wB ⟨gB, cB, rfl, hoB, hbB⟩; rw [Hrl.out])
          | (refine step_append_row (w := wB) (by rfl) _ _ (by rfl) w.heap.size gO cO t wB.heap.size rs (gB, cB, row) _ hrs.out (by rw [Hrv.out]) (by rfl) (by exact HoB.out wA wB hbA hbB) (by exact hoB.mono (Nat.le_trans hbD.out.size hbA.size)) (by exact HNe.out gB (Nat.le_trans hbA.size hoB.base)) (by rfl) (by rfl) (by omega) ?_; intro g3 c3 w3 ho3 hg3 hor3))
      have hbB2 := hbD.out.trans (hbA.mono hbD.out.size)
      have hbC2 := hbB2.trans (hbB.mono hbB2.size)
      have hbE := hbC2.grown hg3 hbC2.size (by intro j hj; cases hj; exact hoD.out.base)
      have hcs : contents (rs ++ [(gB, cB, row)]) = seqTo c v (t + 1) := by rw [Hsucc.out, ← hcont.out]; simp [contents]
      have Hcs := Lib.hid hcs
      clear hbA hbB hoA hoB hbB2 hbC2 hg3 hcs hoD HoB HNe
      go_wp2_with fail
      go_roundw
      case rel => exact ⟨t + 1, g3, c3, rs ++ [(gB, cB, row)], by omega, by go_num, rfl, by show _ = _; rw [List.length_append, hrs.out]; rfl, Hcs.out, ho3, hbE⟩
      case measure => simp [intOf]; omega
    · obtain rfl : t = v.length := by omega
      go_wp2
      go_ret
      exact ⟨gO, cO, rs, by rw [← hrs.out, ← contents_length, hcont.out]; rfl, hcont.out, ho, hb⟩
def seqA (c : List (List Int)) (v : List Int) : List (List Int) := if isWordB c v = true then seqL c v else []
set_option maxHeartbeats 1000000 in
theorem impl_RootSequence_any (gc oc n cc g o m cp : Nat) (c : List (List Int)) (v : List Int) (w : World) (hn : c.length = n) (hm : v.length = m) (hx : c.length ≤ 1048576) (hrl : ∀ j, j < c.length → (c.getD j []).length ≤ 1048576) (hl : v.length ≤ 1048576) (hcap : v.length ≤ cp)
    (hgc : gc < w.heap.size) (hg : g < w.heap.size) (hr : Rows2 w gc oc c) (hv : Cells w g o v) :
    Calls Tryz.prog 49 #[(Value.slice (some ⟨gc, oc, none⟩) n cc), (Value.slice (some ⟨g, o, none⟩) m cp)] w (GotRows w (seqA c v)) := by
  have hIW := impl_IsWord_any gc oc n cc g o m cp c v w hn hm hx hrl hl hr hv
  cases hw : isWordB c v with
  | false =>
    rw [hw] at hIW
    have Hi := Lib.hid hIW
    rw [show seqA c v = [] from if_neg (by rw [hw]; decide)]
    clear hIW hw hr hv
    go_enter Tryz.func49, Tryz.ntmps49
    go_wp2_with fail
    refine Hi.out.mono ?_
    rintro e w1 ⟨rfl, hs1⟩
    have hb1 := below_still (Below.refl w.heap.size w) hs1
    go_wp2_with fail
    go_ret
    exact ⟨_, 0, [], rfl, rfl, OwnRows.empty hb1.size, hb1.alloc hb1.size _⟩
  | true =>
    rw [hw] at hIW
    have hW := wordOk_of hw
    have Hi := Lib.hid hIW
    have Hs := Lib.hid (fun W (hs : ∃ q, W = w.drewN q) => impl_sequence_any gc oc n cc g o m cp c v W hn hm hcap hW.isC hl hW.inr (Nat.lt_of_lt_of_le hgc (below_still (Below.refl w.heap.size w) hs).size) (Nat.lt_of_lt_of_le hg (below_still (Below.refl w.heap.size w) hs).size) (hr.still hs) (hv.still hs))
    rw [show seqA c v = seqL c v from if_pos hw]
    clear hIW hw hr hv hW
    go_enter Tryz.func49, Tryz.ntmps49
    go_wp2_with fail
    refine Hi.out.mono ?_
    rintro e w1 ⟨rfl, hs1⟩
    have hb1 := below_still (Below.refl w.heap.size w) hs1
    go_wp2_with fail
    refine (Hs.out w1 hs1).mono ?_
    rintro e w2 ⟨g2, c2, rs, rfl, hcon, ho, hb2⟩
    go_wp2_with fail
    go_ret
    exact ⟨g2, c2, rs, rfl, hcon, ho.mono hb1.size, hb1.trans (hb2.mono hb1.size)⟩
end Go.Proofs.YtkjglfafphffiaaGreat
namespace Go.Proofs.YtkjglfafphffiaaGreat
set_option maxRecDepth 100000
open Go.RowKit
namespace Game
variable {A : Mat} {n : Nat}
/-- a word and its play are of the same parity -/
theorem play_parity (hC : Car A n) {d : Vec} (hd : ∀ i, i < n → 0 < d i) : ∀ (w : List Nat), (∀ i ∈ w, i < n) → ∀ l, Plays A n l (act A w d) d → l.length % 2 = w.length % 2 := by
  have hd0 : Dom n d := fun i hi => by have := hd i hi; omega
  intro w
  induction w with
  | nil =>
    intro _ l h
    have := Dom.stuck hd0 h
    rw [this]
  | cons i w ih =>
    intro hw l h
    have hi := hw i (by simp)
    obtain ⟨l0, h1, h2⟩ := word_play hC hd0 w (fun j hj => hw j (List.mem_cons_of_mem _ hj))
    have hpar := ih (fun j hj => hw j (List.mem_cons_of_mem _ hj)) l0 h1
    simp only [act, List.length_cons] at h ⊢
    generalize act A w d = x at *
    rcases Int.lt_trichotomy (x i) 0 with g | g | g
    · obtain ⟨l', g1, g2, g3⟩ := h1.first hC hd0 hi g
      have := (Plays.unique hC hd0 (Plays.cons.1 g1).2.2 h).1
      omega
    · exact absurd g (h1.ne hC hd hi)
    · have hp : Plays A n (i :: l0) (s A i x) d := Plays.cons.2 ⟨hi, by simp only [s, hC.two i hi]; omega, by rw [s_s hC hi]; exact h1⟩
      have := (Plays.unique hC hd0 hp h).1
      rw [List.length_cons] at this
      omega
end Game
open Game
/-- letters of a matrix, at most m of them -/
structure Lets (c : List (List Int)) (m : Nat) (v : List Int) : Prop where
  isC : IsC c
  few : v.length ≤ m
  inr : ∀ k, k < v.length → 0 ≤ v.getD k 0 ∧ v.getD k 0 < (c.length : Int)
theorem WordOk.lets {c : List (List Int)} {v : List Int} (h : WordOk c v) : Lets c 15 v := ⟨h.isC, h.few, h.inr⟩
theorem Lets.word {c : List (List Int)} {v : List Int} (h : Lets c 15 v) : WordOk c v := ⟨h.isC, h.few, h.inr⟩
theorem Lets.mono {c : List (List Int)} {m m' : Nat} {v : List Int} (h : Lets c m v) (hm : m ≤ m') : Lets c m' v := ⟨h.isC, Nat.le_trans h.few hm, h.inr⟩
theorem Lets.mem {c : List (List Int)} {m : Nat} {v : List Int} (h : Lets c m v) : ∀ x ∈ v, 0 ≤ x ∧ x < (c.length : Int) := fun x hx => by
  obtain ⟨k, hk, rfl⟩ := List.mem_iff_getElem.1 hx
  have := h.inr k hk
  simpa [List.getD, hk] using this
theorem lets_of {c : List (List Int)} {m : Nat} {v : List Int} (hC : IsC c) (hl : v.length ≤ m) (h : ∀ x ∈ v, 0 ≤ x ∧ x < (c.length : Int)) : Lets c m v :=
  ⟨hC, hl, fun k hk => h _ (by simp [List.getD, hk])⟩
theorem Lets.app {c : List (List Int)} {m k : Nat} {v u : List Int} (h : Lets c m v) (h' : Lets c k u) : Lets c (m + k) (v ++ u) :=
  lets_of h.isC (by rw [List.length_append]; have := h.few; have := h'.few; omega) fun x hx => by
    rcases List.mem_append.1 hx with g | g
    · exact h.mem x g
    · exact h'.mem x g
theorem Lets.one {c : List (List Int)} (hC : IsC c) {i : Int} (h0 : 0 ≤ i) (h1 : i < (c.length : Int)) : Lets c 1 [i] :=
  lets_of hC (by simp) fun x hx => by rw [List.mem_singleton] at hx; subst hx; exact ⟨h0, h1⟩
theorem Lets.nats {c : List (List Int)} {m : Nat} {v : List Int} (h : Lets c m v) : intsOf (v.map Int.toNat) = v := by
  unfold intsOf
  rw [List.map_map]
  have : ∀ x ∈ v, ((fun (t : Nat) => (t : Int)) ∘ Int.toNat) x = id x := fun x hx => by
    have := (h.mem x hx).1
    simp; omega
  rw [List.map_congr_left this, List.map_id]
theorem Lets.nats_lt {c : List (List Int)} {m : Nat} {v : List Int} (h : Lets c m v) : ∀ i ∈ v.map Int.toNat, i < c.length := fun i hi => by
  obtain ⟨x, hx, rfl⟩ := List.mem_map.1 hi
  have := h.mem x hx
  omega
abbrev imI (c : List (List Int)) (v : List Int) : List Int := actW c v (onesL c.length)
theorem imI_length (c : List (List Int)) (v : List Int) : (imI c v).length = c.length := by unfold imI; rw [actW_length]; exact onesL_len _
theorem imI_cons (c : List (List Int)) (i : Nat) (v : List Int) : imI c ((i : Int) :: v) = refl c i (imI c v) := rfl
/-- what a normal form is -/
structure NfI (c : List (List Int)) (v y : List Int) : Prop where
  norm : normG c 30 (imI c v) = some y
  len : y.length ≤ v.length
  par : y.length % 2 = v.length % 2
  lets : Lets c v.length y
  img : imI c y = imI c v
theorem nfI_ex {c : List (List Int)} {v : List Int} (h : Lets c 30 v) : ∃ W, NfOf c (v.map Int.toNat) W ∧ nfI c v = intsOf W := by
  obtain ⟨W, hW⟩ := nf_of h.isC h.nats_lt (by rw [List.length_map]; exact h.few)
  refine ⟨W, hW, ?_⟩
  have := nfI_of hW
  rwa [h.nats] at this
theorem nfI_ok {c : List (List Int)} {v : List Int} (h : Lets c 30 v) : NfI c v (nfI c v) := by
  obtain ⟨W, hW, e⟩ := nfI_ex h
  have hn := hW.norm
  rw [h.nats] at hn
  have hi := hW.img
  rw [h.nats] at hi
  have hl := hW.len
  rw [List.length_map] at hl
  have hwl : (intsOf W).length = W.length := by simp [intsOf]
  rw [e]
  refine ⟨hn, by rw [hwl]; exact hl, ?_, lets_of h.isC (by rw [hwl]; exact hl) fun x hx => ?_, hi⟩
  · rw [hwl]
    have := play_parity (car_of h.isC) (ones_pos c.length) _ h.nats_lt W hW.plays
    rwa [List.length_map] at this
  · unfold intsOf at hx
    obtain ⟨i, hi', rfl⟩ := List.mem_map.1 hx
    have := hW.lt i hi'
    omega
/-- a normal form is its own -/
theorem nfI_self {c : List (List Int)} {v : List Int} (h : Lets c 30 v) : nfI c (nfI c v) = nfI c v := by
  have h1 := nfI_ok h
  unfold nfI
  rw [show actW c ((normG c 30 (actW c v (onesL c.length))).getD []) (onesL c.length) = actW c v (onesL c.length) from h1.img]
theorem nfI_img {c : List (List Int)} {v u : List Int} (h : imI c v = imI c u) : nfI c v = nfI c u := by
  unfold nfI
  rw [show actW c v (onesL c.length) = actW c u (onesL c.length) from h]
/-- no number of an image is 0 -/
theorem imI_ne {c : List (List Int)} {v : List Int} (h : Lets c 30 v) {i : Nat} (hi : i < c.length) : (imI c v).getD i 0 ≠ 0 :=
  normG_nz (nfI_ok h).norm i (by rw [imI_length]; exact hi)
/-- the element is shorter behind a letter at which its image is negative -/
theorem nfI_down {c : List (List Int)} {v : List Int} (h : Lets c 29 v) {i : Nat} (hi : i < c.length) (hneg : (imI c v).getD i 0 < 0) : (nfI c ((i : Int) :: v)).length + 1 = (nfI c v).length := by
  have hC := h.isC
  have hA := car_of hC
  have h30 := h.mono (show 29 ≤ 30 by omega)
  have h2 : Lets c 30 ((i : Int) :: v) := lets_of hC (by rw [List.length_cons]; have := h.few; omega) fun x hx => by
    rcases List.mem_cons.1 hx with g | g
    · subst g; omega
    · exact h.mem x g
  obtain ⟨W, hW, e⟩ := nfI_ex h30
  obtain ⟨X, hX, e2⟩ := nfI_ex h2
  have hwl : (intsOf W).length = W.length := by simp [intsOf]
  have hxl : (intsOf X).length = X.length := by simp [intsOf]
  rw [e, e2, hwl, hxl]
  have hv : toV (imI c v) = act (ent c) (v.map Int.toNat) (toV (onesL c.length)) := by
    have := toV_image hC h.nats_lt (by rw [List.length_map]; have := h.few; omega)
    rwa [h.nats] at this
  have hneg' : act (ent c) (v.map Int.toNat) (toV (onesL c.length)) i < 0 := by rw [← hv]; exact hneg
  obtain ⟨l', g1, g2, -⟩ := hW.plays.first hA (ones_dom _) hi hneg'
  have hp := (Plays.cons.1 g1).2.2
  have hm : (((i : Int) :: v).map Int.toNat) = i :: v.map Int.toNat := by rw [List.map_cons, Int.toNat_natCast]
  have hXp := hX.plays
  rw [hm] at hXp
  have := (Plays.unique hA (ones_dom _) hp hXp).1
  omega
def starS (c : List (List Int)) (x : List Int) (i : Int) : List Int := if (nfI c (x ++ [i])).length < x.length then x else nfI c (x ++ [i])
def starTo (c : List (List Int)) (v : List Int) : Nat → List Int
  | 0 => []
  | k + 1 => starS c (starTo c v k) (v.getD k 0)
def starL (c : List (List Int)) (v : List Int) : List Int := starTo c v v.length
theorem starS_lets {c : List (List Int)} {m : Nat} {x : List Int} {i : Int} (h : Lets c m x) (hm : m ≤ 29) (h0 : 0 ≤ i) (h1 : i < (c.length : Int)) : Lets c (m + 1) (starS c x i) := by
  have hx := h.app (Lets.one h.isC h0 h1)
  unfold starS
  split
  · exact h.mono (by omega)
  · exact ((nfI_ok (hx.mono (by omega))).lets).mono (by have := hx.few; omega)
theorem starTo_lets {c : List (List Int)} {v : List Int} (h : WordOk c v) : ∀ k, k ≤ v.length → Lets c k (starTo c v k)
  | 0, _ => ⟨h.isC, Nat.le_refl _, fun k hk => by simp [starTo] at hk⟩
  | k + 1, hk => by
    have h1 := starTo_lets h k (by omega)
    have h2 := h.inr k (by omega)
    exact starS_lets h1 (by have := h.few; omega) h2.1 h2.2
end Go.Proofs.YtkjglfafphffiaaGreat
