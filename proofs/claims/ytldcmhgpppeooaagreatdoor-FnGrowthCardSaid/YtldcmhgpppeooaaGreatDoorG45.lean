/- Groups of at most 48 elements. Plain law. Two matrices side by side. What FnGrowth checks, beyond equality: the first two spheres, elements of balls, counts of products. Plain law. IsElement (the program's) at elements: contract. append of n zeros ('append(xs, make([]int, n)...)') to a list of the call's own. JoinCartans (the reference's): contract. -/
import Derived.Test.YtldcmhgpppeooaaGreatDoorG34
import Derived.Test.YtldcmhgpppeooaaGreatDoorG44
import Derived.Test.YtldcmhgpppeooaaGreatDoorG14
import Derived.Test.YtldcmhgpppeooaaGreatDoorG20
import Derived.Test.YtldcmhgpppeooaaGreatDoorG36
import Derived.Test.YtldcmhgpppeooaaGreatDoorG41
import Derived.Test.YtldcmhgpppeooaaGreatDoorG42
import Derived.Test.YtldcmhgpppeooaaGreatDoorG15
import Derived.Test.YtldcmhgpppeooaaGreatDoorBase
import Derived.Lib.AppendZeros
import Derived.Test.YtldcmhgpppeooaaGreatDoorG01
import Derived.Test.YtldcmhgpppeooaaGreatDoorG04
import Derived.Test.YtldcmhgpppeooaaGreatDoorG24
import Derived.Deep.RegionHeld3
import Derived.Deep.OwnRows
import Derived.Test.YtldcmhgpppeooaaGreatDoorG21
namespace Go.Proofs.YtldcmhgpppeooaaGreatDoor
set_option maxRecDepth 100000
open Go.RowKit Game

theorem size_fin {c : List (List Int)} (hf : finB c = true) : szB c = true := (Bool.and_eq_true_iff.1 (szK_fin (fin_isC hf) hf)).2
theorem crOk_fin {c : List (List Int)} (hf : finB c = true) : CrOk c := crOk_of (fin_isC hf) (Bool.and_eq_true_iff.1 (szK_fin (fin_isC hf) hf)).1
/-- a finite group of at most 48 elements -/
def fewB (c : List (List Int)) : Bool := finB c && decide (szO c ≤ 48)
def fewL (c : List (List Int)) : List (List Int) := if fewB c = true then elemL c else []
theorem fewB_fin {c : List (List Int)} (h : fewB c = true) : finB c = true := (Bool.and_eq_true_iff.1 h).1
theorem fewB_48 {c : List (List Int)} (h : fewB c = true) : szO c ≤ 48 := of_decide_eq_true (Bool.and_eq_true_iff.1 h).2
theorem size_pos {c : List (List Int)} (hf : finB c = true) : 1 ≤ szO c := by
  have h := size_fin hf
  have hs : szO c = prodT (nameL c) := if_pos hf
  unfold szB szC at h
  rw [hs]
  exact of_decide_eq_true (Bool.and_eq_true_iff.1 h).1
theorem grp_few {c : List (List Int)} (h : fewB c = true) : Grp c := grp_of (fewB_fin h) (size_fin (fewB_fin h)) (by have := fewB_48 h; omega)
theorem few_iff (c : List (List Int)) : fewB c = true ↔ 1 ≤ szO c ∧ szO c ≤ 48 := by
  constructor
  · intro h; exact ⟨size_pos (fewB_fin h), fewB_48 h⟩
  · intro ⟨h1, h2⟩
    have hf : finB c = true := by
      by_cases hf : finB c = true
      · exact hf
      · have : szO c = 0 := if_neg hf
        omega
    unfold fewB
    rw [hf, decide_eq_true h2]; rfl
theorem elem_at {c : List (List Int)} (h : fewB c = true) {k : Nat} (hk : k < (elemL c).length) :
    ∃ n W, Elt c n W ∧ (elemL c).getD k [] = intsOf W ∧ n ≤ 9 ∧ W.length = n := by
  have hG := grp_few h
  obtain ⟨n, W, hW, e⟩ := (hG.mem ((elemL c).getD k [])).1 (by simp [List.getD, hk])
  exact ⟨n, W, hW, e, hG.short (fewB_48 h) n W hW, hW.len⟩
theorem elt_word {c : List (List Int)} {n : Nat} {W : List Nat} (hC : IsC c) (hW : Elt c n W) (hn : n ≤ 9) : isWordB c (intsOf W) = true := by
  have hl := hW.len
  unfold isWordB
  rw [decide_eq_true hC, decide_eq_true (by rw [intsOf_length]; omega), Bool.true_and, Bool.true_and]
  unfold lettersB
  rw [List.all_eq_true]
  intro x hx
  obtain ⟨i, hi, rfl⟩ := List.mem_map.1 hx
  have := hW.nf.lt i hi
  simp; omega

def sgnW (w : List Int) : Int := if w.length % 2 = 0 then 1 else -1
end Go.Proofs.YtldcmhgpppeooaaGreatDoor
namespace Go.Proofs.YtldcmhgpppeooaaGreatDoor
set_option maxRecDepth 100000
open Go.RowKit

def joinC (a b : List (List Int)) : List (List Int) := (a.map fun r => r ++ List.replicate b.length 0) ++ b.map fun r => List.replicate a.length 0 ++ r
end Go.Proofs.YtldcmhgpppeooaaGreatDoor
namespace Go.Proofs.YtldcmhgpppeooaaGreatDoor
set_option maxRecDepth 100000
open Go.RowKit Game

theorem elt_one {c : List (List Int)} (hC : IsC c) {i : Nat} (hi : i < c.length) : Elt c 1 [i] := by
  have hlt : ∀ j ∈ [i], j < c.length := by intro j hj; simp at hj; subst hj; exact hi
  obtain ⟨X, hX⟩ := nf_of hC hlt (by simp)
  have h1 : (imgL c []).getD i 0 = 1 := by
    show (onesL c.length).getD i 0 = 1
    simp [onesL, List.getD, hi]
  have hl := left_step hC (Elt.zero hC) (by omega) hi (by rw [h1]; omega) hX
  match X, hX, hl with
  | [j], hX, _ =>
    have hj : j < c.length := hX.lt j (by simp)
    have ha := congrFun (hX.act (toV (onesL c.length))) i
    simp only [Game.act, Game.s] at ha
    have hA := car_of hC
    have e1 : toV (onesL c.length) i = 1 := toV_ones _ _ hi
    have e2 : toV (onesL c.length) j = 1 := toV_ones _ _ hj
    rw [e1, e2, hA.two i hi] at ha
    by_cases e : i = j
    · subst e; exact ⟨hX.self, rfl⟩
    · have := (ent_off hC hi hj e).1.2
      omega
theorem lev1_len {c : List (List Int)} (hC : IsC c) : (levS c 1).length = c.length := by
  have hL := levS_ok hC 1 (by omega)
  have hm : ∀ x, x ∈ levS c 1 ↔ x ∈ (List.range c.length).map fun i : Nat => [(i : Int)] := by
    intro x
    rw [hL.2, List.mem_map]
    constructor
    · rintro ⟨W, hW, rfl⟩
      match W, hW with
      | [], hW => have := hW.len; simp at this
      | [i], hW => exact ⟨i, List.mem_range.2 (hW.nf.lt i (by simp)), rfl⟩
      | _ :: _ :: _, hW => have := hW.len; simp at this
    · rintro ⟨i, hi, rfl⟩
      exact ⟨[i], elt_one hC (List.mem_range.1 hi), rfl⟩
  have hnd : ((List.range c.length).map fun i : Nat => [(i : Int)]).Nodup := by
    unfold List.Nodup
    rw [List.pairwise_map]
    refine List.Pairwise.imp ?_ List.nodup_range
    intro a b hab e
    simp at e
    omega
  have hp := (List.perm_ext_iff_of_nodup hL.1.nodup hnd).2 hm
  rw [hp.length_eq]; simp
theorem sph_first {c : List (List Int)} {m : Int} (hC : IsC c) (hm : 0 < m) : 1 ≤ (sphL c m).length ∧ (sphL c m).getD 0 0 = 1 ∧ (1 < (sphL c m).length → (sphL c m).getD 1 0 = c.length) := by
  unfold sphL
  rw [if_pos ⟨hC, by omega⟩]
  generalize depthG c (min m.toNat 15) 0 = D
  have hl : ((levsTo c D).map fun l => (l.length : Int)).length = D + 1 := by rw [List.length_map, levsTo_length]
  have hat : ∀ k, k ≤ D → ((levsTo c D).map fun l => (l.length : Int)).getD k 0 = ((levS c k).length : Int) := by
    intro k hk
    have h1 : k < (levsTo c D).length := by rw [levsTo_length]; omega
    have h2 := levsTo_getD c D k hk
    simp [List.getD, h1] at h2 ⊢
    rw [h2]
  rw [hl]
  refine ⟨by omega, ?_, fun h => ?_⟩
  · rw [hat 0 (by omega)]; simp [levS]
  · rw [hat 1 (by omega), lev1_len hC]
theorem ball_elt {d : List (List Int)} {k : Int} {x : List Int} (hx : x ∈ ballR d k) : ∃ W, Elt d x.length W ∧ x = intsOf W ∧ x.length ≤ 15 ∧ (x.length : Int) ≤ k := by
  unfold ballR at hx
  split at hx
  · rename_i h
    obtain ⟨hC, h0, h15⟩ := h
    rw [mem_flat] at hx
    obtain ⟨t, ht, hx⟩ := hx
    have hd := depth_le d k.toNat 0
    obtain ⟨W, hW, e⟩ := ((levS_ok hC t (by omega)).2 x).1 hx
    have hl : x.length = t := by rw [e, intsOf_length]; exact hW.len
    rw [hl]
    exact ⟨W, hW, e, by omega, by omega⟩
  · simp at hx
theorem elt_self {d : List (List Int)} {n : Nat} {W : List Nat} (h : Elt d n W) : nfI d (intsOf W) = intsOf W := nfI_of h.nf
def prodOk (k : Nat) : Bool := decide (lenC (joinC (types17.getD k tyD).2 [[2]]) = mul (trim (lenC (types17.getD k tyD).2)) (trim (lenC [[2]])))
theorem prod_0 : prodOk 0 = true := by kernel_rfl
theorem prod_1 : prodOk 1 = true := by kernel_rfl
theorem prod_2 : prodOk 2 = true := by kernel_rfl
theorem prod_4 : prodOk 4 = true := by kernel_rfl
theorem prod_11 : prodOk 11 = true := by kernel_rfl
end Go.Proofs.YtldcmhgpppeooaaGreatDoor
namespace Go.Proofs.YtldcmhgpppeooaaGreatDoor
set_option maxRecDepth 100000
open Go.RowKit Game

theorem elt_word15 {c : List (List Int)} {n : Nat} {W : List Nat} (hC : IsC c) (hW : Elt c n W) (hn : n ≤ 15) : isWordB c (intsOf W) = true := by
  have hl := hW.len
  unfold isWordB
  rw [decide_eq_true hC, decide_eq_true (by rw [intsOf_length]; omega), Bool.true_and, Bool.true_and]
  unfold lettersB
  rw [List.all_eq_true]
  intro x hx
  obtain ⟨i, hi, rfl⟩ := List.mem_map.1 hx
  have := hW.nf.lt i hi
  simp; omega
theorem elt_lets {c : List (List Int)} {n : Nat} {W : List Nat} (hC : IsC c) (hW : Elt c n W) (hn : n ≤ 30) : Lets c 30 (intsOf W) :=
  ⟨hC, by rw [intsOf_length, hW.len]; exact hn, fun k hk => by
    rw [intsOf_length] at hk
    rw [intsOf_getD _ _ hk]
    have := hW.nf.lt (W.getD k 0) (by simp [List.getD, hk])
    omega⟩

set_option maxHeartbeats 1000000 in
theorem impl_IsElement_ok (gc oc n cc g o m cp : Nat) (c : List (List Int)) (x : List Int) (w : World) (hn : c.length = n) (hm : x.length = m) (hC : IsC c) (hx : ∃ W, Elt c x.length W ∧ x = intsOf W) (h15 : x.length ≤ 15)
    (hgc : gc < w.heap.size) (hg : g < w.heap.size) (hr : Rows2 w gc oc c) (hv : Cells w g o x) :
    Calls Tryz.prog 17 #[(Value.slice (some ⟨gc, oc, none⟩) n cc), (Value.slice (some ⟨g, o, none⟩) m cp)] w (Gives w (.bool true)) := by
  obtain ⟨W, hW, hxe⟩ := hx
  have hwd : isWordB c x = true := by rw [hxe]; exact elt_word15 hC hW h15
  have hL : Lets c 30 x := by rw [hxe]; exact elt_lets hC hW (by omega)
  have hself : nfI c x = x := by rw [hxe]; exact elt_self hW
  have h4 := hC.2.1
  have h1 := impl_IsWord_any gc oc n cc g o m cp c x w hn hm (by omega) (fun j hj => by rw [hC.2.2.1 j hj]; omega) (by omega) hr hv
  rw [hwd] at h1
  have h2 := fun W' (hB : Below w.heap.size w W') => impl_reduced_any gc oc n cc g o m cp c x W' hn hm hL (Nat.lt_of_lt_of_le hgc hB.size) (Nat.lt_of_lt_of_le hg hB.size) (hr.below hB hgc) (hv.below hB hg)
  rw [hself] at h2
  have h3 := fun g1 c1 W' (hB : Below w.heap.size w W') (ho : Cells W' g1 0 x) => impl_EqualWords_any g1 0 m c1 g o m cp x x W' hm hm (by omega) (by omega) ho (hv.below hB hg)
  simp only [decide_true] at h3
  have H1 := Lib.hid h1; have H2 := Lib.hid h2; have H3 := Lib.hid h3; have Hm := Lib.hid hm
  clear h1 h2 h3 hwd hL hself hxe hW hr hv hm
  go_enter Tryz.func17, Tryz.ntmps17
  go_wp2_with fail
  refine H1.out.mono ?_
  rintro e w1 ⟨rfl, hs1⟩
  have hB1 := below_still (Below.refl w.heap.size w) hs1
  clear hs1
  go_wp2_with fail
  refine (H2.out w1 hB1).mono ?_
  rintro e w2 ⟨g2, c2, rfl, ho2, hb2⟩
  rw [Hm.out]
  have hB2 := hB1.trans (hb2.mono hB1.size)
  have h3 := Lib.hid (H3.out g2 c2 w2 hB2 ho2.cells)
  go_wp2_with fail
  refine h3.out.mono ?_
  rintro e w3 ⟨rfl, hs3⟩
  have hB3 := below_still hB2 hs3
  go_wp2_with fail
  go_ret
  exact ⟨rfl, hB3⟩
end Go.Proofs.YtldcmhgpppeooaaGreatDoor
namespace Go.Proofs.YtldcmhgpppeooaaGreatDoor
set_option maxRecDepth 100000
open Go.RowKit

theorem zeroCells_ints (n : Nat) : Builtin.zeroCells #[Value.int .i64 0] n = ((List.replicate n (0 : Int)).map (Value.int .i64)).toArray := by
  unfold Builtin.zeroCells
  apply Array.ext
  · simp
  · intro i h1 h2
    have : i % 1 = 0 := Nat.mod_one i
    simp [this]
theorem run_append_zeros {w : World} {B g cap : Nat} {xs : List Int} (hown : Own w B g cap xs) (n : Nat) (h0 : 0 < n) (hlen : xs.length + n ≤ 1048576) (ty : TypeId) :
    ∃ g' cap' w', (Builtin.append_ #[27, 3] ty #[(Value.slice (some ⟨g, 0, none⟩) xs.length cap), .int .i64 n]).run Tryz.prog w = .ok (Value.slice (some ⟨g', 0, none⟩) (xs.length + n) cap') w' ∧
      Own w' B g' cap' (xs ++ List.replicate n 0) ∧ w.grownBy w' (some g) := by
  obtain ⟨i0, hi, hz0, hz1, hz2⟩ := info_parts info3
  have hlt := hown.lt
  have hBg := hown.base
  obtain ⟨news, hnews⟩ : ∃ news, news = (List.replicate n (0 : Int)).map (Value.int .i64) := ⟨_, rfl⟩
  have hl : news.length = n := by rw [hnews]; simp
  have h1 : ∀ u ∈ news, u.oneCell' = true := by rw [hnews]; exact ints_oneCell _ _
  have hzc : Builtin.zeroCells #[Value.int .i64 0] n = news.toArray := by rw [hnews]; exact zeroCells_ints n
  have hw : IntKind.i64.wrap (n : Int) = n := by rw [IntKind.wrap_i64]; omega
  have hneg : ¬ ((n : Int) < 0) := by omega
  have h48i : ¬ (281474976710656 < (n : Int) * (i0.bytes : Int)) := by rw [hz2]; omega
  have hns : ¬ (n * i0.size = 0) := by rw [hz1]; omega
  have hn0 : n ≠ 0 := by omega
  rcases hown.2 with ⟨h', _⟩ | ⟨g1, cap1, cur, hv, hb, hh, hn, hm, hs, htk⟩
  · simp at h'
  simp only [Value.slice.injEq, Option.some.injEq, Addr.mk.injEq, and_true, true_and] at hv
  obtain ⟨rfl, rfl⟩ := hv
  have hcs : cur.size = cap := by rw [hs, Nat.mul_one]
  have hxl : (xs.map (Value.int .i64)).length = xs.length := by simp
  have hall : (xs ++ List.replicate n (0 : Int)).map (Value.int .i64) = xs.map (Value.int .i64) ++ news := by rw [List.map_append, hnews]
  by_cases hroom : xs.length + n ≤ cap
  · have hst := run_storeCells_at Tryz.prog g (xs.length * i0.size) 3 news 0 cur w hh (by rw [hz1, hl]; omega) h1
    simp only [Nat.add_zero] at hst
    have hr : (Builtin.append_ #[27, 3] ty #[(Value.slice (some ⟨g, 0, none⟩) xs.length cap), .int .i64 n]).run Tryz.prog w = .ok (Value.slice (some ⟨g, 0, none⟩) (xs.length + n) cap) (w.setRow g (cur.toList.take (xs.length * i0.size) ++ news ++ cur.toList.drop (xs.length * i0.size + news.length)).toArray) := by
      simp [Builtin.append_, run_underlying Tryz.underlying27, run_underlying Tryz.underlying3, sizeOf, typeInfo, zeroValue, hi, hz0, asInt, asIntOf, hw, hneg, h48i, hroom, hns, Addr.add_lit, hst, hzc, Value.cells]
    refine ⟨g, cap, _, hr, ?_, ⟨rfl, rfl, rfl, by simp, fun k _ hk => setRow_other w g k _ (fun e => hk (by rw [e]))⟩⟩
    unfold Own
    rw [hall, List.length_append, List.length_replicate]
    refine ⟨by rw [List.length_append, hxl, hl, Nat.mul_one], .inr ⟨g, cap, _, rfl, hb, setRow_heap w g cur _ _ _ hh, hroom, hm, ?_, ?_⟩⟩
    · simp only [List.size_toArray, List.length_append, List.length_take, List.length_drop, Array.length_toList, hz1, hl]
      omega
    · rw [hz1, Nat.mul_one, Nat.mul_one]
      rw [Nat.mul_one] at htk
      rw [htk]
      show List.take (xs.length + n) ((xs.map (Value.int .i64) ++ news) ++ _) = _
      rw [show xs.length + n = (xs.map (Value.int .i64) ++ news).length by rw [List.length_append, hxl, hl]]
      exact List.take_left
  · have hroom' : ¬ (xs.length + n ≤ cap) := hroom
    have h63' : ¬ (9223372036854775807 < ((xs.length : Int) + (n : Int))) := by omega
    have hfit := growslice_fits (need := xs.length + n) (old := cap) (bytes := i0.bytes) (by omega) (by rw [hz2]; omega)
    have h48' : ¬ (281474976710656 < Builtin.nextslicecap (xs.length + n) cap * i0.bytes) := by omega
    have hfo := run_firstCells_some (P := Tryz.prog) w.drew i0.size xs.length ⟨g, 0, none⟩ xs.length cap (xs.map (Value.int .i64)) (by rw [hz1, hxl, Nat.mul_one]) (by simpa using World.ownsRow.cells hown rfl)
    have hge := grownCap_ge w (xs.length + n) cap 3
    have hcm : grownCap w (xs.length + n) cap 3 ≤ maxLen := grownCap_le_maxLen w (xs.length + n) cap _ (by unfold maxLen; omega)
    have hr : (Builtin.append_ #[27, 3] ty #[(Value.slice (some ⟨g, 0, none⟩) xs.length cap), .int .i64 n]).run Tryz.prog w = .ok (Value.slice (some ⟨w.heap.size, 0, none⟩) (xs.length + n) (grownCap w (xs.length + n) cap 3))
        (w.drew.alloc (.cells ((xs.map (Value.int .i64)).toArray ++ news.toArray ++ Builtin.zeroCells #[Value.int .i64 0] (grownCap w (xs.length + n) cap 3 - (xs.length + n))) 3)) := by
      simp [Builtin.append_, run_underlying Tryz.underlying27, run_underlying Tryz.underlying3, sizeOf, typeInfo, zeroValue, hi, hz0, asInt, asIntOf, hw, hneg, h48i, hroom', h63', h48', hns, Question.forced, hfo, newRow, grownCap, hzc, Value.cells]
      first | done | (congr 2; apply Array.ext'; simp [List.append_assoc])
    refine ⟨w.heap.size, _, _, hr, ?_, ⟨rfl, rfl, rfl, by simp, fun k hk _ => heap_alloc_old w.drew _ hk⟩⟩
    unfold Own
    rw [hall, List.length_append, List.length_replicate]
    refine ⟨by rw [List.length_append, hxl, hl, Nat.mul_one], .inr ⟨w.heap.size, _, _, rfl, by omega, heap_alloc_new w.drew _, hge, hcm, ?_, ?_⟩⟩
    · simp only [Array.size_append, List.size_toArray, size_zeroCells, hxl, hl]
      simp
      omega
    · simp only [Array.toList_append, List.append_assoc]
      rw [← List.append_assoc, Nat.mul_one, show xs.length + n = (xs.map (Value.int .i64) ++ news).length by rw [List.length_append, hxl, hl]]
      exact List.take_left
theorem wpList_append_zeros {w : World} {ops : Array Oper} {rest : List Oper} {o : Oper} {a : Act} {Q : Exit → Act → World → Prop} (hgd : o.guard = none) (s x : Operand)
    (ho : o.op = .call { callee := .builtin .append, args := #[s, x], argTypes := #[27, 3] })
    (B g cap m n : Nat) (xs : List Int) (hm : xs.length = m) (hown : Own w B g cap xs) (h0 : 0 < n) (hlen : m + n ≤ 1048576) (hs : a.eval s = (Value.slice (some ⟨g, 0, none⟩) m cap)) (hx : a.eval x = .int .i64 n)
    (h : ∀ g' cap' w', Own w' B g' cap' (xs ++ List.replicate n 0) → w.grownBy w' (some g) → wpList Tryz.prog ops Q rest (a.put o.dst (Value.slice (some ⟨g', 0, none⟩) (m + n) cap')) w') :
    wpList Tryz.prog ops Q (o :: rest) a w := by
  subst hm
  obtain ⟨g', cap', w', hr, h2, h3⟩ := run_append_zeros hown n h0 hlen o.type
  exact Lib.wpList_append_run w hgd s x _ _ ho _ _ hs hx _ _ hr (h g' cap' w' h2 h3)
end Go.Proofs.YtldcmhgpppeooaaGreatDoor
namespace Go.Proofs.YtldcmhgpppeooaaGreatDoor
set_option maxRecDepth 100000
open Go.RowKit

theorem own_made (w : World) (n : Nat) (hn : n ≤ 1099511627776) : Own (w.alloc (.cells (madeCells #[.int .i64 0] n) 3)) w.heap.size w.heap.size n (List.replicate n 0) := by
  obtain ⟨i0, hi, hz0, hz1, hz2⟩ := info_parts info3
  obtain ⟨w', hrun, r1, r2⟩ := run_make_full (P := Tryz.prog) w w.heap.size 27 3 i0 (.int .i64 0) 1 Tryz.underlying27 hi hz0 hz1 .i64 .i64 n (by rw [hz2]; omega) (by unfold maxLen; omega) (Nat.le_refl _)
  have h2 := run_make_row' (P := Tryz.prog) 27 3 (.int .i64 0) 8 Tryz.underlying27 info3 rfl .i64 .i64 n (by omega) (by omega) w
  rw [h2] at hrun
  obtain rfl : w' = w.alloc (.cells (madeCells #[.int .i64 0] n) 3) := by simp at hrun; exact hrun.symm
  unfold Own
  rw [List.length_replicate, List.map_replicate]
  have e : (madeCells (Value.int IntKind.i64 0).cells (n * 1)).toList = List.replicate n (Value.int .i64 0) := by
    rw [Nat.mul_one]; exact toList_madeCells_one _ _
  rw [← e]; exact r1

theorem joinC_length (a b : List (List Int)) : (joinC a b).length = a.length + b.length := by simp [joinC]
theorem joinC_a {a b : List (List Int)} {i : Nat} (hi : i < a.length) : (joinC a b).take (i + 1) = (joinC a b).take i ++ [a.getD i [] ++ List.replicate b.length 0] := by
  rw [List.take_succ_eq_append_getElem (by rw [joinC_length]; omega)]
  congr 2
  unfold joinC
  rw [List.getElem_append_left (by simpa using hi)]
  simp [List.getD, hi]
theorem joinC_b {a b : List (List Int)} {i : Nat} (hi : i < b.length) : (joinC a b).take (a.length + i + 1) = (joinC a b).take (a.length + i) ++ [List.replicate a.length 0 ++ b.getD i []] := by
  rw [List.take_succ_eq_append_getElem (by rw [joinC_length]; omega)]
  congr 2
  unfold joinC
  rw [List.getElem_append_right (by simp)]
  simp [List.getD, hi]

set_option maxHeartbeats 4000000 in
theorem spec_JoinCartans_ok (ga oa na ca gb ob nb cb : Nat) (a b : List (List Int)) (w : World) (hna : a.length = na) (hnb : b.length = nb) (hA : IsC a) (hB : IsC b) (hs : na + nb ≤ 4)
    (hga : ga < w.heap.size) (hgb : gb < w.heap.size) (hra : Rows2 w ga oa a) (hrb : Rows2 w gb ob b) :
    Calls Tryz.prog 20 #[(Value.slice (some ⟨ga, oa, none⟩) na ca), (Value.slice (some ⟨gb, ob, none⟩) nb cb)] w (GotRowsB w (joinC a b) true) := by
  subst hna; subst hnb
  have ha1 := hA.1
  have hb1 := hB.1
  have hc1 := spec_IsCartan ga oa _ ca a w rfl (by omega) (fun j hj => by have := hA.2.2.1 j hj; omega) hra
  rw [decide_eq_true hA] at hc1
  have hc2 := fun m => spec_IsCartan gb ob _ cb b (w.drewN m) rfl (by omega) (fun j hj => by have := hB.2.2.1 j hj; omega) (hrb.drewN m)
  rw [decide_eq_true hB] at hc2
  have Hc1 := Lib.hid hc1; have Hc2 := Lib.hid hc2
  have HLa := Lib.hid hA.2.2.1; have HLb := Lib.hid hB.2.2.1
  have HJ := Lib.hid (joinC_length a b)
  have HJa := Lib.hid (fun i (hi : i < a.length) => joinC_a (b := b) hi)
  have HJb := Lib.hid (fun i (hi : i < b.length) => joinC_b (a := a) hi)
  have e0 : IntKind.i64.wrap ((a.length : Int) + (b.length : Int)) = (a.length : Int) + (b.length : Int) := IntWalk.i64_in _ (by omega)
  have e1 : ¬ (4 : Int) < (a.length : Int) + (b.length : Int) := by omega
  clear hc1 hc2 hA hB
  generalize joinC a b = J at *
  go_enter Tryz.func20, Tryz.ntmps20
  go_wp2_with fail
  refine Hc1.out.mono ?_
  rintro e w1 ⟨rfl, m1, rfl⟩
  go_wp2_with fail
  refine (Hc2.out m1).mono ?_
  rintro e w2 ⟨rfl, m2, rfl⟩
  have hB2 : Below w.heap.size w ((w.drewN m1).drewN m2) := below_drewN (below_drewN (Below.refl _ _) m1) m2
  generalize (w.drewN m1).drewN m2 = w2 at *
  go_wp2_with fail
  go_loopw [6, 7] (fun ov iv wr => ∃ (i g' c' : Nat) (rs : List RowRef), i ≤ a.length ∧ iv = .int .i64 i ∧ ov = (Value.slice (some ⟨g', 0, none⟩) i c') ∧ Hid (rs.length = i) ∧ Hid (contents rs = J.take i) ∧ OwnRows wr w.heap.size g' c' rs ∧ Below w.heap.size w wr) (fun _ iv _ => a.length - (intOf iv).toNat)
  case atStart => exact ⟨0, w2.heap.size, 0, [], Nat.zero_le _, rfl, rfl, rfl, rfl, (OwnRows.empty (w := w2) (Nat.le_refl _)).mono hB2.size, hB2.alloc hB2.size _⟩
  case round =>
    obtain ⟨i, g', c', rs, hi, rfl, rfl, hrs, hcon, hO, hb⟩ := hrel
    by_cases hlt : i < a.length
    · obtain ⟨gr, or, cr, q1, q2, q3, q4⟩ := (hra.below hb hga) i hlt
      have hrl := HLa.out i hlt
      have hj := HJa.out i hlt
      generalize a.getD i [] = R at *
      rw [hrl] at q1 q2
      have Hrl := Lib.hid hrl; have Hj := Lib.hid hj
      have hE := (Below.refl wr.heap.size wr).alloc (Nat.le_refl _) (.cells #[] 3)
      have q1' := (hE.cell (p := ⟨ga, oa + i, none⟩) (Nat.lt_of_lt_of_le hga hb.size)).trans q1
      clear hrl hj hE
      go_wp2_with (at_builtin; refine wpList_clone rfl _ _ rfl gr or a.length cr R Hrl.out q3 q4 rfl rfl (by rw [Hrl.out]; omega) ?_)
      intro g3 c3 w3 ho3 hb3
      have hO3 := hO.below hb3
      have hB3 := hb.trans (hb3.mono hb.size)
      have hne3 := fun s (hs : s ∈ rs) => (hO.2.1 s hs).lt
      have hbase := ho3.base
      have hgt := hO.lt
      clear hO q1 q1' q3 q4 hb3
      go_wp2_with (at_builtin; refine wpList_append_zeros rfl _ _ rfl wr.heap.size g3 c3 a.length b.length R Hrl.out ho3 (by omega) (by omega) rfl rfl ?_)
      intro g5 c5 w5 ho5 hg5
      have hgl := hO3.base
      have hO5 : OwnRows w5 w.heap.size g' c' rs := hO3.grownK2 hg5 (fun e => by omega) (fun r hr e => by have := hne3 r hr; omega)
      have hB5 : Below w.heap.size w w5 := hB3.grown hg5 hB3.size (by intro j hj; cases hj; have := hb.size; omega)
      have hne : ∀ s ∈ rs, s.1 ≠ g5 := fun s hs e => by have h1 := hne3 s hs; have h2 := ho5.base; omega
      have hl5 : (R ++ List.replicate b.length (0 : Int)).length = a.length + b.length := by rw [List.length_append, Hrl.out, List.length_replicate]
      have ho5' := ho5.mono hb.size
      generalize R ++ List.replicate b.length (0 : Int) = R2 at *
      have Hl5 := Lib.hid hl5; have Hne := Lib.hid hne
      clear hl5 hne hO3 hB3 hg5 ho3 ho5
      go_wp2_with (at_builtin; refine wpList_append_row (w := w5) rfl _ _ rfl w.heap.size g' c' i w5.heap.size rs (g5, c5, R2) _ hrs.out (by unfold rowVal; rw [Hl5.out]) rfl hO5 ho5' Hne.out rfl rfl (by omega) ?_)
      intro g6 c6 w6 hO6 hg6 hor6
      have hB6 : Below w.heap.size w w6 := hB5.grown hg6 hB5.size (by intro t ht; cases ht; exact hgl)
      have hl6 : Hid ((rs ++ [(g5, c5, R2)]).length = i + 1) := Lib.hid (by rw [List.length_append, hrs.out]; rfl)
      have hc6 : Hid (contents (rs ++ [(g5, c5, R2)]) = J.take (i + 1)) := Lib.hid (by rw [Hj.out, ← hcon.out]; simp [contents])
      clear hO5 hB5 hg6 hor6 hb
      go_wp2_with fail
      go_roundw
      case rel => exact ⟨i + 1, g6, c6, _, by omega, by go_num, rfl, hl6.out, hc6.out, hO6, hB6⟩
      case measure => simp [intOf]; omega
    · obtain rfl : i = a.length := by omega
      go_wp2_with fail
      go_loopw [6, 8] (fun ov iv wr => ∃ (i g' c' : Nat) (rs : List RowRef), i ≤ b.length ∧ iv = .int .i64 i ∧ ov = (Value.slice (some ⟨g', 0, none⟩) (a.length + i) c') ∧ Hid (rs.length = a.length + i) ∧ Hid (contents rs = J.take (a.length + i)) ∧ OwnRows wr w.heap.size g' c' rs ∧ Below w.heap.size w wr) (fun _ iv _ => b.length - (intOf iv).toNat)
      case atStart => exact ⟨0, g', c', rs, Nat.zero_le _, rfl, rfl, hrs, hcon, hO, hb⟩
      case round =>
        clear hrs hcon hO hb hi hlt
        obtain ⟨i, g', c', rs, hi, rfl, rfl, hrs, hcon, hO, hb⟩ := hrel
        by_cases hlt : i < b.length
        · obtain ⟨gr, or, cr, q1, q2, q3, q4⟩ := (hrb.below hb hgb) i hlt
          have hrl := HLb.out i hlt
          have hj := HJb.out i hlt
          generalize b.getD i [] = R at *
          rw [hrl] at q1 q2
          have Hrl := Lib.hid hrl; have Hj := Lib.hid hj
          have hgb' := Nat.lt_of_lt_of_le hgb hb.size
          have hne3 := fun s (hs : s ∈ rs) => (hO.2.1 s hs).lt
          have hgl := hO.base
          have hgt := hO.lt
          clear hrl hj
          have hmk : ∀ W : World, (Instr.makeSlice 27 (.int .i64 (a.length : Int)) (.int .i64 (a.length : Int))).run Tryz.prog W = .ok (Value.slice (some ⟨W.heap.size, 0, none⟩) a.length a.length) (W.alloc (.cells (madeCells #[.int .i64 0] a.length) 3)) := fun W => run_make_row' (P := Tryz.prog) 27 3 (.int .i64 0) 8 Tryz.underlying27 info3 rfl .i64 .i64 a.length (by omega) (by omega) W
          have B1 : Below wr.heap.size wr (wr.drew.alloc (.cells (madeCells #[.int .i64 0] a.length) 3)) := (Below.drew (Below.refl _ _)).alloc (Nat.le_refl _) _
          have ho1 : Own (wr.drew.alloc (.cells (madeCells #[.int .i64 0] a.length) 3)) wr.heap.size wr.heap.size a.length (List.replicate a.length 0) := own_made wr.drew a.length (by omega)
          generalize hcs : madeCells #[Value.int .i64 0] a.length = zs at *
          have F2 : ∀ (w1 w2 : World) (g1 : Nat), Below wr.heap.size wr w1 → wr.heap.size ≤ g1 → w1.grownBy w2 (some g1) → Below wr.heap.size wr w2 := fun w1 w2 g1 h hg h2 => h.grown h2 h.size (by intro j hj; cases hj; exact hg)
          have K : ∀ W, Below wr.heap.size wr W → W.cell? ⟨gb, ob + i, none⟩ = some (Value.slice (some ⟨gr, or, none⟩) b.length cr) := fun W hW => (hW.cell (p := ⟨gb, ob + i, none⟩) hgb').trans q1
          have l3 : (List.replicate a.length (0 : Int) ++ R).length = a.length + b.length := by rw [List.length_append, Hrl.out, List.length_replicate]
          have hrv : ∀ g2 c2 : Nat, rowVal (g2, c2, List.replicate a.length (0 : Int) ++ R) = (Value.slice (some ⟨g2, 0, none⟩) (a.length + b.length) c2) := fun g2 c2 => by unfold rowVal; rw [l3]
          have Hrv := Lib.hid hrv; have L3 := Lib.hid l3; clear hrv l3
          have FR : Hid (∀ (w2 : World) (g2 c2 : Nat), Below wr.heap.size wr w2 → Own w2 wr.heap.size g2 c2 (List.replicate a.length (0 : Int) ++ R) → OwnRows w2 w.heap.size g' c' rs ∧ Own w2 w.heap.size g2 c2 (List.replicate a.length (0 : Int) ++ R) ∧ ∀ s ∈ rs, s.1 ≠ g2) := fun w2 g2 c2 hB hO2 =>
            ⟨hO.below hB, hO2.mono hb.size, fun s hs => by have h1 := hne3 s hs; have h2 := hO2.base; omega⟩
          have neb : some gb ≠ some g' := by intro e; have := Option.some.inj e; omega
          have k0 := K wr.drew (Below.drew (Below.refl _ _))
          have ea : IntKind.i64.wrap (a.length : Int) = (a.length : Int) := IntWalk.i64_in _ (by omega)
          go_wp2_with fail
          go_region_held3 (fun W => W.cell? ⟨gb, ob + i, none⟩ = some (Value.slice (some ⟨gr, or, none⟩) b.length cr))
            (first | exact k0 | exact K _ B1 | exact K _ (F2 _ _ _ B1 ho1.base hg2) | exact K _ ((F2 _ _ _ B1 ho1.base hg2).alloc (F2 _ _ _ B1 ho1.base hg2).size _) | exact (hg3.cell (a := ⟨gb, ob + i, none⟩) (K _ (F2 _ _ _ B1 ho1.base hg2)) neb))
            (first
              | (refine step_append_ints (by rfl) _ _ (by rfl) wr.heap.size wr.heap.size a.length a.length gr or b.length cr (List.replicate a.length 0) R (by simp) Hrl.out (by exact ho1) (by exact q4.below B1 q3) (by rfl) (by rfl) (by omega) ?_; intro g2 c2 w2 ho2 hg2 hor2)
              | (refine step_append_row (w := w2) (by rfl) _ _ (by rfl) w.heap.size g' c' (a.length + i) w2.heap.size rs (g2, c2, List.replicate a.length 0 ++ R) _ hrs.out (by rw [Hrv.out]) (by rfl) (by exact (FR.out w2 g2 c2 (F2 _ _ _ B1 ho1.base hg2) ho2).1) (by exact (FR.out w2 g2 c2 (F2 _ _ _ B1 ho1.base hg2) ho2).2.1) (by exact (FR.out w2 g2 c2 (F2 _ _ _ B1 ho1.base hg2) ho2).2.2) (by rfl) (by rfl) (by omega) ?_; intro g3 c3 w3 ho3 hg3 hor3))
          have hB2 := F2 _ _ _ B1 ho1.base hg2
          have hB3 : Below w.heap.size w w3 := (hb.trans (hB2.mono hb.size)).grown hg3 (hb.trans (hB2.mono hb.size)).size (by intro j hj; cases hj; exact hgl)
          have hl6 : Hid ((rs ++ [(g2, c2, List.replicate a.length 0 ++ R)]).length = a.length + (i + 1)) := Lib.hid (by rw [List.length_append, hrs.out]; rfl)
          have hc6 : Hid (contents (rs ++ [(g2, c2, List.replicate a.length 0 ++ R)]) = J.take (a.length + (i + 1))) := Lib.hid (by rw [show a.length + (i + 1) = a.length + i + 1 by omega, Hj.out, ← hcon.out]; simp [contents])
          clear F2 K FR ho1 B1 hmk hcs ho2 hg2 hor2 hg3 hor3 hB2 k0 hO hb
          go_wp2_with fail
          go_roundw
          case rel => exact ⟨i + 1, g3, c3, _, by omega, by go_num, by rw [Nat.add_assoc], hl6.out, hc6.out, ho3, hB3⟩
          case measure => simp [intOf]; omega
        · obtain rfl : i = b.length := by omega
          have hcc := hcon.out
          rw [List.take_of_length_le (by rw [HJ.out]; exact Nat.le_refl _)] at hcc
          have Hcc := Lib.hid hcc
          clear hcc
          go_wp2_with fail
          go_ret2
          exact ⟨g', c', rs, by rw [HJ.out]; rfl, Hcc.out, hO, hb⟩
end Go.Proofs.YtldcmhgpppeooaaGreatDoor
