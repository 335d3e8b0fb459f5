/- JoinD AppZ JoinC -/
import Derived.Test.YtkjglfafphffiaaGreatDoorC06
import Derived.Test.YtkjglfafphffiaaGreatDoorC00
import Derived.Lib.AppendZeros
import Derived.Test.YtkjglfafphffiaaGreatDoorC01
import Derived.Test.YtkjglfafphffiaaGreatDoorC03
import Derived.Test.YtkjglfafphffiaaGreatDoorC07
import Derived.Deep.RegionHeld3
import Derived.Deep.OwnRows
namespace Go.Proofs.YtkjglfafphffiaaGreatDoor
set_option maxRecDepth 100000
open Go.RowKit
def joinC (a b : List (List Int)) : List (List Int) := (a.map fun r => r ++ List.replicate b.length 0) ++ b.map fun r => List.replicate a.length 0 ++ r
end Go.Proofs.YtkjglfafphffiaaGreatDoor
namespace Go.Proofs.YtkjglfafphffiaaGreatDoor
set_option maxRecDepth 100000
open Go.RowKit
theorem zeroCells_ints (n : Nat) : Builtin.zeroCells #[Value.int .i64 0] n = ((List.replicate n (0 : Int)).map (Value.int .i64)).toArray := by
  unfold Builtin.zeroCells
  apply Array.ext
  · simp
  · intro i h1 h2
    have : i % 1 = 0 := Nat.mod_one i
    simp [this]
theorem run_append_zeros {w : World} {B g cap : Nat} {xs : List Int} (hown : Own w B g cap xs) (n : Nat) (h0 : 0 < n) (hlen : xs.length + n ≤ 1048576) (ty : TypeId) :
    ∃ g' cap' w', (Builtin.append_ #[25, 3] ty #[(Value.slice (some ⟨g, 0, none⟩) xs.length cap), .int .i64 n]).run Tryz.prog w = .ok (Value.slice (some ⟨g', 0, none⟩) (xs.length + n) cap') w' ∧
      Own w' B g' cap' (xs ++ List.replicate n 0) ∧ w.grownBy w' (some g) := by
  obtain ⟨i0, hi, hz0, hz1, hz2⟩ := info_parts info3
  have hlt := hown.lt
  have hBg := hown.base
  obtain ⟨news, hnews⟩ : ∃ news, news = (List.replicate n (0 : Int)).map (Value.int .i64) := ⟨_, rfl⟩
  have hl : news.length = n := by rw [hnews]; simp
  have h1 : ∀ u ∈ news, u.oneCell' = true := by rw [hnews]; exact ints_oneCell _ _
  have hzc : Builtin.zeroCells #[Value.int .i64 0] n = news.toArray := by rw [hnews]; exact zeroCells_ints n
  have hw : IntKind.i64.wrap (n : Int) = n := by rw [IntKind.wrap_i64]; omega
  have hneg : ¬ ((n : Int) < 0) := by omega
  have h48i : ¬ (281474976710656 < (n : Int) * (i0.bytes : Int)) := by rw [hz2]; omega
  have hns : ¬ (n * i0.size = 0) := by rw [hz1]; omega
  have hn0 : n ≠ 0 := by omega
  rcases hown.2 with ⟨h', _⟩ | ⟨g1, cap1, cur, hv, hb, hh, hn, hm, hs, htk⟩
  · simp at h'
  simp only [Value.slice.injEq, Option.some.injEq, Addr.mk.injEq, and_true, true_and] at hv
  obtain ⟨rfl, rfl⟩ := hv
  have hcs : cur.size = cap := by rw [hs, Nat.mul_one]
  have hxl : (xs.map (Value.int .i64)).length = xs.length := by simp
  have hall : (xs ++ List.replicate n (0 : Int)).map (Value.int .i64) = xs.map (Value.int .i64) ++ news := by rw [List.map_append, hnews]
  by_cases hroom : xs.length + n ≤ cap
  · have hst := run_storeCells_at Tryz.prog g (xs.length * i0.size) 3 news 0 cur w hh (by rw [hz1, hl]; omega) h1
    simp only [Nat.add_zero] at hst
    have hr : (Builtin.append_ #[25, 3] ty #[(Value.slice (some ⟨g, 0, none⟩) xs.length cap), .int .i64 n]).run Tryz.prog w = .ok (Value.slice (some ⟨g, 0, none⟩) (xs.length + n) cap) (w.setRow g (cur.toList.take (xs.length * i0.size) ++ news ++ cur.toList.drop (xs.length * i0.size + news.length)).toArray) := by
      simp [Builtin.append_, run_underlying Tryz.underlying25, run_underlying Tryz.underlying3, sizeOf, typeInfo, zeroValue, hi, hz0, asInt, asIntOf, hw, hneg, h48i, hroom, hns, Addr.add_lit, hst, hzc, Value.cells]
    refine ⟨g, cap, _, hr, ?_, ⟨rfl, rfl, rfl, by simp, fun k _ hk => setRow_other w g k _ (fun e => hk (by rw [e]))⟩⟩
    unfold Own
    rw [hall, List.length_append, List.length_replicate]
    refine ⟨by rw [List.length_append, hxl, hl, Nat.mul_one], .inr ⟨g, cap, _, rfl, hb, setRow_heap w g cur _ _ _ hh, hroom, hm, ?_, ?_⟩⟩
    · simp only [List.size_toArray, List.length_append, List.length_take, List.length_drop, Array.length_toList, hz1, hl]
      omega
    · rw [hz1, Nat.mul_one, Nat.mul_one]
      rw [Nat.mul_one] at htk
      rw [htk]
      show List.take (xs.length + n) ((xs.map (Value.int .i64) ++ news) ++ _) = _
      rw [show xs.length + n = (xs.map (Value.int .i64) ++ news).length by rw [List.length_append, hxl, hl]]
      exact List.take_left
  · have hroom' : ¬ (xs.length + n ≤ cap) := hroom
    have h63' : ¬ (9223372036854775807 < ((xs.length : Int) + (n : Int))) := by omega
    have hfit := growslice_fits (need := xs.length + n) (old := cap) (bytes := i0.bytes) (by omega) (by rw [hz2]; omega)
    have h48' : ¬ (281474976710656 < Builtin.nextslicecap (xs.length + n) cap * i0.bytes) := by omega
    have hfo := run_firstCells_some (P := Tryz.prog) w.drew i0.size xs.length ⟨g, 0, none⟩ xs.length cap (xs.map (Value.int .i64)) (by rw [hz1, hxl, Nat.mul_one]) (by simpa using World.ownsRow.cells hown rfl)
    have hge := grownCap_ge w (xs.length + n) cap 3
    have hcm : grownCap w (xs.length + n) cap 3 ≤ maxLen := grownCap_le_maxLen w (xs.length + n) cap _ (by unfold maxLen; omega)
    have hr : (Builtin.append_ #[25, 3] ty #[(Value.slice (some ⟨g, 0, none⟩) xs.length cap), .int .i64 n]).run Tryz.prog w = .ok (Value.slice (some ⟨w.heap.size, 0, none⟩) (xs.length + n) (grownCap w (xs.length + n) cap 3))
        (w.drew.alloc (.cells ((xs.map (Value.int .i64)).toArray ++ news.toArray ++ Builtin.zeroCells #[Value.int .i64 0] (grownCap w (xs.length + n) cap 3 - (xs.length + n))) 3)) := by
      simp [Builtin.append_, run_underlying Tryz.underlying25, run_underlying Tryz.underlying3, sizeOf, typeInfo, zeroValue, hi, hz0, asInt, asIntOf, hw, hneg, h48i, hroom', h63', h48', hns, Question.forced, hfo, newRow, grownCap, hzc, Value.cells]
      first | done | (congr 2; apply Array.ext'; simp [List.append_assoc])
    refine ⟨w.heap.size, _, _, hr, ?_, ⟨rfl, rfl, rfl, by simp, fun k hk _ => heap_alloc_old w.drew _ hk⟩⟩
    unfold Own
    rw [hall, List.length_append, List.length_replicate]
    refine ⟨by rw [List.length_append, hxl, hl, Nat.mul_one], .inr ⟨w.heap.size, _, _, rfl, by omega, heap_alloc_new w.drew _, hge, hcm, ?_, ?_⟩⟩
    · simp only [Array.size_append, List.size_toArray, size_zeroCells, hxl, hl]
      simp
      omega
    · simp only [Array.toList_append, List.append_assoc]
      rw [← List.append_assoc, Nat.mul_one, show xs.length + n = (xs.map (Value.int .i64) ++ news).length by rw [List.length_append, hxl, hl]]
      exact List.take_left
theorem wpList_append_zeros {w : World} {ops : Array Oper} {rest : List Oper} {o : Oper} {a : Act} {Q : Exit → Act → World → Prop} (hgd : o.guard = none) (s x : Operand)
    (ho : o.op = .call { callee := .builtin .append, args := #[s, x], argTypes := #[25, 3] })
    (B g cap m n : Nat) (xs : List Int) (hm : xs.length = m) (hown : Own w B g cap xs) (h0 : 0 < n) (hlen : m + n ≤ 1048576) (hs : a.eval s = (Value.slice (some ⟨g, 0, none⟩) m cap)) (hx : a.eval x = .int .i64 n)
    (h : ∀ g' cap' w', Own w' B g' cap' (xs ++ List.replicate n 0) → w.grownBy w' (some g) → wpList Tryz.prog ops Q rest (a.put o.dst (Value.slice (some ⟨g', 0, none⟩) (m + n) cap')) w') :
    wpList Tryz.prog ops Q (o :: rest) a w := by
  subst hm
  obtain ⟨g', cap', w', hr, h2, h3⟩ := run_append_zeros hown n h0 hlen o.type
  exact Lib.wpList_append_run w hgd s x _ _ ho _ _ hs hx _ _ hr (h g' cap' w' h2 h3)
end Go.Proofs.YtkjglfafphffiaaGreatDoor
namespace Go.Proofs.YtkjglfafphffiaaGreatDoor
set_option maxRecDepth 100000
open Go.RowKit
theorem own_made (w : World) (n : Nat) (hn : n ≤ 1099511627776) : Own (w.alloc (.cells (madeCells #[.int .i64 0] n) 3)) w.heap.size w.heap.size n (List.replicate n 0) := by
  obtain ⟨i0, hi, hz0, hz1, hz2⟩ := info_parts info3
  obtain ⟨w', hrun, r1, r2⟩ := run_make_full (P := Tryz.prog) w w.heap.size 25 3 i0 (.int .i64 0) 1 Tryz.underlying25 hi hz0 hz1 .i64 .i64 n (by rw [hz2]; omega) (by unfold maxLen; omega) (Nat.le_refl _)
  have h2 := run_make_row' (P := Tryz.prog) 25 3 (.int .i64 0) 8 Tryz.underlying25 info3 rfl .i64 .i64 n (by omega) (by omega) w
  rw [h2] at hrun
  obtain rfl : w' = w.alloc (.cells (madeCells #[.int .i64 0] n) 3) := by simp at hrun; exact hrun.symm
  unfold Own
  rw [List.length_replicate, List.map_replicate]
  have e : (madeCells (Value.int IntKind.i64 0).cells (n * 1)).toList = List.replicate n (Value.int .i64 0) := by
    rw [Nat.mul_one]; exact toList_madeCells_one _ _
  rw [← e]; exact r1
theorem joinC_length (a b : List (List Int)) : (joinC a b).length = a.length + b.length := by simp [joinC]
theorem joinC_a {a b : List (List Int)} {i : Nat} (hi : i < a.length) : (joinC a b).take (i + 1) = (joinC a b).take i ++ [a.getD i [] ++ List.replicate b.length 0] := by
  rw [List.take_succ_eq_append_getElem (by rw [joinC_length]; omega)]
  congr 2
  unfold joinC
  rw [List.getElem_append_left (by simpa using hi)]
  simp [List.getD, hi]
theorem joinC_b {a b : List (List Int)} {i : Nat} (hi : i < b.length) : (joinC a b).take (a.length + i + 1) = (joinC a b).take (a.length + i) ++ [List.replicate a.length 0 ++ b.getD i []] := by
  rw [List.take_succ_eq_append_getElem (by rw [joinC_length]; omega)]
  congr 2
  unfold joinC
  rw [List.getElem_append_right (by simp)]
  simp [List.getD, hi]
set_option maxHeartbeats 4000000 in
theorem spec_JoinCartans_ok (ga oa na ca gb ob nb cb : Nat) (a b : List (List Int)) (w : World) (hna : a.length = na) (hnb : b.length = nb) (hA : IsC a) (hB : IsC b) (hs : na + nb ≤ 4)
    (hga : ga < w.heap.size) (hgb : gb < w.heap.size) (hra : Rows2 w ga oa a) (hrb : Rows2 w gb ob b) :
    Calls Tryz.prog 172 #[(Value.slice (some ⟨ga, oa, none⟩) na ca), (Value.slice (some ⟨gb, ob, none⟩) nb cb)] w (GotRowsB w (joinC a b) true) := by
  subst hna; subst hnb
  have ha1 := hA.1
  have hb1 := hB.1
  have hc1 := spec_IsCartan ga oa _ ca a w rfl (by omega) (fun j hj => by have := hA.2.2.1 j hj; omega) hra
  rw [decide_eq_true hA] at hc1
  have hc2 := fun m => spec_IsCartan gb ob _ cb b (w.drewN m) rfl (by omega) (fun j hj => by have := hB.2.2.1 j hj; omega) (hrb.drewN m)
  rw [decide_eq_true hB] at hc2
  have Hc1 := Lib.hid hc1; have Hc2 := Lib.hid hc2
  have HLa := Lib.hid hA.2.2.1; have HLb := Lib.hid hB.2.2.1
  have HJ := Lib.hid (joinC_length a b)
  have HJa := Lib.hid (fun i (hi : i < a.length) => joinC_a (b := b) hi)
  have HJb := Lib.hid (fun i (hi : i < b.length) => joinC_b (a := a) hi)
  have e0 : IntKind.i64.wrap ((a.length : Int) + (b.length : Int)) = (a.length : Int) + (b.length : Int) := IntWalk.i64_in _ (by omega)
  have e1 : ¬ (4 : Int) < (a.length : Int) + (b.length : Int) := by omega
  clear hc1 hc2 hA hB
  generalize joinC a b = J at *
  go_enter Tryz.func172, Tryz.ntmps172
  go_wp2_with fail
  refine Hc1.out.mono ?_
  rintro e w1 ⟨rfl, m1, rfl⟩
  go_wp2_with fail
  refine (Hc2.out m1).mono ?_
  rintro e w2 ⟨rfl, m2, rfl⟩
  have hB2 : Below w.heap.size w ((w.drewN m1).drewN m2) := below_drewN (below_drewN (Below.refl _ _) m1) m2
  generalize (w.drewN m1).drewN m2 = w2 at *
  go_wp2_with fail
  go_loopw [6, 7] (fun ov iv wr => ∃ (i g' c' : Nat) (rs : List RowRef), i ≤ a.length ∧ iv = .int .i64 i ∧ ov = (Value.slice (some ⟨g', 0, none⟩) i c') ∧ Hid (rs.length = i) ∧ Hid (contents rs = J.take i) ∧ OwnRows wr w.heap.size g' c' rs ∧ Below w.heap.size w wr) (fun _ iv _ => a.length - (intOf iv).toNat)
  case atStart => exact ⟨0, w2.heap.size, 0, [], Nat.zero_le _, rfl, rfl, rfl, rfl, (OwnRows.empty (w := w2) (Nat.le_refl _)).mono hB2.size, hB2.alloc hB2.size _⟩
  case round =>
    obtain ⟨i, g', c', rs, hi, rfl, rfl, hrs, hcon, hO, hb⟩ := hrel
    by_cases hlt : i < a.length
    · obtain ⟨gr, or, cr, q1, q2, q3, q4⟩ := (hra.below hb hga) i hlt
      have hrl := HLa.out i hlt
      have hj := HJa.out i hlt
      generalize a.getD i [] = R at *
      rw [hrl] at q1 q2
      have Hrl := Lib.hid hrl; have Hj := Lib.hid hj
      have hE := (Below.refl wr.heap.size wr).alloc (Nat.le_refl _) (.cells #[] 3)
      have q1' := (hE.cell (p := ⟨ga, oa + i, none⟩) (Nat.lt_of_lt_of_le hga hb.size)).trans q1
      clear hrl hj hE
      go_wp2_with (at_builtin; refine wpList_clone rfl _ _ rfl gr or a.length cr R Hrl.out q3 q4 rfl rfl (by rw [Hrl.out]; omega) ?_)
      intro g3 c3 w3 ho3 hb3
      have hO3 := hO.below hb3
      have hB3 := hb.trans (hb3.mono hb.size)
      have hne3 := fun s (hs : s ∈ rs) => (hO.2.1 s hs).lt
      have hbase := ho3.base
      have hgt := hO.lt
      clear hO q1 q1' q3 q4 hb3
      go_wp2_with (at_builtin; refine wpList_append_zeros rfl _ _ rfl wr.heap.size g3 c3 a.length b.length R Hrl.out ho3 (by omega) (by omega) rfl rfl ?_)
      intro g5 c5 w5 ho5 hg5
      have hgl := hO3.base
      have hO5 : OwnRows w5 w.heap.size g' c' rs := hO3.grownK2 hg5 (fun e => by omega) (fun r hr e => by have := hne3 r hr; omega)
      have hB5 : Below w.heap.size w w5 := hB3.grown hg5 hB3.size (by intro j hj; cases hj; have := hb.size; omega)
      have hne : ∀ s ∈ rs, s.1 ≠ g5 := fun s hs e => by have h1 := hne3 s hs; have h2 := ho5.base; omega
      have hl5 : (R ++ List.replicate b.length (0 : Int)).length = a.length + b.length := by rw [List.length_append, Hrl.out, List.length_replicate]
      have ho5' := ho5.mono hb.size
      generalize R ++ List.replicate b.length (0 : Int) = R2 at *
      have Hl5 := Lib.hid hl5; have Hne := Lib.hid hne
      clear hl5 hne hO3 hB3 hg5 ho3 ho5
      go_wp2_with (at_builtin; refine wpList_append_row (w := w5) rfl _ _ rfl w.heap.size g' c' i w5.heap.size rs (g5, c5, R2) _ hrs.out (by unfold rowVal; rw [Hl5.out]) rfl hO5 ho5' Hne.out rfl rfl (by omega) ?_)
      intro g6 c6 w6 hO6 hg6 hor6
      have hB6 : Below w.heap.size w w6 := hB5.grown hg6 hB5.size (by intro t ht; cases ht; exact hgl)
      have hl6 : Hid ((rs ++ [(g5, c5, R2)]).length = i + 1) := Lib.hid (by rw [List.length_append, hrs.out]; rfl)
      have hc6 : Hid (contents (rs ++ [(g5, c5, R2)]) = J.take (i + 1)) := Lib.hid (by rw [Hj.out, ← hcon.out]; simp [contents])
      clear hO5 hB5 hg6 hor6 hb
      go_wp2_with fail
      go_roundw
      case rel => exact ⟨i + 1, g6, c6, _, by omega, by go_num, rfl, hl6.out, hc6.out, hO6, hB6⟩
      case measure => simp [intOf]; omega
    · obtain rfl : i = a.length := by omega
      go_wp2_with fail
      go_loopw [6, 8] (fun ov iv wr => ∃ (i g' c' : Nat) (rs : List RowRef), i ≤ b.length ∧ iv = .int .i64 i ∧ ov = (Value.slice (some ⟨g', 0, none⟩) (a.length + i) c') ∧ Hid (rs.length = a.length + i) ∧ Hid (contents rs = J.take (a.length + i)) ∧ OwnRows wr w.heap.size g' c' rs ∧ Below w.heap.size w wr) (fun _ iv _ => b.length - (intOf iv).toNat)
      case atStart => exact ⟨0, g', c', rs, Nat.zero_le _, rfl, rfl, hrs, hcon, hO, hb⟩
      case round =>
        clear hrs hcon hO hb hi hlt
        obtain ⟨i, g', c', rs, hi, rfl, rfl, hrs, hcon, hO, hb⟩ := hrel
        by_cases hlt : i < b.length
        · obtain ⟨gr, or, cr, q1, q2, q3, q4⟩ := (hrb.below hb hgb) i hlt
          have hrl := HLb.out i hlt
          have hj := HJb.out i hlt
          generalize b.getD i [] = R at *
          rw [hrl] at q1 q2
          have Hrl := Lib.hid hrl; have Hj := Lib.hid hj
          have hgb' := Nat.lt_of_lt_of_le hgb hb.size
          have hne3 := fun s (hs : s ∈ rs) => (hO.2.1 s hs).lt
          have hgl := hO.base
          have hgt := hO.lt
          clear hrl hj
          have hmk : ∀ W : World, (Instr.makeSlice 25 (.int .i64 (a.length : Int)) (.int .i64 (a.length : Int))).run Tryz.prog W = .ok (Value.slice (some ⟨W.heap.size, 0, none⟩) a.length a.length) (W.alloc (.cells (madeCells #[.int .i64 0] a.length) 3)) := fun W => run_make_row' (P := Tryz.prog) 25 3 (.int .i64 0) 8 Tryz.underlying25 info3 rfl .i64 .i64 a.length (by omega) (by omega) W
          have B1 : Below wr.heap.size wr (wr.drew.alloc (.cells (madeCells #[.int .i64 0] a.length) 3)) := (Below.drew (Below.refl _ _)).alloc (Nat.le_refl _) _
          have ho1 : Own (wr.drew.alloc (.cells (madeCells #[.int .i64 0] a.length) 3)) wr.heap.size wr.heap.size a.length (List.replicate a.length 0) := own_made wr.drew a.length (by omega)
          generalize hcs : madeCells #[Value.int .i64 0] a.length = zs at *
          have F2 : ∀ (w1 w2 : World) (g1 : Nat), Below wr.heap.size wr w1 → wr.heap.size ≤ g1 → w1.grownBy w2 (some g1) → Below wr.heap.size wr w2 := fun w1 w2 g1 h hg h2 => h.grown h2 h.size (by intro j hj; cases hj; exact hg)
          have K : ∀ W, Below wr.heap.size wr W → W.cell? ⟨gb, ob + i, none⟩ = some (Value.slice (some ⟨gr, or, none⟩) b.length cr) := fun W hW => (hW.cell (p := ⟨gb, ob + i, none⟩) hgb').trans q1
          have l3 : (List.replicate a.length (0 : Int) ++ R).length = a.length + b.length := by rw [List.length_append, Hrl.out, List.length_replicate]
          have hrv : ∀ g2 c2 : Nat, rowVal (g2, c2, List.replicate a.length (0 : Int) ++ R) = (Value.slice (some ⟨g2, 0, none⟩) (a.length + b.length) c2) := fun g2 c2 => by unfold rowVal; rw [l3]
          have Hrv := Lib.hid hrv; have L3 := Lib.hid l3; clear hrv l3
          have FR : Hid (∀ (w2 : World) (g2 c2 : Nat), Below wr.heap.size wr w2 → Own w2 wr.heap.size g2 c2 (List.replicate a.length (0 : Int) ++ R) → OwnRows w2 w.heap.size g' c' rs ∧ Own w2 w.heap.size g2 c2 (List.replicate a.length (0 : Int) ++ R) ∧ ∀ s ∈ rs, s.1 ≠ g2) := fun w2 g2 c2 hB hO2 =>
            ⟨hO.below hB, hO2.mono hb.size, fun s hs => by have h1 := hne3 s hs; have h2 := hO2.base; omega⟩
          have neb : some gb ≠ some g' := by intro e; have := Option.some.inj e; omega
          have k0 := K wr.drew (Below.drew (Below.refl _ _))
          have ea : IntKind.i64.wrap (a.length : Int) = (a.length : Int) := IntWalk.i64_in _ (by omega)
          go_wp2_with fail
          go_region_held3 (fun W => W.cell? ⟨gb, ob + i, none⟩ = some (Value.slice (some ⟨gr, or, none⟩) b.length cr))
            (first | exact k0 | exact K _ B1 | exact K _ (F2 _ _ _ B1 ho1.base hg2) | exact K _ ((F2 _ _ _ B1 ho1.base hg2).alloc (F2 _ _ _ B1 ho1.base hg2).size _) | exact (hg3.cell (a := ⟨gb, ob + i, none⟩) (K _ (F2 _ _ _ B1 ho1.base hg2)) neb))
            (first
              | (refine step_append_ints (by rfl) _ _ (by rfl) wr.heap.size wr.heap.size a.length a.length gr or b.length cr (List.replicate a.length 0) R (by simp) Hrl.out (by exact ho1) (by exact q4.below B1 q3) (by rfl) (by rfl) (by omega) ?_; intro g2 c2 w2 ho2 hg2 hor2)
              | (refine step_append_row (w := w2) (by rfl) _ _ (by rfl) w.heap.size g' c' (a.length + i) w2.heap.size rs (g2, c2, List.replicate a.length 0 ++ R) _ hrs.out (by rw [Hrv.out]) (by rfl) (by exact (FR.out w2 g2 c2 (F2 _ _ _ B1 ho1.base hg2) ho2).1) (by exact (FR.out w2 g2 c2 (F2 _ _ _ B1 ho1.base hg2) ho2).2.1) (by exact (FR.out w2 g2 c2 (F2 _ _ _ B1 ho1.base hg2) ho2).2.2) (by rfl) (by rfl) (by omega) ?_; intro g3 c3 w3 ho3 hg3 hor3))
          have hB2 := F2 _ _ _ B1 ho1.base hg2
          have hB3 : Below w.heap.size w w3 := (hb.trans (hB2.mono hb.size)).grown hg3 (hb.trans (hB2.mono hb.size)).size (by intro j hj; cases hj; exact hgl)
          have hl6 : Hid ((rs ++ [(g2, c2, List.replicate a.length 0 ++ R)]).length = a.length + (i + 1)) := Lib.hid (by rw [List.length_append, hrs.out]; rfl)
          have hc6 : Hid (contents (rs ++ [(g2, c2, List.replicate a.length 0 ++ R)]) = J.take (a.length + (i + 1))) := Lib.hid (by rw [show a.length + (i + 1) = a.length + i + 1 by omega, Hj.out, ← hcon.out]; simp [contents])
          clear F2 K FR ho1 B1 hmk hcs ho2 hg2 hor2 hg3 hor3 hB2 k0 hO hb
          go_wp2_with fail
          go_roundw
          case rel => exact ⟨i + 1, g3, c3, _, by omega, by go_num, by rw [Nat.add_assoc], hl6.out, hc6.out, ho3, hB3⟩
          case measure => simp [intOf]; omega
        · obtain rfl : i = b.length := by omega
          have hcc := hcon.out
          rw [List.take_of_length_le (by rw [HJ.out]; exact Nat.le_refl _)] at hcc
          have Hcc := Lib.hid hcc
          clear hcc
          go_wp2_with fail
          go_ret2
          exact ⟨g', c', rs, by rw [HJ.out]; rfl, Hcc.out, hO, hb⟩
end Go.Proofs.YtkjglfafphffiaaGreatDoor
