/- toWeighted(S), eqWeighted(S): contracts. eqWeighted(S): contracts for equal values. An argument that is a list of weights with counts, opened. -/
import Derived.Test.YtihfbbpkgmkbcaaG07
import Derived.Test.YtihfbbpkgmkbcaaG08
import Derived.Deep.Slices
import Derived.Deep.Fields
import Derived.ChangeSame
namespace Go.Proofs.Ytihfbbpkgmkbcaa
set_option maxRecDepth 100000
open Go.RowKit

theorem three_blocks (w : World) (o0 o1 o2 : Obj) : (((w.alloc o0).alloc o1).alloc o2).heap[w.heap.size]? = some o0 ∧ (((w.alloc o0).alloc o1).alloc o2).heap[w.heap.size + 1]? = some o1 ∧ (((w.alloc o0).alloc o1).alloc o2).heap[w.heap.size + 1 + 1]? = some o2 := by
  have e : (((w.alloc o0).alloc o1).alloc o2).heap = ((w.heap.push o0).push o1).push o2 := rfl
  rw [e]
  refine ⟨?_, ?_, ?_⟩
  · rw [Array.getElem?_push, if_neg (by simp; omega), Array.getElem?_push, if_neg (by simp), Array.getElem?_push, if_pos rfl]
  · rw [Array.getElem?_push, if_neg (by simp), Array.getElem?_push, if_pos (by simp)]
  · rw [Array.getElem?_push, if_pos (by simp)]

set_option maxHeartbeats 1000000 in
theorem toWeighted_any (a : Option Addr) (c : Nat) (V : List Int) (C : Int) (w : World) (hV : V.length ≤ 1048576) (ha : ArgInts w a V) :
    Calls Try.prog 32 #[.agg #[.slice a V.length c, .int .i64 C]] w (fun e w' => ∃ g cap, e = .returned (.agg #[(Value.slice (some ⟨g, 0, none⟩) V.length cap), .int .i64 C]) ∧ Own w' w.heap.size g cap V ∧ Below w.heap.size w w') := by
  have k1 : Hid (∀ W, Below w.heap.size w W → Calls Try.prog 18 #[.slice a V.length c] W (GotInts W V)) := fun W hW => toIntS_any a c V W (by omega) (ha.below hW)
  clear ha
  have tb := three_blocks w (.cells #[.slice a V.length c, .int .i64 C] 44) (.cells #[.slice none 0 0, .int .i64 0] 48) (.cells #[.slice none 0 0, .int .i64 0] 48)
  have A0 := Lib.hid tb.1; have D0 := Lib.hid tb.2.1; have C0 := Lib.hid tb.2.2
  clear tb
  have hB0 : Below w.heap.size w (((w.alloc (.cells #[.slice a V.length c, .int .i64 C] 44)).alloc (.cells #[.slice none 0 0, .int .i64 0] 48)).alloc (.cells #[.slice none 0 0, .int .i64 0] 48)) := (by repeat (first | with_reducible exact Below.refl _ _ | with_reducible assumption | with_reducible refine below_drewN ?_ _ | with_reducible refine Below.drew ?_ | (with_reducible refine Below.alloc ?_ ?_ _; rotate_left; · first | (simp; done) | (simp; omega) | exact Below.size (by assumption) | (have hsz := Below.size (by assumption : Below _ _ _); simp at hsz ⊢; omega)) | (with_reducible refine Below.setCell ?_ ?_ _; rotate_left; · first | (simp; done) | (simp; omega))))
  have hsz : ((((w.alloc (.cells #[.slice a V.length c, .int .i64 C] 44)).alloc (.cells #[.slice none 0 0, .int .i64 0] 48)).alloc (.cells #[.slice none 0 0, .int .i64 0] 48))).heap.size = w.heap.size + 3 := by simp
  have Hsz := Lib.hid hsz; clear hsz
  go_enter Try.func32, Try.ntmps32
  go_wp2_with fail
  refine (k1.out _ hB0).mono ?_
  rintro e w1 ⟨g1, c1, rfl, ho1, hb1⟩
  rw [Hsz.out] at ho1 hb1
  have A1 : w1.heap[w.heap.size]? = some (.cells #[.slice a V.length c, .int .i64 C] 44 (0, 0)) := (hb1.block _ (by omega)).trans A0.out
  have D1 : w1.heap[w.heap.size + 1]? = some (.cells #[.slice none 0 0, .int .i64 0] 48 (0, 0)) := (hb1.block _ (by omega)).trans D0.out
  have C1 : w1.heap[w.heap.size + 1 + 1]? = some (.cells #[.slice none 0 0, .int .i64 0] 48 (0, 0)) := (hb1.block _ (by omega)).trans C0.out
  have hB1 : Below w.heap.size w w1 := hB0.trans (hb1.mono (by omega))
  have aa : ∀ j, w1.cell? ⟨w.heap.size, j, none⟩ = (#[.slice a V.length c, .int .i64 C] : Array Value)[j]? := fun j => cell_of_cells A1 j
  have cc : ∀ j, w1.cell? ⟨w.heap.size + 1 + 1, j, none⟩ = (#[.slice none 0 0, .int .i64 0] : Array Value)[j]? := fun j => cell_of_cells C1 j
  have dd : ∀ j, w1.cell? ⟨w.heap.size + 1, j, none⟩ = (#[.slice none 0 0, .int .i64 0] : Array Value)[j]? := fun j => cell_of_cells D1 j
  have fc : ∀ j, w1.frozen? ⟨w.heap.size + 1 + 1, j, none⟩ = false := fun j => free_of_cells C1 j
  have fd : ∀ j, w1.frozen? ⟨w.heap.size + 1, j, none⟩ = false := fun j => free_of_cells D1 j
  have hbase := ho1.base
  have Hbase := Lib.hid hbase
  clear A1 D1 C1 hb1 hbase
  go_wp2_with fail
  refine bodyPost_ret (v := .agg #[(Value.slice (some ⟨g1, 0, none⟩) V.length c1), .int .i64 C]) (by simp [results, Try.results32, go_sem, dd]) rfl ⟨g1, c1, rfl, ?_, ?_⟩
  · clear aa cc dd fc fd
    have hb := Hbase.out
    refine Own.mono (B := w.heap.size + 3) ?_ (by omega)
    repeat (refine Own.setNe ?_ _ _ (by simp; omega))
    exact ho1
  · clear aa cc dd fc fd
    iterate 4 (refine Below.setCell ?_ (by first | (simp; done) | (simp; omega)) _)
    exact hB1

theorem infoWt : (Try.prog.info? 48).map (fun i => (i.zero, i.size, i.bytes)) = some (some (.agg #[.slice none 0 0, .int .i64 0]), 2, 32) := by kernel_rfl
/-- 'make([]impl.Weighted, n)' -/
theorem wpList_make_wts {w : World} {ops : Array Oper} {rest : List Oper} {o : Oper} {a : Act} {Q : Exit → Act → World → Prop} (hgd : o.guard = none) (l c : Operand)
    (hop : o.op = Op.makeSlice 26 l c) (B n : Nat) (C : Int) (hC : C = (n : Int)) (hl : a.eval l = .int .i64 C) (hc : a.eval c = .int .i64 C) (hn : n ≤ 1048576) (hB : B ≤ w.heap.size)
    (h : ∀ w' cs, OwnK w' B 48 2 w.heap.size n n cs → w.grownBy w' none → wpList Try.prog ops Q rest (a.put o.dst (Value.slice (some ⟨w.heap.size, 0, none⟩) n n)) w') :
    wpList Try.prog ops Q (o :: rest) a w := by
  obtain ⟨i0, hi, hz0, hz1, hz2⟩ := info_parts infoWt
  refine wpList_make_full _ hgd l c 26 hop B 48 i0 (.agg #[.slice none 0 0, .int .i64 0]) 2 Try.underlying26 hi hz0 hz1 _ _ _ _ n hl hc hC hC (by rw [hz2]; omega) (by unfold maxLen; omega) hB ?_
  intro w' hown hgr
  exact h w' _ hown hgr

theorem inner_setNe {w : World} {B : Nat} {rs : List RowRef} (h : Inner w B rs) (p : Addr) (v : Value) (hp : ∀ r ∈ rs, r.1 ≠ p.block) : Inner (w.setCell p v) B rs :=
  ⟨fun r hr => (h.1 r hr).setNe p v (hp r hr), h.2⟩

set_option maxHeartbeats 2000000 in
theorem toWeightedS_any (a : Option Addr) (n c : Nat) (l : List Wt) (w : World) (hlen : l.length = n) (hf : wFew l) (ha : ArgWts w a l) :
    Calls Try.prog 10 #[.slice a n c] w (fun e w' => ∃ g cap rs, e = .returned (Value.slice (some ⟨g, 0, none⟩) l.length cap) ∧ contW rs = l ∧ OwnW w' w.heap.size g cap rs ∧ Below w.heap.size w w') := by
  subst hlen
  have hfl := hf.1
  go_enter Try.func10, Try.ntmps10
  go_wp2_with (at_make; refine wpList_make_wts rfl _ _ rfl w.heap.size l.length _ rfl rfl rfl hfl (Nat.le_refl _) ?_)
  intro w1 cs0 hown0 hgr
  have hb0 := below_of_grown hgr
  go_wp2
  go_loopw [4] (fun i wr => ∃ (j : Nat) (rs : List WRef) (zs : List Value), j ≤ l.length ∧ i = .int .i64 j ∧ rs.length = j ∧ contW rs = l.take j ∧ OwnK wr w.heap.size 48 2 w.heap.size l.length l.length (flatW rs ++ zs) ∧ Inner wr w.heap.size (rs.map (·.1)) ∧ Below w.heap.size w wr) (fun i _ => l.length - (intOf i).toNat)
  case atStart => exact ⟨0, [], cs0, Nat.zero_le _, rfl, rfl, rfl, hown0, ⟨by simp, by simp⟩, hb0⟩
  case round =>
    obtain ⟨j, rs, zs, hj, rfl, hrs, hcont, ho, hin, hb⟩ := hrel
    by_cases hlt : j < l.length
    · rcases ha.below hb with rfl | ⟨g, o, rfl, hg, hc⟩
      · simp at hlt
      obtain ⟨aj, cj, p1, p2, hai⟩ := hc j hlt
      have hfj := hf.2 j hlt
      have hlen := ho.len
      rw [List.length_append, flatW_length, hrs] at hlen
      have hz : 2 ≤ zs.length := by omega
      generalize hV : wOf l j = V at p1 p2 hai hfj
      generalize hC : ctOf l j = C at p2
      have hlj : l.take (j + 1) = l.take j ++ [(V, C)] := by
        rw [List.take_succ_eq_append_getElem hlt]
        have : l[j] = (V, C) := by rw [← hV, ← hC]; simp [wOf, ctOf, List.getD, hlt]
        rw [this]
      have Hlj := Lib.hid hlj; have Hlen := Lib.hid hlen; have Hrs := Lib.hid hrs; have Hcont := Lib.hid hcont
      have Hha := Lib.hid ha; have Hf := Lib.hid hf
      clear hlj hlen hrs hcont hV hC ha hf hc
      have k1 := toWeighted_any aj cj V C wr hfj hai
      have K1 := Lib.hid k1; clear k1 hai
      go_wp2_with fail
      refine K1.out.mono ?_
      rintro e w2 ⟨gv, cv, rfl, hov, hb2⟩
      have ho2 := ho.below hb2 ho.lt
      have hin2 := hin.below hb2
      have hbb := hb.trans (hb2.mono hb.size)
      have l0 : j * 2 < (flatW rs ++ zs).length := by have := Hlen.out; rw [List.length_append, flatW_length, Hrs.out]; omega
      have l1 : j * 2 + 1 < (flatW rs ++ zs).length := by have := Hlen.out; rw [List.length_append, flatW_length, Hrs.out]; omega
      have q0 := ho2.cell (j * 2) l0
      have q1 := ho2.cell (j * 2 + 1) l1
      have f0 := ho2.frozen (j * 2)
      have f1 := ho2.frozen (j * 2 + 1)
      generalize (flatW rs ++ zs)[j * 2] = z0 at q0
      generalize (flatW rs ++ zs)[j * 2 + 1] = z1 at q1
      have L0 := Lib.hid l0; have L1 := Lib.hid l1; clear l0 l1
      go_wp2_with fail
      go_roundw
      case rel =>
        have h1 := ho2.set (j * 2) (Value.slice (some ⟨gv, 0, none⟩) V.length cv)
        have h2 := h1.1.set (j * 2 + 1) (.int .i64 C)
        have hp := flatW_put rs ((gv, cv, V), C) zs j Hrs.out hz
        have hp' : ((flatW rs ++ zs).set (j * 2) (Value.slice (some ⟨gv, 0, none⟩) V.length cv)).set (j * 2 + 1) (.int .i64 C) = flatW (rs ++ [((gv, cv, V), C)]) ++ zs.drop 2 := hp
        rw [hp'] at h2
        have hgv : w.heap.size < gv := Nat.lt_of_lt_of_le ho.lt hov.base
        refine ⟨j + 1, rs ++ [((gv, cv, V), C)], zs.drop 2, by omega, by go_num, by simp [Hrs.out], ?_, h2.1, ?_, ?_⟩
        · rw [Hlj.out, ← Hcont.out]; simp [contW]
        · have hne : ∀ r ∈ rs.map (·.1), r.1 ≠ w.heap.size := fun r hr e => by
            have h3 := hin.1 r hr
            rw [e] at h3
            exact ho.neV h3.toV (by decide) rfl
          have hne2 : ∀ r ∈ rs.map (·.1), r.1 ≠ gv := fun r hr e => by
            have h3 := (hin.1 r hr).lt
            have h4 := hov.base
            omega
          rw [List.map_append]
          refine Inner.append ?_ ?_ hne2
          · exact inner_setNe (inner_setNe hin2 _ _ hne) _ _ hne
          · exact ((hov.mono hb.size).setNe _ _ (by simp; omega)).setNe _ _ (by simp; omega)
        · exact (hbb.setCell (Nat.le_refl _) _).setCell (Nat.le_refl _) _
      case measure => simp [intOf]; omega
    · obtain rfl : j = l.length := by omega
      have hlen := ho.len
      rw [List.length_append, flatW_length, hrs] at hlen
      have hz : zs = [] := List.length_eq_zero_iff.1 (by omega)
      subst hz
      rw [List.append_nil] at ho
      rw [List.take_of_length_le (Nat.le_refl _)] at hcont
      have Hf := Lib.hid hf; have Hrs := Lib.hid hrs; have Hc := Lib.hid hcont; clear hf hrs hcont hlen
      go_wp2
      go_ret
      refine ⟨_, _, rs, rfl, Hc.out, ⟨?_, hin⟩, hb⟩
      rw [Hrs.out]; exact ho
end Go.Proofs.Ytihfbbpkgmkbcaa
namespace Go.Proofs.Ytihfbbpkgmkbcaa
set_option maxRecDepth 100000
open Go.RowKit

attribute [local go_sem ↓] Go.wp_at_zero Go.wp_at_succ
set_option maxHeartbeats 1000000 in
theorem eqWeighted_same (g1 o1 c1 g2 o2 c2 : Nat) (V : List Int) (C : Int) (w : World) (hV : V.length ≤ 1048576) (hg1 : g1 < w.heap.size) (hg2 : g2 < w.heap.size) (h1 : Cells w g1 o1 V) (h2 : Cells w g2 o2 V) :
    Calls Try.prog 38 #[.agg #[(Value.slice (some ⟨g1, o1, none⟩) V.length c1), .int .i64 C], .agg #[(Value.slice (some ⟨g2, o2, none⟩) V.length c2), .int .i64 C]] w (Gives w (.bool true)) := by
  have k1 : Hid (∀ W, Below w.heap.size w W → Calls Try.prog 20 #[(Value.slice (some ⟨g1, o1, none⟩) V.length c1), (Value.slice (some ⟨g2, o2, none⟩) V.length c2)] W (Reads W (.bool true))) := fun W hW => eqIntS_same g1 o1 _ c1 g2 o2 _ c2 V W rfl rfl (by omega) (h1.below hW hg1) (h2.below hW hg2)
  clear h1 h2
  go_enter Try.func38, Try.ntmps38
  go_wp2_with fail
  refine (k1.out _ (by repeat (first | with_reducible exact Below.refl _ _ | with_reducible assumption | with_reducible refine below_drewN ?_ _ | with_reducible refine Below.drew ?_ | (with_reducible refine Below.alloc ?_ ?_ _; rotate_left; · first | (simp; done) | (simp; omega) | exact Below.size (by assumption) | (have hsz := Below.size (by assumption : Below _ _ _); simp at hsz ⊢; omega)) | (with_reducible refine Below.setCell ?_ ?_ _; rotate_left; · first | (simp; done) | (simp; omega))))).mono ?_
  rintro e w1 ⟨rfl, m1, rfl⟩
  go_wp2_with fail
  go_ret
  exact ⟨rfl, (by repeat (first | with_reducible exact Below.refl _ _ | with_reducible assumption | with_reducible refine below_drewN ?_ _ | with_reducible refine Below.drew ?_ | (with_reducible refine Below.alloc ?_ ?_ _; rotate_left; · first | (simp; done) | (simp; omega) | exact Below.size (by assumption) | (have hsz := Below.size (by assumption : Below _ _ _); simp at hsz ⊢; omega)) | (with_reducible refine Below.setCell ?_ ?_ _; rotate_left; · first | (simp; done) | (simp; omega))))⟩

set_option maxHeartbeats 4000000 in
theorem eqWeightedS_same (g1 o1 n1 c1 g2 o2 n2 c2 : Nat) (l : List Wt) (w : World) (hn1 : l.length = n1) (hn2 : l.length = n2) (hf : wFew l) (hg1 : g1 < w.heap.size) (hg2 : g2 < w.heap.size) (h1 : WRows w g1 o1 l) (h2 : WRows w g2 o2 l) :
    Calls Try.prog 12 #[(Value.slice (some ⟨g1, o1, none⟩) n1 c1), (Value.slice (some ⟨g2, o2, none⟩) n2 c2)] w (Gives w (.bool true)) := by
  subst hn1; subst hn2
  have hfl := hf.1
  go_enter Try.func12, Try.ntmps12
  go_wp2
  go_loopw [5] (fun i wr => ∃ k : Nat, k ≤ l.length ∧ i = .int .i64 k ∧ Below w.heap.size w wr) (fun i _ => l.length - (intOf i).toNat)
  case atStart => exact ⟨0, Nat.zero_le _, rfl, Below.refl _ _⟩
  case round =>
    obtain ⟨k, hk, rfl, hb⟩ := hrel
    by_cases hlt : k < l.length
    · obtain ⟨ga, oa, ca, p1, p2, p3, p4, p5⟩ := h1 k hlt
      obtain ⟨gb, ob, cb, q1, q2, q3, q4, q5⟩ := h2 k hlt
      have hfk := hf.2 k hlt
      generalize wOf l k = V at *
      generalize ctOf l k = C at *
      have kk : Hid (∀ W, Below w.heap.size w W → Calls Try.prog 38 #[.agg #[(Value.slice (some ⟨ga, oa, none⟩) V.length ca), .int .i64 C], .agg #[(Value.slice (some ⟨gb, ob, none⟩) V.length cb), .int .i64 C]] W (Gives W (.bool true))) := fun W hW =>
        eqWeighted_same ga oa ca gb ob cb V C W hfk (Nat.lt_of_lt_of_le p4 hW.size) (Nat.lt_of_lt_of_le q4 hW.size) (p5.below hW p4) (q5.below hW q4)
      have hB : Below w.heap.size w wr.drew := Below.drew hb
      have u1 : wr.drew.cell? ⟨g1, o1 + k * 2, none⟩ = some (Value.slice (some ⟨ga, oa, none⟩) V.length ca) := (hB.cell (p := ⟨g1, o1 + k * 2, none⟩) hg1).trans p1
      have u2 : wr.drew.cell? ⟨g1, o1 + k * 2 + 1, none⟩ = some (.int .i64 C) := (hB.cell (p := ⟨g1, o1 + k * 2 + 1, none⟩) hg1).trans p2
      have u3 : wr.drew.cell? ⟨g2, o2 + k * 2, none⟩ = some (Value.slice (some ⟨gb, ob, none⟩) V.length cb) := (hB.cell (p := ⟨g2, o2 + k * 2, none⟩) hg2).trans q1
      have u4 : wr.drew.cell? ⟨g2, o2 + k * 2 + 1, none⟩ = some (.int .i64 C) := (hB.cell (p := ⟨g2, o2 + k * 2 + 1, none⟩) hg2).trans q2
      clear p1 p2 p3 q1 q2 q3 p5 q5 h1 h2 hf
      go_wp2_with fail
      go_region_held3 (fun W => Below w.heap.size w W ∧ W.cell? ⟨g1, o1 + k * 2, none⟩ = some (Value.slice (some ⟨ga, oa, none⟩) V.length ca) ∧ W.cell? ⟨g1, o1 + k * 2 + 1, none⟩ = some (.int .i64 C) ∧ W.cell? ⟨g2, o2 + k * 2, none⟩ = some (Value.slice (some ⟨gb, ob, none⟩) V.length cb) ∧ W.cell? ⟨g2, o2 + k * 2 + 1, none⟩ = some (.int .i64 C))
        (first | exact ⟨hB, u1, u2, u3, u4⟩ | exact ⟨hB.trans (hbA.mono hB.size), keepCell hbA u1, keepCell hbA u2, keepCell hbA u3, keepCell hbA u4⟩)
        ((go_at_call 38; refine (kk.out _ hB).mono ?_; rintro e wA ⟨rfl, hbA⟩))
      have hBB := hB.trans (hbA.mono hB.size)
      clear u1 u2 u3 u4 kk
      go_wp2
      go_roundw
      case rel => exact ⟨k + 1, by omega, by go_num, hBB⟩
      case measure => simp [intOf]; omega
    · obtain rfl : k = l.length := by omega
      go_wp2
      go_ret
      exact ⟨rfl, hb⟩
end Go.Proofs.Ytihfbbpkgmkbcaa
namespace Go.Proofs.Ytihfbbpkgmkbcaa
set_option maxRecDepth 100000
open Go.Joins Go.ChangeShapes Go.WideShapes Go.RowKit Go.Deep

theorem list_of_all {α : Type} (d : α) (n : Nat) (Q : Nat → α → Prop) (h : ∀ i, i < n → ∃ p, Q i p) : ∃ l : List α, l.length = n ∧ ∀ i, i < n → Q i (l.getD i d) := by
  induction n with
  | zero => exact ⟨[], rfl, by omega⟩
  | succ n ih =>
    obtain ⟨l, hl, hq⟩ := ih (fun i hi => h i (by omega))
    obtain ⟨p, hp⟩ := h n (by omega)
    refine ⟨l ++ [p], by simp [hl], fun i hi => ?_⟩
    by_cases e : i = n
    · subst e; simpa [List.getD, hl] using hp
    · have := hq i (by omega)
      have hi' : i < l.length := by omega
      simpa [List.getD, List.getElem?_append_left hi'] using this

section
variable {H : Type} {enc : TypeId × Value → H} {w : World} {base : Nat}
theorem argWts_open {fuel : Nat} {v : Value} {x : DataW H × List MemPlace} (h : DataW.trod enc Try.prog w base (fun _ => true) true fuel 23 [v] = some x) :
    ∃ a c, ∃ l : List Wt, v = .slice a l.length c ∧ ArgWts w a l ∧ l.length ≤ maxLen ∧ ∀ j, j < l.length → (wOf l j).length ≤ maxLen := by
  rcases open_slice Try.underlying23 h with ⟨hcs, _⟩ | ⟨a, len, cap, m, n, D, Pl, hcs, hb, hl, hm, hmm, hx, hi⟩
  · simp at hcs
    exact ⟨none, 0, [], hcs, .inl rfl, Nat.zero_le _, by simp⟩
  · simp at hcs
    have hmc : m = cap := by simpa using hmm
    have hC : Try.prog.cellsOf 44 = 2 := by kernel_rfl
    have each : ∀ i, i < len → ∃ p : Wt, ∃ aj cj, w.cell? (a.add (i * 2)) = some (.slice aj p.1.length cj) ∧ w.cell? (a.add (i * 2 + 1)) = some (.int .i64 p.2) ∧ ArgInts w aj p.1 ∧ p.1.length ≤ maxLen := by
      intro i hil
      obtain ⟨cs', hc, ht'⟩ := hi i (by omega)
      rw [hC] at hc
      obtain ⟨y0, y1, n', -, -, hf0, hf1⟩ := trod_struct2 Try.underlying44 ht'
      obtain ⟨_, hcl, hat⟩ := World.cells?_some hc
      have h0 := hat 0 (by omega)
      have h1 := hat 1 (by omega)
      rw [Go.Deep.add_add] at h0 h1
      have e33 : Try.prog.cellsOf 35 = 1 := by kernel_rfl
      have e3 : Try.prog.cellsOf 3 = 1 := by kernel_rfl
      simp only [e33, e3] at hf0 hf1
      match cs', hcl, h0, h1, hf0, hf1 with
      | [c0, c1], _, h0, h1, hf0, hf1 =>
        have hf0' : DataW.trod enc Try.prog w base (fun _ => true) true n' 35 [c0] = some y0 := hf0
        have hf1' : DataW.trod enc Try.prog w base (fun _ => true) true n' 3 [c1] = some y1 := hf1
        obtain ⟨aj, cj, xs, rfl, q1, q2, -⟩ := argInts_open hf0'
        obtain ⟨k, hk, -⟩ := DataW.trod_int Try.underlying3 hf1'
        simp at hk
        subst hk
        exact ⟨(xs, k), aj, cj, h0, h1, q1, q2⟩
    obtain ⟨l, hll, hq⟩ := list_of_all (([], 0) : Wt) len _ each
    refine ⟨some a, cap, l, by rw [hll]; exact hcs, ?_, by omega, fun j hj => (hq j (by omega)).choose_spec.choose_spec.2.2.2⟩
    by_cases h0 : len = 0
    · exact .inl (List.length_eq_zero_iff.1 (by omega))
    obtain ⟨b, o, s⟩ := a
    obtain ⟨aj0, cj0, hc0, -⟩ := hq 0 (by omega)
    cases s with
    | some s => simp [World.cell?, Addr.add] at hc0; split at hc0 <;> simp_all
    | none =>
      refine .inr ⟨b, o, rfl, World.block_lt_of_cell? w _ hc0, fun j hj => ?_⟩
      obtain ⟨aj, cj, q1, q2, q3, -⟩ := hq j (by omega)
      rw [Addr.add_lit] at q1 q2
      exact ⟨aj, cj, q1, q2, q3⟩
end
end Go.Proofs.Ytihfbbpkgmkbcaa
