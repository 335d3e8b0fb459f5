/- toWeighted(S), eqWeighted(S): contracts. -/
import Derived.Test.YtjiljcekcpemmaaWo
namespace Go.Proofs.Ytjiljcekcpemmaa
open Go.RowKit

theorem three_blocks (w : World) (o0 o1 o2 : Obj) : (((w.alloc o0).alloc o1).alloc o2).heap[w.heap.size]? = some o0 ∧ (((w.alloc o0).alloc o1).alloc o2).heap[w.heap.size + 1]? = some o1 ∧ (((w.alloc o0).alloc o1).alloc o2).heap[w.heap.size + 1 + 1]? = some o2 := by
  have e : (((w.alloc o0).alloc o1).alloc o2).heap = ((w.heap.push o0).push o1).push o2 := rfl
  rw [e]
  refine ⟨?_, ?_, ?_⟩
  · rw [Array.getElem?_push, if_neg (by simp; omega), Array.getElem?_push, if_neg (by simp), Array.getElem?_push, if_pos rfl]
  · rw [Array.getElem?_push, if_neg (by simp), Array.getElem?_push, if_pos (by simp)]
  · rw [Array.getElem?_push, if_pos (by simp)]

set_option maxHeartbeats 1000000 in
theorem toWeighted_any (a : Option Addr) (c : Nat) (V : List Int) (C : Int) (w : World) (hV : V.length ≤ 1048576) (ha : ArgInts w a V) :
    Calls Try.prog 53 #[.agg #[.slice a V.length c, .int .i64 C]] w (fun e w' => ∃ g cap, e = .returned (.agg #[(Value.slice (some ⟨g, 0, none⟩) V.length cap), .int .i64 C]) ∧ Own w' w.heap.size g cap V ∧ Below w.heap.size w w') := by
  have k1 : Hid (∀ W, Below w.heap.size w W → Calls Try.prog 22 #[.slice a V.length c] W (GotInts W V)) := fun W hW => toIntS_any a c V W (by omega) (ha.below hW)
  clear ha
  have tb := three_blocks w (.cells #[.slice a V.length c, .int .i64 C] 58) (.cells #[.slice none 0 0, .int .i64 0] 60) (.cells #[.slice none 0 0, .int .i64 0] 60)
  have A0 := Lib.hid tb.1; have D0 := Lib.hid tb.2.1; have C0 := Lib.hid tb.2.2
  clear tb
  have hB0 : Below w.heap.size w (((w.alloc (.cells #[.slice a V.length c, .int .i64 C] 58)).alloc (.cells #[.slice none 0 0, .int .i64 0] 60)).alloc (.cells #[.slice none 0 0, .int .i64 0] 60)) := (by repeat (first | with_reducible exact Below.refl _ _ | with_reducible assumption | with_reducible refine below_drewN ?_ _ | with_reducible refine Below.drew ?_ | (with_reducible refine Below.alloc ?_ ?_ _; rotate_left; · first | (simp; done) | (simp; omega) | exact Below.size (by assumption) | (have hsz := Below.size (by assumption : Below _ _ _); simp at hsz ⊢; omega)) | (with_reducible refine Below.setCell ?_ ?_ _; rotate_left; · first | (simp; done) | (simp; omega))))
  have hsz : ((((w.alloc (.cells #[.slice a V.length c, .int .i64 C] 58)).alloc (.cells #[.slice none 0 0, .int .i64 0] 60)).alloc (.cells #[.slice none 0 0, .int .i64 0] 60))).heap.size = w.heap.size + 3 := by simp
  have Hsz := Lib.hid hsz; clear hsz
  go_enter Try.func53, Try.ntmps53
  go_wp2_with fail
  refine (k1.out _ hB0).mono ?_
  rintro e w1 ⟨g1, c1, rfl, ho1, hb1⟩
  rw [Hsz.out] at ho1 hb1
  have A1 : w1.heap[w.heap.size]? = some (.cells #[.slice a V.length c, .int .i64 C] 58 (0, 0)) := (hb1.block _ (by omega)).trans A0.out
  have D1 : w1.heap[w.heap.size + 1]? = some (.cells #[.slice none 0 0, .int .i64 0] 60 (0, 0)) := (hb1.block _ (by omega)).trans D0.out
  have C1 : w1.heap[w.heap.size + 1 + 1]? = some (.cells #[.slice none 0 0, .int .i64 0] 60 (0, 0)) := (hb1.block _ (by omega)).trans C0.out
  have hB1 : Below w.heap.size w w1 := hB0.trans (hb1.mono (by omega))
  have aa : ∀ j, w1.cell? ⟨w.heap.size, j, none⟩ = (#[.slice a V.length c, .int .i64 C] : Array Value)[j]? := fun j => cell_of_cells A1 j
  have cc : ∀ j, w1.cell? ⟨w.heap.size + 1 + 1, j, none⟩ = (#[.slice none 0 0, .int .i64 0] : Array Value)[j]? := fun j => cell_of_cells C1 j
  have dd : ∀ j, w1.cell? ⟨w.heap.size + 1, j, none⟩ = (#[.slice none 0 0, .int .i64 0] : Array Value)[j]? := fun j => cell_of_cells D1 j
  have fc : ∀ j, w1.frozen? ⟨w.heap.size + 1 + 1, j, none⟩ = false := fun j => free_of_cells C1 j
  have fd : ∀ j, w1.frozen? ⟨w.heap.size + 1, j, none⟩ = false := fun j => free_of_cells D1 j
  have hbase := ho1.base
  have Hbase := Lib.hid hbase
  clear A1 D1 C1 hb1 hbase
  go_wp2_with fail
  refine bodyPost_ret (v := .agg #[(Value.slice (some ⟨g1, 0, none⟩) V.length c1), .int .i64 C]) (by simp [results, Try.results53, go_sem, dd]) rfl ⟨g1, c1, rfl, ?_, ?_⟩
  · clear aa cc dd fc fd
    have hb := Hbase.out
    refine Own.mono (B := w.heap.size + 3) ?_ (by omega)
    repeat (refine Own.setNe ?_ _ _ (by simp; omega))
    exact ho1
  · clear aa cc dd fc fd
    iterate 4 (refine Below.setCell ?_ (by first | (simp; done) | (simp; omega)) _)
    exact hB1

theorem infoWt : (Try.prog.info? 60).map (fun i => (i.zero, i.size, i.bytes)) = some (some (.agg #[.slice none 0 0, .int .i64 0]), 2, 32) := by kernel_rfl
/-- 'make([]impl.Weighted, n)' -/
theorem wpList_make_wts {w : World} {ops : Array Oper} {rest : List Oper} {o : Oper} {a : Act} {Q : Exit → Act → World → Prop} (hgd : o.guard = none) (l c : Operand)
    (hop : o.op = Op.makeSlice 38 l c) (B n : Nat) (C : Int) (hC : C = (n : Int)) (hl : a.eval l = .int .i64 C) (hc : a.eval c = .int .i64 C) (hn : n ≤ 1048576) (hB : B ≤ w.heap.size)
    (h : ∀ w' cs, OwnK w' B 60 2 w.heap.size n n cs → w.grownBy w' none → wpList Try.prog ops Q rest (a.put o.dst (Value.slice (some ⟨w.heap.size, 0, none⟩) n n)) w') :
    wpList Try.prog ops Q (o :: rest) a w := by
  obtain ⟨i0, hi, hz0, hz1, hz2⟩ := info_parts infoWt
  refine wpList_make_full _ hgd l c 38 hop B 60 i0 (.agg #[.slice none 0 0, .int .i64 0]) 2 Try.underlying38 hi hz0 hz1 _ _ _ _ n hl hc hC hC (by rw [hz2]; omega) (by unfold maxLen; omega) hB ?_
  intro w' hown hgr
  exact h w' _ hown hgr

theorem inner_setNe {w : World} {B : Nat} {rs : List RowRef} (h : Inner w B rs) (p : Addr) (v : Value) (hp : ∀ r ∈ rs, r.1 ≠ p.block) : Inner (w.setCell p v) B rs :=
  ⟨fun r hr => (h.1 r hr).setNe p v (hp r hr), h.2⟩

set_option maxHeartbeats 2000000 in
theorem toWeightedS_any (a : Option Addr) (n c : Nat) (l : List Wt) (w : World) (hlen : l.length = n) (hf : wFew l) (ha : ArgWts w a l) :
    Calls Try.prog 26 #[.slice a n c] w (fun e w' => ∃ g cap rs, e = .returned (Value.slice (some ⟨g, 0, none⟩) l.length cap) ∧ contW rs = l ∧ OwnW w' w.heap.size g cap rs ∧ Below w.heap.size w w') := by
  subst hlen
  have hfl := hf.1
  go_enter Try.func26, Try.ntmps26
  go_wp2_with (at_make; refine wpList_make_wts rfl _ _ rfl w.heap.size l.length _ rfl rfl rfl hfl (Nat.le_refl _) ?_)
  intro w1 cs0 hown0 hgr
  have hb0 := below_of_grown hgr
  go_wp2
  go_loopw [4] (fun i wr => ∃ (j : Nat) (rs : List WRef) (zs : List Value), j ≤ l.length ∧ i = .int .i64 j ∧ rs.length = j ∧ contW rs = l.take j ∧ OwnK wr w.heap.size 60 2 w.heap.size l.length l.length (flatW rs ++ zs) ∧ Inner wr w.heap.size (rs.map (·.1)) ∧ Below w.heap.size w wr) (fun i _ => l.length - (intOf i).toNat)
  case atStart => exact ⟨0, [], cs0, Nat.zero_le _, rfl, rfl, rfl, hown0, ⟨by simp, by simp⟩, hb0⟩
  case round =>
    obtain ⟨j, rs, zs, hj, rfl, hrs, hcont, ho, hin, hb⟩ := hrel
    by_cases hlt : j < l.length
    · rcases ha.below hb with rfl | ⟨g, o, rfl, hg, hc⟩
      · simp at hlt
      obtain ⟨aj, cj, p1, p2, hai⟩ := hc j hlt
      have hfj := hf.2 j hlt
      have hlen := ho.len
      rw [List.length_append, flatW_length, hrs] at hlen
      have hz : 2 ≤ zs.length := by omega
      generalize hV : wOf l j = V at p1 p2 hai hfj
      generalize hC : ctOf l j = C at p2
      have hlj : l.take (j + 1) = l.take j ++ [(V, C)] := by
        rw [List.take_succ_eq_append_getElem hlt]
        have : l[j] = (V, C) := by rw [← hV, ← hC]; simp [wOf, ctOf, List.getD, hlt]
        rw [this]
      have Hlj := Lib.hid hlj; have Hlen := Lib.hid hlen; have Hrs := Lib.hid hrs; have Hcont := Lib.hid hcont
      have Hha := Lib.hid ha; have Hf := Lib.hid hf
      clear hlj hlen hrs hcont hV hC ha hf hc
      have k1 := toWeighted_any aj cj V C wr hfj hai
      have K1 := Lib.hid k1; clear k1 hai
      go_wp2_with fail
      refine K1.out.mono ?_
      rintro e w2 ⟨gv, cv, rfl, hov, hb2⟩
      have ho2 := ho.below hb2 ho.lt
      have hin2 := hin.below hb2
      have hbb := hb.trans (hb2.mono hb.size)
      have l0 : j * 2 < (flatW rs ++ zs).length := by have := Hlen.out; rw [List.length_append, flatW_length, Hrs.out]; omega
      have l1 : j * 2 + 1 < (flatW rs ++ zs).length := by have := Hlen.out; rw [List.length_append, flatW_length, Hrs.out]; omega
      have q0 := ho2.cell (j * 2) l0
      have q1 := ho2.cell (j * 2 + 1) l1
      have f0 := ho2.frozen (j * 2)
      have f1 := ho2.frozen (j * 2 + 1)
      generalize (flatW rs ++ zs)[j * 2] = z0 at q0
      generalize (flatW rs ++ zs)[j * 2 + 1] = z1 at q1
      have L0 := Lib.hid l0; have L1 := Lib.hid l1; clear l0 l1
      go_wp2_with fail
      go_roundw
      case rel =>
        have h1 := ho2.set (j * 2) (Value.slice (some ⟨gv, 0, none⟩) V.length cv)
        have h2 := h1.1.set (j * 2 + 1) (.int .i64 C)
        have hp := flatW_put rs ((gv, cv, V), C) zs j Hrs.out hz
        have hp' : ((flatW rs ++ zs).set (j * 2) (Value.slice (some ⟨gv, 0, none⟩) V.length cv)).set (j * 2 + 1) (.int .i64 C) = flatW (rs ++ [((gv, cv, V), C)]) ++ zs.drop 2 := hp
        rw [hp'] at h2
        have hgv : w.heap.size < gv := Nat.lt_of_lt_of_le ho.lt hov.base
        refine ⟨j + 1, rs ++ [((gv, cv, V), C)], zs.drop 2, by omega, by go_num, by simp [Hrs.out], ?_, h2.1, ?_, ?_⟩
        · rw [Hlj.out, ← Hcont.out]; simp [contW]
        · have hne : ∀ r ∈ rs.map (·.1), r.1 ≠ w.heap.size := fun r hr e => by
            have h3 := hin.1 r hr
            rw [e] at h3
            exact ho.neV h3.toV (by decide) rfl
          have hne2 : ∀ r ∈ rs.map (·.1), r.1 ≠ gv := fun r hr e => by
            have h3 := (hin.1 r hr).lt
            have h4 := hov.base
            omega
          rw [List.map_append]
          refine Inner.append ?_ ?_ hne2
          · exact inner_setNe (inner_setNe hin2 _ _ hne) _ _ hne
          · exact ((hov.mono hb.size).setNe _ _ (by simp; omega)).setNe _ _ (by simp; omega)
        · exact (hbb.setCell (Nat.le_refl _) _).setCell (Nat.le_refl _) _
      case measure => simp [intOf]; omega
    · obtain rfl : j = l.length := by omega
      have hlen := ho.len
      rw [List.length_append, flatW_length, hrs] at hlen
      have hz : zs = [] := List.length_eq_zero_iff.1 (by omega)
      subst hz
      rw [List.append_nil] at ho
      rw [List.take_of_length_le (Nat.le_refl _)] at hcont
      have Hf := Lib.hid hf; have Hrs := Lib.hid hrs; have Hc := Lib.hid hcont; clear hf hrs hcont hlen
      go_wp2
      go_ret
      refine ⟨_, _, rs, rfl, Hc.out, ⟨?_, hin⟩, hb⟩
      rw [Hrs.out]; exact ho
end Go.Proofs.Ytjiljcekcpemmaa
