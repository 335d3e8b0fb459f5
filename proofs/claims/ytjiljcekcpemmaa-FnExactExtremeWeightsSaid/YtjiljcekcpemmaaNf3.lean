/- The reference's normal forms: contracts. -/
import Derived.Test.YtjiljcekcpemmaaNf2
namespace Go.Proofs.Ytjiljcekcpemmaa
open Go.RowKit

set_option maxHeartbeats 4000000 in
theorem spec_l8Form_any (gc oc n cc g2 o2 n2 c2 f : Nat) (c : List (List Int)) (v word : List Int) (w : World) (hn : c.length = n) (hn2 : v.length = n2) (hC : IsC c) (hv : v.length = c.length) (hf : f ≤ 30) (hword : normG c f v = some word)
    (hgc : gc < w.heap.size) (hg2 : g2 < w.heap.size) (hr : Rows2 w gc oc c) (hc2 : Cells w g2 o2 v) :
    Calls Try.prog 76 #[(Value.slice (some ⟨gc, oc, none⟩) n cc), (Value.slice (some ⟨g2, o2, none⟩) n2 c2)] w (GotInts w word) := by
  subst hn; subst hn2
  have hn4 := hC.2.1
  have hv4 : v.length ≤ 4 := by omega
  have Hv := Lib.hid hv; clear hv
  have hwl := normG_len hword
  go_enter Try.func76, Try.ntmps76
  go_wp2
  go_loopw [1, 5, 6, 7] (fun vv s i _ wr => ∃ (p g' c' f' gu ou cu : Nat) (u pre rest : List Int), i = .int .i64 p ∧ s = (Value.slice (some ⟨g', 0, none⟩) p c') ∧ vv = (Value.slice (some ⟨gu, ou, none⟩) v.length cu) ∧ Hid (pre.length = p) ∧ p + f' ≤ 30 ∧ u.length = v.length ∧ Hid (normG c f' u = some rest) ∧ Hid (word = pre ++ rest) ∧ Cells wr gu ou u ∧ gu < wr.heap.size ∧ Own wr w.heap.size g' c' pre ∧ gu ≠ g' ∧ Below w.heap.size w wr) (fun _ _ i _ _ => 31 - (intOf i).toNat)
  case atStart =>
    exact ⟨0, w.heap.size, 0, f, g2, o2, c2, v, [], word, rfl, rfl, rfl, rfl, by omega, rfl, hword, rfl, hc2.below ((Below.refl _ _).alloc (Nat.le_refl _) _) hg2, by simp; omega, Own.empty (w := w) (Nat.le_refl _), by omega, (Below.refl _ _).alloc (Nat.le_refl _) _⟩
  case round =>
    obtain ⟨p, g', c', f', gu, ou, cu, u, pre, rest, rfl, rfl, rfl, hp, hpf, hul, hnorm, hw, hcu, hgu, hop, hne, hb⟩ := hrel
    have hp30 : (p : Int) ≤ 30 := by omega
    have hz := normG_nz hnorm.out
    have Hz := Lib.hid hz; have Hul := Lib.hid hul
    clear hz
    obtain ⟨wo, rfl⟩ : ∃ wo : World, wo = wr := ⟨_, rfl⟩
    have HCu := Lib.hid hcu
    clear hul
    go_wp2
    go_loopw [7] (fun i wr => ∃ k : Nat, k ≤ v.length ∧ i = .int .i64 k ∧ Hid (∀ j, j < k → 0 < u.getD j 0) ∧ wr = wo) (fun i _ => v.length - (intOf i).toNat)
    case atStart => exact ⟨0, Nat.zero_le _, rfl, fun j hj => absurd hj (by omega), rfl⟩
    case round =>
      obtain ⟨k, hk, rfl, hall, rfl⟩ := hrel
      by_cases hlt : k < v.length
      · have q1 := HCu.out k (by rw [Hul.out]; exact hlt)
        have hzk := Hz.out k (by rw [Hul.out]; exact hlt)
        by_cases hpos : 0 < u.getD k 0
        · have HY : Hid (∀ j, j < k + 1 → 0 < u.getD j 0) := fun j hj => by
            by_cases e : j = k
            · subst e; exact hpos
            · exact hall.out j (by omega)
          clear hzk
          generalize u.getD k 0 = x at *
          go_wp2
          go_roundw
          case rel => exact ⟨k + 1, by omega, by go_num, HY.out, trivial⟩
          case measure => simp [intOf]; omega
        · have hfn : firstNeg u = some k := firstNeg_of (by rw [Hul.out]; exact hlt) (by omega) (fun j hj => by have := hall.out j hj; omega)
          obtain ⟨f2, rest2, hf2, hrest, hn2⟩ := normG_some hnorm.out hfn
          have hic : k < c.length := by have := Hv.out; omega
          have hkne : ((k : Int) == (v.length : Int)) = false := by simp; omega
          subst hrest
          have Hn2 := Lib.hid hn2
          clear hzk hfn hn2 hnorm
          generalize u.getD k 0 = x at *
          go_wp2_with (at_builtin; refine wpList_append_int_n (w := wr) rfl _ _ rfl w.heap.size g' c' p pre (k : Int) hp.out hop rfl rfl (by omega) ?_)
          intro g3 c3 w3 ho3 hg3 hor
          have hcu3 : Cells w3 gu ou u := HCu.out.grown hg3 (by intro e; cases e; exact hne rfl)
          have hb3 : Below w.heap.size w w3 := hb.grown hg3 hb.size (by intro j hj; cases hj; exact hop.base)
          have hgu3 : gu < w3.heap.size := Nat.lt_of_lt_of_le hgu hg3.size
          have hcall3 := spec_l6Reflect_any gc oc _ cc gu ou v.length cu k c u w3 rfl Hul.out (by rw [Hul.out]; exact Nat.le_of_eq Hv.out) hn4 hC.2.2.1 (by rw [Hul.out]; exact hlt) (Nat.lt_of_lt_of_le hgc hb3.size) hgu3 (hr.below hb3 hgc) hcu3
          have Hcall3 := Lib.hid hcall3; clear hcall3
          go_wp2_with fail
          refine Hcall3.out.mono ?_
          rintro e w4 ⟨g5, c5, rfl, ho5, hb5⟩
          have hrl : (refl c k u).length = v.length := by rw [refl_length]; exact Hul.out
          rw [hrl]
          go_wp2_with fail
          go_roundw
          case rel =>
            refine ⟨p + 1, g3, c3, f2, g5, 0, c5, refl c k u, pre ++ [(k : Int)], rest2, by go_num, rfl, rfl, ?_, by omega, hrl, Hn2.out, ?_, ho5.cells, ho5.lt, ho3.below hb5 ho3.lt, by have h1 := ho3.lt; have h2 := ho5.base; omega, hb3.trans (hb5.mono hb3.size)⟩
            · show _ = _; rw [List.length_append, hp.out]; rfl
            · show _ = _; rw [hw.out, List.append_assoc]; rfl
          case measure => simp [intOf]; omega
      · obtain rfl : k = v.length := by omega
        have hfn : firstNeg u = none := firstNeg_nil (fun j hj => by have := hall.out j (by rw [← Hul.out]; exact hj); omega)
        have hrest := normG_none hnorm.out hfn
        have Hrest := Lib.hid hrest; clear hrest hfn
        go_wp2
        go_ret
        rw [hw.out, Hrest.out, List.append_nil]
        exact GotInts.mk' g' c' hp.out hop hb
end Go.Proofs.Ytjiljcekcpemmaa
