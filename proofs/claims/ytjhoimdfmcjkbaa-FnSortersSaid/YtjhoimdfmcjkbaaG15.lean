/- FirstUnsorted and IsSorter: contracts. -/
import Derived.Test.YtjhoimdfmcjkbaaG14
import Derived.Lib.RabinKarpLaws
namespace Go.Proofs.Ytjhoimdfmcjkbaa
set_option maxRecDepth 100000
open Go.RowKit

theorem net_letters' {N : Int} {ws : List Int} (h : net N ws = true) : (1 ≤ N ∧ N ≤ 5 ∧ ws.length ≤ 15) ∧ ∀ j (hj : j < ws.length), 0 ≤ ws[j] ∧ ws[j] ≤ N - 2 := by
  unfold net at h
  rw [decide_eq_true_eq] at h
  exact ⟨⟨h.1, h.2.1, h.2.2.1⟩, fun j hj => h.2.2.2 _ (List.getElem_mem hj)⟩
def bitsOf (M k : Nat) : List Int := (List.range M).map fun i => (k : Int) / 2 ^ i % 2
theorem bitsOf_length (M k : Nat) : (bitsOf M k).length = M := by simp [bitsOf]
theorem bitsOf_succ (M k : Nat) : bitsOf (M + 1) k = bitsOf M k ++ [(k : Int) / 2 ^ M % 2] := by simp [bitsOf, List.range_succ]
/-- the first list of bits, from code k on, d codes long, that the network leaves unsorted -/
def findBad (M : Nat) (ws : List Int) (k : Nat) : Nat → Option Nat
  | 0 => none
  | d + 1 => if sortedB (sortBy (bitsOf M k) ws) then findBad M ws (k + 1) d else some k
def firstBad (N : Int) (ws : List Int) : Option Nat := if net N ws then findBad N.toNat ws 0 (2 ^ N.toNat) else none
def firstUnsorted (N : Int) (ws : List Int) : List Int := match firstBad N ws with | some k => bitsOf N.toNat k | none => []

theorem pow_le32 {M : Nat} (h : M ≤ 5) : 2 ^ M ≤ 32 := by
  have := Nat.pow_le_pow_right (n := 2) (by omega) h
  simpa using this
theorem wrap_pow {M : Nat} (h : M ≤ 5) : wrap64 ((2 : Int) ^ M) = ((2 ^ M : Nat) : Int) := by
  have h1 := pow_le32 h
  have h2 : ((2 ^ M : Nat) : Int) = (2 : Int) ^ M := by simp
  have h3 : wrap64 ((2 ^ M : Nat) : Int) = ((2 ^ M : Nat) : Int) := by
    generalize 2 ^ M = q at h1
    exact IntWalk.wrap64_in _ ⟨by omega, by omega⟩
  rw [← h2]
  exact h3
theorem bit_at (k t : Nat) (hk : k ≤ 32) : bits BinOp.and IntKind.i64 ((k : Int) / 2 ^ t) 1 = (k : Int) / 2 ^ t % 2 := by
  have e : ((k : Int) / 2 ^ t) = ((k / 2 ^ t : Nat) : Int) := by simp
  have h : k / 2 ^ t ≤ k := Nat.div_le_self _ _
  rw [e, and_one _ (by omega)]
  omega
theorem findBad_step (M : Nat) (ws : List Int) {k Q : Nat} (h : k < Q) : findBad M ws k (Q - k) = if sortedB (sortBy (bitsOf M k) ws) then findBad M ws (k + 1) (Q - (k + 1)) else some k := by
  have e : Q - k = (Q - (k + 1)) + 1 := by omega
  rw [e]; rfl
theorem firstUnsorted_length_le (N : Int) (ws : List Int) : (firstUnsorted N ws).length ≤ 5 := by
  unfold firstUnsorted
  cases h : firstBad N ws with
  | none => simp
  | some k =>
    unfold firstBad at h
    split at h
    · rename_i hn
      have := (net_letters' hn).1
      show (bitsOf N.toNat k).length ≤ 5
      rw [bitsOf_length]; omega
    · cases h
theorem firstUnsorted_none {N : Int} {ws : List Int} (h : firstBad N ws = none) : firstUnsorted N ws = [] := by unfold firstUnsorted; rw [h]
theorem firstUnsorted_some {N : Int} {ws : List Int} {k : Nat} (h : firstBad N ws = some k) : firstUnsorted N ws = bitsOf N.toNat k := by unfold firstUnsorted; rw [h]

set_option maxHeartbeats 1000000 in
theorem impl_FirstUnsorted_any (N : Int) (g o n c : Nat) (ws : List Int) (w : World) (hn : ws.length = n) (hx : ws.length ≤ 1048576) (hg : g < w.heap.size) (hc : Cells w g o ws) :
    Calls Try.prog 7 #[.int .i64 N, (Value.slice (some ⟨g, o, none⟩) n c)] w (GotIntsB w (firstUnsorted N ws) (firstBad N ws).isSome) := by
  have hcall := impl_isNetwork_any N g o n c ws w hn (by omega) hc
  subst hn
  cases hnet : net N ws
  · rw [hnet] at hcall
    have hcall' := Lib.hid hcall; clear hcall
    have e1 : firstBad N ws = none := by unfold firstBad; rw [hnet]; rfl
    have e2 : firstUnsorted N ws = [] := by unfold firstUnsorted; rw [e1]
    rw [e1, e2]
    clear e1 e2 hnet
    go_enter Try.func7, Try.ntmps7
    go_wp2_with fail
    refine hcall'.out.mono ?_
    rintro e w' ⟨rfl, m, rfl⟩
    go_wp2
    go_ret2
    exact GotIntsB.mk' _ _ rfl (Own.empty (w := w.drewN m) (Nat.le_refl _)) ((below_drewN' w m).alloc (Nat.le_refl _) _)
  · rw [hnet] at hcall
    have hcall' := Lib.hid hcall; clear hcall
    have hN := (net_letters' hnet).1
    obtain ⟨M, rfl⟩ : ∃ M : Nat, N = (M : Int) := ⟨N.toNat, by omega⟩
    have e1 : firstBad M ws = findBad M ws 0 (2 ^ M) := by unfold firstBad; rw [hnet]; rfl
    have HE := Lib.hid e1; clear e1 hnet
    go_enter Try.func7, Try.ntmps7
    go_wp2_with fail
    refine hcall'.out.mono ?_
    rintro e w' ⟨rfl, m, rfl⟩
    go_wp2
    obtain ⟨Q, hQ, hQ2, hQ3⟩ : ∃ Q : Nat, Q = 2 ^ M ∧ Q ≤ 32 ∧ wrap64 ((2 : Int) ^ M) = (Q : Int) := ⟨2 ^ M, rfl, pow_le32 (by omega), wrap_pow (by omega)⟩
    rw [hQ3]
    rw [← hQ] at HE
    clear hQ3
    have HQ := Lib.hid hQ; clear hQ
    go_loopw [16] (fun i wr => ∃ k : Nat, k ≤ Q ∧ i = .int .i64 k ∧ Hid (firstBad M ws = findBad M ws k (Q - k)) ∧ Below w.heap.size w wr) (fun i _ => Q - (intOf i).toNat)
    case atStart => exact ⟨0, Nat.zero_le _, rfl, HE, below_drewN' w m⟩
    case round =>
      obtain ⟨k, hk, rfl, hf, hb⟩ := hrel
      by_cases hlt : k < Q
      · obtain ⟨wo, rfl⟩ : ∃ wo : World, wo = wr := ⟨_, rfl⟩
        go_wp2
        go_loopw [7, 21] (fun l i wr => ∃ t g' c' : Nat, t ≤ M ∧ i = .int .i64 t ∧ l = (Value.slice (some ⟨g', 0, none⟩) t c') ∧ Own wr w.heap.size g' c' (bitsOf t k) ∧ Below w.heap.size w wr) (fun _ i _ => M - (intOf i).toNat)
        case atStart => exact ⟨0, _, _, Nat.zero_le _, rfl, rfl, Own.empty hb.size, hb.alloc hb.size _⟩
        case round =>
          obtain ⟨t, g', c', ht, rfl, rfl, ho, hb2⟩ := hrel
          by_cases htl : t < M
          · have hbit := bit_at k t (by omega)
            go_wp2_with (at_builtin; refine wpList_append_int_n rfl _ _ rfl w.heap.size g' c' t (bitsOf t k) ((k : Int) / 2 ^ t % 2) (bitsOf_length _ _) ho rfl rfl (by omega) ?_)
            intro g2 c2 w2 ho2 hg2 _
            rw [← bitsOf_succ] at ho2
            clear hbit
            go_wp2
            go_roundw
            case rel => exact ⟨t + 1, g2, c2, by omega, by go_num, by go_num, ho2, hb2.grown hg2 hb2.size (by intro j hj; cases hj; exact ho.base)⟩
            case measure => simp [intOf]; omega
          · obtain rfl : t = M := by omega
            have hstep := findBad_step t ws hlt
            have HS := Lib.hid hstep; clear hstep
            go_wp2_with fail
            refine (impl_SortBy_any g' 0 _ c' g o _ c (bitsOf t k) ws _ (bitsOf_length _ _) (by rw [bitsOf_length]; omega) ho.lt ho.cells rfl hx (Nat.lt_of_lt_of_le hg hb2.size) (hc.below hb2 hg)).mono ?_
            rintro e w3 ⟨g3, c3, rfl, ho3, hb3⟩
            cases hs : sortedB (sortBy (bitsOf t k) ws)
            · have hq := slices_IsSorted_any g3 0 _ c3 _ w3 rfl (by rw [sortBy_length, bitsOf_length]; omega) ho3.cells
              rw [hs] at hq
              have Hs := Lib.hid hs; clear hs
              go_wp2_with fail
              refine hq.mono ?_
              rintro e w4 ⟨rfl, m4, rfl⟩
              go_wp2
              go_ret2
              have hf' := hf.out
              rw [HS.out, Hs.out] at hf'
              have hf2 : firstBad t ws = some k := hf'
              rw [hf2, firstUnsorted_some hf2]
              exact GotIntsB.mk' g' c' (bitsOf_length _ _) ((ho.below hb3 ho.lt).drewN m4) (below_drewN (hb2.trans (hb3.mono hb2.size)) m4)
            · have hq := slices_IsSorted_any g3 0 _ c3 _ w3 rfl (by rw [sortBy_length, bitsOf_length]; omega) ho3.cells
              rw [hs] at hq
              have Hs := Lib.hid hs; clear hs
              go_wp2_with fail
              refine hq.mono ?_
              rintro e w4 ⟨rfl, m4, rfl⟩
              go_wp2
              go_roundw
              case rel =>
                have hf' := hf.out
                rw [HS.out, Hs.out] at hf'
                exact ⟨k + 1, by omega, by go_num, hf', below_drewN (hb2.trans (hb3.mono hb2.size)) m4⟩
              case measure => simp [intOf]; omega
      · obtain rfl : k = Q := by omega
        go_wp2
        go_ret2
        have hf' := hf.out
        rw [Nat.sub_self] at hf'
        have hf2 : firstBad M ws = none := hf'
        rw [hf2, firstUnsorted_none hf2]
        exact GotIntsB.mk' _ _ rfl (Own.empty hb.size) ((hb.alloc hb.size _))
set_option maxHeartbeats 1000000 in
theorem spec_FirstUnsorted_any (N : Int) (g o n c : Nat) (ws : List Int) (w : World) (hN0 : -9223372036854775808 ≤ N ∧ N ≤ 9223372036854775807) (hn : ws.length = n) (hx : ws.length ≤ 1048576) (hg : g < w.heap.size) (hc : Cells w g o ws) :
    Calls Try.prog 8 #[.int .i64 N, (Value.slice (some ⟨g, o, none⟩) n c)] w (GotIntsB w (firstUnsorted N ws) (firstBad N ws).isSome) := by
  have hcall := spec_l33Fine_any N g o n c ws w hN0 hn (by omega) hc
  subst hn
  cases hnet : net N ws
  · rw [hnet] at hcall
    have hcall' := Lib.hid hcall; clear hcall
    have e1 : firstBad N ws = none := by unfold firstBad; rw [hnet]; rfl
    have e2 : firstUnsorted N ws = [] := by unfold firstUnsorted; rw [e1]
    rw [e1, e2]
    clear e1 e2 hnet
    go_enter Try.func8, Try.ntmps8
    go_wp2_with fail
    refine hcall'.out.mono ?_
    rintro e w' ⟨rfl, m, rfl⟩
    go_wp2
    go_ret2
    exact GotIntsB.mk' _ _ rfl (Own.empty (w := w.drewN m) (Nat.le_refl _)) ((below_drewN' w m).alloc (Nat.le_refl _) _)
  · rw [hnet] at hcall
    have hcall' := Lib.hid hcall; clear hcall
    have hN := (net_letters' hnet).1
    obtain ⟨M, rfl⟩ : ∃ M : Nat, N = (M : Int) := ⟨N.toNat, by omega⟩
    have e1 : firstBad M ws = findBad M ws 0 (2 ^ M) := by unfold firstBad; rw [hnet]; rfl
    have HE := Lib.hid e1; clear e1 hnet
    go_enter Try.func8, Try.ntmps8
    go_wp2_with fail
    refine hcall'.out.mono ?_
    rintro e w' ⟨rfl, m, rfl⟩
    obtain ⟨Q, hQ, hQ2, hQ3⟩ : ∃ Q : Nat, Q = 2 ^ M ∧ Q ≤ 32 ∧ wrap64 ((2 : Int) ^ M) = (Q : Int) := ⟨2 ^ M, rfl, pow_le32 (by omega), wrap_pow (by omega)⟩
    rw [← hQ] at HE
    go_wp2
    have HQ := Lib.hid hQ; clear hQ
    go_loopw [6] (fun i wr => ∃ k : Nat, k ≤ Q ∧ i = .int .i64 k ∧ Hid (firstBad M ws = findBad M ws k (Q - k)) ∧ Below w.heap.size w wr) (fun i _ => Q - (intOf i).toNat)
    case atStart => exact ⟨0, Nat.zero_le _, rfl, HE, below_drewN' w m⟩
    case round =>
      obtain ⟨k, hk, rfl, hf, hb⟩ := hrel
      by_cases hlt : k < Q
      · obtain ⟨wo, rfl⟩ : ∃ wo : World, wo = wr := ⟨_, rfl⟩
        go_wp2
        rw [hQ3]
        go_loopw [7, 8] (fun l i wr => ∃ t g' c' : Nat, t ≤ M ∧ i = .int .i64 t ∧ l = (Value.slice (some ⟨g', 0, none⟩) t c') ∧ Own wr w.heap.size g' c' (bitsOf t k) ∧ Below w.heap.size w wr) (fun _ i _ => M - (intOf i).toNat)
        case atStart => exact ⟨0, _, _, Nat.zero_le _, rfl, rfl, Own.empty hb.size, hb.alloc hb.size _⟩
        case round =>
          obtain ⟨t, g', c', ht, rfl, rfl, ho, hb2⟩ := hrel
          by_cases htl : t < M
          · have hbit := bit_at k t (by omega)
            go_wp2_with (at_builtin; refine wpList_append_int_n rfl _ _ rfl w.heap.size g' c' t (bitsOf t k) ((k : Int) / 2 ^ t % 2) (bitsOf_length _ _) ho rfl rfl (by omega) ?_)
            intro g2 c2 w2 ho2 hg2 _
            rw [← bitsOf_succ] at ho2
            clear hbit
            go_wp2
            go_roundw
            case rel => exact ⟨t + 1, g2, c2, by omega, by go_num, by go_num, ho2, hb2.grown hg2 hb2.size (by intro j hj; cases hj; exact ho.base)⟩
            case measure => simp [intOf]; omega
          · obtain rfl : t = M := by omega
            have hstep := findBad_step t ws hlt
            have HS := Lib.hid hstep; clear hstep
            go_wp2_with fail
            refine (spec_SortBy_any g' 0 _ c' g o _ c (bitsOf t k) ws _ (bitsOf_length _ _) (by rw [bitsOf_length]; omega) ho.lt ho.cells rfl hx (Nat.lt_of_lt_of_le hg hb2.size) (hc.below hb2 hg)).mono ?_
            rintro e w3 ⟨g3, c3, rfl, ho3, hb3⟩
            cases hs : sortedB (sortBy (bitsOf t k) ws)
            · have hq := spec_l33Sorted_any g3 0 _ c3 _ w3 rfl (by rw [sortBy_length, bitsOf_length]; omega) ho3.cells
              rw [hs] at hq
              have Hs := Lib.hid hs; clear hs
              go_wp2_with fail
              refine hq.mono ?_
              rintro e w4 ⟨rfl, m4, rfl⟩
              go_wp2
              go_ret2
              have hf' := hf.out
              rw [HS.out, Hs.out] at hf'
              have hf2 : firstBad t ws = some k := hf'
              rw [hf2, firstUnsorted_some hf2]
              exact GotIntsB.mk' g' c' (bitsOf_length _ _) ((ho.below hb3 ho.lt).drewN m4) (below_drewN (hb2.trans (hb3.mono hb2.size)) m4)
            · have hq := spec_l33Sorted_any g3 0 _ c3 _ w3 rfl (by rw [sortBy_length, bitsOf_length]; omega) ho3.cells
              rw [hs] at hq
              have Hs := Lib.hid hs; clear hs
              go_wp2_with fail
              refine hq.mono ?_
              rintro e w4 ⟨rfl, m4, rfl⟩
              go_wp2
              go_roundw
              case rel =>
                have hf' := hf.out
                rw [HS.out, Hs.out] at hf'
                exact ⟨k + 1, by omega, by go_num, hf', below_drewN (hb2.trans (hb3.mono hb2.size)) m4⟩
              case measure => simp [intOf]; omega
      · obtain rfl : k = Q := by omega
        go_wp2
        go_ret2
        have hf' := hf.out
        rw [Nat.sub_self] at hf'
        have hf2 : firstBad M ws = none := hf'
        rw [hf2, firstUnsorted_none hf2]
        exact GotIntsB.mk' _ _ rfl (Own.empty hb.size) ((hb.alloc hb.size _))

set_option maxHeartbeats 400000 in
theorem impl_IsSorter_any (N : Int) (g o n c : Nat) (ws : List Int) (w : World) (hn : ws.length = n) (hx : ws.length ≤ 1048576) (hg : g < w.heap.size) (hc : Cells w g o ws) :
    Calls Try.prog 6 #[.int .i64 N, (Value.slice (some ⟨g, o, none⟩) n c)] w (Gives w (.bool (net N ws && !(firstBad N ws).isSome))) := by
  have hcall := impl_isNetwork_any N g o n c ws w hn (by omega) hc
  subst hn
  cases hnet : net N ws
  · rw [hnet] at hcall
    have hcall' := Lib.hid hcall; clear hcall
    go_enter Try.func6, Try.ntmps6
    go_wp2_with fail
    refine hcall'.out.mono ?_
    rintro e w' ⟨rfl, m, rfl⟩
    go_wp2_with fail
    go_ret
    exact ⟨ret_bool rfl, below_drewN' _ _⟩
  · rw [hnet] at hcall
    have hcall' := Lib.hid hcall; clear hcall
    have hnet' := Lib.hid hnet; clear hnet
    go_enter Try.func6, Try.ntmps6
    go_wp2_with fail
    refine hcall'.out.mono ?_
    rintro e w' ⟨rfl, m, rfl⟩
    go_wp2_with fail
    refine (impl_FirstUnsorted_any N g o _ c ws (w.drewN m) rfl hx hg hc).mono ?_
    rintro e w2 ⟨g2, c2, rfl, ho2, hb2⟩
    go_wp2_with fail
    go_ret
    exact ⟨ret_bool (by simp), (below_drewN' w m).trans hb2⟩

set_option maxHeartbeats 400000 in
theorem spec_IsSorter_any (N : Int) (g o n c : Nat) (ws : List Int) (w : World) (hN0 : -9223372036854775808 ≤ N ∧ N ≤ 9223372036854775807) (hn : ws.length = n) (hx : ws.length ≤ 1048576) (hg : g < w.heap.size) (hc : Cells w g o ws) :
    Calls Try.prog 9 #[.int .i64 N, (Value.slice (some ⟨g, o, none⟩) n c)] w (Gives w (.bool (net N ws && !(firstBad N ws).isSome))) := by
  have hfirst := spec_FirstUnsorted_any N g o n c ws w hN0 hn hx hg hc
  subst hn
  have hfirst' := Lib.hid hfirst; clear hfirst
  cases hnet : net N ws
  · have hnet' := Lib.hid hnet; clear hnet
    go_enter Try.func9, Try.ntmps9
    go_wp2_with fail
    refine hfirst'.out.mono ?_
    rintro e w2 ⟨g2, c2, rfl, ho2, hb2⟩
    have hcall := spec_l33Fine_any N g o _ c ws w2 hN0 rfl (by omega) (hc.below hb2 hg)
    rw [hnet'.out] at hcall
    have hcall' := Lib.hid hcall; clear hcall
    go_wp2_with fail
    refine hcall'.out.mono ?_
    rintro e w3 ⟨rfl, m3, rfl⟩
    go_wp2_with fail
    go_ret
    exact ⟨ret_bool rfl, below_drewN hb2 _⟩
  · have hnet' := Lib.hid hnet; clear hnet
    go_enter Try.func9, Try.ntmps9
    go_wp2_with fail
    refine hfirst'.out.mono ?_
    rintro e w2 ⟨g2, c2, rfl, ho2, hb2⟩
    have hcall := spec_l33Fine_any N g o _ c ws w2 hN0 rfl (by omega) (hc.below hb2 hg)
    rw [hnet'.out] at hcall
    have hcall' := Lib.hid hcall; clear hcall
    go_wp2_with fail
    refine hcall'.out.mono ?_
    rintro e w3 ⟨rfl, m3, rfl⟩
    go_wp2_with fail
    go_ret
    exact ⟨ret_bool (by simp), below_drewN hb2 _⟩
end Go.Proofs.Ytjhoimdfmcjkbaa
