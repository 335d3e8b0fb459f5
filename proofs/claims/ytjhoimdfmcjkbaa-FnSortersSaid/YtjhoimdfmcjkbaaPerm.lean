/- PermutationOf, the program's and the reference's: contracts. -/
import Derived.Test.YtjhoimdfmcjkbaaNet
import Derived.Test.YtjhoimdfmcjkbaaSort
namespace Go.Proofs.Ytjhoimdfmcjkbaa
set_option maxRecDepth 100000
open Go.RowKit

def iota (n : Nat) : List Int := marks 0 n
theorem iota_length (n : Nat) : (iota n).length = n := marks_length _ _
theorem iota_succ (n : Nat) : iota (n + 1) = iota n ++ [(n : Int)] := by unfold iota; rw [marks_succ]; simp
/-- the letters from place k on, beginning with the last one, exchange -/
def permFrom (n : Nat) (ws : List Int) (k : Nat) : List Int := (ws.drop k).foldr (fun i p => swapAt p i.toNat) (iota n)
def permOf (N : Int) (ws : List Int) : List Int := if net N ws then permFrom N.toNat ws 0 else []
theorem permFrom_length (n : Nat) (ws : List Int) (k : Nat) : (permFrom n ws k).length = n := by
  unfold permFrom
  generalize ws.drop k = l
  induction l with
  | nil => exact iota_length n
  | cons a l ih => rw [List.foldr_cons, swapAt_length, ih]
theorem permFrom_end (n : Nat) (ws : List Int) : permFrom n ws ws.length = iota n := by simp [permFrom]
theorem permFrom_step (n : Nat) (ws : List Int) (k : Nat) (hk : k < ws.length) : permFrom n ws k = swapAt (permFrom n ws (k + 1)) (ws[k]).toNat := by
  unfold permFrom
  have e : ws.drop k = ws[k] :: ws.drop (k + 1) := List.drop_eq_getElem_cons hk
  rw [e]; rfl
theorem net_letters {N : Int} {ws : List Int} (h : net N ws = true) : (1 ≤ N ∧ N ≤ 5 ∧ ws.length ≤ 15) ∧ ∀ j (hj : j < ws.length), 0 ≤ ws[j] ∧ ws[j] ≤ N - 2 := by
  unfold net at h
  rw [decide_eq_true_eq] at h
  exact ⟨⟨h.1, h.2.1, h.2.2.1⟩, fun j hj => h.2.2.2 _ (List.getElem_mem hj)⟩
theorem permOf_length_le (N : Int) (ws : List Int) : (permOf N ws).length ≤ 5 := by
  unfold permOf
  split
  · rename_i h
    have := (net_letters h).1
    rw [permFrom_length]; omega
  · simp

theorem swapAt_eq {xs : List Int} (k : Nat) (h : k + 1 < xs.length) : (xs.set k xs[k + 1]).set (k + 1) (xs[k]'(by omega)) = swapAt xs k := by
  have h0 : k < xs.length := by omega
  simp [swapAt, List.getD, h, h0]

set_option maxHeartbeats 1000000 in
theorem impl_PermutationOf_any (N : Int) (g o n c : Nat) (ws : List Int) (w : World) (hn : ws.length = n) (hx : ws.length ≤ 1099511627776) (hg : g < w.heap.size) (hc : Cells w g o ws) :
    Calls Try.prog 18 #[.int .i64 N, (Value.slice (some ⟨g, o, none⟩) n c)] w (GotIntsB w (permOf N ws) (net N ws)) := by
  have hcall := impl_isNetwork_any N g o n c ws w hn hx hc
  subst hn
  cases hnet : net N ws
  · rw [hnet] at hcall
    have hcall' := Lib.hid hcall; clear hcall
    have hnet' := Lib.hid hnet; clear hnet
    go_enter Try.func18, Try.ntmps18
    go_wp2_with fail
    refine hcall'.out.mono ?_
    rintro e w' ⟨rfl, m, rfl⟩
    go_wp2
    go_ret2
    have e : permOf N ws = [] := by unfold permOf; rw [hnet'.out]; rfl
    rw [e]
    exact GotIntsB.mk' _ _ rfl (Own.empty (w := w.drewN m) (Nat.le_refl _)) ((below_drewN' w m).alloc (Nat.le_refl _) _)
  · rw [hnet] at hcall
    have hcall' := Lib.hid hcall; clear hcall
    obtain ⟨⟨hN1, hN2, hw15⟩, hlet⟩ := net_letters hnet
    have hnet' := Lib.hid hnet; clear hnet
    have Hlet := Lib.hid hlet; clear hlet
    obtain ⟨M, rfl⟩ : ∃ M : Nat, N = (M : Int) := ⟨N.toNat, by omega⟩
    go_enter Try.func18, Try.ntmps18
    go_wp2_with fail
    refine hcall'.out.mono ?_
    rintro e w' ⟨rfl, m, rfl⟩
    go_wp2
    go_loopw [6, 17] (fun p i wr => ∃ k g' c' : Nat, k ≤ M ∧ i = .int .i64 k ∧ p = (Value.slice (some ⟨g', 0, none⟩) k c') ∧ Own wr w.heap.size g' c' (iota k) ∧ Below w.heap.size w wr) (fun _ i _ => M - (intOf i).toNat)
    case atStart => exact ⟨0, _, _, Nat.zero_le _, rfl, rfl, Own.empty (w := w.drewN m) (Nat.le_refl _), (below_drewN' w m).alloc (Nat.le_refl _) _⟩
    case round =>
      obtain ⟨k, g', c', hk, rfl, rfl, ho, hb⟩ := hrel
      by_cases hlt : k < M
      · go_wp2_with (at_builtin; refine wpList_append_int_n rfl _ _ rfl w.heap.size g' c' k (iota k) (k : Int) (iota_length k) ho rfl rfl (by omega) ?_)
        intro g2 c2 w2 ho2 hg2 _
        rw [← iota_succ] at ho2
        go_wp2
        go_roundw
        case rel => exact ⟨k + 1, g2, c2, by omega, by go_num, by go_num, ho2, hb.grown hg2 hb.size (by intro j hj; cases hj; exact ho.base)⟩
        case measure => simp [intOf]; omega
      · obtain rfl : k = M := by omega
        have e0 : IntKind.i64.wrap ((ws.length : Int) - 1) = (ws.length : Int) - 1 := IntWalk.i64_in _ (by omega)
        go_wp2
        go_loopw [8] (fun i wr => ∃ t : Nat, t ≤ ws.length ∧ i = .int .i64 ((t : Int) - 1) ∧ Own wr w.heap.size g' c' (permFrom k ws t) ∧ Below w.heap.size w wr) (fun i _ => (intOf i + 1).toNat)
        case atStart => exact ⟨ws.length, Nat.le_refl _, rfl, by rw [permFrom_end]; exact ho, hb⟩
        case round =>
          obtain ⟨t, ht, rfl, ho3, hb3⟩ := hrel
          by_cases ht0 : 0 < t
          · obtain ⟨t, rfl⟩ : ∃ t', t = t' + 1 := ⟨t - 1, by omega⟩
            have htl : t < ws.length := by omega
            have h1 := hc.below hb3 hg t htl
            have hl := Hlet.out t htl
            obtain ⟨L, hL⟩ : ∃ L : Nat, ws[t] = (L : Int) := ⟨(ws[t]).toNat, by omega⟩
            have h1' : ws.getD t 0 = (L : Int) := by simp [List.getD, htl, hL]
            rw [h1'] at h1
            clear h1'
            rw [hL] at hl
            have hstep := permFrom_step k ws t htl
            rw [hL, Int.toNat_natCast] at hstep
            have Hstep := Lib.hid hstep; clear hstep
            have HL := Lib.hid hL; clear hL
            have i1 : ((t : Int) + 1 - 1) = (t : Int) := by omega
            have l1 : L < (permFrom k ws (t + 1)).length := by rw [permFrom_length]; omega
            have l2 : L + 1 < (permFrom k ws (t + 1)).length := by rw [permFrom_length]; omega
            have c1 := ho3.cell L l1
            have c2 := ho3.cell (L + 1) l2
            have hne : g < g' := by have := ho3.base; omega
            have f1 := ho3.frozen L
            have f2 := ho3.frozen (L + 1)
            go_wp2
            go_region
            all_goals go_wp2
            all_goals
              go_roundw
              case rel =>
                have hs := ho3.set2 L (L + 1) ((permFrom k ws (t + 1))[L + 1]) ((permFrom k ws (t + 1))[L])
                rw [swapAt_eq _ l2, ← Hstep.out] at hs
                exact ⟨t, by omega, rfl, by first | exact hs.1.drew | exact hs.1, by first | exact (hb3.grown hs.2 hb3.size (by intro j hj; cases hj; exact ho3.base)).drew | exact hb3.grown hs.2 hb3.size (by intro j hj; cases hj; exact ho3.base)⟩
              case measure => simp [intOf]; try omega
          · obtain rfl : t = 0 := by omega
            go_wp2
            go_ret2
            have e : permOf (k : Int) ws = permFrom k ws 0 := by unfold permOf; rw [hnet'.out]; rfl
            rw [e]
            exact GotIntsB.mk' g' c' (permFrom_length _ _ _) ho3 hb3
set_option maxHeartbeats 1000000 in
theorem spec_PermutationOf_any (N : Int) (g o n c : Nat) (ws : List Int) (w : World) (hN : -9223372036854775808 ≤ N ∧ N ≤ 9223372036854775807) (hn : ws.length = n) (hx : ws.length ≤ 1099511627776) (hg : g < w.heap.size) (hc : Cells w g o ws) :
    Calls Try.prog 24 #[.int .i64 N, (Value.slice (some ⟨g, o, none⟩) n c)] w (GotIntsB w (permOf N ws) (net N ws)) := by
  have hcall := spec_l33Fine_any N g o n c ws w hN hn hx hc
  subst hn
  cases hnet : net N ws
  · rw [hnet] at hcall
    have hcall' := Lib.hid hcall; clear hcall
    have hnet' := Lib.hid hnet; clear hnet
    go_enter Try.func24, Try.ntmps24
    go_wp2_with fail
    refine hcall'.out.mono ?_
    rintro e w' ⟨rfl, m, rfl⟩
    go_wp2
    go_ret2
    have e : permOf N ws = [] := by unfold permOf; rw [hnet'.out]; rfl
    rw [e]
    exact GotIntsB.mk' _ _ rfl (Own.empty (w := w.drewN m) (Nat.le_refl _)) ((below_drewN' w m).alloc (Nat.le_refl _) _)
  · rw [hnet] at hcall
    have hcall' := Lib.hid hcall; clear hcall
    obtain ⟨⟨hN1, hN2, hw15⟩, hlet⟩ := net_letters hnet
    have hnet' := Lib.hid hnet; clear hnet
    have Hlet := Lib.hid hlet; clear hlet
    obtain ⟨M, rfl⟩ : ∃ M : Nat, N = (M : Int) := ⟨N.toNat, by omega⟩
    go_enter Try.func24, Try.ntmps24
    go_wp2_with fail
    refine hcall'.out.mono ?_
    rintro e w' ⟨rfl, m, rfl⟩
    go_wp2
    go_loopw [6, 7] (fun p i wr => ∃ k g' c' : Nat, k ≤ M ∧ i = .int .i64 k ∧ p = (Value.slice (some ⟨g', 0, none⟩) k c') ∧ Own wr w.heap.size g' c' (iota k) ∧ Below w.heap.size w wr) (fun _ i _ => M - (intOf i).toNat)
    case atStart => exact ⟨0, _, _, Nat.zero_le _, rfl, rfl, Own.empty (w := w.drewN m) (Nat.le_refl _), (below_drewN' w m).alloc (Nat.le_refl _) _⟩
    case round =>
      obtain ⟨k, g', c', hk, rfl, rfl, ho, hb⟩ := hrel
      by_cases hlt : k < M
      · go_wp2_with (at_builtin; refine wpList_append_int_n rfl _ _ rfl w.heap.size g' c' k (iota k) (k : Int) (iota_length k) ho rfl rfl (by omega) ?_)
        intro g2 c2 w2 ho2 hg2 _
        rw [← iota_succ] at ho2
        go_wp2
        go_roundw
        case rel => exact ⟨k + 1, g2, c2, by omega, by go_num, by go_num, ho2, hb.grown hg2 hb.size (by intro j hj; cases hj; exact ho.base)⟩
        case measure => simp [intOf]; omega
      · obtain rfl : k = M := by omega
        have e0 : IntKind.i64.wrap ((ws.length : Int) - 1) = (ws.length : Int) - 1 := IntWalk.i64_in _ (by omega)
        go_wp2
        go_loopw [8] (fun i wr => ∃ t : Nat, t ≤ ws.length ∧ i = .int .i64 ((t : Int) - 1) ∧ Own wr w.heap.size g' c' (permFrom k ws t) ∧ Below w.heap.size w wr) (fun i _ => (intOf i + 1).toNat)
        case atStart => exact ⟨ws.length, Nat.le_refl _, rfl, by rw [permFrom_end]; exact ho, hb⟩
        case round =>
          obtain ⟨t, ht, rfl, ho3, hb3⟩ := hrel
          by_cases ht0 : 0 < t
          · obtain ⟨t, rfl⟩ : ∃ t', t = t' + 1 := ⟨t - 1, by omega⟩
            have htl : t < ws.length := by omega
            have h1 := hc.below hb3 hg t htl
            have hl := Hlet.out t htl
            obtain ⟨L, hL⟩ : ∃ L : Nat, ws[t] = (L : Int) := ⟨(ws[t]).toNat, by omega⟩
            have h1' : ws.getD t 0 = (L : Int) := by simp [List.getD, htl, hL]
            rw [h1'] at h1
            clear h1'
            rw [hL] at hl
            have hstep := permFrom_step k ws t htl
            rw [hL, Int.toNat_natCast] at hstep
            have Hstep := Lib.hid hstep; clear hstep
            have HL := Lib.hid hL; clear hL
            have i1 : ((t : Int) + 1 - 1) = (t : Int) := by omega
            have l1 : L < (permFrom k ws (t + 1)).length := by rw [permFrom_length]; omega
            have l2 : L + 1 < (permFrom k ws (t + 1)).length := by rw [permFrom_length]; omega
            have c1 := ho3.cell L l1
            have c2 := ho3.cell (L + 1) l2
            have hne : g < g' := by have := ho3.base; omega
            have f1 := ho3.frozen L
            have f2 := ho3.frozen (L + 1)
            go_wp2
            go_region
            all_goals go_wp2
            all_goals
              go_roundw
              case rel =>
                have hs := ho3.set2 L (L + 1) ((permFrom k ws (t + 1))[L + 1]) ((permFrom k ws (t + 1))[L])
                rw [swapAt_eq _ l2, ← Hstep.out] at hs
                exact ⟨t, by omega, rfl, by first | exact hs.1.drew | exact hs.1, by first | exact (hb3.grown hs.2 hb3.size (by intro j hj; cases hj; exact ho3.base)).drew | exact hb3.grown hs.2 hb3.size (by intro j hj; cases hj; exact ho3.base)⟩
              case measure => simp [intOf]; try omega
          · obtain rfl : t = 0 := by omega
            go_wp2
            go_ret2
            have e : permOf (k : Int) ws = permFrom k ws 0 := by unfold permOf; rw [hnet'.out]; rfl
            rw [e]
            exact GotIntsB.mk' g' c' (permFrom_length _ _ _) ho3 hb3
end Go.Proofs.Ytjhoimdfmcjkbaa
