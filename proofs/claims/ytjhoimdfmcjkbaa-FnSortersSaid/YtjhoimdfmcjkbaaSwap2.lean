/- SwapWord: contracts. -/
import Derived.Test.YtjhoimdfmcjkbaaSwap
namespace Go.Proofs.Ytjhoimdfmcjkbaa
set_option maxRecDepth 100000
open Go.RowKit

def lenOfV2 : Value → Nat | .slice _ n _ => n | _ => 0
theorem swapWord_yes {p : List Int} {r : Nat} (hp : permB p = true) (hr : Run p r) (hd : descent (runSwap p r).1 = none) : swapWord p = (runSwap p r).2 := by
  have h5 : p.length ≤ 5 := by
    unfold permB at hp
    rw [Bool.and_eq_true, decide_eq_true_eq] at hp
    exact hp.1.2
  unfold swapWord
  rw [if_pos hp, runSwap_end hd (by have := hr.bound h5; omega)]
theorem swapWord_no {p : List Int} (hp : permB p = false) : swapWord p = [] := by unfold swapWord; rw [if_neg (by rw [hp]; simp)]
theorem permB_len {p : List Int} (hp : permB p = true) : 1 ≤ p.length ∧ p.length ≤ 5 := by
  unfold permB at hp
  rw [Bool.and_eq_true, decide_eq_true_eq] at hp
  exact hp.1

theorem wpList_append_int_b {w : World} {ops : Array Oper} {rest : List Oper} {o : Oper} {a : Act} {Q : Exit → Act → World → Prop} (hgd : o.guard = none) (s x : Operand)
    (ho : o.op = .call { callee := .builtin .append, args := #[s, x], argTypes := #[24, 24] })
    (B g cap n : Nat) (xs : List Int) (z : Int) (hn : xs.length = n) (hown : Own w B g cap xs) (hs : a.eval s = (Value.slice (some ⟨g, 0, none⟩) n cap)) (b : Nat) (hx : a.eval x = (Value.slice (some ⟨b, 0, none⟩) 1 1)) (hb : w.heap.size = b) (hlen : n + 1 ≤ 1099511627776)
    (h : ∀ g' cap' w', Own w' B g' cap' (xs ++ [z]) → w.grownBy w' (some g) → (g' = g ∨ b < g') → wpList Try.prog ops Q rest (a.put o.dst (Value.slice (some ⟨g', 0, none⟩) (n + 1) cap')) w') :
    wpList Try.prog ops Q (o :: rest) a (w.alloc (.cells #[.int .i64 z] 3)) := by
  subst hb
  exact wpList_append_int_n hgd s x ho B g cap n xs z hn hown hs hx hlen h
theorem nodup_lt {l : List Int} (h : l.Nodup) {k : Nat} (hk : k + 1 < l.length) (hd : ¬ l[k]'(by omega) < l[k + 1]) : l[k + 1] < l[k]'(by omega) := by
  have hne : l[k]'(by omega) ≠ l[k + 1] := by
    have := (List.pairwise_iff_getElem.1 h) k (k + 1) (by omega) hk (by omega)
    exact this
  omega
theorem sortStep_desc {l : List Int} {k : Nat} (hk : k + 1 < l.length) (hd : l[k + 1] < l[k]'(by omega)) : sortStep l (k : Int) = swapAt l k := by
  have h0 : k < l.length := by omega
  unfold sortStep
  rw [if_pos ⟨by omega, by omega, by simpa [List.getD, hk, h0] using hd⟩]
  rfl
theorem swapAt_eq2 (xs : List Int) (k : Nat) (h : k + 1 < xs.length) : (xs.set k xs[k + 1]).set (k + 1) (xs[k]'(by omega)) = swapAt xs k := by
  have h0 : k < xs.length := by omega
  simp [swapAt, List.getD, h, h0]
theorem meas_step {r k n : Nat} (hr : r ≤ 10) (_hk : k < n) : (10 - r) * (n + 1) + n < (11 - r) * (n + 1) + (n - k) := by
  have e : 11 - r = (10 - r) + 1 := by omega
  rw [e, Nat.succ_mul]
  omega

set_option maxHeartbeats 1000000 in
theorem impl_SwapWord_any (g o n c : Nat) (p : List Int) (w : World) (hn : p.length = n) (hx : p.length ≤ 1048576) (hg : g < w.heap.size) (hc : Cells w g o p) :
    Calls Try.prog 16 #[(Value.slice (some ⟨g, o, none⟩) n c)] w (GotIntsB w (swapWord p) (permB p)) := by
  have hcall := impl_isPermutation_any g o n c p w hn (by omega) hg hc
  subst hn
  cases hperm : permB p
  · rw [hperm] at hcall
    have Hcall := Lib.hid hcall; clear hcall
    rw [swapWord_no hperm]
    clear hperm
    go_enter Try.func16, Try.ntmps16
    go_wp2_with fail
    refine Hcall.out.mono ?_
    rintro e w1 ⟨rfl, hb⟩
    go_wp2
    go_ret2
    exact GotIntsB.mk' _ _ rfl (Own.empty hb.size) (hb.alloc hb.size _)
  · rw [hperm] at hcall
    have Hcall := Lib.hid hcall; clear hcall
    have hlen := permB_len hperm
    have Hperm := Lib.hid hperm; clear hperm
    go_enter Try.func16, Try.ntmps16
    go_wp2_with fail
    refine Hcall.out.mono ?_
    rintro e w1 ⟨rfl, hb⟩
    go_wp2_with (at_builtin; refine wpList_clone rfl _ _ rfl g o _ c p rfl (Nat.lt_of_lt_of_le hg hb.size) (hc.below hb hg) rfl rfl (by omega) ?_)
    intro gl cl w2 hol hb2
    have hb12 := hb.trans (hb2.mono hb.size)
    have hol' := hol.mono hb.size
    have hne0 : gl < w2.heap.size := hol.lt
    go_wp2
    go_loopw [5, 6] (fun v i wr => ∃ r k g' c' : Nat, k < p.length ∧ i = .int .i64 k ∧ v = (Value.slice (some ⟨g', 0, none⟩) r c') ∧ Own wr w.heap.size gl cl (runSwap p r).1 ∧ Own wr w.heap.size g' c' (runSwap p r).2 ∧ gl ≠ g' ∧ Run p r ∧ Below w.heap.size w wr ∧ Hid (∀ j, j < k → (runSwap p r).1.getD j 0 ≤ (runSwap p r).1.getD (j + 1) 0)) (fun v i _ => (11 - lenOfV2 v) * (p.length + 1) + (p.length - (intOf i).toNat))
    case atStart => exact ⟨0, 0, _, _, by omega, rfl, rfl, hol'.alloc _, Own.empty hb12.size, by omega, Run.zero p, hb12.alloc hb12.size _, fun j h => absurd h (by omega)⟩
    case round =>
      obtain ⟨r, k, g', c', hk, rfl, rfl, ho1, ho2, hne, hrun, hb3, hs⟩ := hrel
      have hrl := hrun.length
      have hr10 := hrun.bound hlen.2
      obtain ⟨l, hl⟩ : ∃ l, (runSwap p r).1 = l := ⟨_, rfl⟩
      rw [hl] at ho1 hs hrl
      have Hl := Lib.hid hl; clear hl
      have Hrl := Lib.hid hrl; clear hrl
      by_cases hlt : k + 1 < p.length
      · have l1 : k + 1 < l.length := by rw [Hrl.out]; exact hlt
        have l0 : k < l.length := by omega
        have q0 := ho1.cell k l0
        have q1 := ho1.cell (k + 1) l1
        have f0 := ho1.frozen k
        have f1 := ho1.frozen (k + 1)
        have i1 : ((k : Int) + 1).toNat = k + 1 := by omega
        have i2 : (0 : Int) ≤ (k : Int) + 1 := by omega
        have i3 : IntKind.i64.wrap ((k : Int) + 1) = (k : Int) + 1 := IntWalk.i64_in _ (by omega)
        by_cases hd : l[k + 1] < l[k]
        · have d1 : decide (l[k] ≤ l[k + 1]) = false := by simp; omega
          go_wp2
          go_quiet (fail)
          go_wp2
          have hsw := (ho1.drewN (nq + 1)).set2 k (k + 1) l[k + 1] l[k]
          have ho2' := (ho2.drewN (nq + 1)).grown hsw.2 (by intro e; cases e; omega)
          have hrs := hrun.succ (i := k) (by rw [Hl.out]; exact l1) (by simpa only [Hl.out] using hd) (by rw [Hl.out]; exact hs.out)
          rw [Hl.out] at hrs
          rw [swapAt_eq2 l k l1] at hsw
          have Hsw := Lib.hid hsw; have Ho2' := Lib.hid ho2'; have Hrs := Lib.hid hrs
          clear hsw ho2' hrs
          go_region
          all_goals
            go_wp2_with (at_builtin; refine wpList_append_int_b rfl _ _ rfl w.heap.size g' c' r (runSwap p r).2 (k : Int) hrun.len Ho2'.out rfl wr.heap.size rfl (by simp) (by omega) ?_)
            intro g3 c3 w3 ho3 hg3 hor
            go_wp2
            go_roundw
            case rel =>
              have hor' : gl ≠ g3 := by
                rcases hor with h | h
                · omega
                · have := ho1.lt; omega
              refine ⟨r + 1, 0, g3, c3, by omega, rfl, rfl, ?_, ?_, hor', Hrs.out.1, ?_, fun j h => absurd h (by omega)⟩
              · rw [Hrs.out.2]; exact Hsw.out.1.grown hg3 (by intro e; cases e; omega)
              · rw [Hrs.out.2]; exact ho3
              · have hb4 := ((below_drewN hb3 (nq + 1)).grown Hsw.out.2 hb3.size (by intro j hj; cases hj; exact ho1.base))
                exact hb4.grown hg3 hb4.size (by intro j hj; cases hj; exact ho2.base)
            case measure => simp [intOf, lenOfV2]; exact meas_step hr10 hk
        · have d1 : decide (l[k] ≤ l[k + 1]) = true := by simp; omega
          go_wp2
          go_quiet (fail)
          go_wp2
          go_roundw
          case rel => exact ⟨r, k + 1, g', c', by omega, by go_num, rfl, by rw [Hl.out]; exact ho1.drewN nq, ho2.drewN nq, hne, hrun, below_drewN hb3 nq, by rw [Hl.out]; exact fun j hj => if e : j = k then by subst e; simp [List.getD, l0, l1]; omega else hs.out j (by omega)⟩
          case measure => simp [intOf, lenOfV2]; omega
      · obtain rfl : k = p.length - 1 := by omega
        go_wp2
        go_ret2
        have hd : descent (runSwap p r).1 = none := descent_none (by rw [Hl.out]; intro j hj; rw [Hrl.out] at hj; exact hs.out j (by omega))
        rw [swapWord_yes Hperm.out hrun hd]
        exact GotIntsB.mk' g' c' hrun.len ho2 hb3

set_option maxHeartbeats 1000000 in
theorem spec_SwapWord_any (g o n c : Nat) (p : List Int) (w : World) (hn : p.length = n) (hx : p.length ≤ 1048576) (hcap : n ≤ c) (hg : g < w.heap.size) (hc : Cells w g o p) :
    Calls Try.prog 17 #[(Value.slice (some ⟨g, o, none⟩) n c)] w (GotIntsB w (swapWord p) (permB p)) := by
  have hcall := spec_l33Permutation_any g o n c p w hn (by omega) hcap hc
  subst hn
  cases hperm : permB p
  · rw [hperm] at hcall
    have Hcall := Lib.hid hcall; clear hcall
    rw [swapWord_no hperm]
    clear hperm
    go_enter Try.func17, Try.ntmps17
    go_wp2_with fail
    refine Hcall.out.mono ?_
    rintro e w1 ⟨rfl, m, rfl⟩
    go_wp2
    go_ret2
    exact GotIntsB.mk' _ _ rfl (Own.empty (w := w.drewN m) (Nat.le_refl _)) ((below_drewN' w m).alloc (Nat.le_refl _) _)
  · rw [hperm] at hcall
    have Hcall := Lib.hid hcall; clear hcall
    have hlen := permB_len hperm
    have hnd := permB_nodup hperm
    have Hnd := Lib.hid hnd; clear hnd
    have Hperm := Lib.hid hperm; clear hperm
    go_enter Try.func17, Try.ntmps17
    go_wp2_with fail
    refine Hcall.out.mono ?_
    rintro e w1 ⟨rfl, m, rfl⟩
    go_wp2_with (at_builtin; refine wpList_clone rfl _ _ rfl g o _ c p rfl hg hc rfl rfl (by omega) ?_)
    intro gl cl w2 hol hb2
    have hb12 : Below w.heap.size w w2 := (below_drewN' w m).trans hb2
    have hol' : Own w2 w.heap.size gl cl p := hol
    have hne0 : gl < w2.heap.size := hol.lt
    go_wp2
    go_loopw [4, 5, 6] (fun x v i wr => ∃ r gl cl g' c' : Nat, i = .int .i64 r ∧ x = (Value.slice (some ⟨gl, 0, none⟩) p.length cl) ∧ v = (Value.slice (some ⟨g', 0, none⟩) r c') ∧ Own wr w.heap.size gl cl (runSwap p r).1 ∧ Own wr w.heap.size g' c' (runSwap p r).2 ∧ gl ≠ g' ∧ Run p r ∧ Below w.heap.size w wr) (fun _ v _ _ => 11 - lenOfV2 v)
    case atStart => exact ⟨0, gl, cl, _, _, rfl, rfl, rfl, hol'.alloc _, Own.empty hb12.size, by omega, Run.zero p, hb12.alloc hb12.size _⟩
    case round =>
      obtain ⟨r, gl', cl', g', c', rfl, rfl, rfl, ho1, ho2, hne, hrun, hb3⟩ := hrel
      have hrl := hrun.length
      have hr10 := hrun.bound hlen.2
      have hnd' : (runSwap p r).1.Nodup := (hrun.perm.nodup_iff).2 Hnd.out
      obtain ⟨l, hl⟩ : ∃ l, (runSwap p r).1 = l := ⟨_, rfl⟩
      rw [hl] at ho1 hrl hnd'
      have Hl := Lib.hid hl; clear hl
      have Hrl := Lib.hid hrl; clear hrl
      have Hnd' := Lib.hid hnd'; clear hnd'
      obtain ⟨wo, hwo⟩ : ∃ wo : World, wo = wr := ⟨_, rfl⟩
      subst hwo
      go_wp2
      go_loopw [7] (fun i wr => ∃ k : Nat, k < p.length ∧ i = .int .i64 k ∧ Hid (∀ j, j < k → l.getD j 0 < l.getD (j + 1) 0) ∧ ∃ m, wr = wo.drewN m) (fun i _ => p.length - (intOf i).toNat)
      case atStart => exact ⟨0, by omega, rfl, fun j h => absurd h (by omega), 0, rfl⟩
      case round =>
        obtain ⟨k, hk, rfl, hs, m2, rfl⟩ := hrel
        have e0 : IntKind.i64.wrap ((p.length : Int) - 1) = (p.length : Int) - 1 := IntWalk.i64_in _ (by omega)
        by_cases hlt : k + 1 < p.length
        · have l1 : k + 1 < l.length := by rw [Hrl.out]; exact hlt
          have l0 : k < l.length := by omega
          have q0 := ho1.cell k l0
          have q1 := ho1.cell (k + 1) l1
          have i1 : ((k : Int) + 1).toNat = k + 1 := by omega
          have i2 : (0 : Int) ≤ (k : Int) + 1 := by omega
          have i3 : IntKind.i64.wrap ((k : Int) + 1) = (k : Int) + 1 := IntWalk.i64_in _ (by omega)
          have d0 : decide ((k : Int) < (p.length : Int) - 1) = true := by simp; omega
          by_cases hd : l[k] < l[k + 1]
          · have d1 : decide (l[k] < l[k + 1]) = true := by simpa using hd
            go_wp2
            go_quiet (fail)
            go_wp2
            go_roundw
            case rel => exact ⟨k + 1, by omega, by go_num, fun j hj => if e : j = k then by subst e; simp [List.getD, l0, l1]; omega else hs.out j (by omega), (by first | exact ⟨_, rfl⟩ | exact ⟨0, rfl⟩ | exact still2 _ _ _ | exact still3 _ _ _ _)⟩
            case measure => simp [intOf]; omega
          · have d1 : decide (l[k] < l[k + 1]) = false := by simpa using hd
            have hd2 : l[k + 1] < l[k] := nodup_lt Hnd'.out l1 hd
            have hrs := hrun.succ (i := k) (by rw [Hl.out]; exact l1) (by simpa only [Hl.out] using hd2) (by rw [Hl.out]; exact fun j hj => Int.le_of_lt (hs.out j hj))
            rw [Hl.out] at hrs
            have hst := sortStep_desc l1 hd2
            have Hst := Lib.hid hst; clear hst
            have Hrs := Lib.hid hrs
            clear hrs hd2
            go_wp2
            go_quiet (fail)
            go_wp2_with fail
            refine (spec_SortStep_any gl' 0 _ cl' l (k : Int) (wo.drewN (m2 + nq)) Hrl.out (by rw [Hrl.out]; exact hx) ho1.lt (ho1.drewN (m2 + nq)).cells).mono ?_
            rintro e w3 ⟨g3, c3, rfl, ho3, hb4⟩
            rw [sortStep_length, Hrl.out]
            rw [Hst.out] at ho3
            have ho2' : Own w3 w.heap.size g' c' (runSwap p r).2 := (ho2.drewN (m2 + nq)).below hb4 ho2.lt
            have hb5 : Below w.heap.size w w3 := hb3.trans ((below_drewN' wo (m2 + nq)).trans (hb4.mono hb3.size))
            have hg3 : g' < g3 := by have := ho3.base; have := ho2.lt; simp at *; omega
            have hl3 := ho3.lt
            go_wp2_with (at_builtin; refine wpList_append_int_b rfl _ _ rfl w.heap.size g' c' r (runSwap p r).2 (k : Int) hrun.len ho2' rfl w3.heap.size rfl (by simp) (by omega) ?_)
            intro g5 c5 w5 ho5 hg5 hor
            go_wp2
            go_roundw
            case rel =>
              refine ⟨r + 1, g3, c3, g5, c5, by go_num, rfl, rfl, ?_, ?_, by omega, Hrs.out.1, ?_⟩
              · rw [Hrs.out.2]; exact (ho3.mono hb3.size).grown hg5 (by intro e; cases e; omega)
              · rw [Hrs.out.2]; exact ho5
              · exact hb5.grown hg5 hb5.size (by intro j hj; cases hj; exact ho2.base)
            case measure => simp [lenOfV2]; omega
        · obtain rfl : k = p.length - 1 := by omega
          have d0 : decide (((p.length - 1 : Nat) : Int) < (p.length : Int) - 1) = false := by simp; omega
          go_wp2
          go_quiet (fail)
          go_wp2
          go_ret2
          have hd : descent (runSwap p r).1 = none := descent_none (by rw [Hl.out]; intro j hj; rw [Hrl.out] at hj; exact Int.le_of_lt (hs.out j (by omega)))
          rw [swapWord_yes Hperm.out hrun hd]
          exact GotIntsB.mk' g' c' hrun.len (ho2.drewN (m2 + nq)) (below_drewN hb3 (m2 + nq))
theorem runSwap_len (p : List Int) (r : Nat) : (runSwap p r).2.length ≤ r := by
  induction r with
  | zero => simp [runSwap]
  | succ r ih =>
    simp only [runSwap]
    split
    · omega
    · simp; omega
theorem swapWord_len (p : List Int) : (swapWord p).length ≤ 16 := by
  unfold swapWord
  split
  · exact runSwap_len p 16
  · simp
end Go.Proofs.Ytjhoimdfmcjkbaa
