/- slices.DeleteFunc over a list of weights: contract. -/
import Derived.Test.YtihfbbpkgmkbcaaG40
import Derived.Deep.LoopGhost
namespace Go.Proofs.Ytihfbbpkgmkbcaa
set_option maxRecDepth 100000
open Go.RowKit Game Stb

def nzS (x : SRef) : Bool := !(x.ct == 0)
def upd (d : Nat → SRef) (i : Nat) (x : SRef) : Nat → SRef := fun k => if k = i then x else d k
theorem lst_succ {α : Type} (n : Nat) (d : Nat → α) : lst (n + 1) d = lst n d ++ [d n] := by simp [lst, List.range_succ]
theorem lst_congr {α : Type} {n : Nat} {d d' : Nat → α} (h : ∀ k, k < n → d k = d' k) : lst n d = lst n d' := by
  unfold lst
  exact List.map_congr_left fun k hk => h k (List.mem_range.1 hk)
theorem lst_nz {n : Nat} {d : Nat → SRef} (h : ∀ k, k < n → (d k).ct ≠ 0) : (lst n d).filter nzS = lst n d := by
  refine List.filter_eq_self.2 fun x hx => ?_
  obtain ⟨k, hk, rfl⟩ := List.mem_map.1 hx
  have := h k (List.mem_range.1 hk)
  simp [nzS, this]
structure Kp (d cur : Nat → SRef) (i j : Nat) : Prop where
  le : i ≤ j
  eq : lst i cur = (lst j d).filter nzS
  keep : ∀ k, j ≤ k → cur k = d k
theorem Kp.start {d : Nat → SRef} {k : Nat} (h0 : (d k).ct = 0) (h : ∀ j, j < k → (d j).ct ≠ 0) : Kp d d k (k + 1) :=
  ⟨by omega, by rw [lst_succ, List.filter_append, lst_nz h]; simp [nzS, h0], fun _ _ => rfl⟩
theorem Kp.skip {d cur : Nat → SRef} {i j : Nat} (h : Kp d cur i j) (h0 : (d j).ct = 0) : Kp d cur i (j + 1) :=
  ⟨by have := h.le; omega, by rw [lst_succ, List.filter_append, ← h.eq]; simp [nzS, h0], fun k hk => h.keep k (by omega)⟩
theorem Kp.take {d cur : Nat → SRef} {i j : Nat} (h : Kp d cur i j) (h0 : (d j).ct ≠ 0) : Kp d (upd cur i (d j)) (i + 1) (j + 1) := by
  refine ⟨by have := h.le; omega, ?_, fun k hk => ?_⟩
  · have e : lst i (upd cur i (d j)) = lst i cur := lst_congr fun k hk => by unfold upd; rw [if_neg (by omega)]
    have h1 : nzS (d j) = true := by simp [nzS, h0]
    rw [lst_succ, lst_succ, List.filter_append, ← h.eq, e, List.filter_cons_of_pos h1]
    simp [upd]
  · have := h.le
    unfold upd
    rw [if_neg (by omega)]
    exact h.keep k (by omega)
theorem fl_upd {N : Nat} (d : Nat → SRef) (i : Nat) (x : SRef) : ((fl N d).set (i * 2) x.v1).set (i * 2 + 1) x.v2 = fl N (upd d i x) := by
  apply List.ext_getElem (by simp [fl])
  intro t h1 h2
  simp only [List.getElem_set, fl, List.getElem_map, List.getElem_range]
  unfold upd
  by_cases e3 : i * 2 + 1 = t
  · subst e3
    rw [if_pos rfl, if_neg (by omega), if_pos (by omega)]
  · rw [if_neg e3]
    by_cases e4 : i * 2 = t
    · subst e4
      rw [if_pos rfl, if_pos (by omega), if_pos (by omega)]
    · rw [if_neg e4]
      have hi2 : ¬ t / 2 = i := by omega
      simp only [if_neg hi2]
theorem fl_take {N M : Nat} (d : Nat → SRef) (h : M ≤ N) : (fl N d).take (M * 2) = fl M d := by
  unfold fl
  rw [← List.map_take, List.take_range, Nat.min_eq_left (by omega)]
theorem SSt.put {w W : World} {B G cap N : Nat} {d : Nat → SRef} (h : SSt w W B G cap N d) (i : Nat) (x : SRef) (hx : Rd W G x) : SSt w ((W.setCell ⟨G, i * 2, none⟩ x.v1).setCell ⟨G, i * 2 + 1, none⟩ x.v2) B G cap N (upd d i x) := by
  have o1 := h.own.set (i * 2) x.v1
  have o2 := o1.1.set (i * 2 + 1) x.v2
  have hg := World.grownBy.trans' o1.2 o2.2
  refine ⟨?_, fun k hk => ?_, World.grownBy.trans' h.grown hg⟩
  · have := o2.1
    rw [fl_upd d i x] at this
    exact this
  · unfold upd
    split
    · exact hx.grown hg
    · exact (h.rd k hk).grown hg
/-- the end cleared, the front kept -/
theorem SSt.front {w W : World} {B G cap N M : Nat} {d : Nat → SRef} (h : SSt w W B G cap N d) (hM : M ≤ N) (vs : List Value) : SSt w (W.setCells G (M * 2) vs) B G cap M d := by
  obtain ⟨cs', h1, h2, h3⟩ := setMany_own vs W (fl N d) (M * 2) h.own
  have h4 := own_take h1 hM
  rw [h2, fl_take d hM] at h4
  exact ⟨h4, fun k hk => (h.rd k (by omega)).grown h3, World.grownBy.trans' h.grown h3⟩

def Delled (w : World) (B G cap N : Nat) (d : Nat → SRef) (e : Ending) (w' : World) : Prop := ∃ (M : Nat) (d' : Nat → SRef), e = .returned (Value.slice (some ⟨G, 0, none⟩) M cap) ∧ M ≤ N ∧ lst M d' = (lst N d).filter nzS ∧ SSt w w' B G cap M d'
set_option maxHeartbeats 1000000 in
theorem delete_wts (B G cap N : Nat) (d : Nat → SRef) (w : World) (hN : N ≤ 1048576) (S : SSt w w B G cap N d) :
    Calls Try.prog 55 #[(Value.slice (some ⟨G, 0, none⟩) N cap), .func (.func 56) #[] #[]] w (Delled w B G cap N d) := by
  have hcap := S.own.capLe
  have HI := Lib.hid (index_wts B G cap N d w hN S)
  clear S
  go_enter Try.func55, Try.ntmps55
  go_wp2_with fail
  refine HI.out.mono ?_
  rintro e w1 ⟨i0, rfl, S1, hi⟩
  clear HI
  rcases hi with ⟨rfl, hz⟩ | ⟨k0, rfl, hk0, hz0, hz1⟩
  · have HZ := Lib.hid hz
    have HS := Lib.hid S1
    clear hz S1
    go_wp2_with fail
    go_ret
    exact ⟨N, d, rfl, Nat.le_refl _, (lst_nz HZ.out).symm, HS.out⟩
  · have HK0 := Lib.hid (Kp.start hz0 hz1)
    have S0 := Lib.hid S1
    have hne : ¬ (k0 : Int) = -1 := by omega
    clear hz0 hz1 S1
    go_wp2_with fail
    go_loopg [5, 6, 7] N (fun gk iv jv _ wr => ∃ (i j : Nat) (cur : Nat → SRef), i < j ∧ j ≤ N ∧ N - j ≤ gk ∧ iv = .int .i64 i ∧ jv = .int .i64 j ∧ Hid (SSt w wr B G cap N cur) ∧ Hid (Kp d cur i j))
    case atStart => exact ⟨k0, k0 + 1, d, by omega, by omega, by omega, rfl, by go_num, S0, HK0⟩
    case round =>
      clear S0 HK0 hne
      obtain ⟨i, j, cur, hij, hj, hg, rfl, rfl, S, HK⟩ := hrel
      by_cases hlt : j < N
      · have hz : (j : Int) < (N : Int) := by omega
        obtain ⟨c1, c2⟩ := S.out.cells hlt
        obtain ⟨x, hx⟩ : ∃ x, cur j = x := ⟨_, rfl⟩
        have HX := Lib.hid hx
        rw [hx] at c1 c2
        have v1 : x.v1 = (Value.slice (some ⟨x.g, x.o, none⟩) x.n x.c) := rfl
        have v2 : x.v2 = .int .i64 x.ct := rfl
        rw [v1] at c1; rw [v2] at c2
        clear hx v1 v2
        have HC := Lib.hid (fun W => zero_wt (.agg #[(Value.slice (some ⟨x.g, x.o, none⟩) x.n x.c), .int .i64 x.ct]) x W rfl)
        have HRd : Hid (Rd wr G x) := by rw [← HX.out]; exact S.out.rd j hlt
        have HX2 : Hid (d j = x) := by rw [← HX.out]; exact (HK.out.keep j (Nat.le_refl _)).symm
        have hgr : ∀ o q os', Below wr.heap.size wr (Go.Sort.grow ((wr.alloc o).drewN q) os') := fun o q os' => ((Below.refl _ _).alloc (Nat.le_refl _) _).trans ((below_grow2 q os').mono (by simp))
        have HG := Lib.hid hgr
        clear hgr
        by_cases h0 : x.ct = 0
        · have H0 := Lib.hid h0
          have HK2 := Lib.hid (HK.out.skip (by rw [HX2.out]; exact h0))
          clear h0 HK
          go_wp2_with fail
          refine (HC.out _).mono ?_
          rintro e w2 ⟨rfl, q, os', rfl⟩
          have hb : (x.ct == 0) = true := by rw [H0.out]; rfl
          have S2 := Lib.hid (S.out.step (HG.out (.cells #[(Value.slice (some ⟨x.g, x.o, none⟩) x.n x.c), .int .i64 x.ct] 48) q os'))
          rw [hb]
          clear hb c1 c2 HC S HG HRd
          go_wp2_with fail
          go_roundg (N - (j + 1))
          case measure => omega
          case rel => exact ⟨i, j + 1, cur, by omega, by omega, Nat.le_refl _, rfl, by go_num, S2, HK2⟩
        · have H0 := Lib.hid h0
          have HK2 := Lib.hid (HK.out.take (by rw [HX2.out]; exact h0))
          rw [HX2.out] at HK2
          clear h0 HK
          go_wp2_with fail
          refine (HC.out _).mono ?_
          rintro e w2 ⟨rfl, q, os', rfl⟩
          have hb : (x.ct == 0) = false := by rw [beq_eq_false_iff_ne]; exact H0.out
          have hbw := HG.out (.cells #[(Value.slice (some ⟨x.g, x.o, none⟩) x.n x.c), .int .i64 x.ct] 48) q os'
          have S2 := S.out.step hbw
          have hrd2 := HRd.out.grown (w' := Go.Sort.grow ((wr.alloc (.cells #[(Value.slice (some ⟨x.g, x.o, none⟩) x.n x.c), .int .i64 x.ct] 48)).drewN q) os') ⟨hbw.os, hbw.tape, hbw.output, hbw.size, fun k hk _ => hbw.block k hk⟩
          have b1 : (Go.Sort.grow ((wr.alloc (.cells #[(Value.slice (some ⟨x.g, x.o, none⟩) x.n x.c), .int .i64 x.ct] 48)).drewN q) os').cell? ⟨wr.heap.size, 0, none⟩ = some (Value.slice (some ⟨x.g, x.o, none⟩) x.n x.c) := by
            rw [Go.Sort.cell?_grow _ _ _ (by simp)]
            simp [World.cell?_alloc_new]
          have b2 : (Go.Sort.grow ((wr.alloc (.cells #[(Value.slice (some ⟨x.g, x.o, none⟩) x.n x.c), .int .i64 x.ct] 48)).drewN q) os').cell? ⟨wr.heap.size, 1, none⟩ = some (.int .i64 x.ct) := by
            rw [Go.Sort.cell?_grow _ _ _ (by simp)]
            simp [World.cell?_alloc_new]
          rw [hb]
          clear hb c1 c2 HC S HG HRd hbw
          generalize Go.Sort.grow ((wr.alloc (.cells #[(Value.slice (some ⟨x.g, x.o, none⟩) x.n x.c), .int .i64 x.ct] 48)).drewN q) os' = w2 at *
          generalize wr.heap.size = bb at *
          have hiN : i < N := by omega
          obtain ⟨c1, c2⟩ := S2.cells hiN
          have f1 := S2.own.frozen (i * 2)
          have f2 := S2.own.frozen (i * 2 + 1)
          have HS := Lib.hid (S2.put i x hrd2)
          have v1 : ∀ x : SRef, x.v1 = (Value.slice (some ⟨x.g, x.o, none⟩) x.n x.c) := fun _ => rfl
          have v2 : ∀ x : SRef, x.v2 = .int .i64 x.ct := fun _ => rfl
          simp only [v1, v2] at c1 c2 HS
          generalize cur i = y at c1 c2
          clear v1 v2 S2 hrd2
          have hiz : (i : Int) < (N : Int) := by omega
          go_wp2_with fail
          go_roundg (N - (j + 1))
          case measure => omega
          case rel => exact ⟨i + 1, j + 1, _, by omega, by omega, Nat.le_refl _, by go_num, by go_num, HS, HK2⟩
      · have hz : ¬ (j : Int) < (N : Int) := by omega
        obtain rfl : N = j := by omega
        have hc : ∀ t, t < (N - i) * 2 → (wr.cell? ⟨G, i * 2 + t, none⟩).isSome = true := fun t ht => by rw [S.out.own.cell _ (by rw [fl_length]; omega)]; rfl
        obtain ⟨vs, hrun⟩ := run_clear_wts wr 0 G (i * 2) (N - i) (cap - i) hc (fun t _ => S.out.own.frozen _)
        have HS := Lib.hid (S.out.front (M := i) (by omega) vs)
        clear hc S
        go_wp2_with fail
        go_ret
        exact ⟨i, cur, rfl, by omega, HK.out.eq, HS.out⟩
end Go.Proofs.Ytihfbbpkgmkbcaa
