/- The reference's levels of elements: contract. -/
import Derived.Test.YtldcmhgpppeooaaGreatDoorG33
namespace Go.Proofs.YtldcmhgpppeooaaGreatDoor
set_option maxRecDepth 100000
open Go.RowKit Game

theorem infoLev : (Tryz.prog.info? 24).map (fun i => (i.zero, i.size, i.bytes)) = some (some (.slice none 0 0), 1, 24) := by kernel_rfl

theorem run_append_lev {w : World} {B g cap : Nat} {vs : List Value} (hown : OwnV w B 24 g cap vs) (v : Value) (hv : v.oneCell' = true) (hlen : vs.length + 1 ≤ 1048576) (ty : TypeId) :
    ∃ g' cap' w', (Builtin.append_ #[64, 64] ty #[(Value.slice (some ⟨g, 0, none⟩) vs.length cap), (Value.slice (some ⟨w.heap.size, 0, none⟩) 1 1)]).run Tryz.prog (w.alloc (.cells #[v] 24)) = .ok (Value.slice (some ⟨g', 0, none⟩) (vs.length + 1) cap') w' ∧
      OwnV w' B 24 g' cap' (vs ++ [v]) ∧ w.grownBy w' (some g) ∧ (g' = g ∨ w.heap.size < g') := by
  obtain ⟨i0, hi, hz0, hz1, hz2⟩ := info_parts infoLev
  have hBg := hown.base
  have hlt := hown.lt
  have hown' : OwnV (w.alloc (.cells #[v] 24)) B 24 g cap vs := hown.alloc _
  have hcell : (w.alloc (.cells #[v] 24)).cell? ⟨w.heap.size, 0, none⟩ = some v := (OwnV.new (B := w.heap.size) v hv (Nat.le_refl _)).cell 0 (by simp)
  have hnews : ∀ j u, ([v] : List Value)[j]? = some u → (w.alloc (.cells #[v] 24)).cell? ((⟨w.heap.size, 0, none⟩ : Addr).add j) = some u := by
    intro j u hu
    have hj : j = 0 := by have := (List.getElem?_eq_some_iff.1 hu).1; simp at this; exact this
    subst hj
    simp at hu; subst hu
    rw [Addr.add_lit]; exact hcell
  have h1 : ∀ u ∈ ([v] : List Value), u.oneCell' = true := by simp [hv]
  have hl : ([v] : List Value).length = 1 * i0.size := by simp [hz1]
  obtain ⟨v', w', hr, ho, hg, -⟩ := run_append_own (P := Tryz.prog) (w.alloc (.cells #[v] 24)) B 64 ty 24 i0 (.slice none 0 0) 1 24 Tryz.underlying64 hi hz0 hz1 hz2 rfl (by decide) _ vs.length _ hown' ⟨w.heap.size, 0, none⟩ 1 1
    [v] (by simp) hnews h1 (by unfold maxLen; omega) (by omega) (by simp; omega)
  have hgr : w.grownBy w' (some g) := ⟨hg.os, hg.tape, hg.output, Nat.le_trans (by simp) hg.size, fun k hk hne => (hg.block k (by simp; omega) hne).trans (Below.heap_alloc _ _ _ hk)⟩
  have fin : ∀ g' cap', v' = (Value.slice (some ⟨g', 0, none⟩) (vs.length + 1) cap') → (g' = g ∨ w.heap.size < g') → ∃ g' cap' w', (Builtin.append_ #[64, 64] ty #[(Value.slice (some ⟨g, 0, none⟩) vs.length cap), (Value.slice (some ⟨w.heap.size, 0, none⟩) 1 1)]).run Tryz.prog (w.alloc (.cells #[v] 24)) = .ok (Value.slice (some ⟨g', 0, none⟩) (vs.length + 1) cap') w' ∧
      OwnV w' B 24 g' cap' (vs ++ [v]) ∧ w.grownBy w' (some g) ∧ (g' = g ∨ w.heap.size < g') := by
    intro g' cap' hv' hor
    subst hv'
    refine ⟨g', cap', w', hr, ?_, hgr, hor⟩
    unfold OwnV
    rw [List.length_append]
    exact ho
  by_cases hroom : vs.length + 1 ≤ cap
  · rcases hown'.2 with ⟨h', _⟩ | ⟨g1, cap1, cur, hv', hb, hh, hn, hm, hs, htk⟩
    · simp at h'
    simp only [Value.slice.injEq, Option.some.injEq, Addr.mk.injEq, and_true, true_and] at hv'
    obtain ⟨rfl, rfl⟩ := hv'
    have hr2 := run_append_room (P := Tryz.prog) (w.alloc (.cells #[v] 24)) 64 ty 24 i0 Tryz.underlying64 hi g vs.length cap cur hh ⟨w.heap.size, 0, none⟩ 1 1 [v] hl hnews h1 hroom (by rw [hz1] at *; simp; omega)
    rw [hr2] at hr
    simp only [Result.ok.injEq] at hr
    exact fin g cap hr.1.symm (.inl rfl)
  · have hr2 := run_append_grow (P := Tryz.prog) (w.alloc (.cells #[v] 24)) 64 ty 24 i0 (.slice none 0 0) Tryz.underlying64 hi hz0 ⟨g, 0, none⟩ vs.length cap vs (by simp [hz1]) (World.ownsRow.cells hown' rfl) ⟨w.heap.size, 0, none⟩ 1 1 _ hl hnews (by omega) (by omega) (growslice_fits (by omega) (by rw [hz2]; omega))
    rw [hr2] at hr
    simp only [Result.ok.injEq] at hr
    exact fin _ _ hr.1.symm (.inr (by simp))

/-- a list of lists of rows, of the call's own -/
abbrev LevRef := Nat × Nat × List RowRef
def levVal (L : LevRef) : Value := (Value.slice (some ⟨L.1, 0, none⟩) L.2.2.length L.2.1)
def OwnLevs (w : World) (B g cap : Nat) (Ls : List LevRef) : Prop := OwnV w B 24 g cap (Ls.map levVal) ∧ ∀ L ∈ Ls, OwnRows w B L.1 L.2.1 L.2.2
def levCont (Ls : List LevRef) : List (List (List Int)) := Ls.map fun L => contents L.2.2
section
variable {w w' : World} {B g cap : Nat} {Ls : List LevRef}
theorem OwnLevs.lt (h : OwnLevs w B g cap Ls) : g < w.heap.size := h.1.lt
theorem OwnLevs.below (h : OwnLevs w B g cap Ls) (hb : Below w.heap.size w w') : OwnLevs w' B g cap Ls := ⟨h.1.below hb h.1.lt, fun L hL => (h.2 L hL).below hb⟩
theorem OwnLevs.mono {B' : Nat} (h : OwnLevs w B g cap Ls) (hB : B' ≤ B) : OwnLevs w B' g cap Ls := ⟨h.1.mono hB, fun L hL => (h.2 L hL).mono hB⟩
theorem OwnRows.grownT {g' cap' : Nat} {rs : List RowRef} {vs : List Value} {E : TypeId} (h : OwnRows w B g cap rs) (ho : OwnV w B E g' cap' vs) (h1 : E ≠ 27) (h2 : E ≠ 3) (hg : w.grownBy w' (some g')) : OwnRows w' B g cap rs :=
  ⟨h.1.grown hg (fun e => ho.ne h.1 h1 (Option.some.inj e).symm), fun r hr => (h.2.1 r hr).grown hg (fun e => ho.ne (h.2.1 r hr).toV h2 (Option.some.inj e).symm), h.2.2⟩
theorem wpList_append_lev {ops : Array Oper} {rest : List Oper} {o : Oper} {a : Act} {Q : Exit → Act → World → Prop} (hgd : o.guard = none) (s x : Operand)
    (ho : o.op = .call { callee := .builtin .append, args := #[s, x], argTypes := #[64, 64] })
    (B g cap n H : Nat) (Ls : List LevRef) (L : LevRef) (W : World) (hn : Ls.length = n) (hW : W = w.alloc (.cells #[levVal L] 24)) (hH : w.heap.size = H) (hown : OwnLevs w B g cap Ls) (hr : OwnRows w B L.1 L.2.1 L.2.2)
    (hs : a.eval s = (Value.slice (some ⟨g, 0, none⟩) n cap)) (hx : a.eval x = (Value.slice (some ⟨H, 0, none⟩) 1 1)) (hlen : n + 1 ≤ 1048576)
    (h : ∀ g' cap' w', OwnLevs w' B g' cap' (Ls ++ [L]) → w.grownBy w' (some g) → (g' = g ∨ w.heap.size < g') → wpList Tryz.prog ops Q rest (a.put o.dst (Value.slice (some ⟨g', 0, none⟩) (n + 1) cap')) w') :
    wpList Tryz.prog ops Q (o :: rest) a W := by
  subst hn; subst hW; subst hH
  have hl : (Ls.map levVal).length = Ls.length := by simp
  obtain ⟨g', cap', w', hrun, h2, h3, h4⟩ := run_append_lev hown.1 (levVal L) rfl (by rw [hl]; exact hlen) o.type
  rw [hl] at hrun
  refine wpList_plain hgd fun K hK => ?_
  unfold Oper.wp execOp
  simp only [ho, resolve, invoke, builtin, Sem.run_bind, Sem.run_pure, Result.andThen_ok, List.map_toArray, List.map_cons, List.map_nil, hs, hx, hrun]
  refine hK _ _ (h g' cap' w' ⟨by rw [List.map_append]; exact h2, fun M hM => ?_⟩ h3 h4)
  rcases List.mem_append.1 hM with hm | hm
  · exact (hown.2 M hm).grownT hown.1 (by decide) (by decide) h3
  · rw [List.mem_singleton] at hm; subst hm
    exact hr.grownT hown.1 (by decide) (by decide) h3
end

/-- how many elements up to this length -/
def tot (c : List (List Int)) : Nat → Nat
  | 0 => 1
  | n + 1 => tot c n + (levS c (n + 1)).length
/-- the last length that is told of -/
def depthG (c : List (List Int)) : Nat → Nat → Nat
  | 0, n => n
  | f + 1, n => if levS c (n + 1) = [] ∨ 200 < tot c (n + 1) then n else depthG c f (n + 1)
def levsTo (c : List (List Int)) (m : Nat) : List (List (List Int)) := (List.range (m + 1)).map (levS c)
theorem levsTo_succ (c : List (List Int)) (m : Nat) : levsTo c (m + 1) = levsTo c m ++ [levS c (m + 1)] := by unfold levsTo; rw [List.range_succ, List.map_append]; rfl
theorem levsTo_length (c : List (List Int)) (m : Nat) : (levsTo c m).length = m + 1 := by simp [levsTo]
theorem levsTo_getD (c : List (List Int)) (m k : Nat) (hk : k ≤ m) : (levsTo c m).getD k [] = levS c k := by simp [levsTo, List.getD, show k < m + 1 by omega]
theorem stepL_len (c : List (List Int)) (n : Nat) (W : List Int) (nx : List (List Int)) (i : Nat) : (stepL c n W nx i).length ≤ nx.length + 1 := by
  have hp : ∀ (l : List (List Int)) (w : List Int), (putL l w).length ≤ l.length + 1 := by
    intro l w
    induction l with
    | nil => simp [putL]
    | cons x l ih => simp only [putL]; split; · simp
                     split; · simp
                     simp; omega
  unfold stepL; split
  · exact hp _ _
  · omega
theorem rowTo_len (c : List (List Int)) (n : Nat) (W : List Int) (nx : List (List Int)) : ∀ k, (rowTo c n W nx k).length ≤ nx.length + k
  | 0 => by simp [rowTo]
  | k + 1 => by rw [rowTo_succ]; have := stepL_len c n W (rowTo c n W nx k) k; have := rowTo_len c n W nx k; omega
theorem nextTo_len (c : List (List Int)) (hc : c.length ≤ 4) (n : Nat) (prev : List (List Int)) : ∀ k, k ≤ prev.length → (nextTo c n prev k).length ≤ 4 * k
  | 0, _ => by simp [nextTo]
  | k + 1, hk => by
    rw [nextTo_succ _ _ _ _ (by omega)]
    have h1 := rowTo_len c n (prev.getD k []) (nextTo c n prev k) c.length
    have h2 := nextTo_len c hc n prev k (by omega)
    omega
theorem tot_le (c : List (List Int)) (n : Nat) : (levS c n).length ≤ tot c n := by
  cases n with
  | zero => simp [levS, tot]
  | succ n => simp only [tot]; omega
/-- what a word of a level is, and its products from behind -/
theorem lev_row {c : List (List Int)} (hC : IsC c) {n t : Nat} (hn : n ≤ 28) (ht : t < (levS c n).length) :
    ((levS c n).getD t []).length = n ∧ (∀ k, k < ((levS c n).getD t []).length → 0 ≤ ((levS c n).getD t []).getD k 0 ∧ ((levS c n).getD t []).getD k 0 < c.length) ∧
    ∀ i, i < c.length → normG c 30 (actW c ((levS c n).getD t [] ++ [(i : Int)]) (onesL c.length)) = some (nfI c ((levS c n).getD t [] ++ [(i : Int)])) ∧ (nfI c ((levS c n).getD t [] ++ [(i : Int)])).length ≤ n + 1 := by
  obtain ⟨W, hW, hWe⟩ := ((levS_ok hC n (by omega)).2 ((levS c n).getD t [])).1 (by simp [List.getD, ht])
  rw [hWe]
  refine ⟨by rw [intsOf_length]; exact hW.len, fun k hk => ?_, fun i hi => ?_⟩
  · rw [intsOf_length] at hk
    rw [intsOf_getD _ _ hk]
    have := hW.nf.lt (W.getD k 0) (by simp [List.getD, hk])
    omega
  · have hlt : ∀ j ∈ W ++ [i], j < c.length := by
      intro j hj
      rcases List.mem_append.1 hj with h | h
      · exact hW.nf.lt j h
      · simp at h; subst h; exact hi
    obtain ⟨X, hX⟩ := nf_of hC hlt (by have := hW.len; simp; omega)
    have e : intsOf W ++ [(i : Int)] = intsOf (W ++ [i]) := by rw [intsOf_append]; rfl
    rw [e, nfI_of hX, intsOf_length]
    exact ⟨hX.norm, by have := hX.len; have := hW.len; simp at *; omega⟩
theorem rows_len {c : List (List Int)} {n k i : Nat} {W : List Int} {prev : List (List Int)} (hk : k ≤ prev.length) : ∀ x ∈ rowTo c n W (nextTo c n prev k) i, x.length = n := by
  intro x hx
  rcases (mem_rowTo i).1 hx with h | ⟨_, _, _, h⟩
  · obtain ⟨_, _, _, _, _, h⟩ := (mem_nextTo k hk).1 h
    exact h
  · exact h
theorem getD_len {l : List (List Int)} {n : Nat} (h : ∀ x ∈ l, x.length = n) (hn : n ≤ 1048576) : ∀ j, j < l.length → (l.getD j []).length ≤ 1048576 := by
  intro j hj
  have : l.getD j [] ∈ l := by simp [List.getD, hj]
  rw [h _ this]; exact hn
theorem letters_push {W : List Int} {m i : Nat} (h : ∀ k, k < W.length → 0 ≤ W.getD k 0 ∧ W.getD k 0 < m) (hi : i < m) : ∀ k, k < (W ++ [(i : Int)]).length → 0 ≤ (W ++ [(i : Int)]).getD k 0 ∧ (W ++ [(i : Int)]).getD k 0 < m := by
  intro k hk
  simp at hk
  by_cases e : k < W.length
  · have := h k e
    simp only [List.getD, List.getElem?_append_left e]
    exact this
  · obtain rfl : k = W.length := by omega
    simp [List.getD]; omega

def GotLevs (w : World) (L : List (List (List Int))) (e : Ending) (w' : World) : Prop :=
  ∃ g cap Ls, e = .returned (Value.slice (some ⟨g, 0, none⟩) L.length cap) ∧ levCont Ls = L ∧ OwnLevs w' w.heap.size g cap Ls ∧ Below w.heap.size w w'
theorem GotLevs.mk' {w w' : World} {L : List (List (List Int))} {n : Nat} (g cap : Nat) (Ls : List LevRef) (hl : Ls.length = n) (hc : levCont Ls = L) (ho : OwnLevs w' w.heap.size g cap Ls) (hb : Below w.heap.size w w') :
    GotLevs w L (.returned (Value.slice (some ⟨g, 0, none⟩) n cap)) w' := by
  subst hl; subst hc
  exact ⟨g, cap, Ls, by simp [levCont], rfl, ho, hb⟩

theorem start_levs (w : World) : OwnLevs (((w.alloc (.cells #[] 3)).alloc (.cells #[(Value.slice (some ⟨w.heap.size, 0, none⟩) 0 0)] 27)).alloc (.cells #[(Value.slice (some ⟨(w.heap.size + 1), 0, none⟩) 1 1)] 24)) w.heap.size (w.heap.size + 2) 1 [(w.heap.size + 1, 1, [(w.heap.size, 0, [])])] := by
  have h1 : Own (w.alloc (.cells #[] 3)) w.heap.size w.heap.size 0 [] := Own.empty (w := w) (Nat.le_refl _)
  have h2 : OwnV ((w.alloc (.cells #[] 3)).alloc (.cells #[(Value.slice (some ⟨w.heap.size, 0, none⟩) 0 0)] 27)) w.heap.size 27 (w.heap.size + 1) 1 [(Value.slice (some ⟨w.heap.size, 0, none⟩) 0 0)] := by
    have := OwnV.new (w := w.alloc (.cells #[] 3)) (B := w.heap.size) (E := 27) (Value.slice (some ⟨w.heap.size, 0, none⟩) 0 0) rfl (by simp)
    simpa using this
  have h3 : OwnV (((w.alloc (.cells #[] 3)).alloc (.cells #[(Value.slice (some ⟨w.heap.size, 0, none⟩) 0 0)] 27)).alloc (.cells #[(Value.slice (some ⟨(w.heap.size + 1), 0, none⟩) 1 1)] 24)) w.heap.size 24 (w.heap.size + 2) 1 [(Value.slice (some ⟨(w.heap.size + 1), 0, none⟩) 1 1)] := by
    have := OwnV.new (w := (w.alloc (.cells #[] 3)).alloc (.cells #[(Value.slice (some ⟨w.heap.size, 0, none⟩) 0 0)] 27)) (B := w.heap.size) (E := 24) (Value.slice (some ⟨(w.heap.size + 1), 0, none⟩) 1 1) rfl (by simp; omega)
    simpa using this
  refine ⟨h3, fun L hL => ?_⟩
  rw [List.mem_singleton] at hL
  subst hL
  exact ⟨h2.alloc _, ⟨fun r hr => by rw [List.mem_singleton] at hr; subst hr; exact (h1.alloc _).alloc _, by simp⟩⟩
theorem depth_stop {c : List (List Int)} {most t : Nat} (ht15 : t ≤ 15) (htm : t ≤ most) (h : ¬ (t + 1 ≤ most ∧ t + 1 ≤ 15)) (hd : depthG c (min most 15 - t) t = depthG c (min most 15) 0) : t = depthG c (min most 15) 0 := by
  have e : min most 15 - t = 0 := by omega
  rw [e] at hd
  exact hd
theorem depth_end {c : List (List Int)} {most t : Nat} (h : t + 1 ≤ most ∧ t + 1 ≤ 15) (hz : levS c (t + 1) = [] ∨ 200 < tot c (t + 1)) (hd : depthG c (min most 15 - t) t = depthG c (min most 15) 0) : t = depthG c (min most 15) 0 := by
  have e : min most 15 - t = (min most 15 - (t + 1)) + 1 := by omega
  rw [e] at hd
  simp only [depthG] at hd
  rwa [if_pos hz] at hd
theorem depth_go {c : List (List Int)} {most t : Nat} (h : t + 1 ≤ most ∧ t + 1 ≤ 15) (hz : ¬ (levS c (t + 1) = [] ∨ 200 < tot c (t + 1))) (hd : depthG c (min most 15 - t) t = depthG c (min most 15) 0) : depthG c (min most 15 - (t + 1)) (t + 1) = depthG c (min most 15) 0 := by
  have e : min most 15 - t = (min most 15 - (t + 1)) + 1 := by omega
  rw [e] at hd
  simp only [depthG] at hd
  rwa [if_neg hz] at hd

set_option maxHeartbeats 8000000 in
set_option maxRecDepth 100000 in
theorem spec_l31Levels_any (gc oc n cc most : Nat) (c : List (List Int)) (w : World) (hn : c.length = n) (hC : IsC c) (hgc : gc < w.heap.size) (hr : Rows2 w gc oc c) :
    Calls Tryz.prog 59 #[(Value.slice (some ⟨gc, oc, none⟩) n cc), .int .i64 most] w (GotLevs w (levsTo c (depthG c (min most 15) 0))) := by
  subst hn
  have hn4 := hC.2.1
  go_enter Tryz.func59, Tryz.ntmps59
  go_wp2
  go_loopw [5, 6, 7, 8, 9, 10, 11] (fun ov tv nv _ _ _ _ wr => ∃ (t g' c' : Nat) (Ls : List LevRef), t ≤ 15 ∧ t ≤ most ∧ nv = .int .i64 ((t + 1 : Nat) : Int) ∧ tv = .int .i64 ((tot c t : Nat) : Int) ∧ tot c t ≤ 200 ∧ ov = (Value.slice (some ⟨g', 0, none⟩) (t + 1) c') ∧ Hid (levCont Ls = levsTo c t) ∧ Hid (depthG c (min most 15 - t) t = depthG c (min most 15) 0) ∧ OwnLevs wr w.heap.size g' c' Ls ∧ Below w.heap.size w wr) (fun _ _ nv _ _ _ _ _ => 17 - (intOf nv).toNat)
  case atStart =>
    exact ⟨0, w.heap.size + 2, 1, [(w.heap.size + 1, 1, [(w.heap.size, 0, [])])], by omega, by omega, rfl, rfl, by simp [tot], rfl, rfl, rfl, start_levs w, (by repeat (first | with_reducible exact Below.refl _ _ | with_reducible assumption | with_reducible refine below_drewN ?_ _ | with_reducible refine Below.drew ?_ | (with_reducible refine Below.alloc ?_ ?_ _; rotate_left; · first | (simp; done) | (simp; omega) | exact Below.size (by assumption) | (have hsz := Below.size (by assumption : Below _ _ _); simp at hsz ⊢; omega)) | (with_reducible refine Below.setCell ?_ ?_ _; rotate_left; · first | (simp; done) | (simp; omega))))⟩
  case round =>
    obtain ⟨t, g', c', Ls, ht15, htm, rfl, rfl, htot, rfl, hLs, hdep, hO, hb⟩ := hrel
    have hLl : Ls.length = t + 1 := by have := congrArg List.length hLs.out; rw [levsTo_length] at this; simpa [levCont] using this
    by_cases hgo : t + 1 ≤ most ∧ t + 1 ≤ 15
    · obtain ⟨hg1, hg2⟩ := hgo
      have hcl : contents Ls[t].2.2 = levS c t := by
        have h1 := congrArg (fun l => l.getD t []) hLs.out
        simp only [levsTo_getD c t t (Nat.le_refl _)] at h1
        rw [← h1]; simp [levCont, List.getD, hLl]
      have hLo := hO.2 Ls[t] (List.getElem_mem _)
      have hq : wr.cell? ⟨g', t, none⟩ = some (levVal Ls[t]) := by
        rw [hO.1.cell t (by simp [hLl])]; simp
      generalize Ls[t] = LL at *
      obtain ⟨gL, cL, rL⟩ := LL
      have hrl : rL.length = (levS c t).length := by rw [← hcl]; simp [contents]
      have hpl : (levS c t).length ≤ 200 := Nat.le_trans (tot_le c t) htot
      obtain ⟨pl, hple⟩ : ∃ pl, (levS c t).length = pl := ⟨_, rfl⟩
      have hq' : wr.cell? ⟨g', t, none⟩ = some (Value.slice (some ⟨gL, 0, none⟩) pl cL) := by rw [hq]; unfold levVal; simp only [hrl, hple]
      rw [hple] at hrl hpl
      have Hrl := Lib.hid hrl; have Hple := Lib.hid hple; have Hcl := Lib.hid hcl; have HLl := Lib.hid hLl
      have hLo' : OwnRows wr w.heap.size gL cL rL := hLo
      clear hrl hple hcl hLl hq hLo
      have hgO := hO.lt
      obtain ⟨wo, rfl⟩ : ∃ wo : World, wo = wr := ⟨_, rfl⟩
      go_wp2
      go_loopw [8, 9, 10, 11] (fun nx kv _ _ wi => ∃ (k gN cN m : Nat) (rs : List RowRef), k ≤ pl ∧ kv = .int .i64 k ∧ nx = (Value.slice (some ⟨gN, 0, none⟩) m cN) ∧ Hid (rs.length = m) ∧ Hid (contents rs = nextTo c (t + 1) (levS c t) k) ∧ OwnRows wi w.heap.size gN cN rs ∧ Below wo.heap.size wo wi) (fun _ kv _ _ _ => pl - (intOf kv).toNat)
      case atStart =>
        exact ⟨0, wo.heap.size, 0, 0, [], Nat.zero_le _, rfl, rfl, rfl, rfl, OwnRows.empty hb.size, (Below.refl _ _).alloc (Nat.le_refl _) _⟩
      case round =>
        obtain ⟨k, gN, cN, m, rs, hk, rfl, rfl, hm, hcont, hR, hbi⟩ := hrel
        have q1 := (hbi.cell (p := ⟨g', t, none⟩) hgO).trans hq'
        by_cases hlt : k < pl
        · have hlr := lev_row hC (n := t) (t := k) (by omega) (by rw [Hple.out]; exact hlt)
          have hkr : k < rL.length := by rw [Hrl.out]; exact hlt
          have hcr : rL[k].2.2 = (levS c t).getD k [] := by rw [← Hcl.out]; simp [contents, List.getD, hkr]
          have hRo := hLo'.2.1 rL[k] (List.getElem_mem _)
          have hqk : wo.cell? ⟨gL, k, none⟩ = some (rowVal rL[k]) := by rw [hLo'.1.cell k (by simpa using hkr)]; simp
          have hns := nextTo_succ c (t + 1) (levS c t) k (by rw [Hple.out]; exact hlt)
          generalize rL[k] = RR at *
          obtain ⟨gW, cW, W⟩ := RR
          simp only at hcr hRo
          rw [← hcr] at hlr hns
          obtain ⟨hWl, hWin, hWn⟩ := hlr
          have hqk' : wo.cell? ⟨gL, k, none⟩ = some (Value.slice (some ⟨gW, 0, none⟩) t cW) := by rw [hqk]; unfold rowVal; simp only [hWl]
          have HWl := Lib.hid hWl; have HWin := Lib.hid hWin; have HWn := Lib.hid hWn; have Hns := Lib.hid hns
          have hgLl := hLo'.lt
          clear hqk hcr hWl hWin hWn hns
          go_wp2
          go_loopw [8, 10, 11] (fun nx iv _ wj => ∃ (i gN cN m : Nat) (rs : List RowRef), i ≤ c.length ∧ iv = .int .i64 i ∧ nx = (Value.slice (some ⟨gN, 0, none⟩) m cN) ∧ Hid (rs.length = m) ∧ Hid (contents rs = rowTo c (t + 1) W (nextTo c (t + 1) (levS c t) k) i) ∧ OwnRows wj w.heap.size gN cN rs ∧ Below wo.heap.size wo wj) (fun _ iv _ _ => c.length - (intOf iv).toNat)
          case atStart =>
            exact ⟨0, gN, cN, m, rs, Nat.zero_le _, rfl, rfl, hm, hcont, hR, hbi⟩
          case round =>
            clear hR hbi hm hcont q1
            obtain ⟨i, gN, cN, m, rs, hi, rfl, rfl, hm, hcont, hR, hbj⟩ := hrel
            by_cases hil : i < c.length
            · have q1 := (hbj.cell (p := ⟨g', t, none⟩) hgO).trans hq'
              have q2 := (hbj.cell (p := ⟨gL, k, none⟩) hgLl).trans hqk'
              have hBj := hb.trans (hbj.mono hb.size)
              have hWo := hRo.below hbj hRo.lt
              obtain ⟨hnorm, hXl⟩ := HWn.out i hil
              have hin2 := letters_push HWin.out hil
              have hrs := rowTo_succ c (t + 1) W (nextTo c (t + 1) (levS c t) k) i
              have hrows := getD_len (rows_len (c := c) (n := t + 1) (k := k) (i := i) (W := W) (prev := levS c t) (by rw [Hple.out]; omega)) (by omega)
              rw [← hcont.out] at hrows
              have Hrows := Lib.hid hrows; clear hrows
              have hml : m ≤ 1000 := by
                have h1 : rs.length = (contents rs).length := by simp [contents]
                have h2 := rowTo_len c (t + 1) W (nextTo c (t + 1) (levS c t) k) i
                have h3 := nextTo_len c hn4 (t + 1) (levS c t) k (by rw [Hple.out]; omega)
                rw [hcont.out] at h1
                have := hm.out
                omega
              unfold stepL at hrs
              generalize nfI c (W ++ [(i : Int)]) = X at *
              have Hnorm := Lib.hid hnorm; have Hin2 := Lib.hid hin2; have Hrs := Lib.hid hrs
              clear hnorm hin2 hrs
              obtain ⟨xl, hxl⟩ : ∃ xl, X.length = xl := ⟨_, rfl⟩
              rw [hxl] at hXl
              have Hxl := Lib.hid hxl; clear hxl
              obtain ⟨wk, hwk⟩ : ∃ wk, wk = wr.alloc (.cells #[.int .i64 (i : Int)] 3) := ⟨_, rfl⟩
              have hbk : Below wr.heap.size wr wk := by rw [hwk]; exact (Below.refl _ _).alloc (Nat.le_refl _) _
              have hok : Own wk wr.heap.size wr.heap.size 1 [(i : Int)] := by rw [hwk]; exact Own.new _ (Nat.le_refl _)
              have hcall := spec_ConcatWords_any gW 0 t cW wr.heap.size 0 1 1 W [(i : Int)] wk HWl.out rfl (by rw [HWl.out]; omega) (by simp) (Nat.lt_of_lt_of_le hWo.lt hbk.size) hok.lt (hWo.cells.below hbk hWo.lt) hok.cells
              rw [hwk] at hcall
              have Hcall := Lib.hid hcall; clear hcall
              go_wp2_with fail
              refine Hcall.out.mono ?_
              rintro e w2 ⟨g2, c2, rfl, ho2, hb2⟩
              have hl2 : (W ++ [(i : Int)]).length = t + 1 := by simp [HWl.out]
              rw [hl2]
              have Hl2 := Lib.hid hl2
              rw [← hwk] at hb2 ho2
              have hb2' : Below wr.heap.size wr w2 := hbk.trans (hb2.mono hbk.size)
              have hB2 : Below w.heap.size w w2 := hBj.trans (hb2'.mono hBj.size)
              clear hl2 hwk hbk hok hb2 Hcall
              go_wp2_with fail
              refine (spec_l8Normal_any gc oc _ cc g2 0 (t + 1) c2 c (W ++ [(i : Int)]) X w2 rfl Hl2.out hC (by rw [Hl2.out]; omega) Hin2.out Hnorm.out (Nat.lt_of_lt_of_le hgc hB2.size) ho2.lt (hr.below hB2 hgc) ho2.cells).mono ?_
              rintro e w3 ⟨g3, c3, rfl, ho3, hb3⟩
              rw [Hxl.out]
              have hb3' : Below wr.heap.size wr w3 := hb2'.trans (hb3.mono hb2'.size)
              have hR3 := hR.below hb3'
              have hbo3 : Below wo.heap.size wo w3 := hbj.trans (hb3'.mono hbj.size)
              have hox3 : Own w3 w.heap.size g3 c3 X := ho3.mono (by have := hB2.size; omega)
              clear hb3 hb2' hB2 ho2 hR hbj hBj hWo q1 q2 ho3
              by_cases hxt : xl = t + 1
              · subst hxt
                by_cases hmem : X ∈ contents rs
                · have hcall := spec_l7In_any gN 0 m cN g3 0 (t + 1) c3 (contents rs) X w3 (by rw [contents_length]; exact hm.out) Hxl.out (by rw [contents_length, hm.out]; omega) Hrows.out hR3.rows2 hox3.cells
                  rw [decide_eq_true hmem] at hcall
                  have Hcall := Lib.hid hcall; have Hmem := Lib.hid hmem
                  clear hcall hmem
                  go_wp2_with fail
                  refine Hcall.out.mono ?_
                  rintro e w4 ⟨rfl, hs4⟩
                  have hbo4 := below_still hbo3 hs4
                  have hR4 := hR3.still hs4
                  clear hs4
                  go_wp2_with fail
                  go_roundw
                  case rel =>
                    refine ⟨i + 1, gN, cN, m, rs, by omega, by go_num, rfl, hm, ?_, hR4, hbo4⟩
                    show _ = _
                    rw [Hrs.out, if_neg (by rw [← hcont.out]; exact fun h => h.2 Hmem.out)]
                    exact hcont.out
                  case measure => simp [intOf]; omega
                · have hcall := spec_l7In_any gN 0 m cN g3 0 (t + 1) c3 (contents rs) X w3 (by rw [contents_length]; exact hm.out) Hxl.out (by rw [contents_length, hm.out]; omega) Hrows.out hR3.rows2 hox3.cells
                  rw [decide_eq_false hmem] at hcall
                  have Hcall := Lib.hid hcall; have Hmem := Lib.hid hmem
                  clear hcall hmem
                  go_wp2_with fail
                  refine Hcall.out.mono ?_
                  rintro e w4 ⟨rfl, hs4⟩
                  have hbo4 := below_still hbo3 hs4
                  have hR4 := hR3.still hs4
                  have hox4 := hox3.still hs4
                  clear hs4
                  go_wp2_with fail
                  refine (spec_l11Put_any w.heap.size gN cN m g3 0 (t + 1) c3 rs X w4 hm.out Hxl.out (by rw [hm.out]; omega) (by rw [Hxl.out]; omega) hR4 hox4.lt hox4.cells).mono ?_
                  rintro e w5 ⟨g5, c5, rs5, rfl, hc5, hR5, hg5, hb5⟩
                  obtain ⟨m5, hm5⟩ : ∃ m5, (putL (contents rs) X).length = m5 := ⟨_, rfl⟩
                  rw [hm5]
                  have Hm5 := Lib.hid hm5; have Hc5 := Lib.hid hc5
                  have hbo5 : Below wo.heap.size wo w5 := hbo4.trans (hb5.mono hbo4.size)
                  clear hm5 hc5 hb5
                  go_wp2_with fail
                  go_roundw
                  case rel =>
                    refine ⟨i + 1, g5, c5, m5, rs5, by omega, by go_num, rfl, ?_, ?_, hR5, hbo5⟩
                    · show _ = _
                      rw [← Hm5.out, ← Hc5.out, contents_length]
                    · show _ = _
                      rw [Hc5.out, Hrs.out, if_pos ⟨Hxl.out, by rw [← hcont.out]; exact Hmem.out⟩, ← hcont.out]
                  case measure => simp [intOf]; omega
              · have hxf : ((xl : Int) == (t : Int) + 1) = false := by simp; omega
                go_wp2_with fail
                go_roundw
                case rel =>
                  refine ⟨i + 1, gN, cN, m, rs, by omega, by go_num, rfl, hm, ?_, hR3, hbo3⟩
                  show _ = _
                  rw [Hrs.out, if_neg (by rw [Hxl.out]; exact fun h => hxt h.1)]
                  exact hcont.out
                case measure => simp [intOf]; omega
            · obtain rfl : i = c.length := by omega
              go_wp2
              go_roundw
              case rel =>
                refine ⟨k + 1, gN, cN, m, rs, by omega, by go_num, rfl, hm, ?_, hR, hbj⟩
                show _ = _
                rw [Hns.out]; exact hcont.out
              case measure => simp [intOf]; omega
        · obtain rfl : k = pl := by omega
          have hnx : contents rs = levS c (t + 1) := by rw [hcont.out, ← Hple.out]; rfl
          have hml : (levS c (t + 1)).length = m := by rw [← hnx, contents_length]; exact hm.out
          have htot2 : tot c (t + 1) = tot c t + m := by simp only [tot]; rw [hml]
          have hm8 : m ≤ 1000 := by
            have h3 := nextTo_len c hn4 (t + 1) (levS c t) k (by rw [Hple.out]; omega)
            rw [← hcont.out, contents_length, hm.out] at h3
            omega
          have hO2 := hO.below hbi
          have hB2 := hb.trans (hbi.mono hb.size)
          have Hnx := Lib.hid hnx; have Hml := Lib.hid hml; have Htot2 := Lib.hid htot2
          clear hnx hml htot2
          by_cases hz : m = 0
          · subst hz
            have hend := depth_end ⟨hg1, hg2⟩ (.inl (List.length_eq_zero_iff.1 Hml.out)) hdep.out
            have Hend := Lib.hid hend; clear hend
            go_wp2
            go_ret
            rw [← Hend.out]
            exact GotLevs.mk' g' c' Ls HLl.out hLs.out hO2 hB2
          · by_cases hbig : 200 < tot c t + m
            · have hend := depth_end ⟨hg1, hg2⟩ (.inr (by rw [Htot2.out]; exact hbig)) hdep.out
              have Hend := Lib.hid hend; clear hend
              have hzI : ((m : Int) == 0) = false := by simp; omega
              have hbI : (200 : Int) < (tot c t : Int) + (m : Int) := by omega
              go_wp2
              go_ret
              rw [← Hend.out]
              exact GotLevs.mk' g' c' Ls HLl.out hLs.out hO2 hB2
            · have hgo2 := depth_go ⟨hg1, hg2⟩ (by rw [Htot2.out]; intro h; rcases h with h | h
                                                   · rw [h] at Hml; exact hz Hml.out.symm
                                                   · exact hbig h) hdep.out
              have Hgo := Lib.hid hgo2; clear hgo2
              have hzI : ((m : Int) == 0) = false := by simp; omega
              have hbI : ¬ (200 : Int) < (tot c t : Int) + (m : Int) := by omega
              go_wp2_with (at_builtin; refine wpList_append_lev rfl _ _ rfl w.heap.size g' c' (t + 1) wr.heap.size Ls (gN, cN, rs) _ HLl.out (by unfold levVal; rw [hm.out]) rfl hO2 hR rfl rfl (by omega) ?_)
              intro g5 c5 w5 hO5 hg5 hor5
              have hB5 : Below w.heap.size w w5 := hB2.grown hg5 hB2.size (by intro j hj; cases hj; exact hO2.1.base)
              go_wp2
              go_roundw
              case rel =>
                refine ⟨t + 1, g5, c5, Ls ++ [(gN, cN, rs)], by omega, by omega, by go_num, ?_, by rw [Htot2.out]; omega, rfl, ?_, Hgo.out, hO5, hB5⟩
                · rw [Htot2.out]; go_num
                · show _ = _
                  rw [levsTo_succ, ← hLs.out, ← Hnx.out]; simp [levCont]
              case measure => simp [intOf]; omega
    · have hst := depth_stop ht15 htm hgo hdep.out
      have Hst := Lib.hid hst; have HLl := Lib.hid hLl
      clear hst hLl
      by_cases h1 : t + 1 ≤ most
      · have h2 : ¬ t + 1 ≤ 15 := fun h => hgo ⟨h1, h⟩
        have h1I : (t : Int) + 1 ≤ (most : Int) := by omega
        have h2I : ¬ (t : Int) + 1 ≤ 15 := by omega
        go_wp2
        go_ret
        rw [← Hst.out]
        exact GotLevs.mk' g' c' Ls HLl.out hLs.out hO hb
      · have h1I : ¬ (t : Int) + 1 ≤ (most : Int) := by omega
        go_wp2
        go_ret
        rw [← Hst.out]
        exact GotLevs.mk' g' c' Ls HLl.out hLs.out hO hb
end Go.Proofs.YtldcmhgpppeooaaGreatDoor
