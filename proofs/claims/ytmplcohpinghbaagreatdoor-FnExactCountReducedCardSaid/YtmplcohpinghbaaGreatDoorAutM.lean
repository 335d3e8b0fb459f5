/- The automaton by the program, made: contract. -/
import Derived.Test.YtmplcohpinghbaaGreatDoorAtM
namespace Go.Proofs.YtmplcohpinghbaaGreatDoor
open Go.RowKit Game

theorem smGo_wf {c t : List (List Int)} : ∀ (f k : Nat) (Q R : List RPair), (∀ p ∈ Q, WfV p.1) → smGo c t f k Q = some R → ∀ p ∈ R, WfV p.1 := by
  have hstep : ∀ (Q : List RPair) (k i : Nat), (∀ p ∈ Q, WfV p.1) → ∀ p ∈ smStep c t Q k i, WfV p.1 := by
    intro Q k i h p hp
    unfold smStep at hp
    dsimp only at hp
    split at hp
    · rcases List.mem_append.1 hp with h1 | h1
      · exact h p h1
      · rw [List.mem_singleton] at h1
        subst h1
        by_cases hk : k < Q.length
        · exact wfV_mir (h _ (by simp [List.getD, hk]))
        · have e : Q.getD k ([], []) = ([], []) := by simp [List.getD, List.getElem?_eq_none (Nat.le_of_not_lt hk)]
          rw [e]
          intro j _
          simp [mirL]
          decide
    · exact h p hp
  have hrow : ∀ (Q : List RPair) (k i : Nat), (∀ p ∈ Q, WfV p.1) → ∀ p ∈ smRow c t Q k i, WfV p.1 := by
    intro Q k i h
    induction i with
    | zero => exact h
    | succ i ih => exact hstep _ _ _ ih
  intro f
  induction f with
  | zero =>
    intro k Q R h e
    simp only [smGo] at e
    split at e
    · cases e; exact h
    · cases e
  | succ f ih =>
    intro k Q R h e
    simp only [smGo] at e
    split at e
    · cases e; exact h
    · split at e
      · cases e
      · exact ih (k + 1) _ R (hrow Q k _ h) e
theorem smallL_wf (c : List (List Int)) : ∀ x ∈ smallL c, WfV x := by
  intro x hx
  cases hR : smR c with
  | none => rw [(small_none hR).1] at hx; simp at hx
  | some Q =>
    rw [(small_some hR).1] at hx
    obtain ⟨p, hp, rfl⟩ := List.mem_map.1 (putsR_mem hx)
    refine smGo_wf 41 0 (smStart c) Q (fun p hp => ?_) hR p hp
    obtain ⟨i, -, rfl⟩ := List.mem_map.1 hp
    exact wfV_simp _ _
theorem smallA_wf (c : List (List Int)) : ∀ x ∈ smallA c, WfV x := by
  unfold smallA
  split
  · exact smallL_wf c
  · simp
/-- an automaton that reads as it should -/
structure AutR (w : World) (c S : List (List Int)) (gR gM : Nat) : Prop where
  lR : gR < w.heap.size
  lM : gM < w.heap.size
  hR : Rows2 w gR 0 S
  hM : Rows2 w gM 0 (movesL c S)
theorem AutR.below {w w' : World} {c S : List (List Int)} {gR gM : Nat} (h : AutR w c S gR gM) (hb : Below w.heap.size w w') : AutR w' c S gR gM :=
  ⟨Nat.lt_of_lt_of_le h.lR hb.size, Nat.lt_of_lt_of_le h.lM hb.size, h.hR.below hb h.lR, h.hM.below hb h.lM⟩
def AutPost (w : World) (gc oc n cc : Nat) (c : List (List Int)) (e : Ending) (w' : World) : Prop :=
  (smallAB c = false ∧ e = .returned (.tuple #[.agg #[.slice none 0 0, .slice none 0 0, .slice none 0 0], .bool false]) ∧ Below w.heap.size w w') ∨
  (IsC c ∧ smallAB c = true ∧ SmallOk c (smallA c) ∧ ∃ gR cR gM cM, e = .returned (.tuple #[.agg #[(Value.slice (some ⟨gc, oc, none⟩) n cc), (Value.slice (some ⟨gR, 0, none⟩) ((smallA c).length) cR), (Value.slice (some ⟨gM, 0, none⟩) ((smallA c).length) cM)], .bool true]) ∧ AutR w' c (smallA c) gR gM ∧ Below w.heap.size w w')

theorem frozen3 {w : World} {B : Nat} {a b d : Value} {t : TypeId} (h : w.heap[B]? = some (.cells #[a, b, d] t (0, 0))) (j : Nat) : w.frozen? ⟨B, j, none⟩ = false := by
  simp [World.frozen?, h]
theorem blk_set {w : World} {b : Nat} {cs : Array Value} {T : TypeId} {fr : Nat × Nat} (h : w.heap[b]? = some (.cells cs T fr)) (j : Nat) (u : Value) : (w.setCell ⟨b, j, none⟩ u).heap[b]? = some (.cells (cs.setIfInBounds j u) T fr) := by
  simp [World.setCell, Array.getElem?_modify, h]
theorem blk_set2 {w : World} {B : Nat} {a b d : Value} {t : TypeId} (h : w.heap[B]? = some (.cells #[a, b, d] t (0, 0))) (u : Value) : (w.setCell ⟨B, 2, none⟩ u).heap[B]? = some (.cells #[a, b, u] t (0, 0)) := by
  rw [blk_set h]; rfl
theorem OwnRows.setCell {w : World} {B g cap b : Nat} {rs : List RowRef} {cs : Array Value} {T : TypeId} {fr : Nat × Nat} (h : OwnRows w B g cap rs) (hb : w.heap[b]? = some (.cells cs T fr)) (hT : T ≠ 31) (hT2 : T ≠ 3) (j : Nat) (u : Value) : OwnRows (w.setCell ⟨b, j, none⟩ u) B g cap rs := by
  have hg : w.grownBy (w.setCell ⟨b, j, none⟩ u) (some b) := ⟨rfl, rfl, rfl, by simp [World.setCell], fun k hk hne => Below.heap_setCell w _ u k (fun e => hne (by rw [e]))⟩
  refine ⟨h.1.grown hg (fun e => ?_), fun r hr => (h.2.1 r hr).grown hg (fun e => ?_), h.2.2⟩
  · obtain ⟨cur, h2, -⟩ := h.1.row
    rw [Option.some.inj e, hb] at h2
    simp at h2
    exact hT h2.2.1
  · obtain ⟨cur, h2, -⟩ := (h.2.1 r hr).toV.row
    rw [Option.some.inj e, hb] at h2
    simp at h2
    exact hT2 h2.2.1
/-- three stores into a block of another kind -/
theorem OwnRows.set3 {w : World} {B g cap b : Nat} {rs : List RowRef} {cs : Array Value} {T : TypeId} {fr : Nat × Nat} (h : OwnRows w B g cap rs) (hb : w.heap[b]? = some (.cells cs T fr)) (hT : T ≠ 31) (hT2 : T ≠ 3) (u0 u1 u2 : Value) :
    OwnRows (((w.setCell ⟨b, 0, none⟩ u0).setCell ⟨b, 1, none⟩ u1).setCell ⟨b, 2, none⟩ u2) B g cap rs :=
  ((h.setCell hb hT hT2 0 u0).setCell (blk_set hb 0 u0) hT hT2 1 u1).setCell (blk_set (blk_set hb 0 u0) 1 u1) hT hT2 2 u2
/-- the first moves of a root -/
def mvTo (c S : List (List Int)) (x : List Int) (i : Nat) : List Int := (List.range i).map fun j => movI c S j x
theorem mvTo_length (c S : List (List Int)) (x : List Int) (i : Nat) : (mvTo c S x i).length = i := by simp [mvTo]
theorem mvTo_succ (c S : List (List Int)) (x : List Int) (i : Nat) : mvTo c S x (i + 1) = mvTo c S x i ++ [movI c S i x] := by simp [mvTo, List.range_succ]
theorem movesL_take {c S : List (List Int)} {k : Nat} (hk : k < S.length) : (movesL c S).take (k + 1) = (movesL c S).take k ++ [mvTo c S (S.getD k []) c.length] := by
  have hk' : k < (movesL c S).length := by rw [movesL_length]; exact hk
  rw [List.take_succ_eq_append_getElem hk']
  congr 2
  simp [movesL, mvTo, List.getD, hk]

set_option maxRecDepth 100000 in
set_option maxHeartbeats 8000000 in
theorem impl_newAutomaton_any (gc oc n cc : Nat) (c : List (List Int)) (w : World) (hn : c.length = n) (hl : c.length ≤ 1048576) (hrl : ∀ j, j < c.length → (c.getD j []).length ≤ 1048576) (hgc : gc < w.heap.size) (hr : Rows2 w gc oc c) :
    Calls Tryz.prog 35 #[(Value.slice (some ⟨gc, oc, none⟩) n cc)] w (AutPost w gc oc n cc c) := by
  subst hn
  have Hr := Lib.hid hr
  have hcall := fun W (hW : Below w.heap.size w W) => impl_SmallRoots_any gc oc _ cc c W rfl hl hrl (Nat.lt_of_lt_of_le hgc hW.size) (hr.below hW hgc)
  have Hcall := Lib.hid hcall
  clear hr hcall hrl
  have hmm := @run_makeMap Tryz.prog
  have hb1 : Below w.heap.size w (w.alloc (.cells #[.slice none 0 0, .slice none 0 0, .slice none 0 0] 48)) := (Below.refl _ _).alloc (Nat.le_refl _) _
  have h00 : Hid ((w.alloc (.cells #[.slice none 0 0, .slice none 0 0, .slice none 0 0] 48)).heap[w.heap.size]? = some (.cells #[.slice none 0 0, .slice none 0 0, .slice none 0 0] 48 (0, 0))) := heap_alloc_new _ _
  have Hb1 := Lib.hid hb1
  clear hb1
  rcases smallA_cases c with ⟨hAB, hS⟩ | ⟨hC, hAB, hok⟩
  · rw [hAB] at Hcall
    have HAB := Lib.hid hAB
    rw [hS] at Hcall
    clear hAB hS
    go_enter Tryz.func35, Tryz.ntmps35
    go_wp2_with fail
    refine (Hcall.out _ Hb1.out).mono ?_
    have hb1 := Hb1.out
    have hs1 : (w.alloc (.cells #[.slice none 0 0, .slice none 0 0, .slice none 0 0] 48)).heap.size = w.heap.size + 1 := by simp
    generalize w.alloc (.cells #[.slice none 0 0, .slice none 0 0, .slice none 0 0] 48) = w1 at *
    rintro e w2 ⟨gR, cR, rsR, rfl, hcon, hO, hb2⟩
    have h02 := (hb2.block w.heap.size (by omega)).trans h00.out
    obtain ⟨b0, b1, b2⟩ := cell3 h02
    have f0 := frozen3 h02 0
    have f1 := frozen3 h02 1
    have f2 := frozen3 h02 2
    have hB2 := hb1.trans (hb2.mono hb1.size)
    clear hcon hO h02 Hcall hmm
    go_wp2_with fail
    have hB : Below w.heap.size w (((w2.setCell ⟨w.heap.size, 0, none⟩ (.slice none 0 0)).setCell ⟨w.heap.size, 1, none⟩ (.slice none 0 0)).setCell ⟨w.heap.size, 2, none⟩ (.slice none 0 0)) := (by repeat (first | with_reducible exact Below.refl _ _ | with_reducible assumption | with_reducible refine below_drewN ?_ _ | with_reducible refine Below.drew ?_ | (with_reducible refine Below.alloc ?_ ?_ _; rotate_left; · first | (simp; done) | (simp; omega) | exact Below.size (by assumption) | (have hsz := Below.size (by assumption : Below _ _ _); simp at hsz ⊢; omega)) | (with_reducible refine Below.setCell ?_ ?_ _; rotate_left; · first | (simp; done) | (simp; omega))))
    exact bodyPost_ret (v := .tuple #[.agg #[.slice none 0 0, .slice none 0 0, .slice none 0 0], .bool false]) (by simp [results, Tryz.results35, go_sem, b0, b1, b2]) rfl (.inl ⟨HAB.out, rfl, hB⟩)
  · rw [hAB] at Hcall
    have HAB := Lib.hid hAB
    have hwf := smallA_wf c
    have hlS := hok.len
    have hn4 := hC.2.1
    clear hAB
    have HPost : Hid (∀ e W, (IsC c ∧ smallAB c = true ∧ SmallOk c (smallA c) ∧ ∃ gR cR gM cM, e = .returned (.tuple #[.agg #[(Value.slice (some ⟨gc, oc, none⟩) c.length cc), (Value.slice (some ⟨gR, 0, none⟩) ((smallA c).length) cR), (Value.slice (some ⟨gM, 0, none⟩) ((smallA c).length) cM)], .bool true]) ∧ AutR W c (smallA c) gR gM ∧ Below w.heap.size w W) → AutPost w gc oc c.length cc c e W) := fun e W h => .inr h
    generalize smallA c = S at *
    have Hwf := Lib.hid hwf
    clear hwf
    go_enter Tryz.func35, Tryz.ntmps35
    go_wp2_with fail
    refine (Hcall.out _ Hb1.out).mono ?_
    have hb1 := Hb1.out
    have hs1 : (w.alloc (.cells #[.slice none 0 0, .slice none 0 0, .slice none 0 0] 48)).heap.size = w.heap.size + 1 := by simp
    generalize w.alloc (.cells #[.slice none 0 0, .slice none 0 0, .slice none 0 0] 48) = w1 at *
    rintro e w2 ⟨gR, cR, rsR, rfl, hcon, hO, hb2⟩
    have h02 := (hb2.block w.heap.size (by omega)).trans h00.out
    have hB2 := hb1.trans (hb2.mono hb1.size)
    have hlr : rsR.length = S.length := by rw [← hcon, contents_length]
    have Hcon := Lib.hid hcon; have Hlr := Lib.hid hlr; have H02 := Lib.hid h02
    clear hcon hlr h02 Hcall
    have hs2 : w.heap.size < w2.heap.size := by have := hb2.size; omega
    go_wp2_with fail
    have hA0 := AtM.start w2 c.length
    have hbx := (Below.refl w2.heap.size w2).alloc (Nat.le_refl _) (.map #[] 0)
    have hO3 := hO.below hbx
    have hB3 := hB2.trans (hbx.mono hB2.size)
    have h03 : Hid ((w2.alloc (.map #[] 0)).heap[w.heap.size]? = some (.cells #[.slice none 0 0, .slice none 0 0, .slice none 0 0] 48 (0, 0))) := (hbx.block w.heap.size (by omega)).trans H02.out
    clear hO hB2 hb2 hbx hmm hb1 hs1 Hb1 h00 H02
    generalize w2.alloc (.map #[] 0) = w3 at *
    generalize w2.heap.size = bM at *
    go_loopw [27] (fun kv wr => ∃ k : Nat, k ≤ S.length ∧ kv = .int .i64 k ∧ AtM wr bM k c.length (S.take k) ∧ OwnRows wr w1.heap.size gR cR rsR ∧ Below w.heap.size w wr ∧ Hid (wr.heap[w.heap.size]? = some (.cells #[.slice none 0 0, .slice none 0 0, .slice none 0 0] 48 (0, 0)))) (fun kv _ => S.length - (intOf kv).toNat)
    case atStart => exact ⟨0, Nat.zero_le _, rfl, hA0, hO3, hB3, h03⟩
    case round =>
      clear hA0 hO3 hB3 h03
      obtain ⟨k, hk, rfl, hA, hO, hB, h0⟩ := hrel
      by_cases hlt : k < S.length
      · have hkr : k < rsR.length := by rw [Hlr.out]; exact hlt
        have hcg : S.getD k [] = rsR[k].2.2 := by rw [← Hcon.out]; simp [contents, List.getD, hkr]
        have hq := hO.1.cell k (by simpa using hkr)
        have hoi := hO.2.1 _ (List.getElem_mem hkr)
        have hxl : (S.getD k []).length = c.length := hok.lenAt hlt
        have hxS : S.getD k [] ∈ S := by simp [List.getD, hlt]
        have hts : S.take (k + 1) = S.take k ++ [S.getD k []] := by rw [List.take_succ_eq_append_getElem hlt]; simp [List.getD, hlt]
        have hnot : S.getD k [] ∉ S.take k := by
          intro hm
          have hnd := hok.nodup
          rw [← List.take_append_drop (k + 1) S, hts, List.nodup_append] at hnd
          have := (List.nodup_append.1 hnd.1).2.2
          exact this _ hm _ (by simp) rfl
        have hwx := Hwf.out _ hxS
        have hq' : wr.cell? ⟨gR, k, none⟩ = some (Value.slice (some ⟨(rsR[k].1), 0, none⟩) ((S.getD k []).length) (rsR[k].2.1)) := by rw [hq, hcg]; simp [rowVal]
        have hoi' : Own wr w1.heap.size rsR[k].1 rsR[k].2.1 (S.getD k []) := by rw [hcg]; exact hoi
        rw [hxl] at hq'
        clear hq hoi hcg hxS
        generalize S.getD k [] = x at *
        generalize rsR[k].1 = bx at *
        generalize rsR[k].2.1 = cx at *
        have hcall := impl_vectorOf_any bx 0 c.length cx x wr hxl (by omega) hoi'.lt hoi'.cells
        have Hcall := Lib.hid hcall; have Hts := Lib.hid hts; have Hnot := Lib.hid hnot; have Hxl := Lib.hid hxl
        have Htl := Lib.hid (show (S.take k).length = k by rw [List.length_take]; omega)
        clear hcall hts hnot hxl hoi'
        go_wp2_with fail
        refine Hcall.out.mono ?_
        rintro e w4 ⟨rfl, hb4⟩
        have hA4 := hA.below hb4 hA.lt
        have hO4 := hO.below hb4
        have hB4 := hB.trans (hb4.mono hB.size)
        have h04 : Hid (w4.heap[w.heap.size]? = some (.cells #[.slice none 0 0, .slice none 0 0, .slice none 0 0] 48 (0, 0))) := (hb4.block _ (box_lt h0.out)).trans h0.out
        clear hA hO hB h0 hb4 hq' Hcall
        go_wp2_with (at_mapUpdate; refine wpList_at_put rfl _ _ _ rfl bM k c.length (S.take k) x Hxl.out hn4 hwx Hnot.out Htl.out hA4 (by omega) rfl rfl rfl ?_)
        intro w5 hA5 hg5
        have hO5 := hA4.rows hO4 hg5
        have hB5 : Below w.heap.size w w5 := hB4.grown hg5 hB4.size (by intro t ht; cases ht; omega)
        have h05 : Hid (w5.heap[w.heap.size]? = some (.cells #[.slice none 0 0, .slice none 0 0, .slice none 0 0] 48 (0, 0))) := (hg5.block _ (box_lt h04.out) (by intro e; have := Option.some.inj e; omega)).trans h04.out
        rw [← Hts.out] at hA5
        clear hA4 hO4 hB4 h04 hg5
        go_wp2_with fail
        go_roundw
        case rel => exact ⟨k + 1, by omega, by go_num, hA5, hO5, hB5, h05⟩
        case measure => simp [intOf]; omega
      · obtain rfl : k = S.length := by omega
        rw [List.take_length] at hA
        clear Hlr hlt hk
        have hcl : ∀ j, j < c.length → (c.getD j []).length = c.length := hC.2.2.1
        have Hcl := Lib.hid hcl
        clear hcl
        go_wp2_with fail
        obtain ⟨wo, rfl⟩ : ∃ wo : World, wo = wr := ⟨_, rfl⟩
        have hs9 : Hid ((wo.alloc (.cells #[(Value.slice (some ⟨gc, oc, none⟩) c.length cc), (Value.slice (some ⟨gR, 0, none⟩) S.length cR), .slice none 0 0] 48)).heap[wo.heap.size]? = some (.cells #[(Value.slice (some ⟨gc, oc, none⟩) c.length cc), (Value.slice (some ⟨gR, 0, none⟩) S.length cR), .slice none 0 0] 48 (0, 0))) := heap_alloc_new _ _
        have hb9 : Below wo.heap.size wo (wo.alloc (.cells #[(Value.slice (some ⟨gc, oc, none⟩) c.length cc), (Value.slice (some ⟨gR, 0, none⟩) S.length cR), .slice none 0 0] 48)) := (Below.refl _ _).alloc (Nat.le_refl _) _
        go_loopw [42] (fun kv wi => ∃ (k : Nat) (mv : Value) (rsM : List RowRef), k ≤ S.length ∧ kv = .int .i64 k ∧ MovV wi wo.heap.size mv rsM ∧ Hid (rsM.length = k) ∧ Hid (contents rsM = (movesL c S).take k) ∧ Hid (wi.heap[wo.heap.size]? = some (.cells #[(Value.slice (some ⟨gc, oc, none⟩) c.length cc), (Value.slice (some ⟨gR, 0, none⟩) S.length cR), mv] 48 (0, 0))) ∧ Below wo.heap.size wo wi) (fun kv _ => S.length - (intOf kv).toNat)
        case atStart => exact ⟨0, _, [], Nat.zero_le _, rfl, MovV.start _ _, rfl, by show _ = _; simp [contents], hs9, hb9⟩
        case round =>
          clear hs9 hb9
          obtain ⟨k, mv, rsM, hk, rfl, hM, hml, hmc, h9, hb⟩ := hrel
          obtain ⟨wi, rfl⟩ : ∃ wi : World, wi = wr := ⟨_, rfl⟩
          by_cases hlt : k < S.length
          · have hkr : k < rsR.length := by rw [← contents_length, Hcon.out]; exact hlt
            have hcg : S.getD k [] = rsR[k].2.2 := by rw [← Hcon.out]; simp [contents, List.getD, hkr]
            have hOi := hO.below hb
            have hq := hOi.1.cell k (by simpa using hkr)
            have hoi := hOi.2.1 _ (List.getElem_mem hkr)
            have hxl : (S.getD k []).length = c.length := hok.lenAt hlt
            have hxS : S.getD k [] ∈ S := by simp [List.getD, hlt]
            have hmt := movesL_take (c := c) hlt
            have hq' : wi.cell? ⟨gR, k, none⟩ = some (Value.slice (some ⟨(rsR[k].1), 0, none⟩) ((S.getD k []).length) (rsR[k].2.1)) := by rw [hq, hcg]; simp [rowVal]
            have hoi' : Own wi w1.heap.size rsR[k].1 rsR[k].2.1 (S.getD k []) := by rw [hcg]; exact hoi
            rw [hxl] at hq'
            clear hq hoi hcg hOi
            generalize S.getD k [] = x at *
            generalize rsR[k].1 = bx at *
            generalize rsR[k].2.1 = cx at *
            have Hmt := Lib.hid hmt; have Hxl := Lib.hid hxl
            clear hmt hxl
            go_wp2_with fail
            go_loopw [12, 49] (fun rv iv wj => ∃ (i g2 c2 : Nat), i ≤ c.length ∧ iv = .int .i64 i ∧ rv = (Value.slice (some ⟨g2, 0, none⟩) i c2) ∧ Own wj wi.heap.size g2 c2 (mvTo c S x i) ∧ Below wi.heap.size wi wj) (fun _ iv _ => c.length - (intOf iv).toNat)
            case atStart => exact ⟨0, _, 0, Nat.zero_le _, rfl, rfl, Own.empty (Nat.le_refl _), (Below.refl _ _).alloc (Nat.le_refl _) _⟩
            case round =>
              obtain ⟨i, g2, c2, hi, rfl, rfl, ho, hbj⟩ := hrel
              by_cases hil : i < c.length
              · have hBj := hB.trans ((hb.trans (hbj.mono hb.size)).mono hB.size)
                have hmir := impl_mirrored_any gc oc _ cc i bx 0 c.length cx c x wr rfl Hxl.out hil (by rw [Hxl.out]; exact hil) (by rw [Hcl.out i hil, Hxl.out]; exact Nat.le_refl _) (by rw [Hcl.out i hil]; omega) (Nat.lt_of_lt_of_le hgc hBj.size) (Nat.lt_of_lt_of_le hoi'.lt hbj.size) (Hr.out.below hBj hgc) (hoi'.cells.below hbj hoi'.lt)
                have hr2l : (mirL c i x).length = c.length := by rw [mirL_length]; exact Hxl.out
                have hr2w : WfV (mirL c i x) := wfV_mir (Hwf.out x hxS)
                have hmv : mvTo c S x (i + 1) = mvTo c S x i ++ [if x = simpL c.length i then -2 else idxL S (mirL c i x)] := mvTo_succ _ _ _ _
                have hsl := simpL_length c.length i
                have hsim := fun W => impl_simple_any c.length i W (by omega) hil
                have heq : ∀ (W : World) (g6 c6 B6 : Nat), Below wi.heap.size wi W → Own W B6 g6 c6 (simpL c.length i) → Calls Tryz.prog 43 #[(Value.slice (some ⟨bx, 0, none⟩) c.length cx), (Value.slice (some ⟨g6, 0, none⟩) c.length c6)] W (Reads W (.bool (decide (x = simpL c.length i)))) := fun W g6 c6 B6 hW ho6 =>
                  slices_Equal_any bx 0 c.length cx g6 0 c.length c6 x (simpL c.length i) W Hxl.out hsl (by rw [Hxl.out]; omega) (by rw [hsl]; omega) (hoi'.cells.below hW hoi'.lt) ho6.cells
                generalize mirL c i x = r2 at *
                generalize simpL c.length i = r0 at *
                have Hmir := Lib.hid hmir; have Hr2l := Lib.hid hr2l; have Hr2w := Lib.hid hr2w; have Hmv := Lib.hid hmv; have Hsl := Lib.hid hsl; have Hsim := Lib.hid hsim; have Heq := Lib.hid heq
                clear hmir hr2l hr2w hmv hsl hsim heq hq'
                go_wp2_with fail
                refine Hmir.out.mono ?_
                rintro e w4 ⟨g4, c4, rfl, ho4, hb4⟩
                rw [Hr2l.out]
                have hvec := impl_vectorOf_any g4 0 c.length c4 r2 w4 Hr2l.out (by rw [Hr2l.out]; exact hn4) ho4.lt ho4.cells
                have Hvec := Lib.hid hvec
                have hB4 := hbj.trans (hb4.mono hbj.size)
                have hoA := ho.below hb4 ho.lt
                clear hvec ho4 hb4 ho hbj hBj Hmir
                go_wp2_with fail
                refine Hvec.out.mono ?_
                rintro e w5 ⟨rfl, hb5⟩
                have hB5 := hB4.trans (hb5.mono hB4.size)
                have ho5 := hoA.below hb5 hoA.lt
                have hA5 := (hA.below hb hA.lt).below hB5 (Nat.lt_of_lt_of_le hA.lt hb.size)
                clear hB4 hoA hb5 Hvec
                by_cases e1 : x = r0
                · have hmv2 := Hmv.out
                  rw [if_pos e1] at hmv2
                  have Hmv2 := Lib.hid hmv2
                  have E1 := Lib.hid e1
                  clear hmv2 Hmv e1
                  obtain ⟨BB, HBB⟩ : ∃ b : Bool, decide (r2 ∈ S) = b := ⟨_, rfl⟩
                  have HB2 := Lib.hid HBB
                  clear HBB
                  rw [decide_eq_true E1.out] at Heq
                  go_wp2_with (at_lookup; refine wpList_at_look rfl _ _ rfl bM S.length c.length S r2 Hr2l.out Hr2w.out hA5 rfl rfl BB HB2.out ?_)
                  intro z hz
                  clear hz
                  go_wp2_with fail
                  refine (Hsim.out w5).mono ?_
                  rintro e w6 ⟨g6, c6, rfl, ho6, hb6⟩
                  rw [Hsl.out]
                  have hs := Heq.out w6 g6 c6 _ (hB5.trans (hb6.mono hB5.size)) ho6
                  have Hs := Lib.hid hs
                  have hB6 := hB5.trans (hb6.mono hB5.size)
                  have ho66 := ho5.below hb6 ho5.lt
                  clear hs hA5 hB5 ho5 ho6 hb6
                  go_wp2_with fail
                  refine Hs.out.mono ?_
                  rintro e w7 ⟨rfl, hs7⟩
                  have hB7 := below_still hB6 hs7
                  have ho7 := ho66.still hs7
                  clear hs7 hB6 ho66 Hs
                  go_wp2_with (at_builtin; refine wpList_append_int_n (w := w7) rfl _ _ rfl wi.heap.size g2 c2 i (mvTo c S x i) (-2) (mvTo_length _ _ _ _) ho7 rfl rfl (by omega) ?_)
                  intro g8 c8 w8 ho8 hg8 hor8
                  have hb8 : Below wi.heap.size wi w8 := hB7.grown hg8 hB7.size (by intro t ht; cases ht; exact ho7.base)
                  rw [← Hmv2.out] at ho8
                  clear ho7 hB7 hg8
                  go_wp2_with fail
                  go_roundw
                  case rel => exact ⟨i + 1, g8, c8, by omega, by go_num, rfl, ho8, hb8⟩
                  case measure => simp [intOf]; omega
                · have hmv2 := Hmv.out
                  rw [if_neg e1] at hmv2
                  have E1 := Lib.hid e1
                  clear Hmv e1
                  by_cases e2 : r2 ∈ S
                  · have Hmv2 := Lib.hid hmv2
                    have HB2 := Lib.hid (decide_eq_true e2)
                    clear hmv2 e2
                    rw [decide_eq_false E1.out] at Heq
                    go_wp2_with (at_lookup; refine wpList_at_look rfl _ _ rfl bM S.length c.length S r2 Hr2l.out Hr2w.out hA5 rfl rfl true HB2.out ?_)
                    go_wp2_with fail
                    refine (Hsim.out w5).mono ?_
                    rintro e w6 ⟨g6, c6, rfl, ho6, hb6⟩
                    rw [Hsl.out]
                    have hs := Heq.out w6 g6 c6 _ (hB5.trans (hb6.mono hB5.size)) ho6
                    have Hs := Lib.hid hs
                    have hB6 := hB5.trans (hb6.mono hB5.size)
                    have ho66 := ho5.below hb6 ho5.lt
                    clear hs hA5 hB5 ho5 ho6 hb6
                    go_wp2_with fail
                    refine Hs.out.mono ?_
                    rintro e w7 ⟨rfl, hs7⟩
                    have hB7 := below_still hB6 hs7
                    have ho7 := ho66.still hs7
                    clear hs7 hB6 ho66 Hs
                    go_wp2_with (at_builtin; refine wpList_append_int_n (w := w7) rfl _ _ rfl wi.heap.size g2 c2 i (mvTo c S x i) (idxL S r2) (mvTo_length _ _ _ _) ho7 rfl rfl (by omega) ?_)
                    intro g8 c8 w8 ho8 hg8 hor8
                    have hb8 : Below wi.heap.size wi w8 := hB7.grown hg8 hB7.size (by intro t ht; cases ht; exact ho7.base)
                    rw [← Hmv2.out] at ho8
                    clear ho7 hB7 hg8
                    go_wp2_with fail
                    go_roundw
                    case rel => exact ⟨i + 1, g8, c8, by omega, by go_num, rfl, ho8, hb8⟩
                    case measure => simp [intOf]; omega
                  · rw [idx_neg e2] at hmv2
                    have Hmv2 := Lib.hid hmv2
                    have HB2 := Lib.hid (decide_eq_false e2)
                    clear hmv2 e2
                    rw [decide_eq_false E1.out] at Heq
                    go_wp2_with (at_lookup; refine wpList_at_look rfl _ _ rfl bM S.length c.length S r2 Hr2l.out Hr2w.out hA5 rfl rfl false HB2.out ?_)
                    intro z
                    go_wp2_with fail
                    refine (Hsim.out w5).mono ?_
                    rintro e w6 ⟨g6, c6, rfl, ho6, hb6⟩
                    rw [Hsl.out]
                    have hs := Heq.out w6 g6 c6 _ (hB5.trans (hb6.mono hB5.size)) ho6
                    have Hs := Lib.hid hs
                    have hB6 := hB5.trans (hb6.mono hB5.size)
                    have ho66 := ho5.below hb6 ho5.lt
                    clear hs hA5 hB5 ho5 ho6 hb6
                    go_wp2_with fail
                    refine Hs.out.mono ?_
                    rintro e w7 ⟨rfl, hs7⟩
                    have hB7 := below_still hB6 hs7
                    have ho7 := ho66.still hs7
                    clear hs7 hB6 ho66 Hs
                    go_wp2_with (at_builtin; refine wpList_append_int_n (w := w7) rfl _ _ rfl wi.heap.size g2 c2 i (mvTo c S x i) (-1) (mvTo_length _ _ _ _) ho7 rfl rfl (by omega) ?_)
                    intro g8 c8 w8 ho8 hg8 hor8
                    have hb8 : Below wi.heap.size wi w8 := hB7.grown hg8 hB7.size (by intro t ht; cases ht; exact ho7.base)
                    rw [← Hmv2.out] at ho8
                    clear ho7 hB7 hg8
                    go_wp2_with fail
                    go_roundw
                    case rel => exact ⟨i + 1, g8, c8, by omega, by go_num, rfl, ho8, hb8⟩
                    case measure => simp [intOf]; omega
              · obtain rfl : i = c.length := by omega
                have h9j := (hbj.block _ (box_lt h9.out)).trans h9.out
                have hMj := hM.below hbj
                have hbx := hb.trans (hbj.mono hb.size)
                obtain ⟨-, -, z2⟩ := cell3 h9j
                have hne : ∀ s ∈ rsM, s.1 ≠ g2 := fun s hs e => by
                  have h1 := (hM.2.1 s hs).lt
                  have h2 := ho.base
                  omega
                have hor := ho.mono hb.size
                have H9j := Lib.hid h9j
                have hmt2 : contents rsM ++ [mvTo c S x c.length] = (movesL c S).take (k + 1) := by rw [Hmt.out, hmc.out]
                have Hmt2 := Lib.hid hmt2
                have hml1 : k + 1 ≤ 1048576 := by omega
                clear hM h9 hbj ho h9j hmt2 hq' hb
                go_wp2_with (at_builtin; refine wpList_append_mov rfl _ _ rfl wo.heap.size wr.heap.size k mv rsM (g2, c2, mvTo c S x c.length) wr _ hml.out (by unfold rowVal; rw [mvTo_length]) rfl hbx.size hMj hor hne rfl rfl hml1 ?_)
                intro g6 c6 w6 hM6 hg6
                have h96 := (hg6.block _ (box_lt H9j.out) (fun e => hMj.neBlk H9j.out (by decide) e.symm)).trans H9j.out
                have hb6 : Below wo.heap.size wo w6 := hbx.grown hg6 hbx.size (fun t ht => (hMj.ownLt ht).1)
                obtain ⟨-, -, y2⟩ := cell3 h96
                have f2 := frozen3 h96 2
                have hM7 := hM6.setCell h96 (by decide) (by decide) 2 (Value.slice (some ⟨g6, 0, none⟩) (k + 1) c6)
                have h97 : Hid ((w6.setCell ⟨wo.heap.size, 2, none⟩ (Value.slice (some ⟨g6, 0, none⟩) (k + 1) c6)).heap[wo.heap.size]? = some (.cells #[(Value.slice (some ⟨gc, oc, none⟩) c.length cc), (Value.slice (some ⟨gR, 0, none⟩) S.length cR), (Value.slice (some ⟨g6, 0, none⟩) (k + 1) c6)] 48 (0, 0))) := blk_set2 h96 _
                have hb7 : Below wo.heap.size wo (w6.setCell ⟨wo.heap.size, 2, none⟩ (Value.slice (some ⟨g6, 0, none⟩) (k + 1) c6)) := hb6.setCell (Nat.le_refl _) _
                have hl7 : Hid ((rsM ++ [(g2, c2, mvTo c S x c.length)]).length = k + 1) := by show _ = _; rw [List.length_append, hml.out]; rfl
                have hc7 : Hid (contents (rsM ++ [(g2, c2, mvTo c S x c.length)]) = (movesL c S).take (k + 1)) := by show _ = _; rw [← Hmt2.out]; simp [contents]
                clear hM6 hg6 h96 hb6 hMj hor hne hbx z2
                go_wp2_with fail
                go_roundw
                case rel => exact ⟨k + 1, _, _, by omega, by go_num, hM7, hl7.out, hc7.out, h97, hb7⟩
                case measure => simp [intOf]; omega
          · obtain rfl : k = S.length := by omega
            have hS0 : 0 < S.length := by
              have := hok.simp' 0 (by have := hC.1; omega)
              exact List.length_pos_of_mem this
            obtain ⟨gM, cM, rfl, hOM⟩ := hM.rows (by rw [hml.out]; exact hS0)
            rw [hml.out] at h9
            have hmc2 : contents rsM = movesL c S := by rw [hmc.out]; exact List.take_of_length_le (by rw [movesL_length]; exact Nat.le_refl _)
            have h0i := (hb.block _ (box_lt h0.out)).trans h0.out
            have hOR := (hO.below hb).set3 h0i (by decide) (by decide) (Value.slice (some ⟨gc, oc, none⟩) c.length cc) (Value.slice (some ⟨gR, 0, none⟩) S.length cR) (Value.slice (some ⟨gM, 0, none⟩) S.length cM)
            have hOM3 := hOM.set3 h0i (by decide) (by decide) (Value.slice (some ⟨gc, oc, none⟩) c.length cc) (Value.slice (some ⟨gR, 0, none⟩) S.length cR) (Value.slice (some ⟨gM, 0, none⟩) S.length cM)
            have hBi := hB.trans (hb.mono hB.size)
            have hBf : Below w.heap.size w (((wi.setCell ⟨w.heap.size, 0, none⟩ (Value.slice (some ⟨gc, oc, none⟩) c.length cc)).setCell ⟨w.heap.size, 1, none⟩ (Value.slice (some ⟨gR, 0, none⟩) S.length cR)).setCell ⟨w.heap.size, 2, none⟩ (Value.slice (some ⟨gM, 0, none⟩) S.length cM)) := (by repeat (first | with_reducible exact Below.refl _ _ | with_reducible assumption | with_reducible refine below_drewN ?_ _ | with_reducible refine Below.drew ?_ | (with_reducible refine Below.alloc ?_ ?_ _; rotate_left; · first | (simp; done) | (simp; omega) | exact Below.size (by assumption) | (have hsz := Below.size (by assumption : Below _ _ _); simp at hsz ⊢; omega)) | (with_reducible refine Below.setCell ?_ ?_ _; rotate_left; · first | (simp; done) | (simp; omega))))
            obtain ⟨z0, z1, z2⟩ := cell3 h9.out
            obtain ⟨b0, b1, b2⟩ := cell3 h0i
            have f0 := frozen3 h0i 0
            have f1 := frozen3 h0i 1
            have f2 := frozen3 h0i 2
            have hne9 : wo.heap.size ≠ w.heap.size := by have := box_lt h0.out; omega
            have hfin := HPost.out (.returned (.tuple #[.agg #[(Value.slice (some ⟨gc, oc, none⟩) c.length cc), (Value.slice (some ⟨gR, 0, none⟩) S.length cR), (Value.slice (some ⟨gM, 0, none⟩) S.length cM)], .bool true])) _ ⟨hC, HAB.out, hok, gR, cR, gM, cM, rfl, ⟨hOR.lt, hOM3.lt, by have := hOR.rows2; rw [Hcon.out] at this; exact this, by have := hOM3.rows2; rw [hmc2] at this; exact this⟩, hBf⟩
            have Hfin := Lib.hid hfin
            clear hfin hOR hOM3 hBf h0i h9 hM hOM hml hmc hmc2 hb hA hO hB hBi
            go_wp2_with fail
            exact bodyPost_ret (v := .tuple #[.agg #[(Value.slice (some ⟨gc, oc, none⟩) c.length cc), (Value.slice (some ⟨gR, 0, none⟩) S.length cR), (Value.slice (some ⟨gM, 0, none⟩) S.length cM)], .bool true]) (by simp [results, Tryz.results35, go_sem, b0, b1, b2]) rfl Hfin.out
end Go.Proofs.YtmplcohpinghbaaGreatDoor
