/- BallOf: contracts. -/
import Derived.Test.YtldcmhgpppeooaaGreatDoorG40
import Derived.Test.YtldcmhgpppeooaaGreatDoorG34
import Derived.Test.YtldcmhgpppeooaaGreatDoorG21
import Derived.Test.YtldcmhgpppeooaaGreatDoorG24
namespace Go.Proofs.YtldcmhgpppeooaaGreatDoor
set_option maxRecDepth 100000
open Go.RowKit Game

def ballR (c : List (List Int)) (most : Int) : List (List Int) := if IsC c ∧ 0 ≤ most ∧ most ≤ 15 then (levsTo c (depthG c most.toNat 0)).flatten else []
def ballB (c : List (List Int)) (most : Int) : Bool := if IsC c ∧ 0 ≤ most ∧ most ≤ 15 then ballOk c most.toNat else false
theorem ballR_few (c : List (List Int)) (most : Int) : (ballR c most).length ≤ 200 ∧ ∀ x ∈ ballR c most, x.length ≤ 15 := by
  unfold ballR
  split
  · rename_i h
    refine ⟨by rw [tot_flat]; exact depth_tot _ 0 (by simp [tot]), ?_⟩
    intro x hx
    obtain ⟨l, hl, hxl⟩ := List.mem_flatten.1 hx
    obtain ⟨k, hk, rfl⟩ := List.mem_map.1 hl
    have hk2 := List.mem_range.1 hk
    have := depth_le c most.toNat 0
    rw [lev_len h.1 (by omega) x hxl]
    omega
  · exact ⟨by simp, by simp⟩

set_option maxHeartbeats 4000000 in
theorem impl_BallOf_any (gc oc n cc : Nat) (c : List (List Int)) (most : Int) (w : World) (hn : c.length = n) (hx : c.length ≤ 1048576) (hrl : ∀ j, j < c.length → (c.getD j []).length ≤ 1048576) (hgc : gc < w.heap.size) (hr : Rows2 w gc oc c) :
    Calls Tryz.prog 14 #[(Value.slice (some ⟨gc, oc, none⟩) n cc), .int .i64 most] w (GotRowsB w (ballR c most) (ballB c most)) := by
  subst hn
  have hcall := impl_IsCartan gc oc _ cc c w rfl (by omega) (fun j hj => by have := hrl j hj; omega) hr
  by_cases hC : IsC c
  · rw [decide_eq_true hC] at hcall
    have Hcall := Lib.hid hcall
    clear hcall
    by_cases hm : 0 ≤ most
    · obtain ⟨M, rfl⟩ : ∃ M : Nat, most = M := ⟨most.toNat, by omega⟩
      have hmI : ¬ (M : Int) < 0 := by omega
      by_cases h15 : M ≤ 15
      · have hs : ballR c (M : Int) = (levsTo c (depthG c M 0)).flatten := by unfold ballR; rw [if_pos ⟨hC, hm, by omega⟩, Int.toNat_natCast]
        have hs2 : ballB c (M : Int) = ballOk c M := by unfold ballB; rw [if_pos ⟨hC, hm, by omega⟩, Int.toNat_natCast]
        rw [hs, hs2]
        have h15I : ¬ (15 : Int) < (M : Int) := by omega
        clear hs hs2
        go_enter Tryz.func14, Tryz.ntmps14
        go_wp2_with fail
        refine Hcall.out.mono ?_
        rintro e w2 ⟨rfl, hs2⟩
        have hb2 := below_still (Below.refl w.heap.size w) hs2
        clear hs2
        go_wp2_with fail
        refine (impl_ball_any gc oc _ cc M c w2 rfl hC (fun t ht _ => by omega) (Nat.lt_of_lt_of_le hgc hb2.size) (hr.below hb2 hgc)).mono ?_
        rintro e w3 ⟨g3, c3, rs, rfl, hcr, hO3, hb3⟩
        obtain ⟨nr, hnr⟩ : ∃ nr, (levsTo c (depthG c M 0)).flatten.length = nr := ⟨_, rfl⟩
        rw [hnr]
        have Hnr := Lib.hid hnr; have Hcr := Lib.hid hcr
        clear hnr hcr
        go_wp2_with fail
        go_ret2
        exact GotRowsB.mk' g3 c3 rs (by rw [← Hnr.out, ← Hcr.out, contents_length]) Hcr.out (hO3.mono hb2.size) (hb2.trans (hb3.mono hb2.size))
      · have hs : ballR c (M : Int) = [] := by unfold ballR; rw [if_neg (by omega)]
        have hs2 : ballB c (M : Int) = false := by unfold ballB; rw [if_neg (by omega)]
        rw [hs, hs2]
        have h15I : (15 : Int) < (M : Int) := by omega
        clear hs hs2
        go_enter Tryz.func14, Tryz.ntmps14
        go_wp2_with fail
        refine Hcall.out.mono ?_
        rintro e w2 ⟨rfl, hs2⟩
        have hb2 := below_still (Below.refl w.heap.size w) hs2
        clear hs2
        go_wp2_with fail
        go_ret2
        exact GotRowsB.mk' w2.heap.size 0 [] rfl rfl ((OwnRows.empty (Nat.le_refl _)).mono hb2.size) (hb2.alloc hb2.size _)
    · have hmI : most < 0 := by omega
      have hs : ballR c most = [] := by unfold ballR; rw [if_neg (by omega)]
      have hs2 : ballB c most = false := by unfold ballB; rw [if_neg (by omega)]
      rw [hs, hs2]
      clear hs hs2
      go_enter Tryz.func14, Tryz.ntmps14
      go_wp2_with fail
      refine Hcall.out.mono ?_
      rintro e w2 ⟨rfl, hs2⟩
      have hb2 := below_still (Below.refl w.heap.size w) hs2
      clear hs2
      go_wp2_with fail
      go_ret2
      exact GotRowsB.mk' w2.heap.size 0 [] rfl rfl ((OwnRows.empty (Nat.le_refl _)).mono hb2.size) (hb2.alloc hb2.size _)
  · rw [decide_eq_false hC] at hcall
    have Hcall := Lib.hid hcall
    clear hcall
    have hs : ballR c most = [] := by unfold ballR; rw [if_neg (fun h => hC h.1)]
    have hs2 : ballB c most = false := by unfold ballB; rw [if_neg (fun h => hC h.1)]
    rw [hs, hs2]
    clear hs hs2
    go_enter Tryz.func14, Tryz.ntmps14
    go_wp2_with fail
    refine Hcall.out.mono ?_
    rintro e w2 ⟨rfl, hs2⟩
    have hb2 := below_still (Below.refl w.heap.size w) hs2
    clear hs2
    go_wp2_with fail
    go_ret2
    exact GotRowsB.mk' w2.heap.size 0 [] rfl rfl ((OwnRows.empty (Nat.le_refl _)).mono hb2.size) (hb2.alloc hb2.size _)

/-- the reference's copy of a matrix, of any list of rows -/
theorem takeRows_succ {l : List (List Int)} {k : Nat} (h : k < l.length) : l.take (k + 1) = l.take k ++ [l.getD k []] := by
  rw [List.take_succ_eq_append_getElem h]; simp [List.getD, h]
set_option maxHeartbeats 1000000 in
theorem spec_LongestElement_no (gc oc n cc : Nat) (c : List (List Int)) (w : World) (hn : c.length = n) (hC : IsC c) (hfin : finB c = false) (hgc : gc < w.heap.size) (hr : Rows2 w gc oc c) :
    Calls Tryz.prog 40 #[(Value.slice (some ⟨gc, oc, none⟩) n cc)] w (GotIntsB w [] false) := by
  subst hn
  have hn4 := hC.2.1
  go_enter Tryz.func40, Tryz.ntmps40
  go_wp2_with fail
  refine (spec_IsFinite_any gc oc _ cc c w rfl (by omega) (fun j hj => by have := hC.2.2.1 j hj; omega) hgc hr).mono ?_
  rintro e w1 ⟨rfl, hb1⟩
  rw [hfin]
  go_wp2_with fail
  go_ret2
  exact GotIntsB.mk' w1.heap.size 0 rfl ((Own.empty (Nat.le_refl _)).mono hb1.size) (hb1.alloc hb1.size _)

/-- rows that are only read: the list of them is the call's own -/
def SeesRows (w : World) (B g cap : Nat) (rs : List RowRef) : Prop := OwnV w B 27 g cap (rs.map rowVal) ∧ ∀ r ∈ rs, ∃ B', Own w B' r.1 r.2.1 r.2.2
section
variable {w w' : World} {B g cap : Nat} {rs : List RowRef}
theorem SeesRows.rows2 (h : SeesRows w B g cap rs) : Rows2 w g 0 (contents rs) := by
  intro j hj
  have hj' : j < rs.length := by simpa [contents] using hj
  have hm : rs[j] ∈ rs := List.getElem_mem hj'
  have e : (contents rs).getD j [] = rs[j].2.2 := by simp [contents, List.getD, hj']
  obtain ⟨B', ho⟩ := h.2 _ hm
  rw [e]
  refine ⟨rs[j].1, 0, rs[j].2.1, ?_, ho.capLe, ho.lt, ho.cells⟩
  rw [Nat.zero_add, h.1.cell j (by simpa using hj')]
  simp [rowVal]
theorem wpList_append_sees {ops : Array Oper} {rest : List Oper} {o : Oper} {a : Act} {Q : Exit → Act → World → Prop} (hgd : o.guard = none) (s x : Operand)
    (ho : o.op = .call { callee := .builtin .append, args := #[s, x], argTypes := #[24, 24] })
    (B g cap n g2 c2 m : Nat) (rs rs2 : List RowRef) (w : World) (hn : rs.length = n) (hm : rs2.length = m) (hown : SeesRows w B g cap rs) (B2 : Nat) (hown2 : OwnRows w B2 g2 c2 rs2)
    (hs : a.eval s = (Value.slice (some ⟨g, 0, none⟩) n cap)) (hx : a.eval x = (Value.slice (some ⟨g2, 0, none⟩) m c2)) (hlen : n + m ≤ 1048576)
    (h : ∀ g' cap' w', SeesRows w' B g' cap' (rs ++ rs2) → w.grownBy w' (some g) → (g' = g ∨ g' = w.heap.size) → wpList Tryz.prog ops Q rest (a.put o.dst (Value.slice (some ⟨g', 0, none⟩) (n + m) cap')) w') :
    wpList Tryz.prog ops Q (o :: rest) a w := by
  subst hn; subst hm
  have ho1 : OwnK w B 27 1 g cap rs.length (rs.map rowVal) := by have := hown.1; unfold OwnV at this; rw [List.length_map] at this; exact this
  refine wpList_append_K infoRow Tryz.underlying24 rfl (by decide) (by decide) hgd s x ho B g cap rs.length (rs.map rowVal) ho1 g2 0 rs2.length c2 (rs2.map rowVal) (by simp) ?_ ?_ hs hx hlen ?_
  · intro j u hu
    have hj : j < (rs2.map rowVal).length := (List.getElem?_eq_some_iff.1 hu).1
    rw [Nat.zero_add, hown2.1.cell j hj, ← hu, List.getElem?_eq_getElem hj]
  · intro u hu
    obtain ⟨r, -, rfl⟩ := List.mem_map.1 hu
    rfl
  · intro g' cap' w' h2 h3 h4
    refine h g' cap' w' ⟨?_, fun r hr => ?_⟩ h3 h4
    · unfold OwnV
      rw [List.map_append, List.length_append, List.length_map, List.length_map]
      exact h2
    · rcases List.mem_append.1 hr with hr | hr
      · obtain ⟨B', hb⟩ := hown.2 r hr
        exact ⟨B', hb.grown h3 (fun e => hown.1.ne hb.toV (by decide) (Option.some.inj e).symm)⟩
      · exact ⟨B2, (hown2.2.1 r hr).grown h3 (fun e => hown.1.ne (hown2.2.1 r hr).toV (by decide) (Option.some.inj e).symm)⟩
theorem OwnLevs.same {Ls : List LevRef} (h : OwnLevs w B g cap Ls) (hs : ∀ b, B ≤ b → b < w.heap.size → w'.heap[b]? = w.heap[b]?) : OwnLevs w' B g cap Ls := by
  refine ⟨h.1.same (hs g h.1.base h.1.lt), fun L hL => ?_⟩
  have hR := h.2 L hL
  exact ⟨hR.1.same (hs _ hR.1.base hR.1.lt), ⟨fun r hr => (hR.2.1 r hr).same (hs _ (hR.2.1 r hr).base (hR.2.1 r hr).lt), hR.2.2⟩⟩
end

/-- what the reference says of the list: whether it is whole -/
def longLen (c : List (List Int)) : Nat := ((normG c 30 (negL c.length)).getD []).length
theorem ball_whole {c : List (List Int)} (hC : IsC c) {M : Nat} (hM : M ≤ 15) : ballOk c M = ((depthG c M 0 + 1 == M + 1) || (finB c && (depthG c M 0 + 1 == longLen c + 1))) := by
  have hD := depth_le c M 0
  have hne := depth_ne M 0 (c := c) (by simp [levS]) (depthG c M 0) (Nat.zero_le _) (Nat.le_refl _)
  unfold ballOk
  generalize depthG c M 0 = D at *
  by_cases hDM : D = M
  · subst hDM; simp
  · have h1 : (D + 1 == M + 1) = false := by simp; omega
    rw [h1, Bool.false_or]
    cases hf : finB c with
    | false =>
      obtain ⟨y, hy⟩ := semi_of_inf hC hf
      have := inf_levels hC hy (n := D + 1) (by omega)
      simp [this, hDM]
    | true =>
      obtain ⟨long, opp, hL⟩ := longOf_fin hC hf
      have hl : longLen c = long.length := by unfold longLen; rw [hL.norm]; rfl
      have g1 := fin_levels hC hL.norm hL.act (n := D) (by omega)
      have g2 := fin_levels hC hL.norm hL.act (n := D + 1) (by omega)
      have g3 := g1.1 hne
      rw [hl, Bool.true_and]
      by_cases e : D = long.length
      · have : levS c (D + 1) = [] := Classical.byContradiction fun h => by have := g2.1 h; omega
        subst e
        simp [this]
      · have : levS c (D + 1) ≠ [] := g2.2 (by omega)
        simp [this, hDM, e]

set_option maxRecDepth 100000 in
set_option maxHeartbeats 4000000 in
theorem spec_BallOf_ok (gc oc n cc M : Nat) (c : List (List Int)) (w : World) (hn : c.length = n) (hC : IsC c) (hM : M ≤ 15) (hgc : gc < w.heap.size) (hr : Rows2 w gc oc c) :
    Calls Tryz.prog 15 #[(Value.slice (some ⟨gc, oc, none⟩) n cc), .int .i64 M] w (GotRowsB w (levsTo c (depthG c M 0)).flatten (ballOk c M)) := by
  subst hn
  have hn4 := hC.2.1
  obtain ⟨w1, hw1⟩ : ∃ w1, w1 = w.alloc (.cells #[] 27) := ⟨_, rfl⟩
  have hb1 : Below w.heap.size w w1 := by rw [hw1]; exact (by repeat (first | with_reducible exact Below.refl _ _ | with_reducible assumption | with_reducible refine below_drewN ?_ _ | with_reducible refine Below.drew ?_ | (with_reducible refine Below.alloc ?_ ?_ _; rotate_left; · first | (simp; done) | (simp; omega) | exact Below.size (by assumption) | (have hsz := Below.size (by assumption : Below _ _ _); simp at hsz ⊢; omega)) | (with_reducible refine Below.setCell ?_ ?_ _; rotate_left; · first | (simp; done) | (simp; omega))))
  have hO1 : SeesRows w1 w.heap.size w.heap.size 0 [] := by rw [hw1]; exact ⟨(OwnRows.empty (w := w) (Nat.le_refl _)).1, by simp⟩
  have hs1 : w.heap.size < w1.heap.size := by rw [hw1]; simp
  have hcall := spec_IsCartan gc oc _ cc c w1 rfl (by omega) (fun j hj => by have := hC.2.2.1 j hj; omega) (hr.below hb1 hgc)
  rw [hw1, decide_eq_true hC] at hcall
  have Hcall := Lib.hid hcall; have Hw1 := Lib.hid hw1
  have hw := ball_whole hC hM
  rw [hw]
  clear hcall hw1 hw
  go_enter Tryz.func15, Tryz.ntmps15
  go_wp2_with fail
  refine Hcall.out.mono ?_
  rintro e w2 ⟨rfl, hs2⟩
  rw [← Hw1.out] at hs2
  have hb2 := below_still hb1 hs2
  have hO2 : SeesRows w2 w.heap.size w.heap.size 0 [] := ⟨hO1.1.still hs2, by simp⟩
  have hz2 : w.heap.size < w2.heap.size := by rw [size_still hs2]; exact hs1
  clear hb1 hO1 hs1 hs2 Hcall Hw1
  have hl1 := spec_l1In (M : Int) 0 15 w2
  have hd : (decide ((0 : Int) ≤ M) && decide ((M : Int) ≤ 15)) = true := by simp; omega
  rw [hd] at hl1
  have Hl1 := Lib.hid hl1
  clear hl1 hd
  go_wp2_with fail
  refine Hl1.out.mono ?_
  rintro e w2' ⟨rfl, hs2⟩
  have hb2 := below_still hb2 hs2
  have hO2 : SeesRows w2' w.heap.size w.heap.size 0 [] := ⟨hO2.1.still hs2, by simp⟩
  have hz2 : w.heap.size < w2'.heap.size := by rw [size_still hs2]; exact hz2
  clear hs2 Hl1
  go_wp2_with fail
  have hmin : min M 15 = M := by omega
  have hcall := spec_l31Levels_any gc oc _ cc M c w2' rfl hC (Nat.lt_of_lt_of_le hgc hb2.size) (hr.below hb2 hgc)
  rw [hmin] at hcall
  have Hcall := Lib.hid hcall
  clear hmin hcall
  refine Hcall.out.mono ?_
  rintro e w3 ⟨g3, c3, Ls, rfl, hL3, hO3, hb3⟩
  rw [levsTo_length]
  have hflat : (levsTo c (depthG c M 0)).flatten.length ≤ 200 := by rw [tot_flat]; exact depth_tot _ 0 (by simp [tot])
  have hwl : ∀ x ∈ (levsTo c (depthG c M 0)).flatten, x.length ≤ 15 := by
    intro x hx
    obtain ⟨l, hl, hxl⟩ := List.mem_flatten.1 hx
    obtain ⟨k, hk, rfl⟩ := List.mem_map.1 hl
    have hk2 := List.mem_range.1 hk
    have := depth_le c M 0
    rw [lev_len hC (by omega) x hxl]
    omega
  have hdl := depth_le c M 0
  generalize hD : depthG c M 0 = D at *
  have HD := Lib.hid hD
  have hLl : Ls.length = D + 1 := by have := congrArg List.length hL3; rw [levsTo_length] at this; simpa [levCont] using this
  have HL3 := Lib.hid hL3; have HLl := Lib.hid hLl; have Hwl := Lib.hid hwl
  have hOut3 : SeesRows w3 w.heap.size w.heap.size 0 [] := ⟨hO2.1.below hb3 hO2.1.lt, by simp⟩
  have hb3' := hb2.trans (hb3.mono hb2.size)
  have h23 := hb3.size
  clear hD hL3 hLl hO2 hb3 hwl Hcall hb2
  go_wp2_with fail
  go_loopw [6, 8] (fun ov kv wr => ∃ (k nO g' c' : Nat) (rs : List RowRef), k ≤ D + 1 ∧ kv = .int .i64 k ∧ ov = (Value.slice (some ⟨g', 0, none⟩) nO c') ∧ Hid (rs.length = nO) ∧ nO ≤ 200 ∧ Hid (contents rs = ((levsTo c D).take k).flatten) ∧ SeesRows wr w.heap.size g' c' rs ∧ (g' < w2'.heap.size ∨ w3.heap.size ≤ g') ∧ Hid (∀ b, w2'.heap.size ≤ b → b < w3.heap.size → wr.heap[b]? = w3.heap[b]?) ∧ w3.heap.size ≤ wr.heap.size ∧ Below w.heap.size w wr) (fun _ kv _ => D + 1 - (intOf kv).toNat)
  case atStart => exact ⟨0, 0, w.heap.size, 0, [], Nat.zero_le _, rfl, rfl, rfl, by omega, rfl, hOut3, .inl hz2, fun b _ _ => rfl, Nat.le_refl _, hb3'⟩
  case round =>
    clear hOut3 hb3'
    obtain ⟨k, nO, g', c', rs, hk, rfl, rfl, hrs, hnO, hct, hS, hgg, hsame, hsz, hb⟩ := hrel
    have hO := hO3.same hsame.out
    by_cases hlt : k < D + 1
    · have hkl : k < Ls.length := by rw [HLl.out]; exact hlt
      have hq := hO.1.cell k (by simpa using hkl)
      have hLk := hO.2 Ls[k] (List.getElem_mem _)
      have hcl : contents Ls[k].2.2 = levS c k := by
        have h1 := congrArg (fun l => l.getD k []) HL3.out
        simp only [levsTo_getD c D k (by omega)] at h1
        rw [← h1]; simp [levCont, List.getD, hkl]
      have htk : ((levsTo c D).take (k + 1)).flatten = ((levsTo c D).take k).flatten ++ levS c k := by
        have h3 : k < (levsTo c D).length := by rw [levsTo_length]; exact hlt
        have h4 : (levsTo c D)[k] = levS c k := by have := levsTo_getD c D k (by omega); simpa [List.getD, h3] using this
        rw [List.take_succ_eq_append_getElem h3, h4]; simp
      have hbd : nO + (levS c k).length ≤ 200 := by
        have h1 : ((levsTo c D).take (k + 1)).flatten.length ≤ (levsTo c D).flatten.length := by
          have e : (levsTo c D).flatten = ((levsTo c D).take (k + 1)).flatten ++ ((levsTo c D).drop (k + 1)).flatten := by rw [← List.flatten_append, List.take_append_drop]
          rw [e, List.length_append]; omega
        rw [htk, ← hct.out, List.length_append, contents_length, hrs.out] at h1
        omega
      have hll : Ls[k].2.2.length = (levS c k).length := by rw [← hcl, contents_length]
      have hq2 : wr.cell? ⟨g3, k, none⟩ = some (Value.slice (some ⟨(Ls[k].1), 0, none⟩) ((levS c k).length) (Ls[k].2.1)) := by rw [hq]; simp [levVal, hll]
      generalize Ls[k] = LL at *
      obtain ⟨gL, cL, rL⟩ := LL
      simp only at hq2 hLk hcl hll
      obtain ⟨lk, hlk⟩ : ∃ lk, (levS c k).length = lk := ⟨_, rfl⟩
      rw [hlk] at hq2 hbd hll
      have Htk := Lib.hid htk; have Hcl := Lib.hid hcl; have Hll := Lib.hid hll
      have hgL1 := hLk.base
      have hgL2 : gL < wr.heap.size := hLk.lt
      clear htk hcl hll hlk hq
      go_wp2_with (at_builtin; refine wpList_append_sees rfl _ _ rfl w.heap.size g' c' nO gL cL lk rs rL wr hrs.out Hll.out hS w2'.heap.size hLk rfl rfl (by omega) ?_)
      intro g5 c5 w5 hS5 hg5 hor5
      have hB5 : Below w.heap.size w w5 := hb.grown hg5 hb.size (by intro j hj; cases hj; exact hS.1.base)
      have hsame5 : Hid (∀ b, w2'.heap.size ≤ b → b < w3.heap.size → w5.heap[b]? = w3.heap[b]?) := fun b h1 h2 => by
        rw [← hsame.out b h1 h2]
        exact hg5.block b (by omega) (by simp; omega)
      have hgg5 : g5 < w2'.heap.size ∨ w3.heap.size ≤ g5 := by
        rcases hor5 with h | h
        · rw [h]; exact hgg
        · right; omega
      have hsz5 : w3.heap.size ≤ w5.heap.size := Nat.le_trans hsz hg5.size
      clear hO hS hLk hg5 hor5 hb hsame hq2
      go_wp2_with fail
      go_roundw
      case rel =>
        refine ⟨k + 1, nO + lk, g5, c5, rs ++ rL, by omega, by go_num, rfl, ?_, by omega, ?_, hS5, hgg5, hsame5, hsz5, hB5⟩
        · show _ = _
          rw [List.length_append, hrs.out, Hll.out]
        · show _ = _
          rw [Htk.out, ← hct.out, ← Hcl.out]; simp [contents]
      case measure => simp [intOf]; omega
    · obtain rfl : k = D + 1 := by omega
      have hfl : contents rs = (levsTo c D).flatten := by rw [hct.out, List.take_of_length_le (by rw [levsTo_length]; exact Nat.le_refl _)]
      have hrl : ∀ j, j < (contents rs).length → ((contents rs).getD j []).length ≤ 1048576 := fun j hj => by
        have h1 : (contents rs).getD j [] ∈ contents rs := by simp [List.getD, hj]
        have h2 : ∀ x ∈ contents rs, x.length ≤ 15 := by rw [hfl]; exact Hwl.out
        have := h2 _ h1
        omega
      have Hfl := Lib.hid hfl; have Hrl := Lib.hid hrl
      have hgS := hS.1.lt
      clear hfl hO hrl
      cases hf : finB c with
      | true =>
        obtain ⟨long, opp, hL⟩ := longOf_fin hC hf
        have hll : longLen c = long.length := by unfold longLen; rw [hL.norm]; rfl
        have hl30 := normG_len hL.norm
        have hcall := spec_LongestElement_ok gc oc _ cc c long wr rfl hC hf hL.norm (Nat.lt_of_lt_of_le hgc hb.size) (hr.below hb hgc)
        have Hcall := Lib.hid hcall; have Hll := Lib.hid hll
        clear hcall hll
        go_wp2_with fail
        refine Hcall.out.mono ?_
        rintro e w4 ⟨g4, c4, rfl, ho4, hb4⟩
        have hS4 : SeesRows w4 w.heap.size g' c' rs := ⟨hS.1.below hb4 hS.1.lt, fun r h => by obtain ⟨B', h2⟩ := hS.2 r h; exact ⟨B', h2.below hb4 h2.lt⟩⟩
        have hB4 := hb.trans (hb4.mono hb.size)
        clear hb4 hS hb Hcall
        go_wp2_with fail
        refine (spec_l2Copy_any g' 0 nO c' (contents rs) w4 (by rw [contents_length]; exact hrs.out) (by rw [contents_length, hrs.out]; omega) Hrl.out hS4.1.lt hS4.rows2).mono ?_
        rintro e w5 ⟨g5, c5, rs5, rfl, hc5, hO5, hb5⟩
        rw [contents_length, hrs.out]
        have Hc5 := Lib.hid hc5
        have hB5 := hB4.trans (hb5.mono hB4.size)
        have hgc5 : gc < w5.heap.size := Nat.lt_of_lt_of_le hgc hB5.size
        have hr5 := hr.below hB5 hgc
        clear hc5 hb5
        have hres : contents rs5 = (levsTo c D).flatten := by rw [Hc5.out]; exact Hfl.out
        have hl5 : rs5.length = nO := by rw [← contents_length, Hc5.out, contents_length]; exact hrs.out
        have Hres := Lib.hid hres; have Hl5 := Lib.hid hl5
        clear hres hl5
        by_cases hDM : D = M
        · have e1 : ((D + 1 == M + 1) || (finB c && (D + 1 == longLen c + 1))) = true := by simp [hDM]
          have hdI : ((D : Int) + 1 == (M : Int) + 1) = true := by simp; omega
          have Hdm := Lib.hid hDM; have He1 := Lib.hid e1
          clear hDM e1
          go_wp2_with fail
          go_ret2
          rw [He1.out]
          exact GotRowsB.mk' g5 c5 rs5 Hl5.out Hres.out (hO5.mono hB4.size) hB5
        · have hdI : ((D : Int) + 1 == (M : Int) + 1) = false := by simp; omega
          have hf5 := spec_IsFinite_any gc oc _ cc c w5 rfl (by omega) (fun j hj => by have := hC.2.2.1 j hj; omega) hgc5 hr5
          rw [hf] at hf5
          have Hf5 := Lib.hid hf5
          clear hf5
          by_cases hDl : D = long.length
          · have e1 : ((D + 1 == M + 1) || (finB c && (D + 1 == longLen c + 1))) = true := by simp [hf, Hll.out, hDl]
            have hxI : ((D : Int) + 1 == (long.length : Int) + 1) = true := by simp; omega
            have He1 := Lib.hid e1; have Hdl := Lib.hid hDl; have Hf := Lib.hid hf
            clear e1 hDl hf
            go_wp2_with fail
            refine Hf5.out.mono ?_
            rintro e w6 ⟨rfl, hb6⟩
            have hO6 := hO5.below hb6
            have hB6 := hB5.trans (hb6.mono hB5.size)
            clear hO5 hB5 hb6
            go_wp2_with fail
            go_ret2
            rw [He1.out]
            exact GotRowsB.mk' g5 c5 rs5 Hl5.out Hres.out (hO6.mono hB4.size) hB6
          · have e1 : ((D + 1 == M + 1) || (finB c && (D + 1 == longLen c + 1))) = false := by simp [hf, Hll.out, hDl, hDM]
            have hxI : ((D : Int) + 1 == (long.length : Int) + 1) = false := by simp; omega
            have He1 := Lib.hid e1; have Hf := Lib.hid hf
            clear e1 hf
            go_wp2_with fail
            refine Hf5.out.mono ?_
            rintro e w6 ⟨rfl, hb6⟩
            have hO6 := hO5.below hb6
            have hB6 := hB5.trans (hb6.mono hB5.size)
            clear hO5 hB5 hb6
            go_wp2_with fail
            go_ret2
            rw [He1.out]
            exact GotRowsB.mk' g5 c5 rs5 Hl5.out Hres.out (hO6.mono hB4.size) hB6
      | false =>
        have hcall := spec_LongestElement_no gc oc _ cc c wr rfl hC hf (Nat.lt_of_lt_of_le hgc hb.size) (hr.below hb hgc)
        have Hcall := Lib.hid hcall
        clear hcall
        go_wp2_with fail
        refine Hcall.out.mono ?_
        rintro e w4 ⟨g4, c4, rfl, ho4, hb4⟩
        have hS4 : SeesRows w4 w.heap.size g' c' rs := ⟨hS.1.below hb4 hS.1.lt, fun r h => by obtain ⟨B', h2⟩ := hS.2 r h; exact ⟨B', h2.below hb4 h2.lt⟩⟩
        have hB4 := hb.trans (hb4.mono hb.size)
        clear hb4 hS hb Hcall
        go_wp2_with fail
        refine (spec_l2Copy_any g' 0 nO c' (contents rs) w4 (by rw [contents_length]; exact hrs.out) (by rw [contents_length, hrs.out]; omega) Hrl.out hS4.1.lt hS4.rows2).mono ?_
        rintro e w5 ⟨g5, c5, rs5, rfl, hc5, hO5, hb5⟩
        rw [contents_length, hrs.out]
        have Hc5 := Lib.hid hc5
        have hB5 := hB4.trans (hb5.mono hB4.size)
        have hgc5 : gc < w5.heap.size := Nat.lt_of_lt_of_le hgc hB5.size
        have hr5 := hr.below hB5 hgc
        clear hc5 hb5
        have hres : contents rs5 = (levsTo c D).flatten := by rw [Hc5.out]; exact Hfl.out
        have hl5 : rs5.length = nO := by rw [← contents_length, Hc5.out, contents_length]; exact hrs.out
        have Hres := Lib.hid hres; have Hl5 := Lib.hid hl5
        clear hres hl5
        by_cases hDM : D = M
        · have e1 : ((D + 1 == M + 1) || (finB c && (D + 1 == longLen c + 1))) = true := by simp [hDM]
          have hdI : ((D : Int) + 1 == (M : Int) + 1) = true := by simp; omega
          have Hdm := Lib.hid hDM; have He1 := Lib.hid e1
          clear hDM e1
          go_wp2_with fail
          go_ret2
          rw [He1.out]
          exact GotRowsB.mk' g5 c5 rs5 Hl5.out Hres.out (hO5.mono hB4.size) hB5
        · have hdI : ((D : Int) + 1 == (M : Int) + 1) = false := by simp; omega
          have hf5 := spec_IsFinite_any gc oc _ cc c w5 rfl (by omega) (fun j hj => by have := hC.2.2.1 j hj; omega) hgc5 hr5
          rw [hf] at hf5
          have Hf5 := Lib.hid hf5
          clear hf5
          have e1 : ((D + 1 == M + 1) || (finB c && (D + 1 == longLen c + 1))) = false := by simp [hf, hDM]
          have He1 := Lib.hid e1; have Hf := Lib.hid hf
          clear e1 hf
          go_wp2_with fail
          refine Hf5.out.mono ?_
          rintro e w6 ⟨rfl, hb6⟩
          have hO6 := hO5.below hb6
          have hB6 := hB5.trans (hb6.mono hB5.size)
          clear hO5 hB5 hb6
          go_wp2_with fail
          go_ret2
          rw [He1.out]
          exact GotRowsB.mk' g5 c5 rs5 Hl5.out Hres.out (hO6.mono hB4.size) hB6

set_option maxHeartbeats 4000000 in
theorem spec_BallOf_any (gc oc n cc : Nat) (c : List (List Int)) (most : Int) (w : World) (hn : c.length = n) (hx : c.length ≤ 1048576) (hrl : ∀ j, j < c.length → (c.getD j []).length ≤ 1048576) (hgc : gc < w.heap.size) (hr : Rows2 w gc oc c) :
    Calls Tryz.prog 15 #[(Value.slice (some ⟨gc, oc, none⟩) n cc), .int .i64 most] w (GotRowsB w (ballR c most) (ballB c most)) := by
  by_cases hall : IsC c ∧ 0 ≤ most ∧ most ≤ 15
  · obtain ⟨hC, hm, h15⟩ := hall
    obtain ⟨M, rfl⟩ : ∃ M : Nat, most = M := ⟨most.toNat, by omega⟩
    have hs : ballR c (M : Int) = (levsTo c (depthG c M 0)).flatten := by unfold ballR; rw [if_pos ⟨hC, hm, h15⟩, Int.toNat_natCast]
    have hs2 : ballB c (M : Int) = ballOk c M := by unfold ballB; rw [if_pos ⟨hC, hm, h15⟩, Int.toNat_natCast]
    rw [hs, hs2]
    exact spec_BallOf_ok gc oc n cc M c w hn hC (by omega) hgc hr
  · subst hn
    have hs : ballR c most = [] := by unfold ballR; rw [if_neg hall]
    have hs2 : ballB c most = false := by unfold ballB; rw [if_neg hall]
    rw [hs, hs2]
    clear hs hs2
    obtain ⟨w1, hw1⟩ : ∃ w1, w1 = w.alloc (.cells #[] 27) := ⟨_, rfl⟩
    have hb1 : Below w.heap.size w w1 := by rw [hw1]; exact (by repeat (first | with_reducible exact Below.refl _ _ | with_reducible assumption | with_reducible refine below_drewN ?_ _ | with_reducible refine Below.drew ?_ | (with_reducible refine Below.alloc ?_ ?_ _; rotate_left; · first | (simp; done) | (simp; omega) | exact Below.size (by assumption) | (have hsz := Below.size (by assumption : Below _ _ _); simp at hsz ⊢; omega)) | (with_reducible refine Below.setCell ?_ ?_ _; rotate_left; · first | (simp; done) | (simp; omega))))
    have hO1 : OwnRows w1 w.heap.size w.heap.size 0 [] := by rw [hw1]; exact OwnRows.empty (w := w) (Nat.le_refl _)
    have hcall := spec_IsCartan gc oc _ cc c w1 rfl (by omega) (fun j hj => by have := hrl j hj; omega) (hr.below hb1 hgc)
    rw [hw1] at hcall
    by_cases hC : IsC c
    · rw [decide_eq_true hC] at hcall
      have Hcall := Lib.hid hcall; have Hw1 := Lib.hid hw1
      have hd : (decide ((0 : Int) ≤ most) && decide (most ≤ 15)) = false := by
        by_cases h : 0 ≤ most
        · have : ¬ most ≤ 15 := fun h2 => hall ⟨hC, h, h2⟩
          simp [this]
        · simp [h]
      have Hd := Lib.hid hd
      clear hcall hw1 hall hd
      go_enter Tryz.func15, Tryz.ntmps15
      go_wp2_with fail
      refine Hcall.out.mono ?_
      rintro e w2 ⟨rfl, hs2⟩
      rw [← Hw1.out] at hs2
      have hb2 := below_still hb1 hs2
      have hO2 := hO1.still hs2
      clear hs2 hb1 hO1 Hcall Hw1
      have hl1 := spec_l1In most 0 15 w2
      rw [Hd.out] at hl1
      have Hl1 := Lib.hid hl1
      clear hl1
      go_wp2_with fail
      refine Hl1.out.mono ?_
      rintro e w3 ⟨rfl, hs3⟩
      have hb3 := below_still hb2 hs3
      have hO3 := hO2.still hs3
      go_wp2_with fail
      go_ret2
      exact GotRowsB.mk' _ _ [] rfl rfl hO3 hb3
    · rw [decide_eq_false hC] at hcall
      have Hcall := Lib.hid hcall; have Hw1 := Lib.hid hw1
      clear hcall hw1 hall
      go_enter Tryz.func15, Tryz.ntmps15
      go_wp2_with fail
      refine Hcall.out.mono ?_
      rintro e w2 ⟨rfl, hs2⟩
      rw [← Hw1.out] at hs2
      have hb2 := below_still hb1 hs2
      have hO2 := hO1.still hs2
      go_wp2_with fail
      go_ret2
      exact GotRowsB.mk' _ _ [] rfl rfl hO2 hb2

end Go.Proofs.YtldcmhgpppeooaaGreatDoor
