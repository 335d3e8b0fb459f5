/- DrC Ctn DrD DrF -/
import Derived.Test.YtkjglfafphffiaaGreatDoorC23
import Derived.Test.YtkjglfafphffiaaGreatDoorC28
import Derived.Test.YtkjglfafphffiaaGreatDoorC42
import Derived.Test.YtkjglfafphffiaaGreatDoorC43
import Derived.Test.YtkjglfafphffiaaGreatDoorC03
import Derived.Deep.RegionWith
import Derived.WalkSpells
import Derived.Test.YtkjglfafphffiaaGreatDoorC06
import Derived.Deep.RegionHeld3
import Derived.Deep.RegionLaw
namespace Go.Proofs.YtkjglfafphffiaaGreatDoor
set_option maxRecDepth 100000
open Go.RowKit Game
def delTo (v : List Int) (at' k : Nat) : List Int := (v.take k).eraseIdx at'
theorem delTo_skip (v : List Int) (k : Nat) (hk : k < v.length) : delTo v k (k + 1) = delTo v k k := by
  unfold delTo
  have hl : (v.take k).length = k := by rw [List.length_take]; omega
  have h1 : (v.take (k + 1)).eraseIdx k = v.take k := by
    rw [List.take_succ_eq_append_getElem hk, List.eraseIdx_append_of_length_le (by omega), hl]; simp
  rw [h1, List.eraseIdx_of_length_le (by omega)]
theorem delTo_take {v : List Int} {at' k : Nat} (hk : k < v.length) (hne : k ≠ at') : delTo v at' (k + 1) = delTo v at' k ++ [v.getD k 0] := by
  unfold delTo
  have e : v.getD k 0 = v[k] := by simp [List.getD, hk]
  have hl : (v.take k).length = k := by rw [List.length_take]; omega
  rw [List.take_succ_eq_append_getElem hk, e]
  by_cases h : at' < k
  · rw [List.eraseIdx_append_of_lt_length (by omega)]
  · have h1 : (v.take k).eraseIdx at' = v.take k := List.eraseIdx_of_length_le (by omega)
    have h2 : (v.take k ++ [v[k]]).eraseIdx at' = v.take k ++ [v[k]] := List.eraseIdx_of_length_le (by rw [List.length_append, hl]; simp; omega)
    rw [h1, h2]
set_option maxHeartbeats 1000000 in
theorem spec_DeleteAt_ok (g o n cp at' : Nat) (v : List Int) (w : World) (hm : v.length = n) (hat : at' < n) (hl : v.length ≤ 1048576) (hg : g < w.heap.size) (hv : Cells w g o v) :
    Calls Tryz.prog 135 #[(Value.slice (some ⟨g, o, none⟩) n cp), .int .i64 at'] w (GotInts w (v.eraseIdx at')) := by
  subst hm
  go_enter Tryz.func135, Tryz.ntmps135
  go_wp2
  go_loopw [5, 6] (fun ov kv wr => ∃ (k m g2 c2 : Nat), k ≤ v.length ∧ kv = .int .i64 k ∧ ov = (Value.slice (some ⟨g2, 0, none⟩) m c2) ∧ m ≤ k ∧ Hid ((delTo v at' k).length = m) ∧ Own wr w.heap.size g2 c2 (delTo v at' k) ∧ Below w.heap.size w wr) (fun _ kv _ => v.length - (intOf kv).toNat)
  case atStart => exact ⟨0, 0, w.heap.size, 0, Nat.zero_le _, rfl, rfl, Nat.le_refl _, Lib.hid (by simp [delTo]), by simpa [delTo] using (Own.empty (w := w) (Nat.le_refl _)), (Below.refl _ _).alloc (Nat.le_refl _) _⟩
  case round =>
    obtain ⟨k, m, g2, c2, hk, rfl, rfl, hmk, hml, ho, hb⟩ := hrel
    by_cases hlt : k < v.length
    · have q1 := (hv.below hb hg) k hlt
      by_cases e : k = at'
      · subst e
        have hs := delTo_skip v k hlt
        have Hs := Lib.hid hs
        have b1 : ((k : Int) != (k : Int)) = false := by simp
        clear hs
        go_wp2_with fail
        go_roundw
        case rel => exact ⟨k + 1, m, g2, c2, by omega, by go_num, rfl, by omega, Lib.hid (by rw [Hs.out]; exact hml.out), by rw [Hs.out]; exact ho, hb⟩
        case measure => simp [intOf]; omega
      · have hs := delTo_take hlt e
        have Hs := Lib.hid hs
        have b1 : ((k : Int) != (at' : Int)) = true := by simp; omega
        have b2 : ¬ (k : Int) = (at' : Int) := by omega
        clear hs
        generalize v.getD k 0 = z at *
        go_wp2_with (at_builtin; refine wpList_append_int_n rfl _ _ rfl w.heap.size g2 c2 m (delTo v at' k) z hml.out ho rfl rfl (by omega) ?_)
        intro g3 c3 w3 ho3 hg3 hor3
        rw [← Hs.out] at ho3
        have hb3 := hb.grown hg3 hb.size (by intro t ht; cases ht; exact ho.base)
        have hl3 : Hid ((delTo v at' (k + 1)).length = m + 1) := Lib.hid (by rw [Hs.out, List.length_append, hml.out]; rfl)
        clear ho hb hg3 hor3
        go_wp2_with fail
        go_roundw
        case rel => exact ⟨k + 1, m + 1, g3, c3, by omega, by go_num, rfl, by omega, hl3, ho3, hb3⟩
        case measure => simp [intOf]; omega
    · obtain rfl : k = v.length := by omega
      have hd : delTo v at' v.length = v.eraseIdx at' := by unfold delTo; rw [List.take_length]
      rw [hd] at ho
      have hml2 := hml.out
      rw [hd] at hml2
      have Hml2 := Lib.hid hml2
      clear hd hml hml2
      go_wp2_with fail
      go_ret
      exact ⟨g2, c2, by rw [Hml2.out]; rfl, ho, hb⟩
theorem len_eraseC {v : List Int} {n k : Nat} (h : v.length = n) (hk : k < n) : (v.eraseIdx k).length = n - 1 := by rw [List.length_eraseIdx, if_pos (by omega), h]
theorem Own.intsV' {w : World} {B g cap n : Nat} {xs : List Int} (h : Own w B g cap xs) (hn : xs.length = n) : IntsV w (Value.slice (some ⟨g, 0, none⟩) n cap) xs := ⟨g, 0, n, cap, rfl, hn, by have := h.capLe; omega, h.lt, h.cells⟩
def Drew2V (w : World) (e : Ending) (w' : World) : Prop :=
  ∃ (g cap g1 o1 n1 c1 g2 o2 n2 c2 : Nat) (R : List (List Int)) (u v : List Int), e = .returned (.tuple #[(Value.slice (some ⟨g, 0, none⟩) R.length cap), (Value.slice (some ⟨g1, o1, none⟩) n1 c1), (Value.slice (some ⟨g2, o2, none⟩) n2 c2)]) ∧ MatR w' w.heap.size g cap R ∧ IntsV w' (Value.slice (some ⟨g1, o1, none⟩) n1 c1) u ∧ IntsV w' (Value.slice (some ⟨g2, o2, none⟩) n2 c2) v ∧ (u.length ≤ 15 ∧ v.length ≤ 15) ∧ Below w.heap.size w w'
theorem row_at {W : World} {B gl cl : Nat} {rs : List RowRef} {L : List (List Int)} (h : OwnRows W B gl cl rs) (hcon : contents rs = L) {j : Nat} (hj : j < L.length) :
    ∃ gj cj, W.cell? ⟨gl, j, none⟩ = some (Value.slice (some ⟨gj, 0, none⟩) ((L.getD j []).length) cj) ∧ gj < W.heap.size ∧ (L.getD j []).length ≤ cj ∧ Cells W gj 0 (L.getD j []) := by
  have hjr : j < rs.length := by rw [← contents_length, hcon]; exact hj
  have hcl : L.getD j [] = rs[j].2.2 := by rw [← hcon]; simp [contents, List.getD, hjr]
  have ho := h.2.1 rs[j] (List.getElem_mem _)
  rw [hcl]
  refine ⟨rs[j].1, rs[j].2.1, ?_, ho.lt, ho.capLe, ho.cells⟩
  rw [h.1.cell j (by simpa using hjr)]
  simp [rowVal]
theorem rwL_pos {c : List (List Int)} {u : List Int} (h : rwB c u = true) : 0 < (rwL c u).length := by
  unfold rwB at h
  rw [Bool.and_eq_true] at h
  have h2 := of_decide_eq_true h.2
  unfold rwL
  rw [if_pos h.1, if_pos h2]
  have hU := wordOk_of h.1
  have hW := hU.lets.mono (show 15 ≤ 30 by omega)
  have hN := nw_nf hU
  have hm : nfI c u ∈ wordsL c (nfI c u) := (mem_wordsL hN (nfI c u)).2 ⟨hN.lets.word, hN.self, rfl⟩
  exact List.length_pos_of_mem hm
section
variable (a : Option Addr) (n c : Nat) (w : World) (hn : n ≤ 1048577) (hc : CodeV w w.heap.size a n)
include hn hc
set_option maxHeartbeats 1000000 in
theorem spec_l11Small_any : Calls Tryz.prog 131 #[.slice a n c] w (Drew1 w) := by
  have h1 := Lib.hid (spec_l1New_any a n c w hn hc)
  have Hc := Lib.hid hc
  clear hc
  go_enter Tryz.func131, Tryz.ntmps131
  go_wp2_with fail
  refine h1.out.mono ?_
  rintro e w1 ⟨p, hp, rfl, hcur, hb1⟩
  have hc1 := Hc.out.below hb1
  have hps := hcur.lt
  have k1 := Lib.hid (spec_l2Any_any w.heap.size p a n c w1 hn hc1 hp hcur)
  clear hcur hc1
  go_wp2_with fail
  refine k1.out.mono ?_
  rintro e w2 ⟨g, cap, rows, rfl, hM, hcur2, hc2, hO2⟩
  have hM5 := hM.few
  have HM := Lib.hid hM
  have hb2 := Below.only hb1 hO2 hp (Nat.le_refl _)
  have k2 := Lib.hid (spec_l5Word_gen w.heap.size p a n c g 0 rows.length cap 7 w2 hM5 (by omega) hn hc2 hp hcur2)
  clear hM hcur2 hc2
  go_wp2_with fail
  refine k2.out.mono ?_
  rintro e w3 ⟨xs, g3, c3, ⟨hxl, -⟩, rfl, ho3, hcur3, hc3, hO3⟩
  have hb3 := Below.only hb2 hO3 hp (Nat.le_refl _)
  have hM3 := Lib.hid ((HM.out.only hO3 hps).mono hb1.size)
  have Ho3 := Lib.hid (ho3.mono hb2.size)
  clear HM hcur3 hc3 ho3 k2
  go_wp2_with fail
  go_ret2
  exact ⟨g, cap, g3, c3, rows, xs, rfl, hM3.out, Ho3.out, by omega, hb3⟩
set_option maxHeartbeats 2000000 in
theorem spec_DrawIsBruhatBelow_any : Calls Tryz.prog 80 #[.slice a n c] w (Drew2V w) := by
  have h1 := Lib.hid (spec_l8Two_any a n c w hn hc)
  clear hc
  obtain ⟨r2, hr2⟩ : ∃ r : Int, (n : Int) % 2 = r := ⟨_, rfl⟩
  have hr2' : (n : Int).tmod 2 = r2 := by rw [Int.tmod_eq_emod_of_nonneg (by omega)]; exact hr2
  have HR := Lib.hid hr2; have HR' := Lib.hid hr2'
  clear hr2 hr2'
  have main : ∀ b : Bool, (r2 == 0) = b → Calls Tryz.prog 80 #[.slice a n c] w (Drew2V w) := by
    intro b hb0
    have d1 : ((n : Int) % 2 == 0) = b := by rw [HR.out]; exact hb0
    have d2 : ((n : Int).tmod 2 == 0) = b := by rw [HR'.out]; exact hb0
    clear hb0 HR HR'
    go_enter Tryz.func80, Tryz.ntmps80
    go_wp2_with fail
    refine h1.out.mono ?_
    rintro e w1 ⟨g, cap, g1, c1, g2, c2, R, u, v, rfl, hM, ho1, ho2, hl, hb⟩
    have HM := Lib.hid hM; have H1 := Lib.hid ho1; have H2 := Lib.hid ho2; have Hb := Lib.hid hb
    obtain ⟨lv, hlv⟩ : ∃ l, v.length = l := ⟨_, rfl⟩
    obtain ⟨lu, hlu⟩ : ∃ l, u.length = l := ⟨_, rfl⟩
    rw [hlv, hlu] at hl ⊢
    have Hlv := Lib.hid hlv; have Hlu := Lib.hid hlu
    clear hM ho1 ho2 hb hlv hlu
    have rest : Drew2V w (.returned (.tuple #[(Value.slice (some ⟨g, 0, none⟩) R.length cap), (Value.slice (some ⟨g1, 0, none⟩) lu c1), (Value.slice (some ⟨g2, 0, none⟩) lv c2)])) w1 :=
      ⟨g, cap, g1, 0, lu, c1, g2, 0, lv, c2, R, u, v, rfl, HM.out, H1.out.intsV' Hlu.out, H2.out.intsV' Hlv.out, ⟨by rw [Hlu.out]; omega, by rw [Hlv.out]; omega⟩, Hb.out⟩
    have Rest := Lib.hid rest
    clear rest
    cases b with
    | false =>
      go_wp2_with fail
      go_ret3
      exact Rest.out
    | true =>
      by_cases h2 : 2 < lv
      · have h2I : (2 : Int) < (lv : Int) := by omega
        have hlv0 : (lv : Int) ≠ 0 := by omega
        have hm0 : 0 ≤ (n : Int) % (lv : Int) ∧ (n : Int) % (lv : Int) < (lv : Int) := ⟨Int.emod_nonneg _ hlv0, Int.emod_lt_of_pos _ (by omega)⟩
        obtain ⟨at', hat⟩ : ∃ at' : Nat, (n : Int) % (lv : Int) = (at' : Int) := ⟨((n : Int) % (lv : Int)).toNat, by omega⟩
        have hat2 : (n : Int).tmod (lv : Int) = (at' : Int) := by rw [Int.tmod_eq_emod_of_nonneg (by omega)]; exact hat
        have hat3 : at' < lv := by omega
        have hz1 : ((lv : Int) == 0) = false := by simp; omega
        have K := Lib.hid (spec_DeleteAt_ok g2 0 lv c2 at' v w1 Hlv.out hat3 (by rw [Hlv.out]; omega) H2.out.lt H2.out.cells)
        have Hat := Lib.hid (len_eraseC Hlv.out hat3)
        clear hm0
        go_wp2_with fail
        refine K.out.mono ?_
        rintro e w2 ⟨g3, c3, rfl, ho3, hb3⟩
        have hM3 := Lib.hid (HM.out.below hb3)
        have ho23 := Lib.hid (H2.out.below hb3 H2.out.lt)
        have hb4 := Lib.hid (Hb.out.trans (hb3.mono Hb.out.size))
        rw [Hat.out]
        have Ho3 := Lib.hid ho3
        clear hb3 ho3 K hat hat2
        go_wp2_with fail
        go_ret3
        exact ⟨g, cap, g3, 0, lv - 1, c3, g2, 0, lv, c2, R, v.eraseIdx at', v, rfl, hM3.out, Ho3.out.intsV' Hat.out, ho23.out.intsV' Hlv.out, ⟨by rw [Hat.out]; omega, by rw [Hlv.out]; omega⟩, hb4.out⟩
      · have h2I : ¬ (2 : Int) < (lv : Int) := by omega
        go_wp2_with fail
        go_ret3
        exact Rest.out
  exact main _ rfl
set_option maxHeartbeats 4000000 in
theorem spec_DrawBraidPath_any : Calls Tryz.prog 79 #[.slice a n c] w (Drew2V w) := by
  have h1 := Lib.hid (spec_l1New_any a n c w hn hc)
  have Hc := Lib.hid hc
  clear hc
  go_enter Tryz.func79, Tryz.ntmps79
  go_wp2_with fail
  refine h1.out.mono ?_
  rintro e w1 ⟨p, hp, rfl, hcur, hb1⟩
  have hc1 := Hc.out.below hb1
  have k1 := Lib.hid (spec_l11Small_any a n c w1 hn (hc1.mono hb1.size))
  have hcur := Lib.hid hcur; have hc1 := Lib.hid hc1
  clear h1
  go_wp2_with fail
  refine k1.out.mono ?_
  rintro e w2 ⟨g, cap, g2, c2, R, v, rfl, hM, ho2, hl, hb2⟩
  have hp1 := hcur.out.lt
  have hcur2 := Lib.hid (hcur.out.below' hb2 hp1)
  have hc2 := Lib.hid (hc1.out.below' hb2 (by omega))
  have hB2 := hb1.trans (hb2.mono hb1.size)
  have hM5 := hM.few
  obtain ⟨lv, hlv⟩ : ∃ l, v.length = l := ⟨_, rfl⟩
  rw [hlv] at hl ⊢
  have Hlv := Lib.hid hlv
  clear hcur hc1 hb2 k1 hlv
  have KR := spec_ReducedWords_any g 0 R.length cap g2 0 lv c2 R v w2 rfl Hlv.out (by omega) hM.rl (by rw [Hlv.out]; omega) hM.lt ho2.lt hM.rows2 ho2.cells
  have hpos : rwB R v = true → 0 < (rwL R v).length := rwL_pos
  have hfew : rwB R v = true → (rwL R v).length ≤ 120 ∧ ∀ x ∈ rwL R v, x.length ≤ 15 := fun h => rwL_few (wordOk_of (by unfold rwB at h; rw [Bool.and_eq_true] at h; exact h.1))
  generalize rwB R v = kn at *
  generalize rwL R v = L at *
  have KR := Lib.hid KR; have Hpos := Lib.hid hpos; have Hfew := Lib.hid hfew
  clear hpos hfew
  go_wp2_with fail
  refine KR.out.mono ?_
  rintro e w3 ⟨gl, cl, rs, rfl, hcon, hL, hb3⟩
  have hcur3 := Lib.hid (hcur2.out.below' hb3 hcur2.out.lt)
  have hc3 := Lib.hid (hc2.out.below' hb3 (by have := hcur2.out.lt; omega))
  have hB3 := hB2.trans (hb3.mono hB2.size)
  have HM3 := Lib.hid (hM.below hb3)
  have Ho3 := Lib.hid (ho2.below hb3 ho2.lt)
  have hps3 : p < w2.heap.size := hcur2.out.lt
  have Hcon := Lib.hid hcon
  have HL := Lib.hid hL
  have hrl : L.length = rs.length := by rw [← hcon, contents_length]
  have Hrl := Lib.hid hrl
  clear hcur2 hc2 hB2 hM ho2 hb3 hcon hL KR
  have kW := Lib.hid (fun (W : World) (hc : CodeV W w.heap.size a n) (hcur : Cur W p a n c) => spec_l5Word_gen w.heap.size p a n c g 0 R.length cap 5 W hM5 (by omega) hn hc hp hcur)
  cases kn with
  | false =>
    have kW := Lib.hid (kW.out w3 hc3.out hcur3.out)
    clear Hpos Hfew HL Hcon hrl Hrl
    go_wp2_with fail
    refine kW.out.mono ?_
    rintro e w4 ⟨ys, g4, c4, ⟨hyl, -⟩, rfl, ho4, hcur4, hc4, hO4⟩
    have hM4 := Lib.hid (HM3.out.only hO4 hp1)
    have ho34 := Lib.hid (Ho3.out.only hO4 (.inr (by have := Ho3.out.base; omega)))
    have Ho4 := Lib.hid ho4
    have hb4 := Below.only hB3 hO4 hp (Nat.le_refl _)
    clear hcur4 hc4 hO4 ho4 kW HM3 Ho3
    go_wp2_with fail
    go_ret3
    exact ⟨g, cap, g2, 0, lv, c2, g4, 0, ys.length, c4, R, v, ys, rfl, hM4.out.mono hb1.size, ho34.out.intsV' Hlv.out, Ho4.out.intsV' rfl, ⟨by rw [Hlv.out]; omega, by omega⟩, hb4⟩
  | true =>
    have hL1 := Hpos.out rfl
    have hL2 := (Hfew.out rfl).1
    have Hl15 := Lib.hid (Hfew.out rfl).2
    have kO := Lib.hid (spec_l1Once_any w.heap.size p a n c 6 w3 (by omega) hn hc3.out hp hcur3.out)
    obtain ⟨N, hN⟩ : ∃ N, L.length = N := ⟨_, rfl⟩
    have HN := Lib.hid hN
    rw [hN] at hL1 hL2 ⊢
    clear Hpos Hfew hrl hN
    go_wp2_with fail
    refine kO.out.mono ?_
    rintro e w4 ⟨b, rfl, hcur4, hc4, hO4⟩
    have hM4 := Lib.hid (HM3.out.only hO4 hp1)
    have ho34 := Lib.hid (Ho3.out.only hO4 (.inr (by have := Ho3.out.base; omega)))
    have hL4 := Lib.hid (HL.out.only' hO4 hps3)
    have hb4 := Below.only hB3 hO4 hp (Nat.le_refl _)
    have hcur4 := Lib.hid hcur4; have hc4 := Lib.hid hc4
    clear hO4 kO HM3 Ho3 HL hcur3 hc3 hB3
    cases b with
    | true =>
      have kW := Lib.hid (kW.out w4 hc4.out hcur4.out)
      clear hL4 Hcon Hrl hcur4 hc4
      go_wp2_with fail
      refine kW.out.mono ?_
      rintro e w5 ⟨ys, g5, c5, ⟨hyl, -⟩, rfl, ho5, hcur5, hc5, hO5⟩
      have hM5' := Lib.hid (hM4.out.only hO5 hp1)
      have ho35 := Lib.hid (ho34.out.only hO5 (.inr (by have := ho34.out.base; omega)))
      have Ho5 := Lib.hid ho5
      have hb5 := Below.only hb4 hO5 hp (Nat.le_refl _)
      clear hcur5 hc5 hO5 ho5 kW hM4 ho34
      go_wp2_with fail
      go_ret3
      exact ⟨g, cap, g2, 0, lv, c2, g5, 0, ys.length, c5, R, v, ys, rfl, hM5'.out.mono hb1.size, ho35.out.intsV' Hlv.out, Ho5.out.intsV' rfl, ⟨by rw [Hlv.out]; omega, by omega⟩, hb5⟩
    | false =>
      have kB := Lib.hid (spec_l1Below_any w.heap.size p a n c (N : Int) w4 ⟨by omega, by omega⟩ hn hc4.out hp hcur4.out)
      clear kW hcur4 hc4
      go_wp2_with fail
      refine kB.out.mono ?_
      rintro e w5 ⟨x, hx, rfl, hcur5, hc5, hO5⟩
      obtain ⟨j, rfl⟩ : ∃ j : Nat, x = j := ⟨x.toNat, by omega⟩
      have hj : j < N := by omega
      have hM5' := Lib.hid (hM4.out.only hO5 hp1)
      have hL5 := Lib.hid (hL4.out.only' hO5 hps3)
      have hb5 := Below.only hb4 hO5 hp (Nat.le_refl _)
      obtain ⟨gj, cj, q1, q2, q2', q3⟩ := row_at hL5.out Hcon.out (by rw [HN.out]; exact hj)
      have hy15 := Hl15.out (L.getD j []) (by have := HN.out; simp [List.getD, show j < L.length by omega])
      generalize L.getD j [] = y at *
      obtain ⟨ly, hly⟩ : ∃ l, y.length = l := ⟨_, rfl⟩
      rw [hly] at q1 q2' hy15
      have Hly := Lib.hid hly; have Q3 := Lib.hid q3
      have hjI : (j : Int) < (N : Int) := by omega
      have kL := Lib.hid (spec_l1Below_any w.heap.size p a n c (N : Int) w5.drew ⟨by omega, by omega⟩ hn (show CodeV w5.drew _ _ _ from hc5) hp (show Cur w5.drew _ _ _ _ from hcur5))
      clear hly q3 hx hO5 hM4 hL4 hb4 ho34 kB hcur5 hc5
      have hbD : Below w.heap.size w w5.drew := Below.drew hb5
      have hMD : Hid (MatR w5.drew w1.heap.size g cap R) := Lib.hid (hM5'.out.still ⟨1, rfl⟩)
      have hLD : Hid (OwnRows w5.drew w2.heap.size gl cl rs) := Lib.hid (hL5.out.still ⟨1, rfl⟩)
      have hyD : Hid (IntsV w5.drew (Value.slice (some ⟨gj, 0, none⟩) ly cj) y) := Lib.hid ⟨gj, 0, ly, cj, rfl, Hly.out, q2', q2, Q3.out⟩
      have hgj : w2.heap.size ≤ gj := by
        have hjr : j < rs.length := by rw [← Hrl.out, HN.out]; exact hj
        have e1 := hL5.out.1.cell j (by simpa using hjr)
        rw [q1] at e1
        have h9 := (hL5.out.2.1 rs[j] (List.getElem_mem _)).base
        simp [rowVal] at e1
        rw [e1.1]; exact h9
      go_upto_region 6 with fail
      clear q1 q2 hb5 hM5' hL5
      go_region_with (go_at_call 64; refine kL.out.mono ?_; rintro e w6 ⟨z, hz, rfl, hcur6, hc6, hO6⟩; obtain ⟨i, rfl⟩ : ∃ i : Nat, z = i := ⟨z.toNat, by omega⟩; have hi : i < N := (by omega); have hiI : (i : Int) < (N : Int) := (by omega); obtain ⟨gi, ci, f1, f2, f2', f3⟩ := row_at (hLD.out.only' hO6 hps3) Hcon.out (by rw [HN.out]; exact hi); have hx15 := Hl15.out (L.getD i []) (by have := HN.out; simp [List.getD, show i < L.length by omega]); generalize L.getD i [] = x2 at f1 f2' f3 hx15)
      have hM6 := Lib.hid (hMD.out.only hO6 hp1)
      have hb6 := Below.only hbD hO6 hp (Nat.le_refl _)
      have hy6 : Hid (IntsV w6 (Value.slice (some ⟨gj, 0, none⟩) ly cj) y) := Lib.hid (by
        obtain ⟨g', o', n', c', e', r1, r2, r3, r4⟩ := hyD.out
        cases e'
        exact ⟨gj, 0, ly, cj, rfl, r1, r2, Nat.lt_of_lt_of_le r3 hO6.size, fun t ht => (World.cell?_of_block (a := ⟨gj, 0 + t, none⟩) (hO6.block gj r3 (.inr (by omega)))).trans (r4 t ht)⟩)
      have hx6 : Hid (IntsV w6 (Value.slice (some ⟨gi, 0, none⟩) x2.length ci) x2) := Lib.hid ⟨gi, 0, x2.length, ci, rfl, rfl, f2', f2, f3⟩
      clear f1 f2 f3 f2' hcur6 hc6 hO6 kL hLD hMD hyD
      go_wp2_with fail
      go_ret3
      exact ⟨g, cap, gj, 0, ly, cj, gi, 0, x2.length, ci, R, y, x2, rfl, hM6.out.mono hb1.size, hy6.out, hx6.out, ⟨by rw [Hly.out]; omega, by omega⟩, hb6⟩
end
end Go.Proofs.YtkjglfafphffiaaGreatDoor
namespace Go.Proofs.YtkjglfafphffiaaGreatDoor
set_option maxRecDepth 100000
open Go.RowKit
def OrdV (w : World) (B : Nat) (v : Value) (xs : List Int) : Prop := (v = .slice none 0 0 ∧ xs = []) ∨ ∃ g c, v = (Value.slice (some ⟨g, 0, none⟩) xs.length c) ∧ Own w B g c xs
theorem run_append_ord {w : World} {B : Nat} {v : Value} {xs : List Int} (h : OrdV w B v xs) (hB : B ≤ w.heap.size) (z : Int) (hx : xs.length + 1 ≤ 1048576) (ty : TypeId) :
    ∃ g c w', (Builtin.append_ #[25, 25] ty #[v, (Value.slice (some ⟨w.heap.size, 0, none⟩) 1 1)]).run Tryz.prog (w.alloc (.cells #[.int .i64 z] 3)) = .ok (Value.slice (some ⟨g, 0, none⟩) (xs.length + 1) c) w' ∧ Own w' B g c (xs ++ [z]) ∧ (v = .slice none 0 0 → Below w.heap.size w w') ∧ (∀ g0 n0 c0, v = (Value.slice (some ⟨g0, 0, none⟩) n0 c0) → w.grownBy w' (some g0)) := by
  rcases h with ⟨rfl, rfl⟩ | ⟨g, c, rfl, ho⟩
  · obtain ⟨i0, hi, hz0, hz1, hz2⟩ := info_parts info3
    have hnew := Own.new (w := w) (B := w.heap.size) z (Nat.le_refl _)
    have hown0 : (w.alloc (.cells #[.int .i64 z] 3)).ownsRow B 3 1 (.slice none 0 0) 0 [] := ⟨rfl, .inl ⟨rfl, rfl⟩⟩
    obtain ⟨v', w', hr, ho, hg, hiff⟩ := run_append_own (P := Tryz.prog) (w.alloc (.cells #[.int .i64 z] 3)) B 25 ty 3 i0 (.int .i64 0) 1 8 Tryz.underlying25 hi hz0 hz1 hz2 rfl (by decide) _ 0 _ hown0 ⟨w.heap.size, 0, none⟩ 1 1 [.int .i64 z] rfl
      (fun j u hu => by
        have hj : j = 0 := by have := (List.getElem?_eq_some_iff.1 hu).1; simp at this; exact this
        subst hj
        have := hnew.cell 0 (by simp)
        simp at hu
        rw [Addr.add_lit, Nat.add_zero, this, ← hu]
        rfl) (fun u hu => by simp at hu; subst hu; rfl) (by unfold maxLen; omega) (by omega) (by simp; omega)
    rcases ho.2 with ⟨h1, h2⟩ | ⟨g', cap', cur, hv, hb, hh, hn, hm, hs, htk⟩
    · exact absurd (hiff.1 h1).2 (by omega)
    · refine ⟨g', cap', w', ?_, ?_, fun _ => ?_, fun g0 n0 c0 e => by cases e⟩
      · rw [hr, hv]; rfl
      · show w'.ownsRow B 3 1 (Value.slice (some ⟨g', 0, none⟩) (([] ++ [z] : List Int).length) cap') _ _
        rw [hv] at ho
        exact ho
      · exact ((Below.refl _ _).alloc (Nat.le_refl _) _).grown hg (by simp) (by intro k hk; simp [Value.ownBlock] at hk)
  · obtain ⟨g', cap', w', hr, h1, h2, h3⟩ := run_append_ints (ho.alloc (.cells #[.int .i64 z] 3)) (Own.new (B := w.heap.size) z (Nat.le_refl _)).cells (c2 := 1) (by simp; omega) ty
    refine ⟨g', cap', w', hr, h1, (fun e => by cases e), fun g0 n0 c0 e => ?_⟩
    cases e
    exact ⟨h2.os, h2.tape, h2.output, Nat.le_trans (by simp) h2.size, fun k hk hne => (h2.block k (by simp; omega) hne).trans (Below.heap_alloc _ _ _ hk)⟩
end Go.Proofs.YtkjglfafphffiaaGreatDoor
namespace Go.Proofs.YtkjglfafphffiaaGreatDoor
set_option maxRecDepth 100000
open Go.RowKit Game
def DrewK (w : World) (e : Ending) (w' : World) : Prop :=
  ∃ (kd : Int) (g cap g1 o1 n1 c1 g2 o2 n2 c2 : Nat) (R : List (List Int)) (u v : List Int), e = .returned (.tuple #[.int .i64 kd, (Value.slice (some ⟨g, 0, none⟩) R.length cap), (Value.slice (some ⟨g1, o1, none⟩) n1 c1), (Value.slice (some ⟨g2, o2, none⟩) n2 c2)]) ∧ MatR w' w.heap.size g cap R ∧ IntsV w' (Value.slice (some ⟨g1, o1, none⟩) n1 c1) u ∧ IntsV w' (Value.slice (some ⟨g2, o2, none⟩) n2 c2) v ∧ (u.length ≤ 15 ∧ v.length ≤ 15) ∧ Below w.heap.size w w'
theorem Drew2.toV {w w' : World} {e : Ending} (h : Drew2 w e w') : Drew2V w e w' := by
  obtain ⟨g, cap, g1, c1, g2, c2, R, u, v, rfl, hM, ho1, ho2, hl, hb⟩ := h
  exact ⟨g, cap, g1, 0, _, c1, g2, 0, _, c2, R, u, v, rfl, hM, ho1.intsV' rfl, ho2.intsV' rfl, ⟨by omega, by omega⟩, hb⟩
section
variable (a : Option Addr) (n c : Nat) (w : World) (hn : n ≤ 1048577) (hc : CodeV w w.heap.size a n)
include hn hc
set_option maxHeartbeats 2000000 in
theorem spec_l34Draw_any : Calls Tryz.prog 24 #[.slice a n c] w (DrewK w) := by
  have h1 := Lib.hid (spec_l1New_any a n c w hn hc)
  have Hc := Lib.hid hc
  clear hc
  go_enter Tryz.func24, Tryz.ntmps24
  go_wp2_with fail
  refine h1.out.mono ?_
  rintro e w1 ⟨p, hp, rfl, hcur, hb1⟩
  have hc1 := Hc.out.below hb1
  have k1 := Lib.hid (spec_l1Below_any w.heap.size p a n c 8 w1 (by omega) hn hc1 hp hcur)
  clear hcur hc1 h1
  go_wp2_with fail
  refine k1.out.mono ?_
  rintro e w2 ⟨kd, -, rfl, hcur2, hc2, hO2⟩
  have hb2 := Below.only hb1 hO2 hp (Nat.le_refl _)
  have k2 := Lib.hid (spec_l1Below_any w.heap.size p a n c 3 w2 (by omega) hn hc2 hp hcur2)
  clear hcur2 hc2 hO2 k1 hb1
  go_wp2_with fail
  refine k2.out.mono ?_
  rintro e w3 ⟨x, hx, rfl, -, hc3, hO3⟩
  have hb3 := Below.only hb2 hO3 hp (Nat.le_refl _)
  have kC : CodeV w3 w3.heap.size a n := hc3.mono hb3.size
  have K0 := Lib.hid (spec_DrawBraidPath_any a n c w3 hn kC)
  have K1 := Lib.hid (spec_DrawIsBruhatBelow_any a n c w3 hn kC)
  have K2 := Lib.hid ((spec_l8Two_any a n c w3 hn kC).mono fun _ _ h => Drew2.toV h)
  clear hO3 k2 hb2 hc3 kC Hc
  by_cases x0 : x = 0
  · have e0 : (x == 0) = true := by rw [x0]; rfl
    clear K1 K2 hx
    go_wp2_with fail
    refine K0.out.mono ?_
    rintro e w4 ⟨g, cap, g1, o1, n1, c1, g2, o2, n2, c2, R, u, v, rfl, hM, i1, i2, hl, hb⟩
    have HM := Lib.hid (hM.mono hb3.size); have H1 := Lib.hid i1; have H2 := Lib.hid i2; have HB := Lib.hid (hb3.trans (hb.mono hb3.size))
    clear hM i1 i2 hb hb3 K0
    go_wp2_with fail
    refine bodyPost_ret (v := .tuple #[.int .i64 kd, (Value.slice (some ⟨g, 0, none⟩) R.length cap), (Value.slice (some ⟨g1, o1, none⟩) n1 c1), (Value.slice (some ⟨g2, o2, none⟩) n2 c2)]) (by simp [results, Tryz.results24, go_sem]) rfl ?_
    exact ⟨kd, g, cap, g1, o1, n1, c1, g2, o2, n2, c2, R, u, v, rfl, HM.out, H1.out, H2.out, hl, HB.out⟩
  · by_cases x1 : x = 1
    · have e0 : (x == 0) = false := by rw [x1]; rfl
      have e1 : (x == 1) = true := by rw [x1]; rfl
      clear K0 K2 hx
      go_wp2_with fail
      refine K1.out.mono ?_
      rintro e w4 ⟨g, cap, g1, o1, n1, c1, g2, o2, n2, c2, R, u, v, rfl, hM, i1, i2, hl, hb⟩
      have HM := Lib.hid (hM.mono hb3.size); have H1 := Lib.hid i1; have H2 := Lib.hid i2; have HB := Lib.hid (hb3.trans (hb.mono hb3.size))
      clear hM i1 i2 hb hb3 K1
      go_wp2_with fail
      refine bodyPost_ret (v := .tuple #[.int .i64 kd, (Value.slice (some ⟨g, 0, none⟩) R.length cap), (Value.slice (some ⟨g1, o1, none⟩) n1 c1), (Value.slice (some ⟨g2, o2, none⟩) n2 c2)]) (by simp [results, Tryz.results24, go_sem]) rfl ?_
      exact ⟨kd, g, cap, g1, o1, n1, c1, g2, o2, n2, c2, R, u, v, rfl, HM.out, H1.out, H2.out, hl, HB.out⟩
    · have e0 : (x == 0) = false := by simp; omega
      have e1 : (x == 1) = false := by simp; omega
      clear K0 K1 hx
      go_wp2_with fail
      refine K2.out.mono ?_
      rintro e w4 ⟨g, cap, g1, o1, n1, c1, g2, o2, n2, c2, R, u, v, rfl, hM, i1, i2, hl, hb⟩
      have HM := Lib.hid (hM.mono hb3.size); have H1 := Lib.hid i1; have H2 := Lib.hid i2; have HB := Lib.hid (hb3.trans (hb.mono hb3.size))
      clear hM i1 i2 hb hb3 K2
      go_wp2_with fail
      refine bodyPost_ret (v := .tuple #[.int .i64 kd, (Value.slice (some ⟨g, 0, none⟩) R.length cap), (Value.slice (some ⟨g1, o1, none⟩) n1 c1), (Value.slice (some ⟨g2, o2, none⟩) n2 c2)]) (by simp [results, Tryz.results24, go_sem]) rfl ?_
      exact ⟨kd, g, cap, g1, o1, n1, c1, g2, o2, n2, c2, R, u, v, rfl, HM.out, H1.out, H2.out, hl, HB.out⟩
set_option maxHeartbeats 1000000 in
theorem spec_DrawMakeClaim_any : Calls Tryz.prog 5 #[.slice a n c] w (DrewK w) := by
  have h1 := Lib.hid (spec_l34Draw_any a n c w hn hc)
  clear hc
  go_enter Tryz.func5, Tryz.ntmps5
  go_wp2_with fail
  refine h1.out.mono ?_
  rintro e w4 ⟨kd, g, cap, g1, o1, n1, c1, g2, o2, n2, c2, R, u, v, rfl, hM, i1, i2, hl, hb⟩
  have HM := Lib.hid hM; have H1 := Lib.hid i1; have H2 := Lib.hid i2; have HB := Lib.hid hb
  clear hM i1 i2 hb h1
  go_wp2_with fail
  refine bodyPost_ret (v := .tuple #[.int .i64 kd, (Value.slice (some ⟨g, 0, none⟩) R.length cap), (Value.slice (some ⟨g1, o1, none⟩) n1 c1), (Value.slice (some ⟨g2, o2, none⟩) n2 c2)]) (by simp [results, Tryz.results5, go_sem]) rfl ?_
  exact ⟨kd, g, cap, g1, o1, n1, c1, g2, o2, n2, c2, R, u, v, rfl, HM.out, H1.out, H2.out, hl, HB.out⟩
set_option maxHeartbeats 1000000 in
theorem spec_DrawClaimWord_any : Calls Tryz.prog 18 #[.slice a n c] w (fun e w' => ∃ k : Int, e = .returned (.int .i64 k) ∧ Below w.heap.size w w') := by
  have h1 := Lib.hid (spec_l1New_any a n c w hn hc)
  have Hc := Lib.hid hc
  clear hc
  go_enter Tryz.func18, Tryz.ntmps18
  go_wp2_with fail
  refine h1.out.mono ?_
  rintro e w1 ⟨p, hp, rfl, hcur, hb1⟩
  have hc1 := Hc.out.below hb1
  have k1 := Lib.hid (spec_l1Below_any w.heap.size p a n c 9 w1 (by omega) hn hc1 hp hcur)
  clear hcur hc1 h1
  go_wp2_with fail
  refine k1.out.mono ?_
  rintro e w2 ⟨x, hx, rfl, hcur2, hc2, hO2⟩
  have hb2 := Lib.hid (Below.only hb1 hO2 hp (Nat.le_refl _))
  have e1 : IntKind.i64.wrap (x - 1) = x - 1 := IntWalk.i64_in _ (by omega)
  clear hcur2 hc2 hO2 k1 hb1
  go_wp2_with fail
  go_ret
  exact ⟨x - 1, rfl, hb2.out⟩
end
end Go.Proofs.YtkjglfafphffiaaGreatDoor
namespace Go.Proofs.YtkjglfafphffiaaGreatDoor
set_option maxRecDepth 100000
open Go.RowKit Game
theorem mirL_64 {c : List (List Int)} {i : Nat} {r : List Int} (h : I64s r) : I64s (mirL c i r) := fun x hx => by
  unfold mirL at hx
  rcases List.mem_or_eq_of_mem_set hx with g | g
  · exact h x g
  · rw [g]
    exact wrap64_wf _
theorem actR_64 {c : List (List Int)} {r : List Int} (h : I64s r) : ∀ l, I64s (actR c l r)
  | [] => h
  | _ :: l => mirL_64 (actR_64 h l)
theorem small_64 {l : List Int} (h : ∀ x ∈ l, (-1000 : Int) ≤ x ∧ x < 1000) : I64s l := fun x hx => by
  have := h x hx
  simp [Lit.wf, IntKind.min, IntKind.max, IntKind.signed, IntKind.bits]
  omega
theorem simpL_64 (n i : Nat) : I64s (simpL n i) := small_64 fun x hx => by
  unfold simpL at hx
  rcases List.mem_or_eq_of_mem_set hx with g | g
  · have := (List.mem_replicate.1 g).2; omega
  · omega
theorem roots_64 {kd : Int} {c : List (List Int)} {a : List Int} : ∀ r ∈ rootsC kd c a, I64s r := fun r hr => by
  unfold rootsC at hr
  split at hr
  · unfold seqA at hr
    split at hr
    · obtain ⟨k, -, rfl⟩ := List.mem_map.1 hr
      exact actR_64 (simpL_64 _ _) _
    · cases hr
  · cases hr
theorem make_64 {kd : Int} {c : List (List Int)} {a b : List Int} : claimWf (makeC kd c a b) := by
  refine ⟨small_64 fun x hx => ?_, fun r hr => ?_⟩
  · have := make_in x hx
    omega
  · unfold makeC at hr
    split at hr
    · exact roots_64 (kd := kd) (c := c) (a := a) r hr
    · cases hr
theorem claimWf.proof' {x : ClaimD} (h : claimWf x) : proofWf x := fun k hk => by
  have hm : x.proof.getD k 0 ∈ x.proof := by simp [List.getD, hk]
  exact wf_bounds (h.1 _ hm)
def NilC (v : Value) (x : ClaimD) : Prop := (∃ v2 v3 v4 v5, v = .agg #[.int .i64 x.kind, .slice none 0 0, v2, v3, v4, v5]) ∧ x.cartan = []
def DrawnC (w : World) (e : Ending) (w' : World) : Prop :=
  ∃ v x, e = .returned v ∧ (∀ lo hi W', hi ≤ w.heap.size → Only lo hi w' W' → ClaimM W' v x ∧ (NilC v x ∨ ClaimN W' v x)) ∧ claimFew x ∧ claimWf x ∧ Below w.heap.size w w'
def NoNil (v : Value) : Prop := ∃ g o n c, v = (Value.slice (some ⟨g, o, none⟩) n c)
theorem IntsM.toV {w : World} {v : Value} {xs : List Int} (h : IntsM w v xs) (hn : NoNil v) : IntsV w v xs := by
  rcases h with h | ⟨rfl, -⟩
  · exact h
  · obtain ⟨_, _, _, _, e⟩ := hn
    cases e
theorem RowsM.toV {w : World} {v : Value} {xs : List (List Int)} (h : RowsM w v xs) (hn : NoNil v) : RowsV w v xs := by
  rcases h with h | ⟨rfl, -⟩
  · exact h
  · obtain ⟨_, _, _, _, e⟩ := hn
    cases e
def NnOr (kd : Int) (c : List (List Int)) (v1 v2 v3 v4 v5 : Value) : Prop := (v1 = .slice none 0 0 ∧ c = []) ∨ ((NoNil v1 ∧ NoNil v2 ∧ NoNil v3) ∧ (2 ≤ kd → kd ≤ 5 → NoNil v4) ∧ (kd = 1 → NoNil v5))
theorem fin_claim {W : World} {kd : Int} {c R : List (List Int)} {a b ps : List Int} {v1 v2 v3 v4 v5 : Value} (h1 : RowsM W v1 c) (h2 : IntsM W v2 a) (h3 : IntsM W v3 b) (h4 : IntsM W v4 ps) (h5 : RowsM W v5 R) (hn : NnOr kd c v1 v2 v3 v4 v5) :
    ClaimM W (.agg #[.int .i64 kd, v1, v2, v3, v4, v5]) ⟨kd, c, a, b, ps, R⟩ ∧ (NilC (.agg #[.int .i64 kd, v1, v2, v3, v4, v5]) ⟨kd, c, a, b, ps, R⟩ ∨ ClaimN W (.agg #[.int .i64 kd, v1, v2, v3, v4, v5]) ⟨kd, c, a, b, ps, R⟩) := by
  refine ⟨⟨v1, v2, v3, v4, v5, rfl, h1, h2, h3, h4, h5⟩, ?_⟩
  rcases hn with ⟨rfl, rfl⟩ | ⟨⟨n1, n2, n3⟩, n4, n5⟩
  · exact .inl ⟨⟨_, _, _, _, rfl⟩, rfl⟩
  · obtain ⟨q4, d4, e4⟩ := h4.shape
    obtain ⟨q5, d5, e5⟩ := h5.shape
    refine .inr ⟨v1, v2, v3, q4, ps.length, d4, q5, R.length, d5, by rw [e4, e5], h1.toV n1, h2.toV n2, h3.toV n3, fun a b => ?_, fun a => ?_⟩
    · rw [← e4]; exact h4.toV (n4 a b)
    · rw [← e5]; exact h5.toV (n5 a)
theorem nnor_of {w : World} {B E : Nat} {kd : Int} {c : List (List Int)} {a b : List Int} {cv : Value} {v1 v2 v3 v4 v5 : Value} (hn : NN (makeC kd c a b).kind cv) (hv : cv = .agg #[.int .i64 (makeC kd c a b).kind, v1, v2, v3, v4, v5]) : NnOr (makeC kd c a b).kind (makeC kd c a b).cartan v1 v2 v3 v4 v5 := by
  have _ := (w, B, E)
  obtain ⟨u0, u1, u2, u3, u4, u5, e, q1, q4, q5, q0⟩ := hn
  cases hok : okM kd c a b with
  | false =>
    have e0 : makeC kd c a b = zeroC := by unfold makeC; rw [hok]; rfl
    rw [e0] at q0 hv ⊢
    have e1 := q0 rfl
    rw [hv] at e1
    simp only [Value.agg.injEq, Array.mk.injEq, List.cons.injEq, and_true] at e1
    exact .inl ⟨e1.2.1, rfl⟩
  | true =>
    have hk := make_kind (c := c) (a := a) (b := b) hok
    rw [hv] at e
    simp only [Value.agg.injEq, Array.mk.injEq, List.cons.injEq, and_true] at e
    obtain ⟨-, rfl, rfl, rfl, rfl, rfl⟩ := e
    have g : ∀ {v : Value}, (∃ g n c, v = (Value.slice (some ⟨g, 0, none⟩) n c)) → NoNil v := fun ⟨g, n, c, h⟩ => ⟨g, 0, n, c, h⟩
    obtain ⟨r1, r2, r3⟩ := q1 (by rw [hk.1]; exact hk.2)
    exact .inr ⟨⟨g r1, g r2, g r3⟩, fun h1 h2 => g (q4 h1 h2), fun h => g (q5 h)⟩
theorem run_append_may {w : World} {B E : Nat} {v : Value} {xs : List Int} (h : MayI w B E v xs) (hE : E ≤ w.heap.size) (hBE : B ≤ E) (z : Int) (hx : xs.length + 1 ≤ 1048576) (ty : TypeId) :
    ∃ g c w', (Builtin.append_ #[25, 25] ty #[v, (Value.slice (some ⟨w.heap.size, 0, none⟩) 1 1)]).run Tryz.prog (w.alloc (.cells #[.int .i64 z] 3)) = .ok (Value.slice (some ⟨g, 0, none⟩) (xs.length + 1) c) w' ∧ Own w' B g c (xs ++ [z]) ∧ Only B E w w' ∧ (g < E ∨ w.heap.size ≤ g) := by
  rcases h with ⟨rfl, rfl⟩ | ⟨g, cap, rfl, ho, hgE⟩
  · obtain ⟨g, c, w', hr, h1, h2, -⟩ := run_append_ord (w := w) (B := w.heap.size) (v := .slice none 0 0) (xs := []) (.inl ⟨rfl, rfl⟩) (Nat.le_refl _) z hx ty
    exact ⟨g, c, w', hr, h1.mono (by omega), Only.of_below _ _ (h2 rfl), .inr h1.base⟩
  · obtain ⟨g', cap', w', hr, h1, h2, h3⟩ := run_append_ints (ho.alloc (.cells #[.int .i64 z] 3)) (Own.new (B := w.heap.size) z (Nat.le_refl _)).cells (c2 := 1) (by simp; omega) ty
    refine ⟨g', cap', w', hr, h1, ⟨h2.os, h2.tape, h2.output, Nat.le_trans (by simp) h2.size, fun k hk hd => (h2.block k (by simp; omega) (fun e => ?_)).trans (Below.heap_alloc _ _ _ hk)⟩, ?_⟩
    · cases e
      have := ho.base
      omega
    · rcases h3 with rfl | h3
      · exact .inl hgE
      · exact .inr (by rw [h3]; simp)
theorem wpList_append_may {w : World} {ops : Array Oper} {rest : List Oper} {o : Oper} {a : Act} {Q : Exit → Act → World → Prop} (hgd : o.guard = none) (s x : Operand)
    (ho : o.op = .call { callee := .builtin .append, args := #[s, x], argTypes := #[25, 25] })
    (B E n H : Nat) (v : Value) (xs : List Int) (z : Int) (W : World) (hn : xs.length = n) (hv : MayI w B E v xs) (hE : E ≤ w.heap.size) (hBE : B ≤ E) (hW : W = w.alloc (.cells #[.int .i64 z] 3)) (hH : w.heap.size = H) (hs : a.eval s = v) (hx : a.eval x = (Value.slice (some ⟨H, 0, none⟩) 1 1)) (hlen : n + 1 ≤ 1048576)
    (h : ∀ g c w', Own w' B g c (xs ++ [z]) → Only B E w w' → (g < E ∨ w.heap.size ≤ g) → wpList Tryz.prog ops Q rest (a.put o.dst (Value.slice (some ⟨g, 0, none⟩) (n + 1) c)) w') :
    wpList Tryz.prog ops Q (o :: rest) a W := by
  subst hn; subst hW; subst hH
  obtain ⟨g, c, w', hr, h1, h2, h3⟩ := run_append_may hv hE hBE z hlen o.type
  refine wpList_plain hgd fun K hK => ?_
  unfold Oper.wp execOp
  simp only [ho, resolve, invoke, builtin, Sem.run_bind, Sem.run_pure, Result.andThen_ok, List.map_toArray, List.map_cons, List.map_nil, hs, hx, hr]
  exact hK _ _ (h g c w' h1 h2 h3)
theorem step_append_may {w : World} {ops : Array Oper} {o : Oper} {a : Act} {K : Act → World → Prop} {Q : Exit → Act → World → Prop} {E' : Prop} (hgd : o.guard = none) (s x : Operand)
    (ho : o.op = .call { callee := .builtin .append, args := #[s, x], argTypes := #[25, 25] })
    (B E n H : Nat) (v : Value) (xs : List Int) (z : Int) (W : World) (hn : xs.length = n) (hv : MayI w B E v xs) (hE : E ≤ w.heap.size) (hBE : B ≤ E) (hW : W = w.alloc (.cells #[.int .i64 z] 3)) (hH : w.heap.size = H) (hs : a.eval s = v) (hx : a.eval x = (Value.slice (some ⟨H, 0, none⟩) 1 1)) (hlen : n + 1 ≤ 1048576)
    (h : ∀ g c w', Own w' B g c (xs ++ [z]) → Only B E w w' → (g < E ∨ w.heap.size ≤ g) → K (a.put o.dst (Value.slice (some ⟨g, 0, none⟩) (n + 1) c)) w') :
    if Region.wanted o (yielded ops a.tmps) = true then Oper.wp Tryz.prog o a W K Q else E' := by
  subst hn; subst hW; subst hH
  have hw : Region.wanted o (yielded ops a.tmps) = true := by simp [Region.wanted, hgd]
  rw [if_pos hw]
  obtain ⟨g, c, w', hr, h1, h2, h3⟩ := run_append_may hv hE hBE z hlen o.type
  unfold Oper.wp execOp
  simp only [ho, resolve, invoke, builtin, Sem.run_bind, Sem.run_pure, Result.andThen_ok, List.map_toArray, List.map_cons, List.map_nil, hs, hx, hr]
  exact h g c w' h1 h2 h3
end Go.Proofs.YtkjglfafphffiaaGreatDoor
