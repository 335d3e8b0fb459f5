/- DemazureCharacter of both: contracts. -/
import Derived.Test.YtihfbbpkgmkbcaaG44
import Derived.Test.YtihfbbpkgmkbcaaG47
import Derived.Test.YtihfbbpkgmkbcaaG48
namespace Go.Proofs.Ytihfbbpkgmkbcaa
set_option maxRecDepth 100000
open Go.RowKit Game

theorem OwnW.one {w : World} {B g c : Nat} {xs : List Int} {n : Nat} (z : Int) (hB : B ≤ w.heap.size) (hn : xs.length = n) (hs : Own w B g c xs) : OwnW (w.alloc (.cells #[(Value.slice (some ⟨g, 0, none⟩) n c), .int .i64 z] 48)) B w.heap.size 1 [((g, c, xs), z)] := by
  subst hn
  exact ⟨World.ownsRow_lit w #[(Value.slice (some ⟨g, 0, none⟩) xs.length c), .int .i64 z] 1 hB (by decide) rfl, ⟨fun r hr => by simp at hr; subst hr; exact hs.alloc _, by simp⟩⟩
theorem few_one (v : List Int) (h : v.length ≤ 1048576) : wFew [(v, 1)] := by
  refine ⟨by simp, fun j hj => ?_⟩
  have : j = 0 := by simp at hj; exact hj
  subst this
  exact h
/-- the steps of letters, one behind the other -/
def demGo (c : List (List Int)) : List Int → List Wt → Option (List Wt)
  | [], l => some l
  | i :: is, l => if demB c i l = true then demGo c is (demL c i l) else none
theorem demGo_step (c : List (List Int)) (u : List Int) (t : Nat) (ht : t < u.length) (l : List Wt) : demGo c (u.take (t + 1)).reverse l = if demB c (u.getD t 0) l = true then demGo c (u.take t).reverse (demL c (u.getD t 0) l) else none := by
  have e : u.take (t + 1) = u.take t ++ [u[t]] := List.take_succ_eq_append_getElem ht
  have e2 : u.getD t 0 = u[t] := by simp [List.getD, ht]
  rw [e, e2, List.reverse_append]
  rfl
def chOk (c : List (List Int)) (u v : List Int) : Prop := isWordB c u = true ∧ wtOk c v ∧ (firstNeg v).isNone = true
instance (c : List (List Int)) (u v : List Int) : Decidable (chOk c u v) := by unfold chOk; infer_instance
def demC (c : List (List Int)) (u v : List Int) : Option (List Wt) := if chOk c u v then demGo c u.reverse [(v, 1)] else none
theorem demC_yes {c : List (List Int)} {u v : List Int} (h : chOk c u v) : demC c u v = demGo c (u.take u.length).reverse [(v, 1)] := by unfold demC; rw [if_pos h, List.take_length]
theorem demC_no {c : List (List Int)} {u v : List Int} (h : ¬ chOk c u v) : demC c u v = none := if_neg h

set_option maxHeartbeats 2000000 in
theorem impl_DemazureCharacter_ok (gc oc n cc gu ou m cu gv ov k cv : Nat) (c : List (List Int)) (u v : List Int) (w : World) (hn : c.length = n) (hm : u.length = m) (hk : v.length = k) (hx : c.length ≤ 1048576) (hrl : ∀ j, j < c.length → (c.getD j []).length ≤ 1048576)
    (hux : u.length ≤ 1048576) (hvx : v.length ≤ 1048576) (hgc : gc < w.heap.size) (hgu : gu < w.heap.size) (hgv : gv < w.heap.size) (hr : Rows2 w gc oc c) (hu : Cells w gu ou u) (hv : Cells w gv ov v) :
    Calls Try.prog 19 #[(Value.slice (some ⟨gc, oc, none⟩) n cc), (Value.slice (some ⟨gu, ou, none⟩) m cu), (Value.slice (some ⟨gv, ov, none⟩) k cv)] w (GotWB w ((demC c u v).getD []) (demC c u v).isSome) := by
  subst hn; subst hm; subst hk
  have hW := impl_IsWord_any gc oc _ cc gu ou _ cu c u w rfl rfl hx hrl hux hr hu
  have HI := Lib.hid (fun W (hs : ∃ n, W = w.drewN n) => impl_IsWeight_any gc oc _ cc gv ov _ cv c v W rfl rfl hx hvx hrl (hr.still hs) (hv.still hs))
  have HD := Lib.hid (fun W (hs : ∃ n, W = w.drewN n) => impl_IsDominant_any gv ov _ cv v W rfl hvx (hv.still hs))
  by_cases h1 : isWordB c u = true
  · rw [h1] at hW
    have HWd := Lib.hid hW
    by_cases h2 : wtOk c v
    · rw [decide_eq_true h2] at HI
      by_cases h3 : (firstNeg v).isNone = true
      · rw [h3] at HD
        have hok : chOk c u v := ⟨h1, h2, h3⟩
        rw [demC_yes hok]
        have hn4 := h2.1.2.1
        have HS := Lib.hid (fun W (hW : Below w.heap.size w W) (i : Int) (g p cp : Nat) (l : List Wt) (hp : l.length = p) (hf : wFew l) (hg : g < W.heap.size) (hl : WRows W g 0 l) => impl_DemazureStep_ok gc oc _ cc g 0 p cp i c l W rfl hp hx hrl hf (Nat.lt_of_lt_of_le hgc hW.size) hg (hr.below hW hgc) hl)
        have HU := Lib.hid (fun W (hW : Below w.heap.size w W) t (ht : t < u.length) => (hW.cell (p := ⟨gu, ou + t, none⟩) hgu).trans (hu t ht))
        have Hst := Lib.hid (fun t (ht : t < u.length) l => demGo_step c u t ht l)
        have HF0 : Hid (wFew [(v, 1)]) := Lib.hid (few_one v hvx)
        clear hok h1 h2 h3 hW hu hr hrl hx
        generalize hA : demGo c (u.take u.length).reverse [(v, 1)] = A
        have HA := Lib.hid hA
        clear hA
        go_enter Try.func19, Try.ntmps19
        go_wp2_with fail
        refine HWd.out.mono ?_
        rintro e w1 ⟨rfl, hs1⟩
        have Hi := Lib.hid (HI.out _ hs1)
        go_wp2_with fail
        refine Hi.out.mono ?_
        rintro e w2 ⟨rfl, hs2⟩
        replace hs2 := still_trans hs1 hs2
        have Hd := Lib.hid (HD.out _ hs2)
        clear hs1 Hi HI HD HWd
        go_wp2_with fail
        refine Hd.out.mono ?_
        rintro e w3 ⟨rfl, hs3⟩
        replace hs3 := still_trans hs2 hs3
        have hb3 := below_still (Below.refl w.heap.size w) hs3
        have hvc := hv.still hs3
        have hgv3 : gv < w3.heap.size := Nat.lt_of_lt_of_le hgv hb3.size
        clear hs2 Hd hs3 hv
        go_wp2_with (at_builtin; refine wpList_clone (w := w3) rfl _ _ rfl gv ov _ cv v rfl hgv3 hvc rfl rfl (by omega) ?_)
        intro g5 c5 w5 ho5 hb5
        have hb5' := hb3.trans (hb5.mono hb3.size)
        have ho1 := Lib.hid (OwnW.one 1 hb5'.size rfl (ho5.mono hb3.size))
        have hb6 := hb5'.alloc hb5'.size (.cells #[(Value.slice (some ⟨g5, 0, none⟩) v.length c5), .int .i64 1] 48)
        clear hvc hgv3 ho5 hb5 hb3 hgv
        go_wp2_with fail
        go_loopw [8, 9, 10] (fun ov _ kv wr => ∃ (t gO cO p : Nat) (rs : List WRef), t ≤ u.length ∧ kv = .int .i64 ((t : Int) - 1) ∧ ov = (Value.slice (some ⟨gO, 0, none⟩) p cO) ∧ Hid (rs.length = p) ∧ Hid (wFew (contW rs)) ∧ Hid (demGo c (u.take t).reverse (contW rs) = A) ∧ OwnW wr w.heap.size gO cO rs ∧ Below w.heap.size w wr) (fun _ _ kv _ => (intOf kv + 1).toNat)
        case atStart => exact ⟨u.length, w5.heap.size, 1, 1, [((g5, c5, v), 1)], Nat.le_refl _, by go_num, rfl, rfl, HF0, HA, ho1.out, hb6⟩
        case round =>
          clear ho1 HF0 HA hb6 hb5'
          obtain ⟨t, gO, cO, p, rs, ht, rfl, rfl, hp, hf, hgo, ho, hb⟩ := hrel
          by_cases h0 : t = 0
          · subst h0
            have hA : Hid (A = some (contW rs)) := hgo.out.symm
            clear hgo
            go_wp2_with fail
            go_ret2
            rw [hA.out]
            exact GotWB.mk' gO cO rs hp.out rfl ho hb
          · obtain ⟨s, rfl⟩ : ∃ s, t = s + 1 := ⟨t - 1, by omega⟩
            have hst := Hst.out s (by omega) (contW rs)
            rw [hgo.out] at hst
            have q := HU.out wr hb s (by omega)
            have hs1 : ((s + 1 : Nat) : Int) - 1 = (s : Int) := by omega
            have hcall := HS.out wr hb (u.getD s 0) gO p cO (contW rs) (by rw [contW_length]; exact hp.out) hf.out ho.lt ho.wrows
            have hfd := Lib.hid (demL_few c (u.getD s 0) (contW rs))
            rw [hs1]
            clear h0 hgo hf hp hs1
            generalize u.getD s 0 = x at *
            generalize hL : demL c x (contW rs) = L at *
            have HL := Lib.hid hL
            clear hL
            by_cases hB : demB c x (contW rs) = true
            · rw [if_pos hB] at hst
              rw [hB] at hcall
              have Hst2 := Lib.hid hst.symm
              have Hcall := Lib.hid hcall
              clear hst hcall hB
              go_wp2_with fail
              refine Hcall.out.mono ?_
              rintro e w7 ⟨g7, c7, rs7, rfl, hc7, ho7, hb7⟩
              have ho8 := ho7.mono hb.size
              have hb8 := hb.trans (hb7.mono hb.size)
              have HC7 := Lib.hid hc7
              clear Hcall ho hb ho7 hb7 q hc7
              go_wp2_with fail
              go_roundw
              case rel => exact ⟨s, g7, c7, L.length, rs7, by omega, by first | rfl | go_num, rfl, by show _ = _; rw [← HC7.out, contW_length], by rw [HC7.out]; exact hfd, by rw [HC7.out]; exact Hst2, ho8, hb8⟩
              case measure => simp [intOf]
            · have hB' : demB c x (contW rs) = false := by simpa using hB
              rw [if_neg hB] at hst
              rw [hB'] at hcall
              have Hst2 := Lib.hid hst
              have Hcall := Lib.hid hcall
              clear hst hcall hB hB'
              go_wp2_with fail
              refine Hcall.out.mono ?_
              rintro e w7 ⟨g7, c7, rs7, rfl, hc7, ho7, hb7⟩
              have hb8 := hb.trans (hb7.mono hb.size)
              clear Hcall ho hb ho7 hb7 q hc7
              go_wp2_with fail
              go_ret2
              rw [Hst2.out]
              exact GotWB.mk' _ 0 [] rfl rfl (OwnW.empty hb8.size) (hb8.alloc hb8.size _)
      · have h3' : (firstNeg v).isNone = false := Bool.eq_false_iff.2 h3
        rw [h3'] at HD
        rw [demC_no (fun h => h3 h.2.2)]
        clear h1 h2 h3 h3' hW
        go_enter Try.func19, Try.ntmps19
        go_wp2_with fail
        refine HWd.out.mono ?_
        rintro e w1 ⟨rfl, hs1⟩
        have Hi := Lib.hid (HI.out _ hs1)
        go_wp2_with fail
        refine Hi.out.mono ?_
        rintro e w2 ⟨rfl, hs2⟩
        replace hs2 := still_trans hs1 hs2
        have Hd := Lib.hid (HD.out _ hs2)
        go_wp2_with fail
        refine Hd.out.mono ?_
        rintro e w3 ⟨rfl, hs3⟩
        have hb3 := below_still (Below.refl w.heap.size w) (still_trans hs2 hs3)
        clear hs1 hs2 hs3
        go_wp2_with fail
        go_ret2
        exact GotWB.mk' _ 0 [] rfl rfl (OwnW.empty hb3.size) (hb3.alloc hb3.size _)
    · rw [decide_eq_false h2] at HI
      rw [demC_no (fun h => h2 h.2.1)]
      clear h1 h2 hW HD
      go_enter Try.func19, Try.ntmps19
      go_wp2_with fail
      refine HWd.out.mono ?_
      rintro e w1 ⟨rfl, hs1⟩
      have Hi := Lib.hid (HI.out _ hs1)
      go_wp2_with fail
      refine Hi.out.mono ?_
      rintro e w2 ⟨rfl, hs2⟩
      have hb3 := below_still (Below.refl w.heap.size w) (still_trans hs1 hs2)
      clear hs1 hs2
      go_wp2_with fail
      go_ret2
      exact GotWB.mk' _ 0 [] rfl rfl (OwnW.empty hb3.size) (hb3.alloc hb3.size _)
  · have h1' : isWordB c u = false := Bool.eq_false_iff.2 h1
    rw [h1'] at hW
    have HWd := Lib.hid hW
    rw [demC_no (fun h => h1 h.1)]
    clear h1 h1' hW HI HD
    go_enter Try.func19, Try.ntmps19
    go_wp2_with fail
    refine HWd.out.mono ?_
    rintro e w1 ⟨rfl, hs1⟩
    have hb3 := below_still (Below.refl w.heap.size w) hs1
    clear hs1
    go_wp2_with fail
    go_ret2
    exact GotWB.mk' _ 0 [] rfl rfl (OwnW.empty hb3.size) (hb3.alloc hb3.size _)

set_option maxHeartbeats 2000000 in
theorem spec_DemazureCharacter_ok (gc oc n cc gu ou m cu gv ov k cv : Nat) (c : List (List Int)) (u v : List Int) (w : World) (hn : c.length = n) (hm : u.length = m) (hk : v.length = k) (hx : c.length ≤ 1048576) (hrl : ∀ j, j < c.length → (c.getD j []).length ≤ 1048576)
    (hux : u.length ≤ 1048576) (hvx : v.length ≤ 1048576) (hgc : gc < w.heap.size) (hgu : gu < w.heap.size) (hgv : gv < w.heap.size) (hr : Rows2 w gc oc c) (hu : Cells w gu ou u) (hv : Cells w gv ov v) :
    Calls Try.prog 17 #[(Value.slice (some ⟨gc, oc, none⟩) n cc), (Value.slice (some ⟨gu, ou, none⟩) m cu), (Value.slice (some ⟨gv, ov, none⟩) k cv)] w (GotWB w ((demC c u v).getD []) (demC c u v).isSome) := by
  subst hn; subst hm; subst hk
  have hW := spec_IsWord_any gc oc _ cc gu ou _ cu c u w rfl rfl hx hrl hux hr hu
  have HI := Lib.hid (fun W (hs : ∃ n, W = w.drewN n) => spec_IsWeight_any gc oc _ cc gv ov _ cv c v W rfl rfl hx hvx hrl (hr.still hs) (hv.still hs))
  have HD := Lib.hid (fun W (hs : ∃ n, W = w.drewN n) => spec_IsDominant_any gv ov _ cv v W rfl hvx (hv.still hs))
  by_cases h1 : isWordB c u = true
  · rw [h1] at hW
    have HWd := Lib.hid hW
    by_cases h2 : wtOk c v
    · rw [decide_eq_true h2] at HI
      by_cases h3 : (firstNeg v).isNone = true
      · rw [h3] at HD
        have hok : chOk c u v := ⟨h1, h2, h3⟩
        rw [demC_yes hok]
        have hn4 := h2.1.2.1
        have HS := Lib.hid (fun W (hW : Below w.heap.size w W) (i : Int) (g p cp : Nat) (l : List Wt) (hp : l.length = p) (hf : wFew l) (hg : g < W.heap.size) (hl : WRows W g 0 l) => spec_DemazureStep_ok gc oc _ cc g 0 p cp i c l W rfl hp hx hrl hf (Nat.lt_of_lt_of_le hgc hW.size) hg (hr.below hW hgc) hl)
        have HU := Lib.hid (fun W (hW : Below w.heap.size w W) t (ht : t < u.length) => (hW.cell (p := ⟨gu, ou + t, none⟩) hgu).trans (hu t ht))
        have Hst := Lib.hid (fun t (ht : t < u.length) l => demGo_step c u t ht l)
        have HF0 : Hid (wFew [(v, 1)]) := Lib.hid (few_one v hvx)
        clear hok h1 h2 h3 hW hu hr hrl hx
        generalize hA : demGo c (u.take u.length).reverse [(v, 1)] = A
        have HA := Lib.hid hA
        clear hA
        go_enter Try.func17, Try.ntmps17
        go_wp2_with fail
        refine HWd.out.mono ?_
        rintro e w1 ⟨rfl, hs1⟩
        have Hi := Lib.hid (HI.out _ hs1)
        go_wp2_with fail
        refine Hi.out.mono ?_
        rintro e w2 ⟨rfl, hs2⟩
        replace hs2 := still_trans hs1 hs2
        have Hd := Lib.hid (HD.out _ hs2)
        clear hs1 Hi HI HD HWd
        go_wp2_with fail
        refine Hd.out.mono ?_
        rintro e w3 ⟨rfl, hs3⟩
        replace hs3 := still_trans hs2 hs3
        have hb3 := below_still (Below.refl w.heap.size w) hs3
        have hvc := hv.still hs3
        have hgv3 : gv < w3.heap.size := Nat.lt_of_lt_of_le hgv hb3.size
        clear hs2 Hd hs3 hv
        go_wp2_with (at_builtin; refine wpList_clone (w := w3) rfl _ _ rfl gv ov _ cv v rfl hgv3 hvc rfl rfl (by omega) ?_)
        intro g5 c5 w5 ho5 hb5
        have hb5' := hb3.trans (hb5.mono hb3.size)
        have ho1 := Lib.hid (OwnW.one 1 hb5'.size rfl (ho5.mono hb3.size))
        have hb6 := hb5'.alloc hb5'.size (.cells #[(Value.slice (some ⟨g5, 0, none⟩) v.length c5), .int .i64 1] 48)
        clear hvc hgv3 ho5 hb5 hb3 hgv
        go_wp2_with fail
        go_loopw [8, 9, 10, 11] (fun ov kv _ _ wr => ∃ (t gO cO p : Nat) (rs : List WRef), t ≤ u.length ∧ kv = .int .i64 ((t : Int) - 1) ∧ ov = (Value.slice (some ⟨gO, 0, none⟩) p cO) ∧ Hid (rs.length = p) ∧ Hid (wFew (contW rs)) ∧ Hid (demGo c (u.take t).reverse (contW rs) = A) ∧ OwnW wr w.heap.size gO cO rs ∧ Below w.heap.size w wr) (fun _ kv _ _ _ => (intOf kv + 1).toNat)
        case atStart => exact ⟨u.length, w5.heap.size, 1, 1, [((g5, c5, v), 1)], Nat.le_refl _, by go_num, rfl, rfl, HF0, HA, ho1.out, hb6⟩
        case round =>
          clear ho1 HF0 HA hb6 hb5'
          obtain ⟨t, gO, cO, p, rs, ht, rfl, rfl, hp, hf, hgo, ho, hb⟩ := hrel
          by_cases h0 : t = 0
          · subst h0
            have hA : Hid (A = some (contW rs)) := hgo.out.symm
            clear hgo
            go_wp2_with fail
            go_ret2
            rw [hA.out]
            exact GotWB.mk' gO cO rs hp.out rfl ho hb
          · obtain ⟨s, rfl⟩ : ∃ s, t = s + 1 := ⟨t - 1, by omega⟩
            have hst := Hst.out s (by omega) (contW rs)
            rw [hgo.out] at hst
            have q := HU.out wr hb s (by omega)
            have hs1 : ((s + 1 : Nat) : Int) - 1 = (s : Int) := by omega
            have hcall := HS.out wr hb (u.getD s 0) gO p cO (contW rs) (by rw [contW_length]; exact hp.out) hf.out ho.lt ho.wrows
            have hfd := Lib.hid (demL_few c (u.getD s 0) (contW rs))
            rw [hs1]
            clear h0 hgo hf hp hs1
            generalize u.getD s 0 = x at *
            generalize hL : demL c x (contW rs) = L at *
            have HL := Lib.hid hL
            clear hL
            by_cases hB : demB c x (contW rs) = true
            · rw [if_pos hB] at hst
              rw [hB] at hcall
              have Hst2 := Lib.hid hst.symm
              have Hcall := Lib.hid hcall
              clear hst hcall hB
              go_wp2_with fail
              refine Hcall.out.mono ?_
              rintro e w7 ⟨g7, c7, rs7, rfl, hc7, ho7, hb7⟩
              have ho8 := ho7.mono hb.size
              have hb8 := hb.trans (hb7.mono hb.size)
              have HC7 := Lib.hid hc7
              clear Hcall ho hb ho7 hb7 q hc7
              go_wp2_with fail
              go_roundw
              case rel => exact ⟨s, g7, c7, L.length, rs7, by omega, by first | rfl | go_num, rfl, by show _ = _; rw [← HC7.out, contW_length], by rw [HC7.out]; exact hfd, by rw [HC7.out]; exact Hst2, ho8, hb8⟩
              case measure => simp [intOf]
            · have hB' : demB c x (contW rs) = false := by simpa using hB
              rw [if_neg hB] at hst
              rw [hB'] at hcall
              have Hst2 := Lib.hid hst
              have Hcall := Lib.hid hcall
              clear hst hcall hB hB'
              go_wp2_with fail
              refine Hcall.out.mono ?_
              rintro e w7 ⟨g7, c7, rs7, rfl, hc7, ho7, hb7⟩
              have hb8 := hb.trans (hb7.mono hb.size)
              clear Hcall ho hb ho7 hb7 q hc7
              go_wp2_with fail
              go_ret2
              rw [Hst2.out]
              exact GotWB.mk' _ 0 [] rfl rfl (OwnW.empty hb8.size) (hb8.alloc hb8.size _)
      · have h3' : (firstNeg v).isNone = false := Bool.eq_false_iff.2 h3
        rw [h3'] at HD
        rw [demC_no (fun h => h3 h.2.2)]
        clear h1 h2 h3 h3' hW
        go_enter Try.func17, Try.ntmps17
        go_wp2_with fail
        refine HWd.out.mono ?_
        rintro e w1 ⟨rfl, hs1⟩
        have Hi := Lib.hid (HI.out _ hs1)
        go_wp2_with fail
        refine Hi.out.mono ?_
        rintro e w2 ⟨rfl, hs2⟩
        replace hs2 := still_trans hs1 hs2
        have Hd := Lib.hid (HD.out _ hs2)
        go_wp2_with fail
        refine Hd.out.mono ?_
        rintro e w3 ⟨rfl, hs3⟩
        have hb3 := below_still (Below.refl w.heap.size w) (still_trans hs2 hs3)
        clear hs1 hs2 hs3
        go_wp2_with fail
        go_ret2
        exact GotWB.mk' _ 0 [] rfl rfl (OwnW.empty hb3.size) (hb3.alloc hb3.size _)
    · rw [decide_eq_false h2] at HI
      rw [demC_no (fun h => h2 h.2.1)]
      clear h1 h2 hW HD
      go_enter Try.func17, Try.ntmps17
      go_wp2_with fail
      refine HWd.out.mono ?_
      rintro e w1 ⟨rfl, hs1⟩
      have Hi := Lib.hid (HI.out _ hs1)
      go_wp2_with fail
      refine Hi.out.mono ?_
      rintro e w2 ⟨rfl, hs2⟩
      have hb3 := below_still (Below.refl w.heap.size w) (still_trans hs1 hs2)
      clear hs1 hs2
      go_wp2_with fail
      go_ret2
      exact GotWB.mk' _ 0 [] rfl rfl (OwnW.empty hb3.size) (hb3.alloc hb3.size _)
  · have h1' : isWordB c u = false := Bool.eq_false_iff.2 h1
    rw [h1'] at hW
    have HWd := Lib.hid hW
    rw [demC_no (fun h => h1 h.1)]
    clear h1 h1' hW HI HD
    go_enter Try.func17, Try.ntmps17
    go_wp2_with fail
    refine HWd.out.mono ?_
    rintro e w1 ⟨rfl, hs1⟩
    have hb3 := below_still (Below.refl w.heap.size w) hs1
    clear hs1
    go_wp2_with fail
    go_ret2
    exact GotWB.mk' _ 0 [] rfl rfl (OwnW.empty hb3.size) (hb3.alloc hb3.size _)

theorem demGo_ok (c : List (List Int)) : ∀ (u : List Int) (l L : List Wt), (l.length ≤ 5000 ∧ CtW 1000000000 l ∧ wFew l) → demGo c u l = some L → L.length ≤ 5000 ∧ CtW 1000000000 L ∧ wFew L
  | [], l, L, h, e => by
    have : l = L := Option.some.inj e
    rw [← this]; exact h
  | i :: u, l, L, _, e => by
    unfold demGo at e
    split at e
    · exact demGo_ok c u _ L ⟨(demL_ok c i l).1.1, (demL_ok c i l).1.2.1, demL_few c i l⟩ e
    · cases e
theorem demC_ok (c : List (List Int)) (u v : List Int) : ((demC c u v).getD []).length ≤ 5000 ∧ CtW 1000000000 ((demC c u v).getD []) ∧ wFew ((demC c u v).getD []) := by
  by_cases h : chOk c u v
  · unfold demC
    rw [if_pos h]
    have hv := h.2.1.2.1
    have hn4 := h.2.1.1.2.1
    cases hA : demGo c u.reverse [(v, 1)] with
    | none => exact ⟨by simp, by intro x hx; simp at hx, by simp, by simp⟩
    | some L => exact demGo_ok c _ [(v, 1)] L ⟨by simp, by intro x hx; simp at hx; subst hx; show _ ≤ (1 : Int) ∧ (1 : Int) ≤ _; omega, few_one v (by omega)⟩ hA
  · rw [demC_no h]
    exact ⟨by simp, by intro x hx; simp at hx, by simp, by simp⟩
end Go.Proofs.Ytihfbbpkgmkbcaa
