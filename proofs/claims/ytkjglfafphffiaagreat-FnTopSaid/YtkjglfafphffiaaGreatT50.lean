/- The law FnTop's walk. (Printed by wip/mktopw.py.) -/
import Derived.Test.YtkjglfafphffiaaGreatT37
import Derived.Test.YtkjglfafphffiaaGreatT41
import Derived.Test.YtkjglfafphffiaaGreatT47
import Derived.Test.YtkjglfafphffiaaGreatT49
import Derived.Test.YtkjglfafphffiaaGreatT04
import Derived.Deep.CutRange
import Derived.Deep.CutBlock
import Derived.Deep.RegionHeld3
namespace Go.Proofs.YtkjglfafphffiaaGreat
set_option maxRecDepth 100000
open Go.RowKit Game
/-- which claims are made of two words -/
def madeTo (c : List (List Int)) (a b : List Int) (k : Nat) : List Bool := (List.range k).map fun (t : Nat) => okM ((t : Int) + 1) c a b
theorem madeTo_succ (c : List (List Int)) (a b : List Int) (k : Nat) : madeTo c a b (k + 1) = madeTo c a b k ++ [okM ((k : Int) + 1) c a b] := by simp [madeTo, List.range_succ]
theorem kinds_at : ∀ k, k < 6 → ([1, 2, 3, 4, 5, 6] : List Int).getD k 0 = (k : Int) + 1 := by decide
theorem matR_few {w : World} {B g cap : Nat} {rows : List (List Int)} (h : MatR w B g cap rows) : rowsFew rows := by
  have h5 := h.few
  refine rowsFew_ofC (by omega) fun x hx => ?_
  obtain ⟨j, hj, rfl⟩ := List.getElem_of_mem hx
  obtain ⟨_, _, _, _, _, _, _, _, h6⟩ := h.row j hj
  simp [List.getD, hj] at h6
  omega
set_option maxHeartbeats 8000000 in
theorem top_walk (a : Option Addr) (n c : Nat) (w : World) (hn : n ≤ 1048576) (hc0 : CodeV w w.heap.size a n) :
    Calls Tryz.prog 3 #[.slice a n c] w (Gives w (.bool true)) := by
  have hb := laws_big_any a n c w
  rw [decide_eq_false (show ¬ 1048576 < n by omega)] at hb
  have HC := Lib.hid (fun (W : World) (hb : Below w.heap.size w W) => (hc0.below hb).mono hb.size)
  have Hb := Lib.hid hb
  clear hc0 hb
  go_enter Tryz.func3, Tryz.ntmps3
  go_wp2_with fail
  refine Hb.out.mono ?_
  rintro e v0 ⟨rfl, hs1⟩
  have hB := below_still (Below.refl w.heap.size w) hs1
  clear hs1 Hb
  have KC := Lib.hid (spec_DrawAreSame_any a n c v0 hn (HC.out v0 hB))
  go_wp2_with fail
  refine KC.out.mono ?_
  rintro e v1 ⟨g, cap, g1, c1, g2, c2, R, u, v, rfl, hM, ho1, ho2, hl, hb⟩
  replace hM := hM.mono hB.size
  replace ho1 := ho1.mono hB.size
  replace ho2 := ho2.mono hB.size
  replace hB := hB.trans (hb.mono hB.size)
  clear KC hb HC
  have hR5 := hM.few
  have hrl := hM.rl
  have hsmall := fun kd : Int => make_small (kd := kd) (c := R) (a := u) (b := v) (matR_few hM) (by omega) (by omega)
  obtain ⟨lu, hlu⟩ : ∃ l, u.length = l := ⟨_, rfl⟩
  obtain ⟨lv, hlv⟩ : ∃ l, v.length = l := ⟨_, rfl⟩
  rw [hlu, hlv] at hl ⊢
  have Hlu := Lib.hid hlu; have Hlv := Lib.hid hlv; have HSm := Lib.hid (fun kd => hsmall kd)
  have Hrl := Lib.hid hrl
  clear hlu hlv hsmall hrl
  have KC := Lib.hid (impl_AreSame_any g 0 R.length cap g1 0 lu c1 g2 0 lv c2 R u v v1 rfl Hlu.out Hlv.out (by omega) Hrl.out (by rw [Hlu.out]; omega) (by rw [Hlv.out]; omega) hM.lt ho1.lt ho2.lt hM.rows2 ho1.cells ho2.cells)
  go_wp2_with fail
  refine KC.out.mono ?_
  rintro e v2 ⟨rfl, hb⟩
  replace hM := hM.below hb
  replace ho1 := ho1.below hb ho1.lt
  replace ho2 := ho2.below hb ho2.lt
  replace hB := hB.trans (hb.mono hB.size)
  clear KC hb
  have KC := Lib.hid (spec_AreSame_any g 0 R.length cap g1 0 lu c1 g2 0 lv c2 R u v v2 rfl Hlu.out Hlv.out (by omega) Hrl.out (by rw [Hlu.out]; omega) (by rw [Hlv.out]; omega) hM.lt ho1.lt ho2.lt hM.rows2 ho1.cells ho2.cells)
  have hsm : sameA R u v = (isWordB R u && (isWordB R v && decide (imI R u = imI R v))) := rfl
  have Hsm := Lib.hid hsm
  clear hsm
  generalize sameA R u v = sm at *
  have dsm : (sm != sm) = false := by simp
  go_wp2_with fail
  refine KC.out.mono ?_
  rintro e v3 ⟨rfl, hb⟩
  replace hM := hM.below hb
  replace ho1 := ho1.below hb ho1.lt
  replace ho2 := ho2.below hb ho2.lt
  replace hB := hB.trans (hb.mono hB.size)
  clear KC hb
  have KU := spec_IsWord_any g 0 R.length cap g1 0 lu c1 R u v3 rfl Hlu.out (by omega) Hrl.out (by rw [Hlu.out]; omega) hM.rows2 ho1.cells
  cases hwu : isWordB R u with
  | false =>
    rw [hwu] at KU
    have KU := Lib.hid KU
    have e1 : sm = false := by rw [Hsm.out, hwu]; rfl
    subst e1
    clear hwu hM ho1 ho2 Hsm HSm Hrl Hlu Hlv
    go_wp2_with fail
    refine KU.out.mono ?_
    rintro e wx ⟨rfl, hs⟩
    have hB' := below_still hB hs
    go_wp2_with fail
    go_ret
    exact ⟨rfl, hB'⟩
  | true =>
  rw [hwu] at KU
  have KU := Lib.hid KU
  go_wp2_with fail
  refine KU.out.mono ?_
  rintro e v4 ⟨rfl, hs⟩
  replace hM := hM.still hs
  replace ho1 := ho1.still hs
  replace ho2 := ho2.still hs
  replace hB := below_still hB hs
  clear KU hs
  have KU := spec_IsWord_any g 0 R.length cap g2 0 lv c2 R v v4 rfl Hlv.out (by omega) Hrl.out (by rw [Hlv.out]; omega) hM.rows2 ho2.cells
  cases hwv : isWordB R v with
  | false =>
    rw [hwv] at KU
    have KU := Lib.hid KU
    have e1 : sm = false := by rw [Hsm.out, hwu, hwv]; rfl
    subst e1
    clear hwu hwv hM ho1 ho2 Hsm HSm Hrl Hlu Hlv
    go_wp2_with fail
    refine KU.out.mono ?_
    rintro e wx ⟨rfl, hs⟩
    have hB' := below_still hB hs
    go_wp2_with fail
    go_ret
    exact ⟨rfl, hB'⟩
  | true =>
  rw [hwv] at KU
  have KU := Lib.hid KU
  have hU := wordOk_of hwu
  have hV := wordOk_of hwv
  have hsm : sm = decide (imI R u = imI R v) := by rw [Hsm.out, hwu, hwv]; rfl
  have Hsm2 := Lib.hid hsm; have HU := Lib.hid hU; have HV := Lib.hid hV
  have Hwu := Lib.hid hwu; have Hwv := Lib.hid hwv
  clear hsm hU hV hwu hwv Hsm
  go_wp2_with fail
  refine KU.out.mono ?_
  rintro e v5 ⟨rfl, hs⟩
  replace hM := hM.still hs
  replace ho1 := ho1.still hs
  replace ho2 := ho2.still hs
  replace hB := below_still hB hs
  clear KU hs
  have KC := Lib.hid (impl_ReduceByDeletion_ok g 0 R.length cap g1 0 lu c1 R u v5 rfl Hlu.out HU.out hM.lt ho1.lt hM.rows2 ho1.cells)
  go_wp2_with fail
  refine KC.out.mono ?_
  rintro e v6 ⟨x, p, gx, cx, gp, cp, rfl, hDx, hNx, hpl, hox, hop, hb⟩
  replace hM := hM.below hb
  replace ho1 := ho1.below hb ho1.lt
  replace ho2 := ho2.below hb ho2.lt
  replace hox := hox.mono hB.size
  replace hop := hop.mono hB.size
  replace hB := hB.trans (hb.mono hB.size)
  clear KC hb
  have Hrx := Lib.hid (hNx.red hDx.word)
  have HDx := Lib.hid hDx
  have hx15 := hDx.word.few
  obtain ⟨lx, hlx⟩ : ∃ l, x.length = l := ⟨_, rfl⟩
  obtain ⟨lp, hlp⟩ : ∃ l, p.length = l := ⟨_, rfl⟩
  rw [hlx] at hx15 ⊢
  rw [hlp] at hpl ⊢
  have Hlx := Lib.hid hlx; have Hlp := Lib.hid hlp
  clear hDx hNx hlx hlp
  have KC := Lib.hid (impl_ReduceByDeletion_ok g 0 R.length cap g2 0 lv c2 R v v6 rfl Hlv.out HV.out hM.lt ho2.lt hM.rows2 ho2.cells)
  go_wp2_with fail
  refine KC.out.mono ?_
  rintro e v7 ⟨y, q, gy, cy, gq, cq, rfl, hDy, hNy, hql, hoy, hoq, hb⟩
  replace hM := hM.below hb
  replace ho1 := ho1.below hb ho1.lt
  replace ho2 := ho2.below hb ho2.lt
  replace hox := hox.below hb hox.lt
  replace hop := hop.below hb hop.lt
  replace hoy := hoy.mono hB.size
  replace hoq := hoq.mono hB.size
  replace hB := hB.trans (hb.mono hB.size)
  clear KC hb
  have Hry := Lib.hid (hNy.red hDy.word)
  have HDy := Lib.hid hDy
  have hy15 := hDy.word.few
  obtain ⟨ly, hly⟩ : ∃ l, y.length = l := ⟨_, rfl⟩
  obtain ⟨lq, hlq⟩ : ∃ l, q.length = l := ⟨_, rfl⟩
  rw [hly] at hy15 ⊢
  rw [hlq] at hql ⊢
  have Hly := Lib.hid hly; have Hlq := Lib.hid hlq
  clear hDy hNy hly hlq
  have HPS := Lib.hid (fun h => path_same HDx.out HDy.out h)
  have HPF := Lib.hid (fun hs hk => path_found HU.out HDx.out HDy.out Hrx.out Hry.out hs hk)
  have HPW := Lib.hid (path_wf (c := R) (a := x) (b := y) HDx.out.word)
  have KC := Lib.hid (impl_BraidPath_ok g 0 R.length cap gx 0 lx cx gy 0 ly cy R x y v7 rfl Hlx.out Hly.out HDx.out.word HDy.out.word (by have := hox.capLe; rw [Hlx.out] at this; exact this) hM.lt hox.lt hoy.lt hM.rows2 hox.cells hoy.cells)
  generalize (pathA R x y).getD [] = PT at *
  generalize (pathA R x y).isSome = isb at *
  go_wp2_with fail
  refine KC.out.mono ?_
  rintro e v8 ⟨gz, cz, rfl, hoz, hb⟩
  replace hM := hM.below hb
  replace ho1 := ho1.below hb ho1.lt
  replace ho2 := ho2.below hb ho2.lt
  replace hox := hox.below hb hox.lt
  replace hop := hop.below hb hop.lt
  replace hoy := hoy.below hb hoy.lt
  replace hoq := hoq.below hb hoq.lt
  replace hoz := hoz.mono hB.size
  replace hB := hB.trans (hb.mono hB.size)
  clear KC hb
  obtain ⟨lt, hlt⟩ : ∃ l, PT.length = l := ⟨_, rfl⟩
  rw [hlt]
  have Hlt := Lib.hid hlt
  clear hlt
  have KC := Lib.hid (impl_ApplyBraids_any g 0 R.length cap gx 0 lx cx gz 0 lt cz R x PT v8 rfl Hlx.out Hlt.out (by omega) Hrl.out (by rw [Hlx.out]; omega) (by have := HPW.out.1; omega) HPW.out.2 hM.lt hox.lt hoz.lt hM.rows2 hox.cells hoz.cells)
  have hzl : isb = true → (applyB R x PT).getD x = y ∧ (applyB R x PT).isSome = true := fun h => by rw [(HPS.out h).2]; exact ⟨rfl, rfl⟩
  have Hzl := Lib.hid hzl
  have hal := applyB_getD_length R x PT
  rw [Hlx.out] at hal
  clear hzl
  generalize (applyB R x PT).getD x = Z at *
  generalize (applyB R x PT).isSome = fine at *
  go_wp2_with fail
  refine KC.out.mono ?_
  rintro e v9 ⟨gw, cw, rfl, how, hb⟩
  replace hM := hM.below hb
  replace ho1 := ho1.below hb ho1.lt
  replace ho2 := ho2.below hb ho2.lt
  replace hox := hox.below hb hox.lt
  replace hop := hop.below hb hop.lt
  replace hoy := hoy.below hb hoy.lt
  replace hoq := hoq.below hb hoq.lt
  replace hoz := hoz.below hb hoz.lt
  replace how := how.mono hB.size
  replace hB := hB.trans (hb.mono hB.size)
  clear KC hb
  rw [hal]
  have Hal := Lib.hid hal
  clear hal
  clear hoz
  have KC := Lib.hid (impl_ReplayDeletions_ok g1 0 lu c1 gp 0 lp cp u p x v9 Hlu.out Hlp.out (by omega) hpl HDx.out.rep ho1.lt hop.lt ho1.cells hop.cells)
  go_wp2_with fail
  refine KC.out.mono ?_
  rintro e v10 ⟨gr, cr, rfl, hor, hb⟩
  replace hM := hM.below hb
  replace ho1 := ho1.below hb ho1.lt
  replace ho2 := ho2.below hb ho2.lt
  replace hox := hox.below hb hox.lt
  replace hop := hop.below hb hop.lt
  replace hoy := hoy.below hb hoy.lt
  replace hoq := hoq.below hb hoq.lt
  replace how := how.below hb how.lt
  replace hor := hor.mono hB.size
  replace hB := hB.trans (hb.mono hB.size)
  clear KC hb
  rw [Hlx.out]
  clear hop
  have KC := Lib.hid (impl_ReplayDeletions_ok g2 0 lv c2 gq 0 lq cq v q y v10 Hlv.out Hlq.out (by omega) hql HDy.out.rep ho2.lt hoq.lt ho2.cells hoq.cells)
  go_wp2_with fail
  refine KC.out.mono ?_
  rintro e v11 ⟨gs, cs, rfl, hos, hb⟩
  replace hM := hM.below hb
  replace ho1 := ho1.below hb ho1.lt
  replace ho2 := ho2.below hb ho2.lt
  replace hox := hox.below hb hox.lt
  replace hoy := hoy.below hb hoy.lt
  replace hoq := hoq.below hb hoq.lt
  replace how := how.below hb how.lt
  replace hor := hor.below hb hor.lt
  replace hos := hos.mono hB.size
  replace hB := hB.trans (hb.mono hB.size)
  clear KC hb
  rw [Hly.out]
  clear hoq
  go_upto_region 15 with fail
  go_cut [134] from 94 to 134 (fun bv wx => bv = .bool false ∧ Below w.heap.size w wx ∧ MatR wx w.heap.size g cap R ∧ Own wx w.heap.size g1 c1 u ∧ Own wx w.heap.size g2 c2 v ∧ Own wx w.heap.size gx cx x ∧ Own wx w.heap.size gy cy y)
  case first =>
    have KC := Lib.hid (laws_sameInts_same gr 0 lx cr gx 0 lx cx x v11 Hlx.out Hlx.out (by rw [Hlx.out]; omega) hor.cells hox.cells)
    go_wp2_with fail
    refine KC.out.mono ?_
    rintro e v12 ⟨rfl, hs⟩
    replace hM := hM.still hs
    replace ho1 := ho1.still hs
    replace ho2 := ho2.still hs
    replace hox := hox.still hs
    replace hoy := hoy.still hs
    replace how := how.still hs
    replace hor := hor.still hs
    replace hos := hos.still hs
    replace hB := below_still hB hs
    clear KC hs
    have KC := Lib.hid (laws_sameInts_same gs 0 ly cs gy 0 ly cy y v12 Hly.out Hly.out (by rw [Hly.out]; omega) hos.cells hoy.cells)
    go_wp2_with fail
    refine KC.out.mono ?_
    rintro e v13 ⟨rfl, hs⟩
    replace hM := hM.still hs
    replace ho1 := ho1.still hs
    replace ho2 := ho2.still hs
    replace hox := hox.still hs
    replace hoy := hoy.still hs
    replace how := how.still hs
    replace hor := hor.still hs
    replace hos := hos.still hs
    replace hB := below_still hB hs
    clear KC hs
    have KC := Lib.hid ((by have := impl_IsReduced_any g 0 R.length cap gx 0 lx cx R x v13 rfl Hlx.out (by omega) Hrl.out (by rw [Hlx.out]; omega) hM.lt hox.lt hM.rows2 hox.cells; rw [Hrx.out] at this; exact this : Calls Tryz.prog 14 #[(Value.slice (some ⟨g, 0, none⟩) R.length cap), (Value.slice (some ⟨gx, 0, none⟩) lx cx)] v13 (Gives v13 (.bool true))))
    go_wp2_with fail
    refine KC.out.mono ?_
    rintro e v14 ⟨rfl, hb⟩
    replace hM := hM.below hb
    replace ho1 := ho1.below hb ho1.lt
    replace ho2 := ho2.below hb ho2.lt
    replace hox := hox.below hb hox.lt
    replace hoy := hoy.below hb hoy.lt
    replace how := how.below hb how.lt
    replace hor := hor.below hb hor.lt
    replace hos := hos.below hb hos.lt
    replace hB := hB.trans (hb.mono hB.size)
    clear KC hb
    cases isb with
    | false =>
      go_wp2_with fail
      go_meet
      exact ⟨rfl, hB, hM, ho1, ho2, hox, hoy⟩
    | true =>
    obtain ⟨e1, e2⟩ := Hzl.out rfl
    have e3 : sm = true := by rw [Hsm2.out]; exact decide_eq_true (HPS.out rfl).1
    subst e1 e2 e3
    have KC := Lib.hid (laws_sameInts_same gw 0 lx cw gy 0 ly cy Z v14 Hal.out Hly.out (by rw [Hal.out]; omega) how.cells hoy.cells)
    go_wp2_with fail
    refine KC.out.mono ?_
    rintro e v15 ⟨rfl, hs⟩
    replace hM := hM.still hs
    replace ho1 := ho1.still hs
    replace ho2 := ho2.still hs
    replace hox := hox.still hs
    replace hoy := hoy.still hs
    replace how := how.still hs
    replace hor := hor.still hs
    replace hos := hos.still hs
    replace hB := below_still hB hs
    clear KC hs
    go_wp2_with fail
    go_meet
    exact ⟨rfl, hB, hM, ho1, ho2, hox, hoy⟩
  case rest =>
    clear hB hM ho1 ho2 hox hoy hor hos how
    obtain ⟨rfl, hB, hM, ho1, ho2, hox, hoy⟩ := hcut
    rename World => t0
    have KC := Lib.hid (spec_ReducedWords_any g 0 R.length cap g1 0 lu c1 R u t0 rfl Hlu.out (by omega) Hrl.out (by rw [Hlu.out]; omega) hM.lt ho1.lt hM.rows2 ho1.cells)
    have hrw : rwB R u = true → rwL R u = wordsL R (nfI R u) ∧ (wordsL R (nfI R u)).length ≤ 120 := fun h => by
      unfold rwB at h
      rw [Bool.and_eq_true] at h
      have h2 := of_decide_eq_true h.2
      exact ⟨by unfold rwL; rw [if_pos h.1, if_pos h2], h2⟩
    have Hrw := Lib.hid hrw
    have hrl120 : (rwL R u).length ≤ 120 ∧ ∀ x ∈ rwL R u, x.length ≤ 15 := rwL_few HU.out
    have Hr120 := Lib.hid hrl120
    clear hrw hrl120
    generalize rwB R u = kn at *
    generalize rwL R u = RL at *
    go_wp2_with fail
    refine KC.out.mono ?_
    rintro e v16 ⟨gl, cl, rs, rfl, hcon, hL, hb⟩
    replace hM := hM.below hb
    replace ho1 := ho1.below hb ho1.lt
    replace ho2 := ho2.below hb ho2.lt
    replace hox := hox.below hb hox.lt
    replace hoy := hoy.below hb hoy.lt
    replace hL := hL.mono hB.size
    replace hB := hB.trans (hb.mono hB.size)
    clear KC hb
    have Hcon := Lib.hid hcon
    have hrsl : RL.length = rs.length := by rw [← hcon, contents_length]
    rw [hrsl]
    have Hrsl := Lib.hid hrsl
    clear hcon hrsl
    go_upto_region 18 with fail
    go_cut [160] from 141 to 160 (fun bv wx => bv = .bool false ∧ Below w.heap.size w wx ∧ MatR wx w.heap.size g cap R ∧ Own wx w.heap.size g1 c1 u ∧ Own wx w.heap.size g2 c2 v)
    case first =>
      cases sm with
      | false =>
        go_wp2_with fail
        go_meet
        exact ⟨rfl, hB, hM, ho1, ho2⟩
      | true =>
      cases kn with
      | false =>
        go_wp2_with fail
        go_meet
        exact ⟨rfl, hB, hM, ho1, ho2⟩
      | true =>
      obtain ⟨e1, e2⟩ := Hrw.out rfl
      obtain ⟨e3, m1, m2⟩ := HPF.out (of_decide_eq_true Hsm2.out.symm) e2
      rw [← e1] at m1 m2
      have M1 := Lib.hid m1; have M2 := Lib.hid m2
      subst e3
      clear e1 e2 m1 m2
      have KC := Lib.hid (laws_inList_mem gl 0 rs.length cl gx 0 lx cx RL x v16 Hrsl.out Hlx.out (by have := Hr120.out.1; omega) (fun j hj => by have := Hr120.out.2 (RL.getD j []) (by simp [List.getD, hj]); omega) (by rw [Hlx.out]; omega) M1.out (by rw [← Hcon.out]; exact hL.rows2) hox.cells)
      go_wp2_with fail
      refine KC.out.mono ?_
      rintro e v17 ⟨rfl, hs⟩
      replace hM := hM.still hs
      replace ho1 := ho1.still hs
      replace ho2 := ho2.still hs
      replace hox := hox.still hs
      replace hoy := hoy.still hs
      replace hL := hL.still hs
      replace hB := below_still hB hs
      clear KC hs
      have KC := Lib.hid (laws_inList_mem gl 0 rs.length cl gy 0 ly cy RL y v17 Hrsl.out Hly.out (by have := Hr120.out.1; omega) (fun j hj => by have := Hr120.out.2 (RL.getD j []) (by simp [List.getD, hj]); omega) (by rw [Hly.out]; omega) M2.out (by rw [← Hcon.out]; exact hL.rows2) hoy.cells)
      go_wp2_with fail
      refine KC.out.mono ?_
      rintro e v18 ⟨rfl, hs⟩
      replace hM := hM.still hs
      replace ho1 := ho1.still hs
      replace ho2 := ho2.still hs
      replace hox := hox.still hs
      replace hoy := hoy.still hs
      replace hL := hL.still hs
      replace hB := below_still hB hs
      clear KC hs
      go_wp2_with fail
      go_meet
      exact ⟨rfl, hB, hM, ho1, ho2⟩
    case rest =>
      clear hB hM ho1 ho2 hox hoy hL HPS HPF HPW Hzl Hsm2 Hrw Hr120 Hcon Hrsl HDx HDy Hrx Hry Hal Hlt Hlx Hly Hlp Hlq
      obtain ⟨rfl, hB, hM, ho1, ho2⟩ := hcut
      rename World => t2
      have KC := Lib.hid (impl_InversionsOf_ok g 0 R.length cap g1 0 lu c1 R u t2 rfl Hlu.out HU.out hM.lt ho1.lt hM.rows2 ho1.cells)
      have hpar := (nfI_ok (HU.out.lets.mono (show 15 ≤ 30 by omega))).par
      have hnl := (nfI_ok (HU.out.lets.mono (show 15 ≤ 30 by omega))).len
      have K2 := Lib.hid (fun (W : World) (hM : MatR W w.heap.size g cap R) (ho1 : Own W w.heap.size g1 c1 u) => impl_LengthOf_ok g 0 R.length cap g1 0 lu c1 R u W rfl Hlu.out HU.out hM.lt ho1.lt hM.rows2 ho1.cells)
      have K3 := Lib.hid (fun (W : World) (hM : MatR W w.heap.size g cap R) (ho1 : Own W w.heap.size g1 c1 u) => spec_LengthOf_ok g 0 R.length cap g1 0 lu c1 R u W rfl Hlu.out HU.out hM.lt ho1.lt hM.rows2 ho1.cells)
      rw [Hlu.out] at hpar hnl
      generalize (nfI R u).length = ln at *
      have d1 : ((ln : Int) != (ln : Int)) = false := by simp
      have p1 : (ln : Int) % 2 = (lu : Int) % 2 := by omega
      have p2 : (ln : Int).tmod 2 = (lu : Int).tmod 2 := by rw [Int.tmod_eq_emod_of_nonneg (by omega), Int.tmod_eq_emod_of_nonneg (by omega)]; exact p1
      have d2 : ((ln : Int) % 2 != (lu : Int) % 2) = false := by rw [p1]; simp
      have d3 : ((ln : Int).tmod 2 != (lu : Int).tmod 2) = false := by rw [p2]; simp
      clear p1 p2 hpar
      go_wp2_with fail
      refine KC.out.mono ?_
      rintro e v19 ⟨gi, ci, rfl, hb⟩
      replace hM := hM.below hb
      replace ho1 := ho1.below hb ho1.lt
      replace ho2 := ho2.below hb ho2.lt
      replace hB := hB.trans (hb.mono hB.size)
      clear KC hb
      have KC := Lib.hid (K2.out v19 hM ho1)
      go_wp2_with fail
      refine KC.out.mono ?_
      rintro e v20 ⟨rfl, hb⟩
      replace hM := hM.below hb
      replace ho1 := ho1.below hb ho1.lt
      replace ho2 := ho2.below hb ho2.lt
      replace hB := hB.trans (hb.mono hB.size)
      clear KC hb K2
      have KC := Lib.hid (K3.out v20 hM ho1)
      go_wp2_with fail
      refine KC.out.mono ?_
      rintro e v21 ⟨rfl, hb⟩
      replace hM := hM.below hb
      replace ho1 := ho1.below hb ho1.lt
      replace ho2 := ho2.below hb ho2.lt
      replace hB := hB.trans (hb.mono hB.size)
      clear KC hb K3
      go_upto_region 22 with fail
      clear d1 d2 d3 hnl
      have hba : Below v21.heap.size v21 (v21.alloc (.cells #[.int .i64 1, .int .i64 2, .int .i64 3, .int .i64 4, .int .i64 5, .int .i64 6] 3)) := (Below.refl _ _).alloc (Nat.le_refl _) _
      have hk6 : Own (v21.alloc (.cells #[.int .i64 1, .int .i64 2, .int .i64 3, .int .i64 4, .int .i64 5, .int .i64 6] 3)) v21.heap.size v21.heap.size 6 [1, 2, 3, 4, 5, 6] := World.ownsRow_lit _ #[.int .i64 1, .int .i64 2, .int .i64 3, .int .i64 4, .int .i64 5, .int .i64 6] 6 (Nat.le_refl _) (by decide) rfl
      have hM := hM.below hba
      have ho1 := ho1.below hba ho1.lt
      have ho2 := ho2.below hba ho2.lt
      have hB := hB.trans (hba.mono hB.size)
      obtain ⟨s1, hs1⟩ : ∃ W, W = v21.alloc (.cells #[.int .i64 1, .int .i64 2, .int .i64 3, .int .i64 4, .int .i64 5, .int .i64 6] 3) := ⟨_, rfl⟩
      rw [← hs1] at hk6 hM ho1 ho2 hB
      have Hs1 := Lib.hid hs1
      have HM := Lib.hid hM; have H1 := Lib.hid ho1; have H2 := Lib.hid ho2; have H6 := Lib.hid hk6; have HB := Lib.hid hB
      have hmd : OwnBL (s1.alloc (.cells #[] 4)) s1.heap.size s1.heap.size 0 [] := OwnBL.empty (Nat.le_refl _)
      have hbb : Below s1.heap.size s1 (s1.alloc (.cells #[] 4)) := (Below.refl _ _).alloc (Nat.le_refl _) _
      have Hmd := Lib.hid hmd; have Hbb := Lib.hid hbb
      clear hs1 hba hM ho1 ho2 hk6 hB hmd hbb
      go_wp2_with fail
      go_loopw [22, 23] (fun mv kv wr => ∃ (k g3 c3 : Nat), k ≤ 6 ∧ kv = .int .i64 k ∧ mv = (Value.slice (some ⟨g3, 0, none⟩) k c3) ∧ Hid (OwnBL wr s1.heap.size g3 c3 (madeTo R u v k)) ∧ Hid (Below s1.heap.size s1 wr)) (fun _ kv _ => 6 - (intOf kv).toNat)
      case atStart =>
        have e := Hs1.out
        subst e
        refine ⟨0, _, 0, by omega, rfl, rfl, ?_, ?_⟩
        · refine Lib.hid (show OwnBL _ _ _ 0 [] from ?_)
          have h := Hmd.out
          simp at h ⊢
          exact h
        · exact Hbb
      case round =>
        clear Hmd Hbb Hs1
        obtain ⟨k, g3, c3, hk, rfl, rfl, hmd, hbr⟩ := hrel
        by_cases hlt : k < 6
        · have hM := HM.out.below hbr.out
          have ho1 := H1.out.below hbr.out H1.out.lt
          have ho2 := H2.out.below hbr.out H2.out.lt
          have q := (H6.out.below hbr.out H6.out.lt).cell k (by simpa using hlt)
          rw [kinds_at k hlt] at q
          have hml : Hid ((madeTo R u v k).length = k) := Lib.hid (by simp [madeTo])
          have KM := Lib.hid (impl_MakeClaim_any ((k : Int) + 1) g 0 R.length cap g1 0 lu c1 g2 0 lv c2 R u v wr rfl Hlu.out Hlv.out (by omega) Hrl.out (by rw [Hlu.out]; omega) (by rw [Hlv.out]; omega) (by have := ho1.capLe; rw [Hlu.out] at this; exact this) (by have := ho2.capLe; rw [Hlv.out] at this; exact this) hM.lt ho1.lt ho2.lt hM.rows2 ho1.cells ho2.cells)
          have hmk := fun h => make_kind (kd := (k : Int) + 1) (c := R) (a := u) (b := v) h
          have hfew := (HSm.out ((k : Int) + 1)).toFew
          have hwf := make_wf (kd := (k : Int) + 1) (c := R) (a := u) (b := v)
          have hfine := fun h => made_fine (kd := (k : Int) + 1) (c := R) (a := u) (b := v) h
          have hsucc := madeTo_succ R u v k
          have Hmk := Lib.hid hmk; have Hfew := Lib.hid hfew; have Hwf := Lib.hid hwf; have Hfine := Lib.hid hfine; have Hsucc := Lib.hid hsucc
          clear hM ho1 ho2 hmk hfew hwf hfine hsucc
          generalize makeC ((k : Int) + 1) R u v = X at *
          generalize okM ((k : Int) + 1) R u v = O at *
          go_wp2_with fail
          refine KM.out.mono ?_
          rintro e w4 ⟨cv, rfl, hH, hb4, hnn⟩
          have hb5 := hbr.out.trans (hb4.mono hbr.out.size)
          have hmd4 := hmd.out.below hb4 hmd.out.lt
          have hC : Hid (O = true → ClaimN w4 cv X) := Lib.hid (fun h => hH.toN hnn (by rw [(Hmk.out h).1]; omega))
          obtain ⟨p1, d1, p2, d2, p3, d3, p4, d4, p5, d5, hv⟩ := hH.shape
          subst hv
          clear hH hnn KM hb4 hmd hbr q Hmk
          generalize X.kind = xk at *
          generalize X.cartan.length = x1 at *
          generalize X.a.length = x2 at *
          generalize X.b.length = x3 at *
          generalize X.proof.length = x4 at *
          generalize X.roots.length = x5 at *
          have ba : Below w4.heap.size w4 (w4.alloc (.cells #[.int .i64 xk, .slice p1 x1 d1, .slice p2 x2 d2, .slice p3 x3 d3, .slice p4 x4 d4, .slice p5 x5 d5] 42)) := (Below.refl _ _).alloc (Nat.le_refl _) _
          have Bx := Lib.hid (heap_alloc_new w4 (.cells #[.int .i64 xk, .slice p1 x1 d1, .slice p2 x2 d2, .slice p3 x3 d3, .slice p4 x4 d4, .slice p5 x5 d5] 42 (0, 0)))
          obtain ⟨z0, z1, z2, z3, z4, z5⟩ := sixC Bx.out
          have hmd5 := hmd4.below ba hmd4.lt
          have hb6 := Lib.hid (hb5.trans (ba.mono hb5.size))
          cases O with
          | false =>
            clear hC Hfine Hwf Hfew hmd4 hb5 ba
            go_wp2_with (at_builtin; refine wpList_append_bool rfl _ _ rfl s1.heap.size g3 c3 k _ (madeTo R u v k) false (w4.alloc (.cells #[.int .i64 xk, .slice p1 x1 d1, .slice p2 x2 d2, .slice p3 x3 d3, .slice p4 x4 d4, .slice p5 x5 d5] 42)) _ hml.out rfl (by simp) hmd5 rfl rfl (by omega) ?_)
            intro g6 c6 w6 ho6 hg6 hor6
            rw [← Hsucc.out] at ho6
            have hb7 := Lib.hid (hb6.out.grown hg6 hb6.out.size (by intro t ht; cases ht; exact hmd5.base))
            have Ho6 := Lib.hid ho6
            clear z0 z1 z2 z3 z4 z5 hmd5 hg6 hor6 ho6
            go_wp2_with fail
            go_roundw
            case rel => exact ⟨k + 1, g6, c6, by omega, by go_num, rfl, Ho6, hb7⟩
            case measure => simp [intOf]; omega
          | true =>
            have KC := impl_CheckClaim_n _ X _ ((hC.out rfl).below ba) Hfew.out Hwf.out
            rw [Hfine.out rfl] at KC
            have KC := Lib.hid KC
            clear hC Hfine Hwf Hfew hmd4 hb5 ba
            go_wp2_with fail
            refine KC.out.mono ?_
            rintro e w5 ⟨rfl, hb5⟩
            have hmd6 := hmd5.below hb5 hmd5.lt
            have hb7 := hb6.out.trans (hb5.mono hb6.out.size)
            clear z0 z1 z2 z3 z4 z5 KC hmd5 hb6 hb5 Bx
            go_wp2_with (at_builtin; refine wpList_append_bool rfl _ _ rfl s1.heap.size g3 c3 k _ (madeTo R u v k) true w5 _ hml.out rfl rfl hmd6 rfl rfl (by omega) ?_)
            intro g6 c6 w6 ho6 hg6 hor6
            rw [← Hsucc.out] at ho6
            have hb8 := Lib.hid (hb7.grown hg6 hb7.size (by intro t ht; cases ht; exact hmd6.base))
            have Ho6 := Lib.hid ho6
            clear hmd6 hg6 hor6 ho6 hb7
            go_wp2_with fail
            go_roundw
            case rel => exact ⟨k + 1, g6, c6, by omega, by go_num, rfl, Ho6, hb8⟩
            case measure => simp [intOf]; omega
        · obtain rfl : k = 6 := by omega
          have m0 := hmd.out.cell 0 (by simp [madeTo])
          have m2 := hmd.out.cell 2 (by simp [madeTo])
          have m3 := hmd.out.cell 3 (by simp [madeTo])
          have m4 := hmd.out.cell 4 (by simp [madeTo])
          have hok : ∀ kd, okM kd R u v = okC kd R u v := fun kd => by unfold okM; rw [Hwu.out, Hwv.out]; rfl
          rw [show (madeTo R u v 6).getD 0 false = redW R u from (show (madeTo R u v 6).getD 0 false = okM 1 R u v from rfl).trans (hok 1)] at m0
          rw [show (madeTo R u v 6).getD 2 false = bruB R u v from (show (madeTo R u v 6).getD 2 false = okM 3 R u v from rfl).trans (hok 3)] at m2
          rw [show (madeTo R u v 6).getD 3 false = !bruB R u v from (show (madeTo R u v 6).getD 3 false = okM 4 R u v from rfl).trans (hok 4)] at m3
          rw [show (madeTo R u v 6).getD 4 false = !finB R from (show (madeTo R u v 6).getD 4 false = okM 5 R u v from rfl).trans (hok 5)] at m4
          have KF := Lib.hid (fun (W : World) (hb : Below s1.heap.size s1 W) => spec_IsFinite_any g 0 R.length cap R W rfl (by omega) Hrl.out (HM.out.below hb).lt (HM.out.below hb).rows2)
          have KR := Lib.hid (fun (W : World) (hb : Below s1.heap.size s1 W) => spec_IsReduced_any g 0 R.length cap g1 0 lu c1 R u W rfl Hlu.out (by omega) Hrl.out (by rw [Hlu.out]; omega) (HM.out.below hb).lt (H1.out.below hb H1.out.lt).lt (HM.out.below hb).rows2 (H1.out.below hb H1.out.lt).cells)
          have hbd := Lib.hid (Below.drew hbr.out)
          have hlt3 := hmd.out.lt
          clear hok hmd H2 H6 HSm Hwu Hwv HU HV
          generalize redW R u = rd at *
          generalize bruB R u v = br at *
          generalize finB R = fb at *
          have drd : (rd == rd) = true := by simp
          have y0 : wr.drew.cell? ⟨g3, 0, none⟩ = some (.bool rd) := m0
          have y2 : wr.drew.cell? ⟨g3, 2, none⟩ = some (.bool br) := m2
          have y3 : wr.drew.cell? ⟨g3, 3, none⟩ = some (.bool !br) := m3
          have y4 : wr.drew.cell? ⟨g3, 4, none⟩ = some (.bool !fb) := m4
          clear m0 m2 m3 m4
          cases br
          all_goals cases fb
          · simp only [Bool.not_false] at y3 y4
            go_wp2_with fail
            go_region_held3 (fun W => W.cell? ⟨g3, 0, none⟩ = some (.bool rd) ∧ W.cell? ⟨g3, 2, none⟩ = some (.bool false) ∧ W.cell? ⟨g3, 3, none⟩ = some (.bool true) ∧ W.cell? ⟨g3, 4, none⟩ = some (.bool true))
              (first | exact ⟨y0, y2, y3, y4⟩ | exact ⟨keepCell hbA y0, keepCell hbA y2, keepCell hbA y3, keepCell hbA y4⟩ | exact ⟨keepCell hbB (keepCell hbA y0), keepCell hbB (keepCell hbA y2), keepCell hbB (keepCell hbA y3), keepCell hbB (keepCell hbA y4)⟩)
              (first
                | (go_at_call 22; refine (KF.out _ hbd.out).mono ?_; rintro e wA ⟨rfl, hbA⟩)
                | (go_at_call 23; refine (KR.out _ (hbd.out.trans (hbA.mono hbd.out.size))).mono ?_; rintro e wB ⟨rfl, hbB⟩))
            have hbE := hbd.out.trans (hbA.mono hbd.out.size)
            have hbF := hbE.trans (hbB.mono hbE.size)
            have hfin := Lib.hid (HB.out.trans (hbF.mono HB.out.size))
            clear hbE hbF hbA hbB y0 y2 y3 y4
            go_wp2_with fail
            go_ret
            exact ⟨rfl, hfin.out⟩
          · simp only [Bool.not_true, Bool.not_false] at y3 y4
            go_wp2_with fail
            go_region_held3 (fun W => W.cell? ⟨g3, 0, none⟩ = some (.bool rd) ∧ W.cell? ⟨g3, 2, none⟩ = some (.bool false) ∧ W.cell? ⟨g3, 3, none⟩ = some (.bool true) ∧ W.cell? ⟨g3, 4, none⟩ = some (.bool false))
              (first | exact ⟨y0, y2, y3, y4⟩ | exact ⟨keepCell hbA y0, keepCell hbA y2, keepCell hbA y3, keepCell hbA y4⟩ | exact ⟨keepCell hbB (keepCell hbA y0), keepCell hbB (keepCell hbA y2), keepCell hbB (keepCell hbA y3), keepCell hbB (keepCell hbA y4)⟩)
              (first
                | (go_at_call 22; refine (KF.out _ hbd.out).mono ?_; rintro e wA ⟨rfl, hbA⟩)
                | (go_at_call 23; refine (KR.out _ (hbd.out.trans (hbA.mono hbd.out.size))).mono ?_; rintro e wB ⟨rfl, hbB⟩))
            have hbE := hbd.out.trans (hbA.mono hbd.out.size)
            have hbF := hbE.trans (hbB.mono hbE.size)
            have hfin := Lib.hid (HB.out.trans (hbF.mono HB.out.size))
            clear hbE hbF hbA hbB y0 y2 y3 y4
            go_wp2_with fail
            go_ret
            exact ⟨rfl, hfin.out⟩
          · simp only [Bool.not_true, Bool.not_false] at y3 y4
            go_wp2_with fail
            go_region_held3 (fun W => W.cell? ⟨g3, 0, none⟩ = some (.bool rd) ∧ W.cell? ⟨g3, 2, none⟩ = some (.bool true) ∧ W.cell? ⟨g3, 3, none⟩ = some (.bool false) ∧ W.cell? ⟨g3, 4, none⟩ = some (.bool true))
              (first | exact ⟨y0, y2, y3, y4⟩ | exact ⟨keepCell hbA y0, keepCell hbA y2, keepCell hbA y3, keepCell hbA y4⟩ | exact ⟨keepCell hbB (keepCell hbA y0), keepCell hbB (keepCell hbA y2), keepCell hbB (keepCell hbA y3), keepCell hbB (keepCell hbA y4)⟩)
              (first
                | (go_at_call 22; refine (KF.out _ hbd.out).mono ?_; rintro e wA ⟨rfl, hbA⟩)
                | (go_at_call 23; refine (KR.out _ (hbd.out.trans (hbA.mono hbd.out.size))).mono ?_; rintro e wB ⟨rfl, hbB⟩))
            have hbE := hbd.out.trans (hbA.mono hbd.out.size)
            have hbF := hbE.trans (hbB.mono hbE.size)
            have hfin := Lib.hid (HB.out.trans (hbF.mono HB.out.size))
            clear hbE hbF hbA hbB y0 y2 y3 y4
            go_wp2_with fail
            go_ret
            exact ⟨rfl, hfin.out⟩
          · simp only [Bool.not_true] at y3 y4
            go_wp2_with fail
            go_region_held3 (fun W => W.cell? ⟨g3, 0, none⟩ = some (.bool rd) ∧ W.cell? ⟨g3, 2, none⟩ = some (.bool true) ∧ W.cell? ⟨g3, 3, none⟩ = some (.bool false) ∧ W.cell? ⟨g3, 4, none⟩ = some (.bool false))
              (first | exact ⟨y0, y2, y3, y4⟩ | exact ⟨keepCell hbA y0, keepCell hbA y2, keepCell hbA y3, keepCell hbA y4⟩ | exact ⟨keepCell hbB (keepCell hbA y0), keepCell hbB (keepCell hbA y2), keepCell hbB (keepCell hbA y3), keepCell hbB (keepCell hbA y4)⟩)
              (first
                | (go_at_call 22; refine (KF.out _ hbd.out).mono ?_; rintro e wA ⟨rfl, hbA⟩)
                | (go_at_call 23; refine (KR.out _ (hbd.out.trans (hbA.mono hbd.out.size))).mono ?_; rintro e wB ⟨rfl, hbB⟩))
            have hbE := hbd.out.trans (hbA.mono hbd.out.size)
            have hbF := hbE.trans (hbB.mono hbE.size)
            have hfin := Lib.hid (HB.out.trans (hbF.mono HB.out.size))
            clear hbE hbF hbA hbB y0 y2 y3 y4
            go_wp2_with fail
            go_ret
            exact ⟨rfl, hfin.out⟩
end Go.Proofs.YtkjglfafphffiaaGreat
