/- The reference's PairLine: contract. The program's FormatPoly: contract. -/
import Derived.Test.YtdedkfbiookofaaGreatDoorM05
import Derived.Test.YtdedkfbiookofaaGreatDoorM06
import Derived.Test.YtdedkfbiookofaaGreatDoorM40
import Derived.Test.YtdedkfbiookofaaGreatDoorM41
import Derived.Test.YtdedkfbiookofaaGreatDoorM42
import Derived.Deep.CutRange
import Derived.Deep.CutBlock
namespace Go.Proofs.YtdedkfbiookofaaGreatDoor
set_option maxRecDepth 100000
open Go.RowKit Game
open Go.Lib (join decDigits itoa)
theorem i64s_rP {c : List (List Int)} {a b : List Int} (hA : WordOk c a) (hB : WordOk c b) : I64s (rP c a b) := by
  unfold rP
  split
  · rw [← r_eq _ (nw_nf hB).lets (nw_nf hA)]; exact i64s_rI c _ _
  · exact i64s_nil
theorem rP_len {c : List (List Int)} {a b : List Int} (hB : WordOk c b) : (rP c a b).length ≤ 1000 := by
  have h1 := rS_le c (nfI c b) (nfI c a)
  have h2 := (nw_nf hB).lets.few
  unfold rP
  split
  · omega
  · simp
theorem klP_len {c : List (List Int)} {a b : List Int} (hB : WordOk c b) : (klP c a b).length ≤ 1000 := by
  unfold klP
  split
  case isTrue hk =>
    have H := klOk_of hk
    have hG := klB_grp hk
    have h3 := (ixK_at hG hB).2
    have h1 := klRows_len H (ixK c b) h3 (ixK c b) (ixK c a)
    have h2 := H.few
    unfold pol at h1
    unfold klRow
    omega
  · simp
theorem poly_short {p : List Int} (h : I64s p) (hl : p.length ≤ 1000) : (polyS p).length ≤ 100000 := by
  have := polyS_len (fun i => wf_bounds (i64_cell h i)) (by omega : p.length ≤ 1000000)
  omega
/-- the line -/
def pairLineL (c : List (List Int)) (a b : List Int) : List UInt8 :=
  if isWordB c a && isWordB c b then join (plL (wordL a) (wordL b) (decide (imI c a = imI c b)) (wkB c a b) (bruB c a b) (rOk c a b) (klB c) (polyS (rP c a b)) (polyS (klP c a b))) [32] else []
theorem wordL_shortP {l : List Int} (h : l.length ≤ 50) : (wordL l).length ≤ 100 := by
  unfold wordL
  split
  · simp
  · split
    · unfold digs; rw [List.length_map]; omega
    · simp
theorem spec_l35YesP (b : Bool) (s : List UInt8) (w : World) : Calls Tryz.prog 71 #[.bool b, .string ⟨s.toArray⟩] w (Reads w (.string ⟨(cond b s []).toArray⟩)) := by
  cases b with
  | true =>
    go_enter Tryz.func71, Tryz.ntmps71
    go_wp2
    go_ret
    exact ⟨rfl, 0, rfl⟩
  | false =>
    go_enter Tryz.func71, Tryz.ntmps71
    go_wp2
    go_ret
    exact ⟨rfl, 0, rfl⟩
set_option maxHeartbeats 4000000 in
theorem spec_PairLine_any (gc oc n cc g1 o1 n1 c1 g2 o2 n2 c2 : Nat) (c : List (List Int)) (a b : List Int) (w : World) (hn : c.length = n) (hn1 : a.length = n1) (hn2 : b.length = n2) (hx : c.length ≤ 1048576) (hrl : ∀ j, j < c.length → (c.getD j []).length ≤ 1048576) (hl1 : a.length ≤ 1048576) (hl2 : b.length ≤ 1048576)
    (hgc : gc < w.heap.size) (hg1 : g1 < w.heap.size) (hg2 : g2 < w.heap.size) (hr : Rows2 w gc oc c) (hc1 : Cells w g1 o1 a) (hc2 : Cells w g2 o2 b) :
    Calls Tryz.prog 36 #[(Value.slice (some ⟨gc, oc, none⟩) n cc), (Value.slice (some ⟨g1, o1, none⟩) n1 c1), (Value.slice (some ⟨g2, o2, none⟩) n2 c2)] w (Gives w (.string ⟨(pairLineL c a b).toArray⟩)) := by
  have i1 := spec_IsWord_any gc oc n cc g1 o1 n1 c1 c a w hn hn1 hx hrl hl1 hr hc1
  have i2 := fun W (hs : ∃ q, W = w.drewN q) => spec_IsWord_any gc oc n cc g2 o2 n2 c2 c b W hn hn2 hx hrl hl2 (hr.still hs) (hc2.still hs)
  unfold pairLineL
  cases hwa : isWordB c a with
  | false =>
    rw [if_neg (by simp)]
    rw [hwa] at i1
    have I1 := Lib.hid i1
    clear i1 i2 hr hc1 hc2 hwa
    go_enter Tryz.func36, Tryz.ntmps36
    go_wp2_with fail
    refine I1.out.mono ?_
    rintro e v1 ⟨rfl, m1, rfl⟩
    go_wp2_with fail
    go_ret
    exact ⟨rfl, below_drewN' w m1⟩
  | true =>
  cases hwb : isWordB c b with
  | false =>
    rw [if_neg (by simp)]
    rw [hwa] at i1
    rw [hwb] at i2
    have I1 := Lib.hid i1
    have I2 := Lib.hid i2
    clear i1 i2 hr hc1 hc2 hwa hwb
    go_enter Tryz.func36, Tryz.ntmps36
    go_wp2_with fail
    refine I1.out.mono ?_
    rintro e v1 ⟨rfl, hs1⟩
    go_wp2_with fail
    refine (I2.out v1 hs1).mono ?_
    rintro e v2 ⟨rfl, hs2⟩
    go_wp2_with fail
    go_ret
    exact ⟨rfl, below_still (below_still (Below.refl _ _) hs1) hs2⟩
  | true =>
    rw [if_pos (show (true && true) = true from rfl), ← plS_eq]
    rw [hwa] at i1
    rw [hwb] at i2
    have I1 := Lib.hid i1
    have I2 := Lib.hid i2
    have hA := wordOk_of hwa
    have hB := wordOk_of hwb
    have hfa := hA.few; have hfb := hB.few
    have hRw := i64s_rP hA hB
    have hRl := rP_len (a := a) hB
    have hPw := i64s_klP c a b
    have hPl := klP_len (a := a) hB
    have hlen := fun sm wk bl rk pk => plS_len (wordL_shortP (l := a) (by omega)) (wordL_shortP (l := b) (by omega)) (poly_short hRw hRl) (poly_short hPw hPl) sm wk bl rk pk
    have HFa := Lib.hid (fun W (h : Below w.heap.size w W) => spec_FormatWord_any g1 o1 n1 c1 a W hn1 (by omega) (Nat.lt_of_lt_of_le hg1 h.size) (hc1.below h hg1))
    have HFb := Lib.hid (fun W (h : Below w.heap.size w W) => spec_FormatWord_any g2 o2 n2 c2 b W hn2 (by omega) (Nat.lt_of_lt_of_le hg2 h.size) (hc2.below h hg2))
    have HS := Lib.hid (fun W (h : Below w.heap.size w W) => spec_AreSame_ok gc oc n cc g1 o1 n1 c1 g2 o2 n2 c2 c a b W hn hn1 hn2 hA hB (Nat.lt_of_lt_of_le hgc h.size) (Nat.lt_of_lt_of_le hg1 h.size) (Nat.lt_of_lt_of_le hg2 h.size) (hr.below h hgc) (hc1.below h hg1) (hc2.below h hg2))
    have HW := Lib.hid (fun W (h : Below w.heap.size w W) => spec_IsWeakBelow_ok gc oc n cc g1 o1 n1 c1 g2 o2 n2 c2 c a b W hn hn1 hn2 hA hB (Nat.lt_of_lt_of_le hgc h.size) (Nat.lt_of_lt_of_le hg1 h.size) (Nat.lt_of_lt_of_le hg2 h.size) (hr.below h hgc) (hc1.below h hg1) (hc2.below h hg2))
    have HB := Lib.hid (fun W (h : Below w.heap.size w W) => spec_IsBruhatBelow_ok gc oc n cc g1 o1 n1 c1 g2 o2 n2 c2 c a b W hn hn1 hn2 hA hB (Nat.lt_of_lt_of_le hgc h.size) (Nat.lt_of_lt_of_le hg1 h.size) (Nat.lt_of_lt_of_le hg2 h.size) (hr.below h hgc) (hc1.below h hg1) (hc2.below h hg2))
    have HR := Lib.hid (fun W (h : Below w.heap.size w W) => spec_RPolynomial_ok gc oc n cc g1 o1 n1 c1 g2 o2 n2 c2 c a b W hn hn1 hn2 hA hB (Nat.lt_of_lt_of_le hgc h.size) (Nat.lt_of_lt_of_le hg1 h.size) (Nat.lt_of_lt_of_le hg2 h.size) (hr.below h hgc) (hc1.below h hg1) (hc2.below h hg2))
    have HP := Lib.hid (fun W (h : Below w.heap.size w W) => spec_KLPolynomial_ok gc oc n cc g1 o1 n1 c1 g2 o2 n2 c2 c a b W hn hn1 hn2 hA hB (Nat.lt_of_lt_of_le hgc h.size) (Nat.lt_of_lt_of_le hg1 h.size) (Nat.lt_of_lt_of_le hg2 h.size) (hr.below h hgc) (hc1.below h hg1) (hc2.below h hg2))
    obtain ⟨nR, hnR⟩ : ∃ m, (rP c a b).length = m := ⟨_, rfl⟩
    obtain ⟨nP, hnP⟩ : ∃ m, (klP c a b).length = m := ⟨_, rfl⟩
    have HFR := Lib.hid (fun W B g cp (h : Own W B g cp (rP c a b)) => spec_FormatPoly_any g 0 nR cp (rP c a b) W hnR hRw hRl h.lt h.cells)
    have HFP := Lib.hid (fun W B g cp (h : Own W B g cp (klP c a b)) => spec_FormatPoly_any g 0 nP cp (klP c a b) W hnP hPw hPl h.lt h.cells)
    have HnR := Lib.hid hnR; have HnP := Lib.hid hnP
    clear i1 i2 hr hc1 hc2 hA hB hfa hfb hRw hRl hPw hPl hnR hnP hrl hx hl1 hl2 hwa hwb
    generalize wordL a = A at *
    generalize wordL b = B at *
    generalize polyS (rP c a b) = R at *
    generalize polyS (klP c a b) = P at *
    generalize rP c a b = pR at *
    generalize klP c a b = pP at *
    generalize decide (imI c a = imI c b) = sm at *
    generalize wkB c a b = wk at *
    generalize bruB c a b = bl at *
    generalize rOk c a b = rk at *
    generalize klB c = pk at *
    have HY1 := Lib.hid (fun W => spec_l35YesP sm [32, 115, 97, 109, 101] W)
    have HY2 := Lib.hid (fun W => spec_l35YesP wk [32, 112, 114, 101, 102, 105, 120] W)
    have HY3 := Lib.hid (fun W => spec_l35YesP bl [32, 98, 101, 108, 111, 119] W)
    have hlt := hlen sm wk bl true true
    have hdef : Hid (∀ rk pk, plS A B sm wk bl rk pk R P = A ++ [32, 97, 110, 100, 32] ++ B ++ cond sm [32, 115, 97, 109, 101] [] ++ cond wk [32, 112, 114, 101, 102, 105, 120] [] ++ cond bl [32, 98, 101, 108, 111, 119] [] ++ cond rk ([32, 82, 32] ++ R) [] ++ cond pk ([32, 80, 32] ++ P) []) := Lib.hid (fun _ _ => rfl)
    rw [hdef.out] at hlt
    simp only [cond_true] at hlt
    generalize plS A B sm wk bl = pS at *
    generalize (cond sm [32, 115, 97, 109, 101] [] : List UInt8) = Y1 at *
    generalize (cond wk [32, 112, 114, 101, 102, 105, 120] [] : List UInt8) = Y2 at *
    generalize (cond bl [32, 98, 101, 108, 111, 119] [] : List UInt8) = Y3 at *
    simp only [List.length_append, List.length_cons, List.length_nil] at hlt
    obtain ⟨s1, e1, q1⟩ := addEK A A.toArray rfl [32, 97, 110, 100, 32] (by simp only [List.length_append, List.length_cons, List.length_nil]; omega)
    obtain ⟨s2, e2, q2⟩ := addEK (A ++ [32, 97, 110, 100, 32]) s1 e1 B (by simp only [List.length_append, List.length_cons, List.length_nil]; omega)
    obtain ⟨s3, e3, q3⟩ := addEK (A ++ [32, 97, 110, 100, 32] ++ B) s2 e2 Y1 (by simp only [List.length_append, List.length_cons, List.length_nil]; omega)
    obtain ⟨s4, e4, q4⟩ := addEK (A ++ [32, 97, 110, 100, 32] ++ B ++ Y1) s3 e3 Y2 (by simp only [List.length_append, List.length_cons, List.length_nil]; omega)
    obtain ⟨s5, e5, q5⟩ := addEK (A ++ [32, 97, 110, 100, 32] ++ B ++ Y1 ++ Y2) s4 e4 Y3 (by simp only [List.length_append, List.length_cons, List.length_nil]; omega)
    have Q5 := Lib.hid e5
    have Hlt := Lib.hid hlt
    clear e1 e2 e3 e4 e5 hlt hlen
    go_enter Tryz.func36, Tryz.ntmps36
    go_wp2_with fail
    refine I1.out.mono ?_
    rintro e v1 ⟨rfl, hs1⟩
    go_wp2_with fail
    refine (I2.out v1 hs1).mono ?_
    rintro e v2 ⟨rfl, hs2⟩
    have hB0 := below_still (below_still (Below.refl w.heap.size w) hs1) hs2
    go_wp2_with fail
    refine (HFa.out v2 hB0).mono ?_
    rintro e w1 ⟨rfl, hb1⟩
    have hB1 := hB0.trans (hb1.mono hB0.size)
    go_wp2_with fail
    refine (HFb.out w1 hB1).mono ?_
    rintro e w2 ⟨rfl, hb2⟩
    have hB2 := hB1.trans (hb2.mono hB1.size)
    go_wp2_with fail
    refine (HS.out w2 hB2).mono ?_
    rintro e w3 ⟨rfl, hb3⟩
    have hB3 := hB2.trans (hb3.mono hB2.size)
    go_wp2_with fail
    refine (HY1.out w3).mono ?_
    rintro e w4 ⟨rfl, hs4⟩
    have hB4 := below_still hB3 hs4
    go_wp2_with fail
    refine (HW.out w4 hB4).mono ?_
    rintro e w5 ⟨rfl, hb5⟩
    have hB5 := hB4.trans (hb5.mono hB4.size)
    go_wp2_with fail
    refine (HY2.out w5).mono ?_
    rintro e w6 ⟨rfl, hs6⟩
    have hB6 := below_still hB5 hs6
    go_wp2_with fail
    refine (HB.out w6 hB6).mono ?_
    rintro e w7 ⟨rfl, hb7⟩
    have hB7 := hB6.trans (hb7.mono hB6.size)
    go_wp2_with fail
    refine (HY3.out w7).mono ?_
    rintro e w8 ⟨rfl, hs8⟩
    have hB8 := below_still hB7 hs8
    clear hs1 hs2 hb1 hb2 hb3 hs4 hb5 hs6 hb7 hs8 hB0 hB1 hB2 hB3 hB4 hB5 hB6 hB7 q1 q2 q3 q4
    go_wp2_with fail
    refine (HR.out w8 hB8).mono ?_
    rintro e w9 ⟨g9, c9, rfl, ho9, hb9⟩
    have hB9 := hB8.trans (hb9.mono hB8.size)
    rw [HnR.out]
    cases rk with
    | false =>
      go_wp2_with fail
      refine (HP.out w9 hB9).mono ?_
      rintro e w10 ⟨g10, c10, rfl, ho10, hb10⟩
      have hB10 := hB9.trans (hb10.mono hB9.size)
      rw [HnP.out]
      cases pk with
      | false =>
        go_wp2_with fail
        go_ret
        refine ⟨?_, hB10⟩
        rw [hdef.out, Q5.out]; simp
      | true =>
        have hh := Hlt.out
        have ee := Q5.out
        obtain ⟨t1, f1, p1⟩ := addEK (A ++ [32, 97, 110, 100, 32] ++ B ++ Y1 ++ Y2 ++ Y3) s5 ee [32, 80, 32] (by simp only [List.length_append, List.length_cons, List.length_nil]; omega)
        obtain ⟨t2, f2, p2⟩ := addEK (A ++ [32, 97, 110, 100, 32] ++ B ++ Y1 ++ Y2 ++ Y3 ++ [32, 80, 32]) t1 f1 P (by simp only [List.length_append, List.length_cons, List.length_nil]; omega)
        have F2 := Lib.hid f2
        clear f1 f2 ee hh
        go_wp2_with fail
        refine (HFP.out w10 _ g10 c10 ho10).mono ?_
        rintro e w11 ⟨rfl, hb11⟩
        have hB11 := hB10.trans (hb11.mono hB10.size)
        go_wp2_with fail
        go_ret
        refine ⟨?_, hB11⟩
        rw [hdef.out, F2.out]; simp
    | true =>
      have hh := Hlt.out
      have ee := Q5.out
      obtain ⟨t1, f1, p1⟩ := addEK (A ++ [32, 97, 110, 100, 32] ++ B ++ Y1 ++ Y2 ++ Y3) s5 ee [32, 82, 32] (by simp only [List.length_append, List.length_cons, List.length_nil]; omega)
      obtain ⟨t2, f2, p2⟩ := addEK (A ++ [32, 97, 110, 100, 32] ++ B ++ Y1 ++ Y2 ++ Y3 ++ [32, 82, 32]) t1 f1 R (by simp only [List.length_append, List.length_cons, List.length_nil]; omega)
      have F2 := Lib.hid f2
      clear f1 f2 ee hh
      go_wp2_with fail
      refine (HFR.out w9 _ g9 c9 ho9).mono ?_
      rintro e w9b ⟨rfl, hb9b⟩
      have hB9b := hB9.trans (hb9b.mono hB9.size)
      go_wp2_with fail
      refine (HP.out w9b hB9b).mono ?_
      rintro e w10 ⟨g10, c10, rfl, ho10, hb10⟩
      have hB10 := hB9b.trans (hb10.mono hB9b.size)
      rw [HnP.out]
      cases pk with
      | false =>
        go_wp2_with fail
        go_ret
        refine ⟨?_, hB10⟩
        rw [hdef.out, F2.out]; simp
      | true =>
        have hh := Hlt.out
        have ee := F2.out
        obtain ⟨t3, f3, p3⟩ := addEK (A ++ [32, 97, 110, 100, 32] ++ B ++ Y1 ++ Y2 ++ Y3 ++ [32, 82, 32] ++ R) t2 ee [32, 80, 32] (by simp only [List.length_append, List.length_cons, List.length_nil]; omega)
        obtain ⟨t4, f4, p4⟩ := addEK (A ++ [32, 97, 110, 100, 32] ++ B ++ Y1 ++ Y2 ++ Y3 ++ [32, 82, 32] ++ R ++ [32, 80, 32]) t3 f3 P (by simp only [List.length_append, List.length_cons, List.length_nil]; omega)
        have F4 := Lib.hid f4
        clear f3 f4 ee hh
        go_wp2_with fail
        refine (HFP.out w10 _ g10 c10 ho10).mono ?_
        rintro e w11 ⟨rfl, hb11⟩
        have hB11 := hB10.trans (hb11.mono hB10.size)
        go_wp2_with fail
        go_ret
        refine ⟨?_, hB11⟩
        rw [hdef.out, F4.out]; simp
end Go.Proofs.YtdedkfbiookofaaGreatDoor
namespace Go.Proofs.YtdedkfbiookofaaGreatDoor
set_option maxRecDepth 100000
open Go.RowKit
open Go.Lib (join decDigits itoa)
set_option maxRecDepth 100000
theorem itoa_call (n : Int) (hw : (Lit.int .i64 n).wf = true) (w : World) (ht : Tab w) : Calls Tryz.prog 118 #[.int .i64 n] w (Gives w (.string ⟨(itoa n).toArray⟩)) := by
  have hb := wf_bounds hw
  have hcall := Any.strconv_Itoa Tryz.laysM171 n hb.1 hb.2 w ht
  change Calls Tryz.prog 118 _ _ _ at hcall
  refine hcall.mono ?_
  rintro e w1 ⟨rfl, k, os, rfl⟩
  exact ⟨rfl, Lib.below_grow w.heap.size w (Nat.le_refl _) k os⟩
theorem dec_head {n : Nat} : ∃ d D, decDigits n = d :: D ∧ d ≠ 45 := by
  induction n using Nat.strongRecOn with
  | ind n ih =>
    by_cases h : n < 10
    · rw [Go.Lib.decDigits_one h]
      have : n = 0 ∨ n = 1 ∨ n = 2 ∨ n = 3 ∨ n = 4 ∨ n = 5 ∨ n = 6 ∨ n = 7 ∨ n = 8 ∨ n = 9 := by omega
      rcases this with rfl | rfl | rfl | rfl | rfl | rfl | rfl | rfl | rfl | rfl <;> exact ⟨_, _, rfl, by decide⟩
    · obtain ⟨d, D, e, h2⟩ := ih (n / 10) (by omega)
      rw [decDigits, dif_neg h, e]
      exact ⟨d, _, rfl, h2⟩
set_option maxHeartbeats 2000000 in
theorem impl_FormatPoly_any (g o n cp : Nat) (p : List Int) (w : World) (hn : p.length = n) (hp : I64s p) (hl : p.length ≤ 1000) (hg : g < w.heap.size) (hc : Cells w g o p) (ht : Tab w) :
    Calls Tryz.prog 80 #[(Value.slice (some ⟨g, o, none⟩) n cp)] w (Gives w (.string ⟨(polyS p).toArray⟩)) := by
  subst hn
  have hW := fun i => i64_cell hp i
  have hT := Lib.hid (fun t (ht : t ≤ 1000) => polyT_len (fun i => wf_bounds (hW i)) t (by omega))
  have HW := Lib.hid hW
  have hdef := Lib.hid (show polyS p = if polyT p p.length = [] then [48] else polyT p p.length from rfl)
  have hsu : Hid (∀ t, polyT p (t + 1) = termP (polyT p t) (p.getD t 0) t) := Lib.hid (fun _ => rfl)
  have h0 : polyT p 0 = [] := rfl
  clear hp hW
  generalize polyS p = out at *
  go_enter Tryz.func80, Tryz.ntmps80
  go_wp2_with fail
  go_loopw [3, 9] (fun sv iv wr => ∃ (i : Nat) (s : List UInt8), i ≤ p.length ∧ iv = .int .i64 (i : Nat) ∧ sv = .string ⟨s.toArray⟩ ∧ Hid (polyT p i = s) ∧ Below w.heap.size w wr) (fun _ iv _ => p.length - (intOf iv).toNat)
  case atStart => exact ⟨0, [], Nat.zero_le _, rfl, rfl, h0, Below.refl _ _⟩
  case round =>
    obtain ⟨i, s, hi, rfl, rfl, hs, hb⟩ := hrel
    by_cases hlt : i < p.length
    · have h1 := hc.below hb hg i hlt
      have hw := HW.out i
      have hsl := hT.out i (by omega)
      have hsc := hsu.out i
      rw [hs.out] at hsl hsc
      generalize p.getD i 0 = x at *
      have hbx := wf_bounds hw
      have Hsc := Lib.hid hsc
      clear hsc
      by_cases hx0 : x = 0
      · subst hx0
        go_wp2_with fail
        go_roundw
        case rel => exact ⟨i + 1, s, by omega, by go_num, rfl, Lib.hid (by rw [Hsc.out, termP_zero rfl]), hb⟩
        case measure => simp [intOf]; omega
      · have hI := Lib.hid (fun (W : World) (hb : Below w.heap.size w W) => itoa_call x hw W (ht.below hb))
        have hx0' : (x == 0) = false := by rw [beq_eq_false_iff_ne]; exact hx0
        have hdl : (decDigits x.natAbs).length ≤ 21 := dec_len hbx
        obtain ⟨d, D, hD, hd45⟩ := dec_head (n := x.natAbs)
        have hIt : ∃ z Z, itoa x = z :: Z ∧ (x < 0 → z = 45 ∧ Z = d :: D) ∧ (0 ≤ x → z = d ∧ Z = D) := by
          by_cases hx1 : x < 0
          · exact ⟨45, d :: D, by rw [itoa_neg hx1, hD], fun _ => ⟨rfl, rfl⟩, fun h => absurd hx1 (by omega)⟩
          · exact ⟨d, D, by rw [itoa_pos hx1, hD], fun h => absurd h hx1, fun _ => ⟨rfl, rfl⟩⟩
        obtain ⟨z, Z, hz, hzn, hzp⟩ := hIt
        rw [hz] at hI
        go_wp2_with fail
        refine (hI.out _ hb).mono ?_
        rintro e w1 ⟨rfl, hb1⟩
        have hb2 := hb.trans (hb1.mono hb.size)
        obtain ⟨Q, hQ⟩ : ∃ Q, s ++ (if x < 0 then [45] else if s = [] then [] else [43]) = Q := ⟨_, rfl⟩
        have hQl : Q.length ≤ 45 * i + 1 := by
          rw [← hQ, List.length_append]
          have : (if x < 0 then [45] else if s = [] then [] else [43] : List UInt8).length ≤ 1 := by
            split
            · simp
            · split <;> simp
          omega
        have hfin : Hid (polyT p (i + 1) = Q ++ powT (d :: D) i) := Lib.hid (by
          rw [Hsc.out, ← hQ, ← hD, List.append_assoc]
          unfold termP; rw [if_neg hx0])
        rw [hD] at hdl
        have HQ := Lib.hid hQ; have Hd := Lib.hid hd45
        clear hQ hd45 hD hz hI Hsc
        go_upto_block 2 with fail
        go_cut [3, 6] from 18 to 30 (fun sv nv wx => sv = .string ⟨Q.toArray⟩ ∧ nv = .string ⟨(d :: D).toArray⟩ ∧ wx = w1)
        case first =>
          by_cases hx1 : x < 0
          · obtain ⟨rfl, rfl⟩ := hzn hx1
            obtain ⟨s1, e1, q1⟩ := addEK s s.toArray rfl [45] (by simp only [List.length_append, List.length_cons, List.length_nil]; omega)
            have hex : (⟨(45 :: d :: D).toArray⟩ : ByteArray).extract 1 (D.length + 1 + 1) = ⟨(d :: D).toArray⟩ := by
              apply ByteArray.ext
              simp [ByteArray.data_extract]
            go_wp2_with fail
            go_meet
            refine ⟨?_, rfl, rfl⟩
            rw [← HQ.out, if_pos hx1]
            try simp [e1]
          · obtain ⟨rfl, rfl⟩ := hzp (by omega)
            have hxb : (⟨(z :: Z).toArray⟩ : ByteArray)[0]'(by simp [ByteArray.size]) = z := rfl
            have h45 : ((z.toNat : Int) == 45) = false := by
              rw [beq_eq_false_iff_ne]
              intro h
              exact Hd.out (UInt8.toNat_inj.mp (by have : z.toNat = 45 := by omega
                                                   rw [this]; rfl))
            by_cases hse : s = []
            · subst hse
              go_wp2_with fail
              go_meet
              exact ⟨by rw [← HQ.out, if_neg (by omega), if_pos trivial]; rfl, rfl, rfl⟩
            · have hse' : s.isEmpty = false := by simpa using hse
              obtain ⟨s1, e1, q1⟩ := addEK s s.toArray rfl [43] (by simp only [List.length_append, List.length_cons, List.length_nil]; omega)
              go_wp2_with fail
              go_meet
              refine ⟨?_, rfl, rfl⟩
              rw [← HQ.out, if_neg (by omega), if_neg hse]
              try simp [e1]
        case rest =>
          obtain ⟨rfl, rfl, rfl⟩ := hcut
          clear hzn hzp hb1 hb
          have hp0 : (polyT p (i + 1)).length ≤ 45 * (i + 1) := hT.out (i + 1) (by omega)
          have hrel : ∀ (R : List UInt8) (z : Array UInt8) (wx : World) (K : Int), polyT p (i + 1) = R → z = R.toArray → Below w.heap.size w wx → K = (i : Int) + 1 → ∃ (i_1 : Nat) (s : List UInt8), i_1 ≤ p.length ∧ Value.int IntKind.i64 K = Value.int IntKind.i64 (i_1 : Nat) ∧ Value.string ⟨z⟩ = .string ⟨s.toArray⟩ ∧ Hid (polyT p i_1 = s) ∧ Below w.heap.size w wx :=
            fun R z wx K h1 h2 h3 h4 => ⟨i + 1, R, by omega, by rw [h4]; go_num, by rw [h2], Lib.hid h1, h3⟩
          have Hrel := Lib.hid hrel
          clear hrel
          by_cases hi0 : i = 0
          · have hi0' : ((i : Int) == 0) = true := by simp [hi0]
            have hi1' : ((i : Int) == 1) = false := by rw [beq_eq_false_iff_ne]; omega
            obtain ⟨s1, e1, q1⟩ := addEK Q Q.toArray rfl (d :: D) (by simp only [List.length_append, List.length_cons] at *; omega)
            have E1 := Lib.hid e1
            have hf : Hid (polyT p (i + 1) = Q ++ (d :: D)) := Lib.hid (by rw [hfin.out, hi0, powT_0])
            clear e1
            go_wp2_with fail
            go_roundw
            case rel => exact Hrel.out _ _ _ _ hf.out E1.out hb2 (by omega)
            case measure => simp [intOf]; omega
          · have hi0' : ((i : Int) == 0) = false := by rw [beq_eq_false_iff_ne]; omega
            by_cases hi1 : i = 1
            · have hi1' : ((i : Int) == 1) = true := by simp [hi1]
              by_cases h1 : d :: D = [49]
              · obtain ⟨rfl, rfl⟩ : d = 49 ∧ D = [] := by simpa using h1
                obtain ⟨s1, e1, q1⟩ := addEK Q Q.toArray rfl [113] (by simp only [List.length_append, List.length_cons, List.length_nil]; omega)
                have E1 := Lib.hid e1
                have hf : Hid (polyT p (i + 1) = Q ++ [113]) := Lib.hid (by rw [hfin.out, hi1, powT_1, if_pos h1]; rfl)
                clear e1
                go_wp2_with fail
                go_roundw
                case rel => exact Hrel.out _ _ _ _ hf.out E1.out hb2 (by omega)
                case measure => simp [intOf]; omega
              · have hne : (!d == 49 || !D.isEmpty) = true := by
                  rw [Bool.or_eq_true]
                  by_cases e : d = 49
                  · right; subst e
                    cases D with
                    | nil => exact absurd rfl h1
                    | cons _ _ => rfl
                  · left; simpa using e
                obtain ⟨s1, e1, q1⟩ := addEK Q Q.toArray rfl (d :: D) (by simp only [List.length_append, List.length_cons] at *; omega)
                obtain ⟨s2, e2, q2⟩ := addEK (Q ++ (d :: D)) s1 e1 [113] (by simp only [List.length_append, List.length_cons, List.length_nil] at *; omega)
                have E1 := Lib.hid e2
                have hf : Hid (polyT p (i + 1) = Q ++ (d :: D) ++ [113]) := Lib.hid (by rw [hfin.out, hi1, powT_1, if_neg h1, List.append_assoc])
                have H1 := Lib.hid h1
                clear e1 e2 h1
                go_wp2_with fail
                go_roundw
                case rel => exact Hrel.out _ _ _ _ hf.out E1.out hb2 (by omega)
                case measure => simp [intOf]; omega
            · have hi1' : ((i : Int) == 1) = false := by rw [beq_eq_false_iff_ne]; omega
              have hi2 : 1 < i := by omega
              have hwi : (Lit.int .i64 (i : Int)).wf = true := by simp [Lit.wf, IntKind.min, IntKind.max, IntKind.signed, IntKind.bits]; omega
              have hI2 := Lib.hid (fun (W : World) (hb : Below w.heap.size w W) => itoa_call (i : Int) hwi W (ht.below hb))
              rw [show itoa (i : Int) = decDigits i by rw [itoa_pos (by omega)]; rfl] at hI2
              have hEl : (decDigits i).length ≤ 21 := dec_lenN (by omega)
              obtain ⟨s1, e1, q1⟩ := addEK [113, 94] #[113, 94] rfl (decDigits i) (by simp only [List.length_append, List.length_cons, List.length_nil]; omega)
              by_cases h1 : d :: D = [49]
              · obtain ⟨rfl, rfl⟩ : d = 49 ∧ D = [] := by simpa using h1
                obtain ⟨s2, e2, q2⟩ := addEK Q Q.toArray rfl ([113, 94] ++ decDigits i) (by simp only [List.length_append, List.length_cons, List.length_nil]; omega)
                rw [← e1] at q2
                have E1 := Lib.hid e2
                have hf : Hid (polyT p (i + 1) = Q ++ ([113, 94] ++ decDigits i)) := Lib.hid (by rw [hfin.out, powT_2 hi2, if_pos h1]; rfl)
                clear e1 e2
                generalize decDigits i = E at *
                go_wp2_with fail
                refine (hI2.out _ hb2).mono ?_
                rintro e w3 ⟨rfl, hb3⟩
                have hb4 := hb2.trans (hb3.mono hb2.size)
                go_wp2_with fail
                go_roundw
                case rel => exact Hrel.out _ _ _ _ hf.out E1.out hb4 (by omega)
                case measure => simp [intOf]; omega
              · have hne : (!d == 49 || !D.isEmpty) = true := by
                  rw [Bool.or_eq_true]
                  by_cases e : d = 49
                  · right; subst e
                    cases D with
                    | nil => exact absurd rfl h1
                    | cons _ _ => rfl
                  · left; simpa using e
                obtain ⟨s0, e0, q0⟩ := addEK Q Q.toArray rfl (d :: D) (by simp only [List.length_append, List.length_cons] at *; omega)
                obtain ⟨s2, e2, q2⟩ := addEK (Q ++ (d :: D)) s0 e0 ([113, 94] ++ decDigits i) (by simp only [List.length_append, List.length_cons, List.length_nil] at *; omega)
                rw [← e1] at q2
                have E1 := Lib.hid e2
                have hf : Hid (polyT p (i + 1) = Q ++ (d :: D) ++ ([113, 94] ++ decDigits i)) := Lib.hid (by rw [hfin.out, powT_2 hi2, if_neg h1, List.append_assoc]; rfl)
                have H1 := Lib.hid h1
                clear e0 e1 e2 h1
                generalize decDigits i = E at *
                go_wp2_with fail
                refine (hI2.out _ hb2).mono ?_
                rintro e w3 ⟨rfl, hb3⟩
                have hb4 := hb2.trans (hb3.mono hb2.size)
                go_wp2_with fail
                go_roundw
                case rel => exact Hrel.out _ _ _ _ hf.out E1.out hb4 (by omega)
                case measure => simp [intOf]; omega
    · obtain rfl : i = p.length := by omega
      by_cases hse : s = []
      · subst hse
        go_wp2_with fail
        go_ret
        exact ⟨by rw [hdef.out, if_pos hs.out]; rfl, hb⟩
      · have hse' : s.isEmpty = false := by simpa using hse
        have Hse := Lib.hid hse
        clear hse
        go_wp2_with fail
        go_ret
        exact ⟨by rw [hdef.out, hs.out, if_neg Hse.out]; rfl, hb⟩
end Go.Proofs.YtdedkfbiookofaaGreatDoor
