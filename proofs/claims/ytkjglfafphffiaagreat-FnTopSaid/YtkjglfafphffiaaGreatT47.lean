/- A word drawn over any matrix: contract. (Split off DrK.) The laws' draws of a matrix and two words: contracts. AreSame of both at any two lists: contracts. Slices of bools of the call's own that grow by one. (wpList_append_V as in AppV.) -/
import Derived.Test.YtkjglfafphffiaaGreatT46
import Derived.Deep.RegionHeld3
import Derived.Test.YtkjglfafphffiaaGreatT19
import Derived.Test.YtkjglfafphffiaaGreatT02
namespace Go.Proofs.YtkjglfafphffiaaGreat
set_option maxRecDepth 100000
open Go.RowKit
set_option maxHeartbeats 1000000 in
theorem spec_l5Word_gen (B p : Nat) (a : Option Addr) (n c : Nat) (gx ox nx cx most : Nat) (w : World) (hN : nx ≤ 5) (hmost : most ≤ 12) (hn : n ≤ 1048576) (hc : CodeV w B a n) (hp : B ≤ p) (hcur : Cur w p a n c) :
    Calls Tryz.prog 64 #[.pointer (some ⟨p, 0, none⟩), (Value.slice (some ⟨gx, ox, none⟩) nx cx), .int .i64 (most : Int)] w (DrewL w B p a n c most (max 1 (nx : Int))) := by
  have hps := hcur.lt
  obtain ⟨M, hM⟩ : ∃ M : Int, max 1 (nx : Int) = M := ⟨_, rfl⟩
  have hM1 : 1 ≤ M ∧ M ≤ 5 := by omega
  rw [hM]
  obtain ⟨M0, hM0⟩ : ∃ M0 : Int, (nx : Int) = M0 := ⟨_, rfl⟩
  rw [hM0] at hM
  have eW : IntKind.i64.wrap ((most : Int) + 1) = (most : Int) + 1 := IntWalk.i64_in _ (by omega)
  have K := Lib.hid (fun (W : World) (hc : CodeV W B a n) (hcur : Cur W p a n c) => spec_l1Below_any B p a n c ((most : Int) + 1) W (by omega) hn hc hp hcur)
  have K2 := Lib.hid (fun (W : World) (hc : CodeV W B a n) (hcur : Cur W p a n c) => spec_l1Below_any B p a n c M W (by omega) hn hc hp hcur)
  have O0 : Only p (p + 1) w (w.alloc (.cells #[] 3)) := Only.of_below _ _ ((Below.refl w.heap.size w).alloc (Nat.le_refl _) _)
  have C0 := hc.only O0 hp
  have U0 : Cur (w.alloc (.cells #[] 3)) p a n c := by obtain ⟨i, x, hi, hb⟩ := hcur; exact ⟨i, x, hi, (((Below.refl w.heap.size w).alloc (Nat.le_refl _) _).block p hps).trans hb⟩
  have hE : Own (w.alloc (.cells #[] 3)) w.heap.size w.heap.size 0 [] := Own.empty (Nat.le_refl _)
  clear hc hcur
  go_enter Tryz.func64, Tryz.ntmps64
  go_wp2_with fail
  refine (K.out _ C0 U0).mono ?_
  rintro e w1 ⟨x, hx, rfl, hcur1, hc1, hO1⟩
  have hE1 := hE.only hO1 (.inr (by omega))
  have hO := O0.trans hO1
  clear C0 U0 hE O0 hO1
  go_wp2_with fail
  go_loopw [7, 8] (fun lv kv wr => ∃ (k m g2 c2 : Nat) (xs : List Int), k + m ≤ most ∧ kv = .int .i64 k ∧ lv = (Value.slice (some ⟨g2, 0, none⟩) m c2) ∧ Hid (xs.length = m) ∧ Hid (∀ y ∈ xs, 0 ≤ y ∧ y < M) ∧ p < g2 ∧ Own wr w.heap.size g2 c2 xs ∧ Cur wr p a n c ∧ CodeV wr B a n ∧ Only p (p + 1) w wr) (fun _ kv _ => (intOf kv).toNat)
  case atStart => exact ⟨x.toNat, 0, w.heap.size, 0, [], by omega, by congr 1; omega, rfl, rfl, by simp [Hid], hps, hE1, hcur1, hc1, hO⟩
  case round =>
    clear hE1 hcur1 hc1 hO
    obtain ⟨k, m, g2, c2, xs, hkm, rfl, rfl, hml, hall, hpg, hown, hcur, hc, hO⟩ := hrel
    by_cases hlt : 0 < k
    · have hltI : (0 : Int) < (k : Int) := by omega
      have hcall := Lib.hid (K2.out wr hc hcur)
      clear hc hcur
      go_wp2_with fail
      try rw [hM]
      with_reducible refine hcall.out.mono ?_
      all_goals
        rintro e w2 ⟨y, hy, rfl, hcur2, hc2, hO2⟩
        have hown2 := hown.only hO2 (.inr (by omega))
        have hO' := hO.trans hO2
        clear hown hO hO2 hcall
        go_wp2_with (at_builtin; refine wpList_append_int_n (w := w2) rfl _ _ rfl w.heap.size g2 c2 m xs y hml.out hown2 rfl rfl (by omega) ?_)
        intro g3 c3 w3 ho3 hg3 hor3
        have hgs := hown2.base
        have hO3 : Only p (p + 1) w w3 := ⟨hg3.os.trans hO'.os, hg3.tape.trans hO'.tape, hg3.output.trans hO'.output, Nat.le_trans hO'.size hg3.size, fun j hj hd => (hg3.block j (Nat.lt_of_lt_of_le hj hO'.size) (by intro e; cases e; omega)).trans (hO'.block j hj hd)⟩
        have hcur3 : Cur w3 p a n c := by obtain ⟨i, z, hi, hb⟩ := hcur2; exact ⟨i, z, hi, (hg3.block p (lt_of_block hb) (by intro e; cases e; omega)).trans hb⟩
        have hc3 : CodeV w3 B a n := hc2.only (p := p + 1) (E := g2 + 1) ⟨hg3.os, hg3.tape, hg3.output, hg3.size, fun j hj hd => hg3.block j hj (by intro e; cases e; omega)⟩ (by omega)
        have hps2 := hcur2.lt
        have hl3 : Hid ((xs ++ [y]).length = m + 1) := Lib.hid (by rw [List.length_append, hml.out]; rfl)
        have ha3 := Lib.hid (all_snoc hall.out hy)
        have hpg3 : p < g3 := by rcases hor3 with rfl | q <;> omega
        clear hown2 hO' hcur2 hc2 hg3 hor3
        go_wp2_with fail
        go_roundw
        case rel => exact ⟨k - 1, m + 1, g3, c3, _, by omega, by go_num, rfl, hl3.out, ha3.out, hpg3, ho3, hcur3, hc3, hO3⟩
        case measure => simp [intOf]; omega
    · obtain rfl : k = 0 := by omega
      have Hml := Lib.hid hml.out
      go_wp2_with fail
      go_ret
      exact ⟨xs, g2, c2, ⟨by have := hml.out; omega, hall.out⟩, congrArg (fun z => Ending.returned (Value.slice (some ⟨g2, 0, none⟩) z c2)) Hml.out.symm, hown, hcur, hc, hO⟩
/-- a matrix and two words are drawn -/
def Drew2 (w : World) (e : Ending) (w' : World) : Prop :=
  ∃ (g cap g1 c1 g2 c2 : Nat) (R : List (List Int)) (u v : List Int), e = .returned (.tuple #[(Value.slice (some ⟨g, 0, none⟩) R.length cap), (Value.slice (some ⟨g1, 0, none⟩) u.length c1), (Value.slice (some ⟨g2, 0, none⟩) v.length c2)]) ∧ MatR w' w.heap.size g cap R ∧ Own w' w.heap.size g1 c1 u ∧ Own w' w.heap.size g2 c2 v ∧ (u.length ≤ 12 ∧ v.length ≤ 12) ∧ Below w.heap.size w w'
end Go.Proofs.YtkjglfafphffiaaGreat
namespace Go.Proofs.YtkjglfafphffiaaGreat
set_option maxRecDepth 100000
open Go.RowKit Game
theorem MatR.still {w w' : World} {B g cap : Nat} {rows : List (List Int)} (h : MatR w B g cap rows) (hs : ∃ q, w' = w.drewN q) : MatR w' B g cap rows := by
  obtain ⟨q, rfl⟩ := hs
  exact h.of_same (Nat.le_refl _) (fun _ _ _ => rfl)
section
variable (a : Option Addr) (n c : Nat) (w : World) (hn : n ≤ 1048576) (hc : CodeV w w.heap.size a n)
include hn hc
set_option maxHeartbeats 2000000 in
theorem spec_l8Two_any : Calls Tryz.prog 24 #[.slice a n c] w (Drew2 w) := by
  have h1 := Lib.hid (spec_l1New_any a n c w hn hc)
  have Hc := Lib.hid hc
  clear hc
  go_enter Tryz.func24, Tryz.ntmps24
  go_wp2_with fail
  refine h1.out.mono ?_
  rintro e w1 ⟨p, hp, rfl, hcur, hb1⟩
  have hc1 := Hc.out.below hb1
  have hps := hcur.lt
  have k1 := Lib.hid (spec_l2Any_any w.heap.size p a n c w1 hn hc1 hp hcur)
  clear hcur hc1
  go_wp2_with fail
  refine k1.out.mono ?_
  rintro e w2 ⟨g, cap, rows, rfl, hM, hcur2, hc2, hO2⟩
  have hM5 := hM.few
  have HM := Lib.hid hM
  have hb2 := Below.only hb1 hO2 hp (Nat.le_refl _)
  have hps2 := hcur2.lt
  have k2 := Lib.hid (spec_l5Word_gen w.heap.size p a n c g 0 rows.length cap 7 w2 hM5 (by omega) hn hc2 hp hcur2)
  clear hM hcur2 hc2
  go_wp2_with fail
  refine k2.out.mono ?_
  rintro e w3 ⟨xs, g3, c3, ⟨hxl, -⟩, rfl, ho3, hcur3, hc3, hO3⟩
  have hb3 := Below.only hb2 hO3 hp (Nat.le_refl _)
  have hM3 := Lib.hid (HM.out.only hO3 hps)
  have hps3 := hcur3.lt
  have k3 := Lib.hid (spec_l5Word_gen w.heap.size p a n c g 0 rows.length cap 7 w3 hM5 (by omega) hn hc3 hp hcur3)
  have Ho3 := Lib.hid ho3
  clear HM hcur3 hc3 ho3 k2
  go_wp2_with fail
  refine k3.out.mono ?_
  rintro e w4 ⟨ys, g4, c4, ⟨hyl, -⟩, rfl, ho4, hcur4, hc4, hO4⟩
  have hb4 := Below.only hb3 hO4 hp (Nat.le_refl _)
  have hM4 := Lib.hid (hM3.out.only hO4 hps)
  have Ho34 := Lib.hid (Ho3.out.only hO4 (.inr (by have := Ho3.out.base; omega)))
  have hps4 := hcur4.lt
  have k4 := Lib.hid (spec_l1Once_any w.heap.size p a n c 3 w4 (by omega) hn hc4 hp hcur4)
  have Ho4 := Lib.hid ho4
  clear hM3 ho4 hcur4 hc4 Ho3 k3
  go_wp2_with fail
  refine k4.out.mono ?_
  rintro e w5 ⟨b, rfl, hcur5, hc5, hO5⟩
  have hb5 := Below.only hb4 hO5 hp (Nat.le_refl _)
  have hM5' := Lib.hid ((hM4.out.only hO5 hps).mono hb1.size)
  have Ho35 := Lib.hid ((Ho34.out.only hO5 (.inr (by have := Ho34.out.base; omega))).mono hb2.size)
  have Ho45 := Lib.hid ((Ho4.out.only hO5 (.inr (by have := Ho4.out.base; omega))).mono hb3.size)
  clear hM4 Ho34 Ho4 hcur5 hc5 hO5 k4 hb4
  cases b with
  | false =>
    go_wp2_with fail
    go_ret3
    exact ⟨g, cap, g3, c3, g4, c4, rows, xs, ys, rfl, hM5'.out, Ho35.out, Ho45.out, ⟨by omega, by omega⟩, hb5⟩
  | true =>
    have IW := spec_IsWord_any g 0 rows.length cap g3 0 xs.length c3 rows xs w5 rfl rfl (by omega) hM5'.out.rl (by omega) hM5'.out.rows2 Ho35.out.cells
    cases hw : isWordB rows xs with
    | false =>
      rw [hw] at IW
      have IW := Lib.hid IW
      clear hw
      go_wp2_with fail
      refine IW.out.mono ?_
      rintro e w6 ⟨rfl, hs6⟩
      have hb6 := below_still hb5 hs6
      have hM6 := Lib.hid (hM5'.out.still hs6)
      have Ho36 := Lib.hid (Ho35.out.still hs6)
      have Ho46 := Lib.hid (Ho45.out.still hs6)
      clear hs6 hM5' Ho35 Ho45 hb5
      go_wp2_with fail
      go_ret3
      exact ⟨g, cap, g3, c3, g4, c4, rows, xs, ys, rfl, hM6.out, Ho36.out, Ho46.out, ⟨by omega, by omega⟩, hb6⟩
    | true =>
      rw [hw] at IW
      have IW := Lib.hid IW
      have hW := wordOk_of hw
      have hN := nfI_ok (hW.lets.mono (show 15 ≤ 30 by omega))
      have KN := Lib.hid (fun (W : World) (h1 : MatR W w.heap.size g cap rows) (h2 : Own W w.heap.size g3 c3 xs) => spec_l8Normal_any g 0 rows.length cap g3 0 xs.length c3 rows xs (nfI rows xs) W rfl rfl hW.isC (by omega) hW.inr hN.norm h1.lt h2.lt h1.rows2 h2.cells)
      have hNl := hN.len
      clear hw hW hN
      generalize nfI rows xs = zs at *
      go_wp2_with fail
      refine IW.out.mono ?_
      rintro e w6 ⟨rfl, hs6⟩
      have hb6 := below_still hb5 hs6
      have hM6 := Lib.hid (hM5'.out.still hs6)
      have Ho36 := Lib.hid (Ho35.out.still hs6)
      have KN := Lib.hid (KN.out w6 hM6.out Ho36.out)
      clear hs6 hM5' Ho35 Ho45 hb5 IW
      go_wp2_with fail
      refine KN.out.mono ?_
      rintro e w7 ⟨g7, c7, rfl, ho7, hb7⟩
      have hb8 := hb6.trans (hb7.mono hb6.size)
      have hM7 := Lib.hid (hM6.out.below hb7)
      have Ho37 := Lib.hid (Ho36.out.below hb7 Ho36.out.lt)
      have Ho7 := Lib.hid (ho7.mono hb6.size)
      clear hM6 Ho36 ho7 hb7 KN
      go_wp2_with fail
      go_ret3
      exact ⟨g, cap, g3, c3, g7, c7, rows, xs, zs, rfl, hM7.out, Ho37.out, Ho7.out, ⟨by omega, by omega⟩, hb8⟩
set_option maxHeartbeats 1000000 in
theorem spec_DrawAreSame_any : Calls Tryz.prog 5 #[.slice a n c] w (Drew2 w) := by
  have h1 := Lib.hid (spec_l8Two_any a n c w hn hc)
  clear hc
  go_enter Tryz.func5, Tryz.ntmps5
  go_wp2_with fail
  refine h1.out.mono ?_
  rintro e w1 ⟨g, cap, g1, c1, g2, c2, R, u, v, rfl, hM, ho1, ho2, hl, hb⟩
  have HM := Lib.hid hM; have H1 := Lib.hid ho1; have H2 := Lib.hid ho2; have Hl := Lib.hid hl; have Hb := Lib.hid hb
  clear hM ho1 ho2 hl hb
  go_wp2_with fail
  go_ret3
  exact ⟨g, cap, g1, c1, g2, c2, R, u, v, rfl, HM.out, H1.out, H2.out, Hl.out, Hb.out⟩
end
theorem laws_sameInts_any (g1 o1 n1 c1 g2 o2 n2 c2 : Nat) (xs ys : List Int) (w : World) (hn1 : xs.length = n1) (hn2 : ys.length = n2) (hx : xs.length ≤ 1048576) (_hy : ys.length ≤ 1048576) (h1 : Cells w g1 o1 xs) (h2 : Cells w g2 o2 ys) :
    Calls Tryz.prog 13 #[(Value.slice (some ⟨g1, o1, none⟩) n1 c1), (Value.slice (some ⟨g2, o2, none⟩) n2 c2)] w (Reads w (.bool (decide (xs = ys)))) := by
  subst hn1; subst hn2
  by_cases hl : xs.length = ys.length
  · have HL := Lib.hid hl
    obtain ⟨m, hm⟩ : ∃ m, xs.length = m := ⟨_, rfl⟩
    have hm2 : ys.length = m := by omega
    have HM := Lib.hid hm
    rw [hm] at hx
    rw [hm, hm2]
    have b1 : ((m : Int) != (m : Int)) = false := by simp
    clear hm hm2 hl
    go_enter Tryz.func13, Tryz.ntmps13
    go_wp2_with fail
    go_loopw [5] (fun i wr => ∃ k : Nat, k ≤ m ∧ i = .int .i64 k ∧ Hid (xs.take k = ys.take k) ∧ ∃ q, wr = w.drewN q) (fun i _ => m - (intOf i).toNat)
    case atStart => exact ⟨0, Nat.zero_le _, rfl, Lib.hid rfl, (by first | exact ⟨_, rfl⟩ | exact ⟨0, rfl⟩ | exact still2 _ _ _ | exact still3 _ _ _ _)⟩
    case round =>
      obtain ⟨k, hk, rfl, ht, q, rfl⟩ := hrel
      by_cases hlt : k < m
      · have q1 := h1 k (by rw [HM.out]; exact hlt)
        have q2 := h2 k (by rw [← HL.out, HM.out]; exact hlt)
        by_cases he : xs.getD k 0 = ys.getD k 0
        · have ht2 := Lib.hid (take_succ_eq HL.out (by rw [HM.out]; exact hlt) ht.out he)
          rw [← he] at q2
          generalize xs.getD k 0 = z at *
          clear he ht
          go_wp2_with fail
          go_quiet (fail)
          go_wp2_with fail
          go_roundw
          case rel => exact ⟨k + 1, by omega, by go_num, ht2, (by first | exact ⟨_, rfl⟩ | exact ⟨0, rfl⟩ | exact still2 _ _ _ | exact still3 _ _ _ _)⟩
          case measure => simp [intOf]; omega
        · have hne : decide (xs = ys) = false := decide_eq_false fun h => he (by rw [h])
          have Hne := Lib.hid hne
          have hb : (xs.getD k 0 != ys.getD k 0) = true := by simpa using he
          have hb2 : (xs.getD k 0 == ys.getD k 0) = false := by simpa using he
          generalize xs.getD k 0 = z at *
          generalize ys.getD k 0 = z2 at *
          clear ht hne
          go_wp2_with fail
          go_quiet (fail)
          go_wp2_with fail
          go_ret
          exact ⟨by rw [Hne.out]; rfl, (by first | exact ⟨_, rfl⟩ | exact ⟨0, rfl⟩ | exact still2 _ _ _ | exact still3 _ _ _ _)⟩
      · obtain rfl : k = m := by omega
        have hxy : xs = ys := by
          have := ht.out
          rw [List.take_of_length_le (by have := HM.out; omega), List.take_of_length_le (by have := HM.out; have := HL.out; omega)] at this
          exact this
        have Hxy := Lib.hid (decide_eq_true hxy)
        clear hxy ht
        go_wp2_with fail
        go_ret
        exact ⟨by rw [Hxy.out]; rfl, (by first | exact ⟨_, rfl⟩ | exact ⟨0, rfl⟩ | exact still2 _ _ _ | exact still3 _ _ _ _)⟩
  · have hne : decide (xs = ys) = false := decide_eq_false fun h => hl (by rw [h])
    have b1 : ((xs.length : Int) != (ys.length : Int)) = true := by simp; omega
    have b2 : ¬ (xs.length : Int) = (ys.length : Int) := by omega
    rw [hne]
    clear hne hl h1 h2
    go_enter Tryz.func13, Tryz.ntmps13
    go_wp2_with fail
    go_ret
    exact ⟨rfl, (by first | exact ⟨_, rfl⟩ | exact ⟨0, rfl⟩ | exact still2 _ _ _ | exact still3 _ _ _ _)⟩
set_option maxHeartbeats 1000000 in
theorem laws_inList_mem (g o n cp g2 o2 n2 c2 : Nat) (rows : List (List Int)) (x : List Int) (w : World) (hn : rows.length = n) (hn2 : x.length = n2) (hl : rows.length ≤ 1048576) (hrl : ∀ j, j < rows.length → (rows.getD j []).length ≤ 1048576) (hx : x.length ≤ 1048576) (hmem : x ∈ rows) (h1 : Rows2 w g o rows) (h2 : Cells w g2 o2 x) :
    Calls Tryz.prog 16 #[(Value.slice (some ⟨g, o, none⟩) n cp), (Value.slice (some ⟨g2, o2, none⟩) n2 c2)] w (Reads w (.bool true)) := by
  subst hn; subst hn2
  obtain ⟨i0, hi0, he0⟩ := List.getElem_of_mem hmem
  have HI := Lib.hid (show rows.getD i0 [] = x from by simp [List.getD, hi0, he0])
  clear hmem he0
  go_enter Tryz.func16, Tryz.ntmps16
  go_wp2_with fail
  go_loopw [5] (fun i wr => ∃ k : Nat, k ≤ i0 ∧ i = .int .i64 k ∧ ∃ q, wr = w.drewN q) (fun i _ => rows.length - (intOf i).toNat)
  case atStart => exact ⟨0, Nat.zero_le _, rfl, (by first | exact ⟨_, rfl⟩ | exact ⟨0, rfl⟩ | exact still2 _ _ _ | exact still3 _ _ _ _)⟩
  case round =>
    obtain ⟨k, hk, rfl, q, rfl⟩ := hrel
    have hlt : k < rows.length := by omega
    obtain ⟨ga, oa, ca, a1, a2, a3, a4⟩ := h1 k hlt
    have hcall := fun m => laws_sameInts_any ga oa (rows.getD k []).length ca g2 o2 x.length c2 (rows.getD k []) x (w.drewN m) rfl rfl (hrl k hlt) hx (show Cells (w.drewN m) ga oa _ from a4) (show Cells (w.drewN m) g2 o2 _ from h2)
    have hend : k = i0 → rows.getD k [] = x := fun h => by rw [h]; exact HI.out
    have Hend := Lib.hid hend
    clear hend
    generalize rows.getD k [] = y at *
    obtain ⟨l, hle⟩ : ∃ l, y.length = l := ⟨_, rfl⟩
    rw [hle] at hcall a1
    by_cases he : y = x
    · have Hcall := Lib.hid (fun m => by have := hcall m; rw [decide_eq_true he] at this; exact this)
      clear hcall a4 hle he
      go_wp2_with fail
      refine (Hcall.out _).mono ?_
      rintro e w2 ⟨rfl, q2, rfl⟩
      go_wp2_with fail
      go_ret
      exact ⟨rfl, (by first | exact ⟨_, rfl⟩ | exact ⟨0, rfl⟩ | exact still2 _ _ _ | exact still3 _ _ _ _)⟩
    · have hk2 : k < i0 := by
        rcases Nat.lt_or_ge k i0 with h | h
        · exact h
        · exact absurd (Hend.out (by omega)) he
      have Hcall := Lib.hid (fun m => by have := hcall m; rw [decide_eq_false he] at this; exact this)
      clear hcall a4 hle he
      go_wp2_with fail
      refine (Hcall.out _).mono ?_
      rintro e w2 ⟨rfl, q2, rfl⟩
      go_wp2_with fail
      go_roundw
      case rel => exact ⟨k + 1, by omega, by go_num, (by first | exact ⟨_, rfl⟩ | exact ⟨0, rfl⟩ | exact still2 _ _ _ | exact still3 _ _ _ _)⟩
      case measure => simp [intOf]; omega
end Go.Proofs.YtkjglfafphffiaaGreat
namespace Go.Proofs.YtkjglfafphffiaaGreat
set_option maxRecDepth 100000
open Go.RowKit Game
/-- what AreSame of two lists is -/
def sameA (c : List (List Int)) (a b : List Int) : Bool := isWordB c a && (isWordB c b && decide (imI c a = imI c b))
set_option maxHeartbeats 1000000 in
theorem impl_AreSame_any (gc oc n cc g1 o1 n1 c1 g2 o2 n2 c2 : Nat) (c : List (List Int)) (a b : List Int) (w : World) (hn : c.length = n) (hn1 : a.length = n1) (hn2 : b.length = n2) (hx : c.length ≤ 1048576) (hrl : ∀ j, j < c.length → (c.getD j []).length ≤ 1048576) (hla : a.length ≤ 1048576) (hlb : b.length ≤ 1048576)
    (hgc : gc < w.heap.size) (hg1 : g1 < w.heap.size) (hg2 : g2 < w.heap.size) (hr : Rows2 w gc oc c) (h1 : Cells w g1 o1 a) (h2 : Cells w g2 o2 b) :
    Calls Tryz.prog 6 #[(Value.slice (some ⟨gc, oc, none⟩) n cc), (Value.slice (some ⟨g1, o1, none⟩) n1 c1), (Value.slice (some ⟨g2, o2, none⟩) n2 c2)] w (Gives w (.bool (sameA c a b))) := by
  have i1 := impl_IsWord_any gc oc n cc g1 o1 n1 c1 c a w hn hn1 hx hrl hla hr h1
  have i2 := fun W (hb : Below w.heap.size w W) => impl_IsWord_any gc oc n cc g2 o2 n2 c2 c b W hn hn2 hx hrl hlb (hr.below hb hgc) (h2.below hb hg2)
  have K := Lib.hid (fun (hA : WordOk c a) (hB : WordOk c b) (W : World) (hb : Below w.heap.size w W) => impl_same_any gc oc n cc g1 o1 n1 c1 g2 o2 n2 c2 c a b W hn hn1 hn2 (hA.lets.mono (by omega)) (hB.lets.mono (by omega)) (Nat.lt_of_lt_of_le hgc hb.size) (Nat.lt_of_lt_of_le hg1 hb.size) (Nat.lt_of_lt_of_le hg2 hb.size) (hr.below hb hgc) (h1.below hb hg1) (h2.below hb hg2))
  have I1 := Lib.hid i1; have I2 := Lib.hid i2
  clear hr h1 h2 hn hn1 hn2 i1 i2 hrl
  cases ha : isWordB c a with
  | false =>
    have hs : sameA c a b = false := by unfold sameA; rw [ha]; rfl
    rw [hs]
    have I1' := I1.out
    rw [ha] at I1'
    have I1 := Lib.hid I1'
    clear ha hs I1' I2 K
    go_enter Tryz.func6, Tryz.ntmps6
    go_wp2_with fail
    refine I1.out.mono ?_
    rintro e v1 ⟨rfl, hs1⟩
    have hB1 := below_still (Below.refl w.heap.size w) hs1
    go_wp2_with fail
    go_ret
    exact ⟨rfl, hB1⟩
  | true =>
    have I1' := I1.out
    rw [ha] at I1'
    have I1 := Lib.hid I1'
    clear I1'
    cases hb' : isWordB c b with
    | false =>
      have hs : sameA c a b = false := by unfold sameA; rw [ha, hb']; rfl
      rw [hs]
      have I2 := Lib.hid (fun W hb => by have := I2.out W hb; rw [hb'] at this; exact this)
      clear ha hb' hs K
      go_enter Tryz.func6, Tryz.ntmps6
      go_wp2_with fail
      refine I1.out.mono ?_
      rintro e v1 ⟨rfl, hs1⟩
      have hB1 := below_still (Below.refl w.heap.size w) hs1
      go_wp2_with fail
      refine (I2.out v1 hB1).mono ?_
      rintro e v2 ⟨rfl, hs2⟩
      have hB2 := below_still hB1 hs2
      go_wp2_with fail
      go_ret
      exact ⟨rfl, hB2⟩
    | true =>
      have hs : sameA c a b = decide (imI c a = imI c b) := by unfold sameA; rw [ha, hb']; rfl
      rw [hs]
      have I2 := Lib.hid (fun W hb => by have := I2.out W hb; rw [hb'] at this; exact this)
      have K := Lib.hid (K.out (wordOk_of ha) (wordOk_of hb'))
      clear ha hb' hs
      generalize decide (imI c a = imI c b) = r at *
      go_enter Tryz.func6, Tryz.ntmps6
      go_wp2_with fail
      refine I1.out.mono ?_
      rintro e v1 ⟨rfl, hs1⟩
      have hB1 := below_still (Below.refl w.heap.size w) hs1
      go_wp2_with fail
      refine (I2.out v1 hB1).mono ?_
      rintro e v2 ⟨rfl, hs2⟩
      have hB2 := below_still hB1 hs2
      go_wp2_with fail
      refine (K.out v2 hB2).mono ?_
      rintro e w1 ⟨rfl, hb1⟩
      have hB3 := hB2.trans (hb1.mono hB2.size)
      go_wp2_with fail
      go_ret
      exact ⟨rfl, hB3⟩
set_option maxHeartbeats 1000000 in
theorem spec_AreSame_any (gc oc n cc g1 o1 n1 c1 g2 o2 n2 c2 : Nat) (c : List (List Int)) (a b : List Int) (w : World) (hn : c.length = n) (hn1 : a.length = n1) (hn2 : b.length = n2) (hx : c.length ≤ 1048576) (hrl : ∀ j, j < c.length → (c.getD j []).length ≤ 1048576) (hla : a.length ≤ 1048576) (hlb : b.length ≤ 1048576)
    (hgc : gc < w.heap.size) (hg1 : g1 < w.heap.size) (hg2 : g2 < w.heap.size) (hr : Rows2 w gc oc c) (h1 : Cells w g1 o1 a) (h2 : Cells w g2 o2 b) :
    Calls Tryz.prog 7 #[(Value.slice (some ⟨gc, oc, none⟩) n cc), (Value.slice (some ⟨g1, o1, none⟩) n1 c1), (Value.slice (some ⟨g2, o2, none⟩) n2 c2)] w (Gives w (.bool (sameA c a b))) := by
  have i1 := spec_IsWord_any gc oc n cc g1 o1 n1 c1 c a w hn hn1 hx hrl hla hr h1
  have i2 := fun W (hb : Below w.heap.size w W) => spec_IsWord_any gc oc n cc g2 o2 n2 c2 c b W hn hn2 hx hrl hlb (hr.below hb hgc) (h2.below hb hg2)
  have K := Lib.hid (fun (hA : WordOk c a) (hB : WordOk c b) => spec_AreSame_ok gc oc n cc g1 o1 n1 c1 g2 o2 n2 c2 c a b w hn hn1 hn2 hA hB hgc hg1 hg2 hr h1 h2)
  have I1 := Lib.hid i1; have I2 := Lib.hid i2
  clear hr h1 h2 hn hn1 hn2 i1 i2 hrl
  cases ha : isWordB c a with
  | false =>
    have hs : sameA c a b = false := by unfold sameA; rw [ha]; rfl
    rw [hs]
    have I1' := I1.out
    rw [ha] at I1'
    have I1 := Lib.hid I1'
    clear ha hs I1' I2 K
    go_enter Tryz.func7, Tryz.ntmps7
    go_wp2_with fail
    refine I1.out.mono ?_
    rintro e v1 ⟨rfl, hs1⟩
    have hB1 := below_still (Below.refl w.heap.size w) hs1
    go_wp2_with fail
    go_ret
    exact ⟨rfl, hB1⟩
  | true =>
    have I1' := I1.out
    rw [ha] at I1'
    have I1 := Lib.hid I1'
    clear I1'
    cases hb' : isWordB c b with
    | false =>
      have hs : sameA c a b = false := by unfold sameA; rw [ha, hb']; rfl
      rw [hs]
      have I2 := Lib.hid (fun W hb => by have := I2.out W hb; rw [hb'] at this; exact this)
      clear ha hb' hs K
      go_enter Tryz.func7, Tryz.ntmps7
      go_wp2_with fail
      refine I1.out.mono ?_
      rintro e v1 ⟨rfl, hs1⟩
      have hB1 := below_still (Below.refl w.heap.size w) hs1
      go_wp2_with fail
      refine (I2.out v1 hB1).mono ?_
      rintro e v2 ⟨rfl, hs2⟩
      have hB2 := below_still hB1 hs2
      go_wp2_with fail
      go_ret
      exact ⟨rfl, hB2⟩
    | true =>
      have hs : sameA c a b = decide (imI c a = imI c b) := by unfold sameA; rw [ha, hb']; rfl
      rw [hs]
      exact K.out (wordOk_of ha) (wordOk_of hb')
end Go.Proofs.YtkjglfafphffiaaGreat
namespace Go.Proofs.YtkjglfafphffiaaGreat
set_option maxRecDepth 100000
open Go.RowKit
theorem infoBool : (Tryz.prog.info? 4).map (fun i => (i.zero, i.size, i.bytes)) = some (some (.bool false), 1, 1) := by kernel_rfl
/-- bools of the call's own -/
def OwnBL (w : World) (B g cap : Nat) (bs : List Bool) : Prop := OwnV w B 4 g cap (bs.map Value.bool)
theorem wpList_append_bool {ops : Array Oper} {rest : List Oper} {o : Oper} {a : Act} {Q : Exit → Act → World → Prop} (hgd : o.guard = none) (s x : Operand)
    (ho : o.op = .call { callee := .builtin .append, args := #[s, x], argTypes := #[40, 40] })
    (B g cap n H : Nat) (bs : List Bool) (b : Bool) (w W : World) (hn : bs.length = n) (hW : W = w.alloc (.cells #[.bool b] 4)) (hH : w.heap.size = H) (hown : OwnBL w B g cap bs)
    (hs : a.eval s = (Value.slice (some ⟨g, 0, none⟩) n cap)) (hx : a.eval x = (Value.slice (some ⟨H, 0, none⟩) 1 1)) (hlen : n + 1 ≤ 1048576)
    (h : ∀ g' cap' w', OwnBL w' B g' cap' (bs ++ [b]) → w.grownBy w' (some g) → (g' = g ∨ w.heap.size < g') → wpList Tryz.prog ops Q rest (a.put o.dst (Value.slice (some ⟨g', 0, none⟩) (n + 1) cap')) w') :
    wpList Tryz.prog ops Q (o :: rest) a W := by
  subst hn; subst hW; subst hH
  have hnew : OwnV (w.alloc (.cells #[.bool b] 4)) w.heap.size 4 w.heap.size 1 [.bool b] := World.ownsRow_lit w #[.bool b] 1 (Nat.le_refl _) (by decide) rfl
  have hk : OwnK w B 4 1 g cap bs.length (bs.map Value.bool) := by
    have h1 : OwnV w B 4 g cap (bs.map Value.bool) := hown
    unfold OwnV at h1
    rw [List.length_map] at h1
    exact h1
  refine wpList_append_K infoBool Tryz.underlying40 rfl (by decide) (by decide) hgd s x ho B g cap bs.length (bs.map Value.bool) (OwnK.alloc hk _) w.heap.size 0 1 1 [.bool b] rfl ?_ ?_ hs hx hlen ?_
  · intro j u hu
    have hj : j = 0 := by have := (List.getElem?_eq_some_iff.1 hu).1; simp at this; exact this
    subst hj
    have h1 := hnew.cell 0 (by simp)
    simp only [List.getElem?_cons_zero, Option.some.injEq] at hu
    subst hu
    exact h1
  · intro u hu
    rw [List.mem_singleton] at hu
    rw [hu]; rfl
  · intro g' cap' w' h2 h3 h4
    refine h g' cap' w' ?_ ⟨h3.os, h3.tape, h3.output, Nat.le_trans (by simp) h3.size, fun k hk hne => (h3.block k (by simp; omega) hne).trans (Below.heap_alloc _ _ _ hk)⟩ (h4.imp id (by simp; omega))
    have h5 : OwnK w' B 4 1 g' cap' (bs.length + 1) (bs.map Value.bool ++ [.bool b]) := h2
    show OwnV w' B 4 g' cap' ((bs ++ [b]).map Value.bool)
    unfold OwnV
    rw [List.map_append, List.length_append, List.length_map]
    exact h5
theorem OwnBL.cell {w : World} {B g cap : Nat} {bs : List Bool} (h : OwnBL w B g cap bs) (j : Nat) (hj : j < bs.length) : w.cell? ⟨g, j, none⟩ = some (.bool (bs.getD j false)) := by
  have h1 : OwnV w B 4 g cap (bs.map Value.bool) := h
  rw [h1.cell j (by simpa using hj)]
  simp [List.getD, hj]
theorem OwnBL.below {w w' : World} {B b g cap : Nat} {bs : List Bool} (h : OwnBL w B g cap bs) (hb : Below b w w') (hg : g < b) : OwnBL w' B g cap bs := OwnV.below h hb hg
theorem OwnBL.lt {w : World} {B g cap : Nat} {bs : List Bool} (h : OwnBL w B g cap bs) : g < w.heap.size := OwnV.lt h
theorem OwnBL.base {w : World} {B g cap : Nat} {bs : List Bool} (h : OwnBL w B g cap bs) : B ≤ g := OwnV.base h
theorem OwnBL.empty {w : World} {B : Nat} (hB : B ≤ w.heap.size) : OwnBL (w.alloc (.cells #[] 4)) B w.heap.size 0 [] := World.ownsRow_lit w #[] 0 hB (by decide) rfl
end Go.Proofs.YtkjglfafphffiaaGreat
