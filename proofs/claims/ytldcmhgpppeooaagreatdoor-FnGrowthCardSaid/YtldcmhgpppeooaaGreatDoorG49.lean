/- The laws' draws for growth, small types, elements that are told: contracts. IsUnimodal, the program's and the reference's: contracts. slices.Reverse, ReverseWord: contracts. slices.Equal, slices.Reverse, ReverseWord, IsPalindrome: contracts. -/
import Derived.Test.YtldcmhgpppeooaaGreatDoorG47
import Derived.Test.YtldcmhgpppeooaaGreatDoorG04
import Derived.Test.YtldcmhgpppeooaaGreatDoorG48
import Derived.Test.YtldcmhgpppeooaaGreatDoorG45
import Derived.Test.YtldcmhgpppeooaaGreatDoorG20
import Derived.Test.YtldcmhgpppeooaaGreatDoorG42
import Derived.Test.YtldcmhgpppeooaaGreatDoorBase
import Derived.Test.YtldcmhgpppeooaaGreatDoorG02
namespace Go.Proofs.YtldcmhgpppeooaaGreatDoor
set_option maxRecDepth 100000
open Go.RowKit

def DrewMI (w : World) (e : Ending) (w' : World) : Prop :=
  ∃ (g cap : Nat) (rows : List (List Int)) (m : Int), e = .returned (.tuple #[(Value.slice (some ⟨g, 0, none⟩) rows.length cap), .int .i64 m]) ∧ (-1 ≤ m ∧ m ≤ 5) ∧ MatR w' w.heap.size g cap rows ∧ Below w.heap.size w w'
/-- a list is drawn *)-/
def DrewX (w : World) (e : Ending) (w' : World) : Prop :=
  ∃ (xs : List Int) (g cap : Nat), xs.length ≤ 25 ∧ e = .returned (Value.slice (some ⟨g, 0, none⟩) xs.length cap) ∧ Own w' w.heap.size g cap xs ∧ Below w.heap.size w w'

section
variable (a : Option Addr) (n c : Nat) (w : World) (hn : n ≤ 1048576) (hc : CodeV w w.heap.size a n)
include hn hc

set_option maxHeartbeats 1000000 in
theorem spec_DrawSphereSizes_any : Calls Tryz.prog 6 #[.slice a n c] w (DrewMI w) := by
  have h1 := Lib.hid (spec_l1New_any a n c w hn hc)
  have Hc := Lib.hid hc
  clear hc
  go_enter Tryz.func6, Tryz.ntmps6
  go_wp2_with fail
  refine h1.out.mono ?_
  rintro e w1 ⟨p, hp, rfl, hcur, hb1⟩
  have hc1 := Hc.out.below hb1
  have hps := hcur.lt
  have k1 := Lib.hid (spec_l2Any_any w.heap.size p a n c w1 hn hc1 hp hcur)
  clear hcur hc1
  go_wp2_with fail
  refine k1.out.mono ?_
  rintro e w2 ⟨g, cap, rows, rfl, hM, hcur2, hc2, hO2⟩
  have k2 := Lib.hid (spec_l1Below_any w.heap.size p a n c 7 w2 (by omega) hn hc2 hp hcur2)
  have hb2 := Below.only hb1 hO2 hp (Nat.le_refl _)
  have HM := Lib.hid hM
  clear hcur2 hc2 hM
  go_wp2_with fail
  refine k2.out.mono ?_
  rintro e w3 ⟨x, hx, rfl, hcur3, hc3, hO3⟩
  have hb3 := Below.only hb2 hO3 hp (Nat.le_refl _)
  have hM3 := Lib.hid ((HM.out.only hO3 hps).mono hb1.size)
  have e1 : IntKind.i64.wrap (x - 1) = x - 1 := IntWalk.i64_in _ (by omega)
  clear HM
  go_wp2_with fail
  go_ret2
  exact ⟨g, cap, rows, x - 1, rfl, by omega, hM3.out, hb3⟩

set_option maxHeartbeats 1000000 in
theorem spec_DrawBallOf_any : Calls Tryz.prog 13 #[.slice a n c] w (DrewMI w) := by
  have h1 := Lib.hid (spec_DrawSphereSizes_any a n c w hn hc)
  clear hc
  go_enter Tryz.func13, Tryz.ntmps13
  go_wp2_with fail
  refine h1.out.mono ?_
  rintro e w1 ⟨g, cap, rows, m, rfl, hm, hM, hb⟩
  have HM := Lib.hid hM
  clear hM
  go_wp2_with fail
  go_ret2
  exact ⟨g, cap, rows, m, rfl, hm, HM.out, hb⟩

set_option maxHeartbeats 1000000 in
theorem spec_DrawProductCounts_any : Calls Tryz.prog 24 #[.slice a n c] w fun e w' => ∃ (xs ys : List Int) (g cap g2 cap2 : Nat), xs.length ≤ 25 ∧ ys.length ≤ 25 ∧ e = .returned (.tuple #[(Value.slice (some ⟨g, 0, none⟩) xs.length cap), (Value.slice (some ⟨g2, 0, none⟩) ys.length cap2)]) ∧ Own w' w.heap.size g cap xs ∧ Own w' w.heap.size g2 cap2 ys ∧ Below w.heap.size w w' := by
  have h1 := Lib.hid (spec_l1New_any a n c w hn hc)
  have Hc := Lib.hid hc
  clear hc
  go_enter Tryz.func24, Tryz.ntmps24
  go_wp2_with fail
  refine h1.out.mono ?_
  rintro e w1 ⟨p, hp, rfl, hcur, hb1⟩
  have hc1 := Hc.out.below hb1
  have hps := hcur.lt
  have k1 := Lib.hid (spec_l2Finite_any w.heap.size p a n c w1 hn hc1 hp hcur)
  clear hcur hc1
  go_wp2_with fail
  refine k1.out.mono ?_
  rintro e w2 ⟨g2, c2, rs2, rfl, hR2, hF2, hcur2, hc2, hO2⟩
  have hb2 := Below.only hb1 hO2 hp (Nat.le_refl _)
  have hps2 := hcur2.lt
  have k2 := Lib.hid (spec_l2Finite_any w.heap.size p a n c w2 hn hc2 hp hcur2)
  have HF2 := Lib.hid (finM_isC _ hF2)
  clear hcur2 hc2 hF2
  go_wp2_with fail
  refine k2.out.mono ?_
  rintro e w3 ⟨g3, c3, rs3, rfl, hR3, hF3, hcur3, hc3, hO3⟩
  have hb3 := Below.only hb2 hO3 hp (Nat.le_refl _)
  have hR23 : OwnRows w3 w1.heap.size g2 c2 rs2 := hR2.only' hO3 hps
  have HF3 := Lib.hid (finM_isC _ hF3)
  clear hcur3 hc3 hF3 hR2
  have hl2 : (contents rs2).length = rs2.length := contents_length _
  have hl3 : (contents rs3).length = rs3.length := contents_length _
  have hL2 := Lib.hid (spec_LengthCounts_any g2 0 rs2.length c2 (contents rs2) w3 hl2 (by have := HF2.out.2.1; omega) (fun j hj => by rw [HF2.out.2.2.1 j hj]; have := HF2.out.2.1; omega) hR23.lt hR23.rows2)
  have HL2 := Lib.hid (lenC_len (contents rs2)); have HL3 := Lib.hid (lenC_len (contents rs3))
  go_wp2_with fail
  refine hL2.out.mono ?_
  rintro e w4 ⟨g4, c4, rfl, ho4, hb4⟩
  have hb34 := hb3.trans (hb4.mono hb3.size)
  have hR34 := hR3.below hb4
  have hL3 := Lib.hid (spec_LengthCounts_any g3 0 rs3.length c3 (contents rs3) w4 hl3 (by have := HF3.out.2.1; omega) (fun j hj => by rw [HF3.out.2.2.1 j hj]; have := HF3.out.2.1; omega) hR34.lt hR34.rows2)
  have ho4' := ho4.mono hb3.size
  generalize lenC (contents rs2) = xs at *
  generalize lenC (contents rs3) = ys at *
  clear hR23 hR3 hR34 hL2
  go_wp2_with fail
  refine hL3.out.mono ?_
  rintro e w5 ⟨g5, c5, rfl, ho5, hb5⟩
  have ho45 := ho4'.below hb5 ho4'.lt
  go_wp2_with fail
  go_ret2
  exact ⟨xs, ys, g4, c4, g5, c5, HL2.out, HL3.out, rfl, ho45, ho5.mono hb34.size, hb34.trans (hb5.mono hb34.size)⟩
end

set_option maxHeartbeats 1000000 in
theorem spec_l19Poly_any (B p : Nat) (a : Option Addr) (n c : Nat) (w : World) (hn : n ≤ 1048576) (hc : CodeV w B a n) (hp : B ≤ p) (hcur : Cur w p a n c) :
    Calls Tryz.prog 81 #[.pointer (some ⟨p, 0, none⟩)] w fun e w' => ∃ (xs : List Int) (g cap : Nat), xs.length ≤ 25 ∧ e = .returned (Value.slice (some ⟨g, 0, none⟩) xs.length cap) ∧ Own w' w.heap.size g cap xs ∧ Cur w' p a n c ∧ CodeV w' B a n ∧ Only p (p + 1) w w' := by
  have hps := hcur.lt
  have hb0 : Below w.heap.size w (w.alloc (.cells #[] 3)) := (Below.refl _ _).alloc (Nat.le_refl _) _
  have Hcall := Lib.hid (spec_l1Below_any B p a n c 6 _ (by omega) hn (hc.below' hb0 (by omega)) hp (hcur.below' hb0 hps))
  have ho0 : Own (w.alloc (.cells #[] 3)) w.heap.size w.heap.size 0 [] := Own.empty (w := w) (Nat.le_refl _)
  have K := Lib.hid (fun (W : World) (hc : CodeV W B a n) (hcur : Cur W p a n c) => spec_l1Below_any B p a n c 9 W (by omega) hn hc hp hcur)
  have K4 := Lib.hid (fun (W : World) (hc : CodeV W B a n) (hcur : Cur W p a n c) => spec_l1Once_any B p a n c 4 W (by omega) hn hc hp hcur)
  obtain ⟨w0, hw0⟩ : ∃ w0, w0 = w.alloc (.cells #[] 3) := ⟨_, rfl⟩
  rw [← hw0] at hb0 Hcall ho0
  have Hw0 := Lib.hid hw0
  clear hc hcur hw0
  go_enter Tryz.func81, Tryz.ntmps81
  go_wp2_with fail
  rw [← Hw0.out]
  refine Hcall.out.mono ?_
  rintro e w1 ⟨x, hx, rfl, hcur1, hc1, hO1⟩
  obtain ⟨N, rfl⟩ : ∃ N : Nat, x = N := ⟨x.toNat, by omega⟩
  have ho1 : Own w1 w.heap.size w.heap.size 0 [] := ho0.only hO1 (.inr (by omega))
  have hOn1 : Only p (p + 1) w w1 := Only.trans (Only.of_below p (p + 1) hb0) hO1
  clear ho0 hO1 hb0 Hcall
  go_wp2_with fail
  go_loopw [3, 4] (fun pv nv wr => ∃ (k g' c' : Nat) (xs : List Int), k ≤ N ∧ nv = .int .i64 ((N - k : Nat) : Int) ∧ pv = (Value.slice (some ⟨g', 0, none⟩) k c') ∧ Hid (xs.length = k) ∧ Own wr w.heap.size g' c' xs ∧ Cur wr p a n c ∧ CodeV wr B a n ∧ Only p (p + 1) w wr) (fun _ nv _ => (intOf nv).toNat)
  case atStart => exact ⟨0, w.heap.size, 0, [], Nat.zero_le _, rfl, rfl, rfl, ho1, hcur1, hc1, hOn1⟩
  case round =>
    obtain ⟨k, g', c', xs, hk, rfl, rfl, hxs, ho, hcu, hco, hOn⟩ := hrel
    by_cases hlt : k < N
    · have hlI : (0 : Int) < ((N - k : Nat) : Int) := by omega
      have hK := Lib.hid (K.out wr hco hcu)
      have e1 : IntKind.i64.wrap (((N - k : Nat) : Int) - 1) = ((N - (k + 1) : Nat) : Int) := by rw [IntWalk.i64_in _ (by omega)]; omega
      have hgp := ho.base
      clear hco hcu
      go_wp2_with fail
      refine hK.out.mono ?_
      rintro e w2 ⟨y, hy, rfl, hcu2, hco2, hO2⟩
      have ho2 : Own w2 w.heap.size g' c' xs := ho.only hO2 (.inr (by omega))
      have e2 : IntKind.i64.wrap (y - 4) = y - 4 := IntWalk.i64_in _ (by omega)
      have hOn2 := Only.trans hOn hO2
      clear hO2 ho hOn hK
      go_wp2_with (at_builtin; refine wpList_append_int_n rfl _ _ rfl w.heap.size g' c' k xs (y - 4) hxs.out ho2 rfl rfl (by omega) ?_)
      intro g3 c3 w3 ho3 hg3 _
      have hcu3 := hcu2.grown hg3 (by omega)
      have hco3 := hco2.grown hg3 (by omega)
      have hOn3 := Only.grown hOn2 hg3 hgp
      go_wp2_with fail
      go_roundw
      case rel => exact ⟨k + 1, g3, c3, _, by omega, rfl, rfl, Lib.hid (by rw [List.length_append, hxs.out]; rfl), ho3, hcu3, hco3, hOn3⟩
      case measure => simp [intOf]; omega
    · obtain rfl : k = N := by omega
      have e0 : ((k - k : Nat) : Int) = 0 := by omega
      have hK := Lib.hid (K4.out wr hco hcu)
      rw [e0]
      clear hco hcu
      go_wp2_with fail
      refine hK.out.mono ?_
      rintro e w2 ⟨b, rfl, hcu2, hco2, hO2⟩
      have hgp := ho.base
      have ho2 : Own w2 w.heap.size g' c' xs := ho.only hO2 (.inr (by omega))
      have hOn2 := Only.trans hOn hO2
      clear hO2 ho hOn hK
      cases b with
      | true =>
        go_wp2_with fail
        go_ret
        exact ⟨xs, g', c', by rw [hxs.out]; omega, by rw [hxs.out]; rfl, ho2, hcu2, hco2, hOn2⟩
      | false =>
        have hT := Lib.hid (spec_TrimPoly_any g' 0 k c' xs w2 hxs.out (by rw [hxs.out]; omega) (by have := ho2.capLe; rw [hxs.out] at this; exact this) ho2.lt ho2.cells)
        have htl : (trim xs).length ≤ 25 := by rw [trim_length]; have := trimN_le xs xs.length; rw [hxs.out] at this ⊢; omega
        have Htl := Lib.hid htl
        clear htl
        go_wp2_with fail
        refine hT.out.mono ?_
        rintro e w3 ⟨g3, c3, rfl, ho3, hb3⟩
        have hcu3 := hcu2.below' hb3 hcu2.lt
        have hco3 := hco2.below' hb3 (by have := hcu2.lt; omega)
        have hOn3 := hOn2.below' hb3 hOn2.size
        go_wp2_with fail
        go_ret
        exact ⟨trim xs, g3, c3, Htl.out, rfl, ho3.mono hOn2.size, hcu3, hco3, hOn3⟩

set_option maxHeartbeats 1000000 in
theorem spec_DrawIsUnimodal_any (a : Option Addr) (n c : Nat) (w : World) (hn : n ≤ 1048576) (hc : CodeV w w.heap.size a n) : Calls Tryz.prog 25 #[.slice a n c] w (DrewX w) := by
  have h1 := Lib.hid (spec_l1New_any a n c w hn hc)
  have Hc := Lib.hid hc
  clear hc
  go_enter Tryz.func25, Tryz.ntmps25
  go_wp2_with fail
  refine h1.out.mono ?_
  rintro e w1 ⟨p, hp, rfl, hcur, hb1⟩
  have hc1 := Hc.out.below hb1
  have hps := hcur.lt
  have k1 := Lib.hid (spec_l1Once_any w.heap.size p a n c 2 w1 (by omega) hn hc1 hp hcur)
  clear hcur hc1
  go_wp2_with fail
  refine k1.out.mono ?_
  rintro e w2 ⟨b, rfl, hcur2, hc2, hO2⟩
  have hb2 := Below.only hb1 hO2 hp (Nat.le_refl _)
  cases b with
  | true =>
    have k2 := Lib.hid (spec_l2Finite_any w.heap.size p a n c w2 hn hc2 hp hcur2)
    clear hcur2 hc2
    go_wp2_with fail
    refine k2.out.mono ?_
    rintro e w3 ⟨g3, c3, rs3, rfl, hR3, hF3, hcur3, hc3, hO3⟩
    have hb3 := Below.only hb2 hO3 hp (Nat.le_refl _)
    have HF3 := Lib.hid (finM_isC _ hF3)
    clear hcur3 hc3 hF3
    have hl3 : (contents rs3).length = rs3.length := contents_length _
    have hL3 := Lib.hid (spec_LengthCounts_any g3 0 rs3.length c3 (contents rs3) w3 hl3 (by have := HF3.out.2.1; omega) (fun j hj => by rw [HF3.out.2.2.1 j hj]; have := HF3.out.2.1; omega) hR3.lt hR3.rows2)
    have HL3 := Lib.hid (lenC_len (contents rs3))
    generalize lenC (contents rs3) = ys at *
    clear hR3
    go_wp2_with fail
    refine hL3.out.mono ?_
    rintro e w5 ⟨g5, c5, rfl, ho5, hb5⟩
    go_wp2_with fail
    go_ret
    exact ⟨ys, g5, c5, HL3.out, rfl, ho5.mono hb3.size, hb3.trans (hb5.mono hb3.size)⟩
  | false =>
    have k2 := Lib.hid (spec_l19Poly_any w.heap.size p a n c w2 hn hc2 hp hcur2)
    clear hcur2 hc2
    go_wp2_with fail
    refine k2.out.mono ?_
    rintro e w3 ⟨xs, g3, c3, hx, rfl, ho3, hcur3, hc3, hO3⟩
    have hb3 := Below.only hb2 hO3 hp (Nat.le_refl _)
    go_wp2_with fail
    go_ret
    exact ⟨xs, g3, c3, hx, rfl, ho3.mono hb2.size, hb3⟩

def smallK : List Nat := [0, 1, 2, 4, 11, 1, 4]
theorem small_17 : ∀ k ∈ smallK, k < 17 := by decide
theorem lits_small (w : World) : ∀ j, j < 7 → (w.alloc (.cells #[.string ⟨#[65, 49]⟩, .string ⟨#[65, 50]⟩, .string ⟨#[65, 51]⟩, .string ⟨#[66, 50]⟩, .string ⟨#[71, 50]⟩, .string ⟨#[65, 50]⟩, .string ⟨#[66, 50]⟩] 9)).cell? ⟨w.heap.size, j, none⟩ = some (tyStr (smallK.getD j 0))
  | 0, _ => by rw [cell_of_cells (heap_alloc_new _ _)]; rfl
  | 1, _ => by rw [cell_of_cells (heap_alloc_new _ _)]; rfl
  | 2, _ => by rw [cell_of_cells (heap_alloc_new _ _)]; rfl
  | 3, _ => by rw [cell_of_cells (heap_alloc_new _ _)]; rfl
  | 4, _ => by rw [cell_of_cells (heap_alloc_new _ _)]; rfl
  | 5, _ => by rw [cell_of_cells (heap_alloc_new _ _)]; rfl
  | 6, _ => by rw [cell_of_cells (heap_alloc_new _ _)]; rfl
  | j + 7, h => absurd h (by omega)
set_option maxHeartbeats 1000000 in
theorem laws_small_any (a : Option Addr) (n c : Nat) (w : World) (hn : n ≤ 1048576) (hc : CodeV w w.heap.size a n) :
    Calls Tryz.prog 18 #[.slice a n c] w fun e w' => ∃ k, k ∈ smallK ∧ GotRows w (types17.getD k tyD).2 e w' := by
  obtain ⟨w1, hw1⟩ : ∃ w1, w1 = w.alloc (.cells #[.string ⟨#[65, 49]⟩, .string ⟨#[65, 50]⟩, .string ⟨#[65, 51]⟩, .string ⟨#[66, 50]⟩, .string ⟨#[71, 50]⟩, .string ⟨#[65, 50]⟩, .string ⟨#[66, 50]⟩] 9) := ⟨_, rfl⟩
  have hb1 : Below w.heap.size w w1 := by rw [hw1]; exact (Below.refl _ _).alloc (Nat.le_refl _) _
  have hcall := laws_at_any a n c 2 w.heap.size w1 hn (by omega) (hc.below hb1)
  have hq : ∀ j, j < 7 → w1.cell? ⟨w.heap.size, j, none⟩ = some (tyStr (smallK.getD j 0)) := by rw [hw1]; exact lits_small w
  have HT := Lib.hid (fun k (hk : k < 17) W => spec_TypeCartan_ok k hk W)
  rw [hw1] at hcall
  have Hcall := Lib.hid hcall; have Hw1 := Lib.hid hw1; have Hq := Lib.hid hq
  clear hcall hw1 hc hq
  go_enter Tryz.func18, Tryz.ntmps18
  go_wp2_with fail
  refine Hcall.out.mono ?_
  rintro e w2 ⟨x, hx, rfl, q, rfl⟩
  rw [← Hw1.out]
  obtain ⟨y, rfl⟩ : ∃ y : Nat, x = y := ⟨x.toNat, by omega⟩
  have hj : y % 7 < 7 := Nat.mod_lt _ (by omega)
  have em : Int.tmod (y : Int) 7 = ((y % 7 : Nat) : Int) := by rw [Int.tmod_eq_emod_of_nonneg (by omega)]; simp
  have em2 : (y : Int) % 7 = ((y % 7 : Nat) : Int) := by omega
  generalize y % 7 = j at *
  have q1 : (w1.drewN q).cell? ⟨w.heap.size, j, none⟩ = some (tyStr (smallK.getD j 0)) := Hq.out j hj
  have hjI : (j : Int) < 7 := by omega
  have hk : smallK.getD j 0 ∈ smallK := by
    have : j < smallK.length := hj
    simp [List.getD, this]
  have Hk := Lib.hid hk
  have hk17 : smallK.getD j 0 < 17 := small_17 _ hk
  generalize smallK.getD j 0 = k at *
  have HTk := Lib.hid (fun W => show Calls Tryz.prog 19 #[tyStr k] W (GotRowsB W (types17.getD k tyD).2 true) from HT.out k hk17 W)
  have hB2 : Below w.heap.size w (w1.drewN q) := below_drewN hb1 q
  clear hk HT hk17
  obtain ⟨X, hX⟩ : ∃ X, X = (types17.getD k tyD).2 := ⟨_, rfl⟩
  rw [← hX] at HTk
  have HX := Lib.hid hX
  clear hX
  go_wp2_with fail
  refine (HTk.out _).mono ?_
  rintro e w3 ⟨g3, c3, rs3, rfl, hcon, hO3, hb3⟩
  go_wp2_with fail
  go_ret
  have hX := HX.out
  subst hX
  exact ⟨k, Hk.out, g3, c3, rs3, rfl, hcon, hO3.mono hB2.size, hB2.trans (hb3.mono hB2.size)⟩
end Go.Proofs.YtldcmhgpppeooaaGreatDoor
namespace Go.Proofs.YtldcmhgpppeooaaGreatDoor
set_option maxRecDepth 100000
open Go.RowKit

/-- some number before place k is less than the one before it -/
def fell (xs : List Int) : Nat → Bool
  | 0 => false
  | k + 1 => fell xs k || (decide (0 < k) && decide (xs.getD k 0 < xs.getD (k - 1) 0))
/-- some number before place k is greater than the one before it, behind a fall -/
def rose (xs : List Int) : Nat → Bool
  | 0 => false
  | k + 1 => rose xs k || (decide (0 < k) && fell xs k && decide (xs.getD (k - 1) 0 < xs.getD k 0))

theorem rose_mono (xs : List Int) (k : Nat) (h : rose xs k = true) : ∀ d, rose xs (k + d) = true := by
  intro d; induction d with
  | zero => exact h
  | succ d ih => show (rose xs (k + d) || _) = true; rw [ih]; rfl
theorem rose_le (xs : List Int) {k n : Nat} (h : rose xs k = true) (hk : k ≤ n) : rose xs n = true := by
  obtain ⟨d, rfl⟩ := Nat.exists_eq_add_of_le hk; exact rose_mono xs k h d

set_option maxHeartbeats 400000 in
theorem impl_IsUnimodal_any (g o n c : Nat) (xs : List Int) (w : World) (hn : xs.length = n) (hx : xs.length ≤ 1099511627776) (hc : Cells w g o xs) :
    Calls Tryz.prog 27 #[(Value.slice (some ⟨g, o, none⟩) n c)] w (Reads w (.bool (!rose xs xs.length))) := by
  subst hn
  go_enter Tryz.func27, Tryz.ntmps27
  go_wp2
  go_loopw [3, 4] (fun f i wr => ∃ k : Nat, 1 ≤ k ∧ i = .int .i64 k ∧ (k ≤ xs.length ∨ k = 1) ∧ f = .bool (fell xs k) ∧ rose xs k = false ∧ ∃ m, wr = w.drewN m) (fun _ i _ => xs.length + 1 - (intOf i).toNat)
  case atStart => exact ⟨1, Nat.le_refl _, rfl, .inr rfl, by simp [fell], by simp [rose], 0, rfl⟩
  case round =>
    obtain ⟨k, hk1, rfl, hk, rfl, hr, m, rfl⟩ := hrel
    by_cases hlt : k < xs.length
    · have h1 := hc k hlt
      have h2 := hc (k - 1) (by omega)
      have e1 : (((k : Int) - 1)).toNat = k - 1 := by omega
      have h0 : 0 < k := hk1
      have Hr := Lib.hid hr; clear hr
      obtain ⟨f, hf⟩ : ∃ f, fell xs k = f := ⟨_, rfl⟩
      rw [hf]
      have Hf := Lib.hid hf; clear hf
      cases f
      · go_wp2
        go_quiet (fail)
        go_wp2
        go_quiet (fail)
        go_wp2
        go_roundw
        case rel => exact ⟨k + 1, by omega, by go_num, .inl (by omega), congrArg _ (by simp [fell, Hf.out, h0, List.getD, hlt]), by simp [rose, Hf.out, Hr.out, h0, List.getD, hlt]; try omega, (by first | exact ⟨_, rfl⟩ | exact ⟨0, rfl⟩ | exact still2 _ _ _ | exact still3 _ _ _ _)⟩
        case measure => simp [intOf]; omega
      · go_wp2
        go_quiet (fail)
        go_wp2
        · have ht : xs[k - 1]?.getD 0 < xs[k] := by assumption
          go_ret
          exact ⟨ret_bool (by rw [rose_le xs (k := k + 1) (by simp [rose, Hf.out, h0, List.getD, hlt, ht]) (by omega)]; rfl), (by first | exact ⟨_, rfl⟩ | exact ⟨0, rfl⟩ | exact still2 _ _ _ | exact still3 _ _ _ _)⟩
        · have ht : xs[k] ≤ xs[k - 1]?.getD 0 := by assumption
          go_quiet (fail)
          go_wp2
          go_roundw
          case rel => exact ⟨k + 1, by omega, by go_num, .inl (by omega), congrArg _ (by simp [fell, Hf.out, h0, List.getD, hlt]), by simp [rose, Hf.out, Hr.out, h0, List.getD, hlt]; try omega, (by first | exact ⟨_, rfl⟩ | exact ⟨0, rfl⟩ | exact still2 _ _ _ | exact still3 _ _ _ _)⟩
          case measure => simp [intOf]; omega
    · go_wp2
      go_ret
      refine ⟨ret_bool ?_, m, rfl⟩
      rcases hk with hk | hk
      · obtain rfl : k = xs.length := by omega
        rw [hr]; rfl
      · subst hk
        have : xs.length = 0 ∨ xs.length = 1 := by omega
        rcases this with h | h <;> rw [h] <;> simp [rose]

set_option maxHeartbeats 400000 in
theorem spec_IsUnimodal_any (g o n c : Nat) (xs : List Int) (w : World) (hn : xs.length = n) (hx : xs.length ≤ 1099511627776) (hc : Cells w g o xs) :
    Calls Tryz.prog 28 #[(Value.slice (some ⟨g, o, none⟩) n c)] w (Reads w (.bool (!rose xs xs.length))) := by
  subst hn
  go_enter Tryz.func28, Tryz.ntmps28
  go_wp2
  go_loopw [3, 4] (fun f i wr => ∃ k : Nat, 1 ≤ k ∧ i = .int .i64 k ∧ (k ≤ xs.length ∨ k = 1) ∧ f = .bool (fell xs k) ∧ rose xs k = false ∧ ∃ m, wr = w.drewN m) (fun _ i _ => xs.length + 1 - (intOf i).toNat)
  case atStart => exact ⟨1, Nat.le_refl _, rfl, .inr rfl, by simp [fell], by simp [rose], 0, rfl⟩
  case round =>
    obtain ⟨k, hk1, rfl, hk, rfl, hr, m, rfl⟩ := hrel
    by_cases hlt : k < xs.length
    · have h1 := hc k hlt
      have h2 := hc (k - 1) (by omega)
      have e1 : (((k : Int) - 1)).toNat = k - 1 := by omega
      have h0 : 0 < k := hk1
      have Hr := Lib.hid hr; clear hr
      obtain ⟨f, hf⟩ : ∃ f, fell xs k = f := ⟨_, rfl⟩
      rw [hf]
      have Hf := Lib.hid hf; clear hf
      by_cases ht : xs[k - 1]?.getD 0 < xs[k]
      · cases f
        · go_wp2
          go_quiet (fail)
          go_wp2
          go_quiet (fail)
          go_wp2
          go_roundw
          case rel => exact ⟨k + 1, by omega, by go_num, .inl (by omega), congrArg _ (by simp [fell, Hf.out, h0, List.getD, hlt]), by simp [rose, Hf.out, Hr.out, h0, List.getD, hlt]; try omega, (by first | exact ⟨_, rfl⟩ | exact ⟨0, rfl⟩ | exact still2 _ _ _ | exact still3 _ _ _ _)⟩
          case measure => simp [intOf]; omega
        · go_wp2
          go_quiet (fail)
          go_wp2
          go_ret
          exact ⟨ret_bool (by rw [rose_le xs (k := k + 1) (by simp [rose, Hf.out, h0, List.getD, hlt, ht]) (by omega)]; rfl), (by first | exact ⟨_, rfl⟩ | exact ⟨0, rfl⟩ | exact still2 _ _ _ | exact still3 _ _ _ _)⟩
      · have hd : decide (xs[k - 1]?.getD 0 < xs[k]) = false := by simpa using ht
        cases f
        · go_wp2
          go_quiet (fail)
          go_wp2
          go_quiet (fail)
          go_wp2
          go_roundw
          case rel => exact ⟨k + 1, by omega, by go_num, .inl (by omega), congrArg _ (by simp [fell, Hf.out, h0, List.getD, hlt]), by simp [rose, Hf.out, Hr.out, h0, List.getD, hlt]; try omega, (by first | exact ⟨_, rfl⟩ | exact ⟨0, rfl⟩ | exact still2 _ _ _ | exact still3 _ _ _ _)⟩
          case measure => simp [intOf]; omega
        · go_wp2
          go_quiet (fail)
          go_wp2
          go_quiet (fail)
          go_wp2
          go_roundw
          case rel => exact ⟨k + 1, by omega, by go_num, .inl (by omega), congrArg _ (by simp [fell, Hf.out, h0, List.getD, hlt]), by simp [rose, Hf.out, Hr.out, h0, List.getD, hlt]; try omega, (by first | exact ⟨_, rfl⟩ | exact ⟨0, rfl⟩ | exact still2 _ _ _ | exact still3 _ _ _ _)⟩
          case measure => simp [intOf]; omega
    · go_wp2
      go_ret
      refine ⟨ret_bool ?_, m, rfl⟩
      rcases hk with hk | hk
      · obtain rfl : k = xs.length := by omega
        rw [hr]; rfl
      · subst hk
        have : xs.length = 0 ∨ xs.length = 1 := by omega
        rcases this with h | h <;> rw [h] <;> simp [rose]

end Go.Proofs.YtldcmhgpppeooaaGreatDoor
namespace Go.Proofs.YtldcmhgpppeooaaGreatDoor
set_option maxRecDepth 100000
open Go.RowKit

/-- the first k and the last k exchanged -/
def revAt (xs : List Int) (k : Nat) : List Int := (List.range xs.length).map fun t => if t < k ∨ xs.length - k ≤ t then xs.getD (xs.length - 1 - t) 0 else xs.getD t 0
theorem revAt_length (xs : List Int) (k : Nat) : (revAt xs k).length = xs.length := by simp [revAt]
theorem revAt_getD (xs : List Int) (k t : Nat) (ht : t < xs.length) : (revAt xs k).getD t 0 = if t < k ∨ xs.length - k ≤ t then xs.getD (xs.length - 1 - t) 0 else xs.getD t 0 := by
  simp [revAt, List.getD, ht]
theorem revAt_zero (xs : List Int) : revAt xs 0 = xs := by
  apply List.ext_getElem (revAt_length _ _)
  intro t h1 h2
  have := revAt_getD xs 0 t h2
  rw [if_neg (by omega)] at this
  simpa [List.getD, h1, h2] using this
theorem revAt_done (xs : List Int) (k : Nat) (h : xs.length ≤ 2 * k + 1) : revAt xs k = xs.reverse := by
  apply List.ext_getElem (by simp [revAt_length])
  intro t h1 h2
  have ht : t < xs.length := by rw [revAt_length] at h1; exact h1
  have e := revAt_getD xs k t ht
  have h3 : (revAt xs k)[t] = (revAt xs k).getD t 0 := by simp [List.getD, h1]
  rw [h3, e, List.getElem_reverse]
  split
  · simp [List.getD, show xs.length - 1 - t < xs.length by omega]
  · have : xs.length - 1 - t = t := by omega
    simp [List.getD, ht, this]
theorem revAt_succ (xs : List Int) (k : Nat) (h : 2 * k + 1 < xs.length) :
    ((revAt xs k).set k ((revAt xs k).getD (xs.length - 1 - k) 0)).set (xs.length - 1 - k) ((revAt xs k).getD k 0) = revAt xs (k + 1) := by
  rw [revAt_getD _ _ _ (by omega), revAt_getD _ _ _ (by omega)]
  apply List.ext_getElem (by simp [revAt_length])
  intro t h1 h2
  have ht : t < xs.length := by rw [revAt_length] at h2; exact h2
  have h3 : (revAt xs (k + 1))[t] = (revAt xs (k + 1)).getD t 0 := by simp [List.getD, h2]
  rw [h3, revAt_getD _ _ _ ht, List.getElem_set, List.getElem_set]
  have h4 : t < (revAt xs k).length := by rw [revAt_length]; exact ht
  have h5 : (revAt xs k)[t] = (revAt xs k).getD t 0 := by simp [List.getD, h4]
  rw [h5, revAt_getD _ _ _ ht]
  by_cases a : xs.length - 1 - k = t
  · rw [if_pos a, if_neg (by omega), if_pos (by omega), show xs.length - 1 - t = k by omega]
  · rw [if_neg a]
    by_cases b : k = t
    · subst b
      rw [if_pos rfl, if_neg (by omega), if_pos (by omega)]
    · rw [if_neg b]
      by_cases c : t < k ∨ xs.length - k ≤ t
      · rw [if_pos c, if_pos (by omega)]
      · rw [if_neg c, if_neg (by omega)]

theorem rev_set {xs : List Int} {k : Nat} (h : 2 * k + 1 < xs.length) :
    ((revAt xs k).set k ((revAt xs k)[xs.length - 1 - k]'(by rw [revAt_length]; omega))).set (xs.length - 1 - k) ((revAt xs k)[k]'(by rw [revAt_length]; omega)) = revAt xs (k + 1) := by
  rw [← revAt_succ xs k h]
  have l1 : k < (revAt xs k).length := by rw [revAt_length]; omega
  have l2 : xs.length - 1 - k < (revAt xs k).length := by rw [revAt_length]; omega
  have e1 : (revAt xs k).getD k 0 = (revAt xs k)[k] := by simp [List.getD, l1]
  have e2 : (revAt xs k).getD (xs.length - 1 - k) 0 = (revAt xs k)[xs.length - 1 - k] := by simp [List.getD, l2]
  rw [e1, e2]

set_option maxHeartbeats 400000 in
theorem slices_Reverse_any (B g n c : Nat) (xs : List Int) (w : World) (hn : xs.length = n) (hx : xs.length ≤ 1099511627776) (hown : Own w B g c xs) :
    Calls Tryz.prog 135 #[(Value.slice (some ⟨g, 0, none⟩) n c)] w fun e w' => e = .returned (.tuple #[]) ∧ Own w' B g c xs.reverse ∧ w.grownBy w' (some g) := by
  subst hn
  have e0 : IntKind.i64.wrap ((xs.length : Int) - 1) = (xs.length : Int) - 1 := IntWalk.i64_in _ (by omega)
  go_enter Tryz.func135, Tryz.ntmps135
  go_wp2
  go_loopw [2, 3] (fun i j wr => ∃ k : Nat, 2 * k ≤ xs.length ∧ i = .int .i64 k ∧ j = .int .i64 ((xs.length : Int) - 1 - k) ∧ Own wr B g c (revAt xs k) ∧ w.grownBy wr (some g)) (fun i _ _ => xs.length - (intOf i).toNat)
  case atStart => exact ⟨0, Nat.zero_le _, rfl, by simp, by rw [revAt_zero]; exact hown, World.grownBy.refl _ _⟩
  case round =>
    obtain ⟨k, hk, rfl, rfl, ho, hg⟩ := hrel
    by_cases hlt : 2 * k + 1 < xs.length
    · have l1 : k < (revAt xs k).length := by rw [revAt_length]; omega
      have l2 : xs.length - 1 - k < (revAt xs k).length := by rw [revAt_length]; omega
      have h1 := ho.cell k l1
      have h2 := ho.cell (xs.length - 1 - k) l2
      have f1 := ho.frozen k
      have f2 := ho.frozen (xs.length - 1 - k)
      have i1 : ((xs.length : Int) - 1 - k).toNat = xs.length - 1 - k := by omega
      have i2 : (0 : Int) ≤ (xs.length : Int) - 1 - k := by omega
      have hne : k ≠ xs.length - 1 - k := by omega
      go_wp2
      go_region
      all_goals go_wp2
      all_goals
        go_roundw
        case rel =>
          have hs := ho.set2 k (xs.length - 1 - k) ((revAt xs k)[xs.length - 1 - k]) ((revAt xs k)[k])
          rw [rev_set hlt] at hs
          exact ⟨k + 1, by omega, by go_num, by go_num, hs.1.drew, grown_drew (World.grownBy.trans' hg hs.2)⟩
        case measure => simp [intOf]; omega
    · go_wp2
      go_end0
      rw [revAt_done xs k (by omega)] at ho
      exact ⟨rfl, ho, hg⟩

set_option maxHeartbeats 400000 in
theorem impl_ReverseWord_any (g o n c : Nat) (xs : List Int) (w : World) (hn : xs.length = n) (hx : xs.length ≤ 1099511627776) (hg : g < w.heap.size) (hc : Cells w g o xs) :
    Calls Tryz.prog 85 #[(Value.slice (some ⟨g, o, none⟩) n c)] w (GotInts w xs.reverse) := by
  subst hn
  go_enter Tryz.func85, Tryz.ntmps85
  go_wp2_with (at_builtin; refine wpList_clone rfl _ _ rfl g o _ c xs rfl hg hc rfl rfl hx ?_)
  intro g1 c1 w1 ho hb
  go_wp2_with fail
  refine (slices_Reverse_any _ g1 _ c1 xs _ rfl hx ho).mono ?_
  rintro e w2 ⟨rfl, ho2, hg2⟩
  go_wp2
  go_ret
  exact GotInts.mk' g1 c1 (by simp) ho2 (hb.grown hg2 hb.size (by intro k hk; cases hk; exact ho.base))
end Go.Proofs.YtldcmhgpppeooaaGreatDoor
namespace Go.Proofs.YtldcmhgpppeooaaGreatDoor
set_option maxRecDepth 100000
open Go.RowKit

set_option maxHeartbeats 400000 in
theorem impl_IsPalindrome_any (g o n c : Nat) (xs : List Int) (w : World) (hn : xs.length = n) (hx : xs.length ≤ 1099511627776) (hg : g < w.heap.size) (hc : Cells w g o xs) :
    Calls Tryz.prog 29 #[(Value.slice (some ⟨g, o, none⟩) n c)] w fun e w' => e = .returned (.bool (decide (xs = xs.reverse))) ∧ Below w.heap.size w w' := by
  subst hn
  go_enter Tryz.func29, Tryz.ntmps29
  go_wp2_with fail
  refine (impl_ReverseWord_any g o _ c xs _ rfl hx hg hc).mono ?_
  rintro e w1 ⟨g1, c1, rfl, ho, hb⟩
  go_wp2_with fail
  refine (slices_Equal_any g o _ c g1 0 _ c1 xs xs.reverse _ rfl (by simp) hx (by simpa using hx) (hc.below hb hg) ho.cells).mono ?_
  rintro e w2 ⟨rfl, m, rfl⟩
  go_wp2_with fail
  go_ret
  exact ⟨rfl, below_drewN hb m⟩

theorem pal_no {xs : List Int} {k : Nat} (hk : k < xs.length) (h : xs[k] ≠ xs[xs.length - 1 - k]) : xs ≠ xs.reverse := by
  intro e
  apply h
  have h1 : xs.reverse[k]'(by simpa using hk) = xs[xs.length - 1 - k] := List.getElem_reverse _
  rw [← h1]
  congr 1
theorem pal_yes {xs : List Int} (h : ∀ k (hk : k < xs.length), xs[k] = xs[xs.length - 1 - k]) : xs = xs.reverse := by
  apply List.ext_getElem (by simp)
  intro t h1 h2
  rw [List.getElem_reverse]
  exact h t h1

set_option maxHeartbeats 400000 in
theorem spec_IsPalindrome_any (g o n c : Nat) (xs : List Int) (w : World) (hn : xs.length = n) (hx : xs.length ≤ 1099511627776) (hc : Cells w g o xs) :
    Calls Tryz.prog 30 #[(Value.slice (some ⟨g, o, none⟩) n c)] w fun e w' => e = .returned (.bool (decide (xs = xs.reverse))) ∧ Below w.heap.size w w' := by
  subst hn
  go_enter Tryz.func30, Tryz.ntmps30
  go_wp2
  go_loopw [3] (fun i wr => ∃ k : Nat, k ≤ xs.length ∧ i = .int .i64 k ∧ Hid (∀ j (hj : j < xs.length), j < k → xs[j] = xs[xs.length - 1 - j]) ∧ ∃ m, wr = w.drewN m) (fun i _ => xs.length - (intOf i).toNat)
  case atStart => exact ⟨0, Nat.zero_le _, rfl, fun j _ h => absurd h (by omega), 0, rfl⟩
  case round =>
    obtain ⟨k, hk, rfl, hp, m, rfl⟩ := hrel
    by_cases hlt : k < xs.length
    · have l2 : xs.length - 1 - k < xs.length := by omega
      have h1 := hc k hlt
      have h2 := hc (xs.length - 1 - k) l2
      have e0 : IntKind.i64.wrap ((xs.length : Int) - 1) = (xs.length : Int) - 1 := IntWalk.i64_in _ (by omega)
      have e1 : IntKind.i64.wrap ((xs.length : Int) - 1 - k) = (xs.length : Int) - 1 - k := IntWalk.i64_in _ (by omega)
      have i1 : ((xs.length : Int) - 1 - k).toNat = xs.length - 1 - k := by omega
      have i2 : (0 : Int) ≤ (xs.length : Int) - 1 - k := by omega
      go_wp2
      go_quiet (fail)
      go_wp2
      · have ht : (xs[k] != xs[xs.length - 1 - k]) = true := by assumption
        go_ret
        exact ⟨ret_bool (by simp; exact pal_no hlt (by simpa using ht)), below_drewN (below_drewN (Below.refl _ _) _) _⟩
      · have ht : (xs[k] != xs[xs.length - 1 - k]) = false := by assumption
        go_roundw
        case rel => exact ⟨k + 1, by omega, by go_num, fun j hj hjk => if e : j = k then by subst e; simpa using ht else hp.out j hj (by omega), (by first | exact ⟨_, rfl⟩ | exact ⟨0, rfl⟩ | exact still2 _ _ _ | exact still3 _ _ _ _)⟩
        case measure => simp [intOf]; omega
    · obtain rfl : k = xs.length := by omega
      go_wp2
      go_ret
      exact ⟨ret_bool (by simp; exact pal_yes fun j hj => hp.out j hj hj), below_drewN (Below.refl _ _) _⟩
end Go.Proofs.YtldcmhgpppeooaaGreatDoor
