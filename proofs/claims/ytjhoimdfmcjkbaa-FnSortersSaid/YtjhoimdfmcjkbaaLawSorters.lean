/-
  PROVED HERE: the law FnSorters returns true for every input and leaves its argument as it was. CONDITIONS: none beyond the given row's own.
-/
import Derived.Test.YtjhoimdfmcjkbaaRows
import Derived.Test.YtjhoimdfmcjkbaaG39
import Derived.Test.YtjhoimdfmcjkbaaG50
import Derived.Deep.CutRange
import Derived.Deep.CutBlock
import Derived.WalkKit
import Derived.ProofKit
import Derived.OpenShut
import Derived.ChangeOld
import Derived.Below
namespace Go.Proofs.Ytjhoimdfmcjkbaa.fnSorters
set_option maxRecDepth 100000
open Go.ChangeShapes Go.WideShapes Go.ChangeAt Go.RowKit
open Go.Proofs.Ytjhoimdfmcjkbaa
set_option linter.unusedVariables false

theorem own : ownKnob Try.prog.godebug = none := by kernel_rfl
theorem laidOut : laidOutB Try.prog = true := by kernel_rfl

theorem chainA_isC {m : Nat} (h1 : 1 ≤ m) (h4 : m ≤ 4) : IsC (chainA m) := by
  have : m = 1 ∨ m = 2 ∨ m = 3 ∨ m = 4 := by omega
  rcases this with rfl | rfl | rfl | rfl <;> decide +kernel

set_option maxHeartbeats 1000000 in
theorem walk (a : Option Addr) (n c : Nat) (w : World) (hc0 : Hid (CodeV w w.heap.size a n)) (hn0 : n ≤ maxLen) :
    Calls Try.prog 3 #[.slice a n c] w fun e w' => e = .returned (.bool true) ∧ Below w.heap.size w w' := by
  by_cases hbig : 1048576 < n
  · have hb := laws_big_any a n c w
    rw [decide_eq_true hbig] at hb
    go_enter Try.func3, Try.ntmps3
    go_wp2_with fail
    refine hb.mono ?_
    rintro e w1 ⟨rfl, m1, rfl⟩
    go_wp2_with fail
    go_ret
    exact ⟨rfl, (by repeat (first | with_reducible exact Below.refl _ _ | with_reducible assumption | with_reducible refine below_drewN ?_ _ | with_reducible refine Below.drew ?_ | (with_reducible refine Below.alloc ?_ ?_ _; rotate_left; · first | (simp; done) | (simp; omega) | exact Below.size (by assumption) | (have hsz := Below.size (by assumption : Below _ _ _); simp at hsz ⊢; omega)) | (with_reducible refine Below.setCell ?_ ?_ _; rotate_left; · first | (simp; done) | (simp; omega))))⟩
  have hb := laws_big_any a n c w
  rw [decide_eq_false hbig] at hb
  have hn : n ≤ 1048576 := by omega
  have HC := Lib.hid (fun (W : World) (hb : Below w.heap.size w W) => (hc0.out.below hb).mono hb.size)
  clear hc0 hn0 hbig
  go_enter Try.func3, Try.ntmps3
  go_wp2_with fail
  refine hb.mono ?_
  rintro e w1 ⟨rfl, m1, rfl⟩
  have hB1 : Below w.heap.size w (w.drewN m1) := (by repeat (first | with_reducible exact Below.refl _ _ | with_reducible assumption | with_reducible refine below_drewN ?_ _ | with_reducible refine Below.drew ?_ | (with_reducible refine Below.alloc ?_ ?_ _; rotate_left; · first | (simp; done) | (simp; omega) | exact Below.size (by assumption) | (have hsz := Below.size (by assumption : Below _ _ _); simp at hsz ⊢; omega)) | (with_reducible refine Below.setCell ?_ ?_ _; rotate_left; · first | (simp; done) | (simp; omega))))
  clear hb
  go_wp2_with fail
  refine (spec_DrawIsSorter_any a n c _ hn (HC.out _ hB1)).mono ?_
  rintro e w2 ⟨N, ws, g1, c1, hN, hws, rfl, ho2, hb2⟩
  have hB2 := hB1.trans (hb2.mono hB1.size)
  have ho2 := ho2.mono hB1.size
  obtain ⟨l1, hl1⟩ : ∃ l, ws.length = l := ⟨_, rfl⟩
  rw [hl1]
  have Hl1 := Lib.hid hl1
  have hl15 : l1 ≤ 12 := by omega
  have kI := fun (W : World) (hg : g1 < W.heap.size) (hc : Cells W g1 0 ws) => show Calls Try.prog 6 #[.int .i64 N, (Value.slice (some ⟨g1, 0, none⟩) l1 c1)] W (Gives W (.bool (sorterB N ws))) from impl_IsSorter_any N g1 0 l1 c1 ws W Hl1.out (by rw [Hl1.out]; omega) hg hc
  have kS := fun (W : World) (hg : g1 < W.heap.size) (hc : Cells W g1 0 ws) => show Calls Try.prog 9 #[.int .i64 N, (Value.slice (some ⟨g1, 0, none⟩) l1 c1)] W (Gives W (.bool (sorterB N ws))) from spec_IsSorter_any N g1 0 l1 c1 ws W (by omega) Hl1.out (by rw [Hl1.out]; omega) hg hc
  have kA := fun (W : World) (hg : g1 < W.heap.size) (hc : Cells W g1 0 ws) => impl_FirstUnsorted_any N g1 0 l1 c1 ws W Hl1.out (by rw [Hl1.out]; omega) hg hc
  have kB := fun (W : World) (hg : g1 < W.heap.size) (hc : Cells W g1 0 ws) => spec_FirstUnsorted_any N g1 0 l1 c1 ws W (by omega) Hl1.out (by rw [Hl1.out]; omega) hg hc
  have hSF : sorterB N ws = true → (firstBad N ws).isSome = false := fun h => by unfold sorterB at h; rw [Bool.and_eq_true] at h; simpa using h.2
  have hcov : 1 < N → N ≤ 5 → sorterB N ws = coversB (chainA (N - 1).toNat) ws := fun h1 h2 => by
    obtain ⟨M, rfl⟩ : ∃ M : Nat, N = M := ⟨N.toNat, by omega⟩
    have e : ((M : Int) - 1).toNat = M - 1 := by omega
    rw [e]
    exact sorter_covers (by omega) (by omega) (by rw [Hl1.out]; omega) fun x hx => by have := hws.2 x hx; omega
  have hsort : sorterB N ws = true → ∀ l : List Int, (l.length : Int) = N → sortedB (sortBy l ws) = true := fun h l hl => by
    subst hl
    exact sorter_sorts h rfl
  have hfu : (firstUnsorted N ws).length ≤ 5 := by
    unfold firstUnsorted
    cases hf : firstBad N ws with
    | none => simp
    | some k =>
      have hnet : net N ws = true := by
        unfold firstBad at hf
        split at hf
        · assumption
        · cases hf
      have := (of_decide_eq_true hnet).2.1
      simp only [bitsOf_length]
      omega
  generalize sorterB N ws = S at *
  generalize (firstBad N ws).isSome = F at *
  generalize firstUnsorted N ws = fu at *
  obtain ⟨lf, hlf⟩ : ∃ l, fu.length = l := ⟨_, rfl⟩
  rw [hlf] at hfu
  have Hlf := Lib.hid hlf
  have KI := Lib.hid kI; have KS := Lib.hid kS; have KA := Lib.hid kA; have KB := Lib.hid kB; have HSF := Lib.hid hSF; have Hcov := Lib.hid hcov; have Hsort := Lib.hid hsort
  clear hl1 hb2 hB1 kI kS kA kB hSF hcov hsort hlf
  go_wp2_with fail
  refine (KI.out w2 ho2.lt ho2.cells).mono ?_
  rintro e w3 ⟨rfl, hb3⟩
  have hB3 := hB2.trans (hb3.mono hB2.size)
  have ho3 := ho2.below hb3 ho2.lt
  clear hb3 hB2 ho2
  go_wp2_with fail
  refine (KA.out w3 ho3.lt ho3.cells).mono ?_
  rintro e w4 ⟨gA, cA, rfl, hoA, hb4⟩
  rw [Hlf.out]
  have hB4 := hB3.trans (hb4.mono hB3.size)
  have ho4 := ho3.below hb4 ho3.lt
  clear hb4 ho3
  go_wp2_with fail
  refine (KB.out w4 ho4.lt ho4.cells).mono ?_
  rintro e w5 ⟨gB, cB, rfl, hoB, hb5⟩
  rw [Hlf.out]
  have hB5 := hB4.trans (hb5.mono hB4.size)
  have ho5 := ho4.below hb5 ho4.lt
  have hoA5 := hoA.below hb5 hoA.lt
  clear hb5 ho4 hoA hB3 hB4
  go_upto_region 7 with fail
  go_cut [81] from 60 to 81 (fun bv wx => bv = .bool false ∧ Below w.heap.size w wx ∧ Own wx w.heap.size g1 c1 ws)
  case first =>
    cases S with
    | true =>
      have hF := HSF.out rfl
      subst hF
      go_wp2_with fail
      refine (KS.out w5 ho5.lt ho5.cells).mono ?_
      rintro e w6 ⟨rfl, hb6⟩
      have ho6 := ho5.below hb6 ho5.lt
      have hB6 := hB5.trans (hb6.mono hB5.size)
      have hoA6 := hoA5.below hb6 hoA5.lt
      have hoB6 := hoB.below hb6 hoB.lt
      clear hb6 ho5 hB5 hoA5 hoB
      go_wp2_with fail
      refine (laws_sameInts_same gA 0 lf cA gB 0 lf cB fu w6 Hlf.out Hlf.out (by rw [Hlf.out]; omega) hoA6.cells hoB6.cells).mono ?_
      rintro e w7 ⟨rfl, m7, rfl⟩
      go_wp2_with fail
      go_meet
      exact ⟨rfl, (by repeat (first | with_reducible exact Below.refl _ _ | with_reducible assumption | with_reducible refine below_drewN ?_ _ | with_reducible refine Below.drew ?_ | (with_reducible refine Below.alloc ?_ ?_ _; rotate_left; · first | (simp; done) | (simp; omega) | exact Below.size (by assumption) | (have hsz := Below.size (by assumption : Below _ _ _); simp at hsz ⊢; omega)) | (with_reducible refine Below.setCell ?_ ?_ _; rotate_left; · first | (simp; done) | (simp; omega)))), ho6.drewN m7⟩
    | false =>
      have d1 : (F != F) = false := by simp
      go_wp2_with fail
      refine (KS.out w5 ho5.lt ho5.cells).mono ?_
      rintro e w6 ⟨rfl, hb6⟩
      have ho6 := ho5.below hb6 ho5.lt
      have hB6 := hB5.trans (hb6.mono hB5.size)
      have hoA6 := hoA5.below hb6 hoA5.lt
      have hoB6 := hoB.below hb6 hoB.lt
      clear hb6 ho5 hB5 hoA5 hoB
      go_wp2_with fail
      refine (laws_sameInts_same gA 0 lf cA gB 0 lf cB fu w6 Hlf.out Hlf.out (by rw [Hlf.out]; omega) hoA6.cells hoB6.cells).mono ?_
      rintro e w7 ⟨rfl, m7, rfl⟩
      go_wp2_with fail
      go_meet
      exact ⟨rfl, (by repeat (first | with_reducible exact Below.refl _ _ | with_reducible assumption | with_reducible refine below_drewN ?_ _ | with_reducible refine Below.drew ?_ | (with_reducible refine Below.alloc ?_ ?_ _; rotate_left; · first | (simp; done) | (simp; omega) | exact Below.size (by assumption) | (have hsz := Below.size (by assumption : Below _ _ _); simp at hsz ⊢; omega)) | (with_reducible refine Below.setCell ?_ ?_ _; rotate_left; · first | (simp; done) | (simp; omega)))), ho6.drewN m7⟩
  case rest =>
    obtain ⟨rfl, hB6, ho6⟩ := hcut
    clear hB5 ho5 hoA5 hoB KI KS KA KB HSF Hlf
    go_upto_region 9 with fail
    go_cut [10] from 82 to 87 (fun fv wx => ∃ b : Bool, fv = .bool b ∧ decide (1 < N ∧ N ≤ 5) = b ∧ Below w.heap.size w wx ∧ Own wx w.heap.size g1 c1 ws)
    case first =>
      by_cases h1 : 1 < N
      · by_cases h2 : N ≤ 5
        · have h3 : decide (1 < N ∧ N ≤ 5) = true := decide_eq_true ⟨h1, h2⟩
          go_wp2_with fail
          go_meet
          exact ⟨_, rfl, h3, hB6, ho6⟩
        · have h3 : decide (1 < N ∧ N ≤ 5) = false := decide_eq_false fun h => h2 h.2
          go_wp2_with fail
          go_meet
          exact ⟨_, rfl, h3, hB6, ho6⟩
      · have h3 : decide (1 < N ∧ N ≤ 5) = false := decide_eq_false fun h => h1 h.1
        go_wp2_with fail
        go_meet
        exact ⟨_, rfl, h3, hB6, ho6⟩
    case rest =>
      clear hB6 ho6
      obtain ⟨Fi, rfl, hFi, hB7, ho7⟩ := hcut
      have HFi := Lib.hid hFi
      clear hFi
      have eN : IntKind.i64.wrap (N - 1) = N - 1 := IntWalk.i64_in _ (by omega)
      go_wp2_with fail
      go_loopw [10, 11] (fun fv iv wr => ∃ k : Nat, k ≤ l1 ∧ iv = .int .i64 k ∧ fv = .bool Fi ∧ ∃ q, wr = wc.drewN q) (fun _ iv _ => l1 - (intOf iv).toNat)
      case atStart => exact ⟨0, Nat.zero_le _, rfl, rfl, (by first | exact ⟨_, rfl⟩ | exact ⟨0, rfl⟩ | exact still2 _ _ _ | exact still3 _ _ _ _)⟩
      case round =>
        obtain ⟨k, hk, rfl, rfl, q, rfl⟩ := hrel
        by_cases hlt : k < l1
        · have hkw : k < ws.length := by rw [Hl1.out]; exact hlt
          have q1 := ho7.cell k hkw
          have hx := hws.2 (ws.getD k 0) (by simp [List.getD, hkw])
          generalize ws.getD k 0 = x at *
          cases Fi with
          | true =>
            have h12 := of_decide_eq_true HFi.out
            have hx2 : x < N - 1 := by omega
            have d1 : decide (x < N - 1) = true := decide_eq_true hx2
            go_wp2_with fail
            go_roundw
            case rel => exact ⟨k + 1, by omega, by go_num, rfl, (by first | exact ⟨_, rfl⟩ | exact ⟨0, rfl⟩ | exact still2 _ _ _ | exact still3 _ _ _ _)⟩
            case measure => simp [intOf]; omega
          | false =>
            go_wp2_with fail
            go_roundw
            case rel => exact ⟨k + 1, by omega, by go_num, rfl, (by first | exact ⟨_, rfl⟩ | exact ⟨0, rfl⟩ | exact still2 _ _ _ | exact still3 _ _ _ _)⟩
            case measure => simp [intOf]; omega
        · obtain rfl : k = l1 := by omega
          have hB8 : Below w.heap.size w (wc.drewN q) := (by repeat (first | with_reducible exact Below.refl _ _ | with_reducible assumption | with_reducible refine below_drewN ?_ _ | with_reducible refine Below.drew ?_ | (with_reducible refine Below.alloc ?_ ?_ _; rotate_left; · first | (simp; done) | (simp; omega) | exact Below.size (by assumption) | (have hsz := Below.size (by assumption : Below _ _ _); simp at hsz ⊢; omega)) | (with_reducible refine Below.setCell ?_ ?_ _; rotate_left; · first | (simp; done) | (simp; omega))))
          have ho8 := ho7.drewN q
          generalize wc.drewN q = w8 at *
          clear hB7 ho7
          go_upto_if 104 with fail
          go_cut [2, 12, 13, 14, 15, 16, 17] from 105 to 154 (fun rv _ _ _ _ _ _ wx => rv = .bool false ∧ Below w.heap.size w wx)
          case first =>
            cases Fi with
            | false =>
              go_wp2_with fail
              go_meet
              exact ⟨rfl, hB8⟩
            | true =>
              have h12 := of_decide_eq_true HFi.out
              have hcv := Hcov.out h12.1 h12.2
              obtain ⟨M, rfl⟩ : ∃ M : Nat, N = (M : Int) + 2 := ⟨(N - 2).toNat, by omega⟩
              have hM : M ≤ 3 := by omega
              have eM : IntKind.i64.wrap ((M : Int) + 2 - 2) = (M : Int) := by rw [IntWalk.i64_in _ (by omega)]; omega
              have kT := Lib.hid (fun (W : World) => spec_TypeCartan_A (M + 1) W (by omega) (by omega))
              have hld : ([.string ⟨#[65, 49]⟩, .string ⟨#[65, 50]⟩, .string ⟨#[65, 51]⟩, .string ⟨#[65, 52]⟩] : List Value)[M]? = some (strA (M + 1)) := by
                have : M = 0 ∨ M = 1 ∨ M = 2 ∨ M = 3 := by omega
                rcases this with rfl | rfl | rfl | rfl <;> rfl
              have hWd : WordOk (chainA (M + 1)) ws := ⟨chainA_isC (by omega) (by omega), by rw [Hl1.out]; omega, fun j hj => by
                have := hws.2 (ws.getD j 0) (by simp [List.getD, hj])
                rw [chainA_length]; omega⟩
              have e1 : ((M : Int) + 2 - 1).toNat = M + 1 := by omega
              rw [e1] at hcv
              have hcl := chainA_length (M + 1)
              have kC := fun (W : World) (gT cT : Nat) (hg : gT < W.heap.size) (hr : Rows2 W gT 0 (chainA (M + 1))) (hg1 : g1 < W.heap.size) (hc : Cells W g1 0 ws) => impl_CoversAll_ok gT 0 (M + 1) cT g1 0 k c1 (chainA (M + 1)) ws W hcl Hl1.out hWd hg hg1 hr hc
              rw [← hcv] at kC
              have KC := Lib.hid kC
              have bN : (0 : Int) ≤ (M : Int) + 2 - 2 := by omega
              clear kC hcv hWd hcl Hcov
              go_wp2_with fail
              refine (kT.out _).mono ?_
              rintro e w9 ⟨gT, cT, rsT, rfl, hcT, hoT, hbT⟩
              have bA : Below w8.heap.size w8 (w8.alloc (.cells #[.string ⟨#[65, 49]⟩, .string ⟨#[65, 50]⟩, .string ⟨#[65, 51]⟩, .string ⟨#[65, 52]⟩] 9)) := (Below.refl _ _).alloc (Nat.le_refl _) _
              have hb9 : Below w8.heap.size w8 w9 := bA.trans (hbT.mono bA.size)
              have hB9 := hB8.trans (hb9.mono hB8.size)
              have ho9 := ho8.below hb9 ho8.lt
              have hrT : Rows2 w9 gT 0 (chainA (M + 1)) := by rw [← hcT]; exact hoT.rows2
              have hgT := hoT.lt
              clear hbT bA hb9 hB8 ho8 hld hcT hoT kT
              go_wp2_with fail
              refine (KC.out w9 gT cT hgT hrT ho9.lt ho9.cells).mono ?_
              rintro e w10 ⟨rfl, hb10⟩
              have hB10 := hB9.trans (hb10.mono hB9.size)
              have ho10 := ho9.below hb10 ho9.lt
              clear hB9 ho9 hrT hgT KC hb10
              have dS : (S != S) = false := by simp
              go_wp2_with fail
              have hE0 : Own (w10.alloc (.cells #[] 3)) w.heap.size w10.heap.size 0 [] := Own.empty hB10.size
              have bX := (Below.refl w10.heap.size w10).alloc (Nat.le_refl _) (.cells #[] 3)
              have hB11 := hB10.trans (bX.mono hB10.size)
              have ho11 := ho10.below bX ho10.lt
              have hne11 : g1 ≠ w10.heap.size := by have := ho10.lt; omega
              clear bX hB10 ho10
              go_loopw [14, 15] (fun lv iv wr => ∃ (j g3 c3 : Nat) (xs : List Int), j ≤ M + 2 ∧ iv = .int .i64 j ∧ lv = (Value.slice (some ⟨g3, 0, none⟩) j c3) ∧ Hid (xs.length = j) ∧ g1 ≠ g3 ∧ Own wr w.heap.size g3 c3 xs ∧ Own wr w.heap.size g1 c1 ws ∧ Below w.heap.size w wr) (fun _ iv _ => M + 2 - (intOf iv).toNat)
              case atStart => exact ⟨0, _, 0, [], Nat.zero_le _, rfl, rfl, rfl, hne11, hE0, ho11, hB11⟩
              case round =>
                clear hE0 ho11 hB11 hne11
                obtain ⟨j, g3, c3, xs, hj, rfl, rfl, hxl, hne, hoX, hoW, hB⟩ := hrel
                by_cases hlt2 : j < M + 2
                · have hltI : (j : Int) < (M : Int) + 2 := by omega
                  have e10 : IntKind.i64.wrap (10 + (j : Int)) = 10 + (j : Int) := IntWalk.i64_in _ (by omega)
                  have kAt : Calls Try.prog 13 #[.slice a n c, .int .i64 (10 + (j : Int))] wr fun e w' => ∃ x : Int, (0 ≤ x ∧ x < 256) ∧ e = .returned (.int .i64 x) ∧ ∃ q, w' = wr.drewN q := by
                    rw [show (10 : Int) + (j : Int) = ((10 + j : Nat) : Int) by omega]
                    exact laws_at_any a n c (10 + j) wr.heap.size wr hn (by omega) (HC.out _ hB)
                  have KAt := Lib.hid kAt
                  clear kAt
                  go_wp2_with fail
                  refine KAt.out.mono ?_
                  rintro e w12 ⟨x, hx, rfl, q12, rfl⟩
                  have hoX2 := hoX.drewN q12
                  have hoW2 := hoW.drewN q12
                  have hB2 : Below w.heap.size w (wr.drewN q12) := below_drewN hB q12
                  generalize wr.drewN q12 = w12 at *
                  clear hoX hoW hB KAt
                  go_wp2_with (at_builtin; refine wpList_append_int_n (w := w12) rfl _ _ rfl w.heap.size g3 c3 j xs (x % 7) hxl.out hoX2 rfl rfl (by omega) ?_)
                  intro g4 c4 w13 ho13 hg13 hor13
                  have hB13 := hB2.grown hg13 hB2.size (by intro t ht; cases ht; exact hoX2.base)
                  have hoW13 := hoW2.grown hg13 (by intro e; cases e; exact hne rfl)
                  have hne13 : g1 ≠ g4 := by
                    have := hoW2.lt
                    rcases hor13 with rfl | q
                    · exact hne
                    · omega
                  have hl13 : Hid ((xs ++ [x % 7]).length = j + 1) := Lib.hid (by rw [List.length_append, hxl.out]; rfl)
                  clear hoX2 hoW2 hB2 hg13 hor13
                  go_wp2_with fail
                  go_roundw
                  case rel => exact ⟨j + 1, g4, c4, _, by omega, by go_num, rfl, hl13.out, hne13, ho13, hoW13, hB13⟩
                  case measure => simp [intOf]; omega
                · obtain rfl : j = M + 2 := by omega
                  have hso := fun h => Hsort.out h xs (by rw [hxl.out]; omega)
                  have kB := Lib.hid (impl_SortBy_any g3 0 (M + 2) c3 g1 0 k c1 xs ws wr hxl.out (by rw [hxl.out]; omega) hoX.lt hoX.cells Hl1.out (by rw [Hl1.out]; omega) hoW.lt hoW.cells)
                  have hyl : (sortBy xs ws).length = M + 2 := by rw [sortBy_length]; exact hxl.out
                  generalize sortBy xs ws = ys at *
                  have Hyl := Lib.hid hyl; have Hso := Lib.hid hso
                  clear hoX hoW hyl hso Hsort
                  go_wp2_with fail
                  refine kB.out.mono ?_
                  rintro e w14 ⟨gy, cy, rfl, hoY, hb14⟩
                  rw [Hyl.out]
                  have hB14 := hB.trans (hb14.mono hB.size)
                  clear hB hb14 kB
                  go_wp2_with fail
                  go_loopw [2, 17] (fun rv iv wr => ∃ t : Nat, rv = .bool false ∧ 1 ≤ t ∧ t ≤ M + 2 ∧ iv = .int .i64 t ∧ ∃ q, wr = w14.drewN q) (fun _ iv _ => M + 2 - (intOf iv).toNat)
                  case atStart => exact ⟨1, rfl, Nat.le_refl _, by omega, rfl, (by first | exact ⟨_, rfl⟩ | exact ⟨0, rfl⟩ | exact still2 _ _ _ | exact still3 _ _ _ _)⟩
                  case round =>
                    obtain ⟨t, rfl, ht1, ht2, rfl, q, rfl⟩ := hrel
                    by_cases hlt3 : t < M + 2
                    · have hltI3 : (t : Int) < (M : Int) + 2 := by omega
                      have q1 := hoY.cell t (by rw [Hyl.out]; exact hlt3)
                      have q0 := hoY.cell (t - 1) (by rw [Hyl.out]; omega)
                      have f1 : IntKind.i64.wrap ((t : Int) - 1) = (t : Int) - 1 := IntWalk.i64_in _ (by omega)
                      have f2 : ((t : Int) - 1).toNat = t - 1 := by omega
                      have f3 : (0 : Int) ≤ (t : Int) - 1 := by omega
                      have f4 : (t : Int) - 1 < (M : Int) + 2 := by omega
                      have f0 : (0 : Int) ≤ (t : Int) := by omega
                      cases S with
                      | true =>
                        have hle := (sortedB_iff ys).1 (Hso.out rfl) (t - 1) (by rw [Hyl.out]; omega)
                        rw [show t - 1 + 1 = t by omega] at hle
                        generalize ys.getD t 0 = u1 at *
                        generalize ys.getD (t - 1) 0 = u0 at *
                        have d1 : decide (u1 < u0) = false := decide_eq_false (by omega)
                        clear Hso
                        go_wp2_with fail
                        go_quiet (fail)
                        go_wp2_with fail
                        go_roundw
                        case rel => exact ⟨t + 1, rfl, by omega, by omega, by go_num, (by first | exact ⟨_, rfl⟩ | exact ⟨0, rfl⟩ | exact still2 _ _ _ | exact still3 _ _ _ _)⟩
                        case measure => simp [intOf]; omega
                      | false =>
                        clear Hso
                        go_wp2_with fail
                        go_quiet (fail)
                        go_wp2_with fail
                        go_roundw
                        case rel => exact ⟨t + 1, rfl, by omega, by omega, by go_num, (by first | exact ⟨_, rfl⟩ | exact ⟨0, rfl⟩ | exact still2 _ _ _ | exact still3 _ _ _ _)⟩
                        case measure => simp [intOf]; omega
                    · obtain rfl : t = M + 2 := by omega
                      go_wp2_with fail
                      go_meet
                      exact ⟨rfl, below_drewN hB14 q⟩
          case rest =>
            obtain ⟨rfl, hB9⟩ := hcut
            clear hB8 ho8 HFi Hsort Hcov hws
            go_wp2_with fail
            refine (spec_DrawSwapWord_any a n c _ hn (HC.out _ hB9)).mono ?_
            rintro e x1 ⟨p, gp, cp, hp, rfl, hop, hbp⟩
            have hX1 := hB9.trans (hbp.mono hB9.size)
            have hop := hop.mono hB9.size
            obtain ⟨lp, hlp⟩ : ∃ l, p.length = l := ⟨_, rfl⟩
            rw [hlp]
            have hp5 : lp ≤ 5 := by omega
            have kI := fun (W : World) (ho : Own W w.heap.size gp cp p) => impl_SwapWord_any gp 0 lp cp p W hlp (by omega) ho.lt ho.cells
            have kS := fun (W : World) (ho : Own W w.heap.size gp cp p) => spec_SwapWord_any gp 0 lp cp p W hlp (by omega) (by have := ho.capLe; omega) ho.lt ho.cells
            have hback := fun h => swap_back (p := p) h
            have hno : permB p = false → swapWord p = [] := fun h => by unfold swapWord; rw [h]; rfl
            have hul : (swapWord p).length ≤ 15 := by
              cases hb : permB p with
              | false => rw [hno hb]; simp
              | true => exact (of_decide_eq_true (hback hb).1).2.2.1
            rw [hlp] at hback
            generalize swapWord p = u at *
            generalize permB p = PB at *
            obtain ⟨lu, hlu⟩ : ∃ l, u.length = l := ⟨_, rfl⟩
            rw [hlu] at hul hback
            have Hlp := Lib.hid hlp; have Hlu := Lib.hid hlu; have KI := Lib.hid kI; have KS := Lib.hid kS; have Hback := Lib.hid hback
            clear hB9 hbp hlp hlu kI kS hback hno hp
            go_wp2_with fail
            refine (KI.out x1 hop).mono ?_
            rintro e x2 ⟨gu, cu, rfl, hou, hb2⟩
            rw [Hlu.out]
            have hX2 := hX1.trans (hb2.mono hX1.size)
            have hop2 := hop.below hb2 hop.lt
            have hou := hou.mono hX1.size
            clear hX1 hop hb2
            go_wp2_with fail
            refine (KS.out x2 hop2).mono ?_
            rintro e x3 ⟨gv, cv, rfl, hov, hb3⟩
            rw [Hlu.out]
            have hX3 := hX2.trans (hb3.mono hX2.size)
            have hop3 := hop2.below hb3 hop2.lt
            have hou3 := hou.below hb3 hou.lt
            clear hX2 hop2 hou hb3
            have dP : (PB != PB) = false := by simp
            go_wp2_with fail
            refine (laws_sameInts_same gu 0 lu cu gv 0 lu cv u x3 Hlu.out Hlu.out (by rw [Hlu.out]; omega) hou3.cells hov.cells).mono ?_
            rintro e x4 ⟨rfl, m4, rfl⟩
            have hX4 : Below w.heap.size w (x3.drewN m4) := below_drewN hX3 m4
            have hop4 := hop3.drewN m4
            have hou4 := hou3.drewN m4
            generalize x3.drewN m4 = x4 at *
            clear hX3 hop3 hou3 hov KI KS
            go_upto_if 176 with fail
            go_cut [2, 23, 24, 25, 26] from 177 to 215 (fun rv _ _ _ _ wx => rv = .bool false ∧ Below w.heap.size w wx)
            case first =>
              cases PB with
              | false =>
                go_wp2_with fail
                go_meet
                exact ⟨rfl, hX4⟩
              | true =>
                obtain ⟨b1, b2, b3, b4⟩ := Hback.out rfl
                have hlp1 : 1 ≤ lp := (of_decide_eq_true b1).1 |> fun h => by omega
                have kP := impl_PermutationOf_any (lp : Int) gu 0 lu cu u x4 Hlu.out (by rw [Hlu.out]; omega) hou4.lt hou4.cells
                rw [b1, b2] at kP
                have KP := Lib.hid kP
                have B3 := Lib.hid b3; have B4 := Lib.hid b4
                clear kP b1 b2 b3 b4 Hback
                go_wp2_with fail
                refine KP.out.mono ?_
                rintro e x5 ⟨gq, cq, rfl, hoq, hb5⟩
                rw [Hlp.out]
                have hX5 := hX4.trans (hb5.mono hX4.size)
                have hop5 := hop4.below hb5 hop4.lt
                have hou5 := hou4.below hb5 hou4.lt
                clear hX4 hop4 hou4 hb5 KP
                go_wp2_with fail
                refine (laws_sameInts_same gq 0 lp cq gp 0 lp cp p x5 Hlp.out Hlp.out (by rw [Hlp.out]; omega) hoq.cells hop5.cells).mono ?_
                rintro e x6 ⟨rfl, m6, rfl⟩
                have hX6 : Below w.heap.size w (x5.drewN m6) := below_drewN hX5 m6
                have hop6 := hop5.drewN m6
                have hou6 := hou5.drewN m6
                generalize x5.drewN m6 = x6 at *
                clear hX5 hop5 hou5 hoq
                have kN := impl_CountInversions_A gp 0 lp cp p x6 Hlp.out (by rw [Hlp.out]; omega) (by have := hop6.capLe; rw [Hlp.out] at this; exact this) hop6.cells
                have ei : invA p p.length = lu := by rw [Hlp.out]; exact B3.out.symm
                rw [ei] at kN
                have KN := Lib.hid kN
                clear kN ei
                go_wp2_with fail
                refine KN.out.mono ?_
                rintro e x7 ⟨rfl, m7, rfl⟩
                have hX7 : Below w.heap.size w (x6.drewN m7) := below_drewN hX6 m7
                have hop7 := hop6.drewN m7
                have hou7 := hou6.drewN m7
                generalize x6.drewN m7 = x7 at *
                clear hX6 hop6 hou6 KN
                by_cases h1 : 1 < lp
                · obtain ⟨M, rfl⟩ : ∃ M : Nat, lp = M + 2 := ⟨lp - 2, by omega⟩
                  have hM : M ≤ 3 := by omega
                  have eM : IntKind.i64.wrap ((M : Int) + 2 - 2) = (M : Int) := by rw [IntWalk.i64_in _ (by omega)]; omega
                  have eM2 : ((M + 2 : Nat) : Int) = (M : Int) + 2 := by omega
                  have hlt1 : (1 : Int) < (M : Int) + 2 := by omega
                  have kT := Lib.hid (fun (W : World) => spec_TypeCartan_A (M + 1) W (by omega) (by omega))
                  have hld : ([.string ⟨#[65, 49]⟩, .string ⟨#[65, 50]⟩, .string ⟨#[65, 51]⟩, .string ⟨#[65, 52]⟩] : List Value)[M]? = some (strA (M + 1)) := by
                    have : M = 0 ∨ M = 1 ∨ M = 2 ∨ M = 3 := by omega
                    rcases this with rfl | rfl | rfl | rfl <;> rfl
                  have hrd : redW (chainA (M + 1)) u = true := B4.out h1
                  have hcl := chainA_length (M + 1)
                  have hC := chainA_isC (m := M + 1) (by omega) (by omega)
                  have kR := fun (W : World) (gT cT : Nat) (hg : gT < W.heap.size) (hr : Rows2 W gT 0 (chainA (M + 1))) (ho : Own W w.heap.size gu cu u) => impl_IsReduced_any gT 0 (M + 1) cT gu 0 lu cu (chainA (M + 1)) u W hcl Hlu.out (by omega) (fun j hj => by have := hC.2.2.1 j hj; omega) (by rw [Hlu.out]; omega) hg ho.lt hr ho.cells
                  rw [hrd] at kR
                  have KR := Lib.hid kR
                  have bN : (0 : Int) ≤ (M : Int) + 2 - 2 := by omega
                  clear kR hrd hcl hC
                  go_wp2_with fail
                  refine (kT.out _).mono ?_
                  rintro e x9 ⟨gT, cT, rsT, rfl, hcT, hoT, hbT⟩
                  have bA : Below x7.heap.size x7 (x7.alloc (.cells #[.string ⟨#[65, 49]⟩, .string ⟨#[65, 50]⟩, .string ⟨#[65, 51]⟩, .string ⟨#[65, 52]⟩] 9)) := (Below.refl _ _).alloc (Nat.le_refl _) _
                  have hb9 : Below x7.heap.size x7 x9 := bA.trans (hbT.mono bA.size)
                  have hX9 := hX7.trans (hb9.mono hX7.size)
                  have hou9 := hou7.below hb9 hou7.lt
                  have hrT : Rows2 x9 gT 0 (chainA (M + 1)) := by rw [← hcT]; exact hoT.rows2
                  have hgT := hoT.lt
                  clear hbT bA hb9 hX7 hop7 hou7 hld hcT hoT kT
                  go_wp2_with fail
                  refine (KR.out x9 gT cT hgT hrT hou9).mono ?_
                  rintro e x10 ⟨rfl, hb10⟩
                  have hX10 := hX9.trans (hb10.mono hX9.size)
                  clear hX9 hou9 hb10 hrT KR
                  go_wp2_with fail
                  go_meet
                  exact ⟨rfl, hX10⟩
                · have hlt1 : ¬ (1 : Int) < (lp : Int) := by omega
                  go_wp2_with fail
                  go_meet
                  exact ⟨rfl, hX7⟩
            case rest =>
              clear hX4 hop4 hou4
              obtain ⟨rfl, hX5⟩ := hcut
              go_wp2_with fail
              refine (spec_DrawSortStep_any a n c _ hn (HC.out _ hX5)).mono ?_
              rintro e y1 ⟨xa, ia, ga, ca, hla, rfl, hoa, hb1⟩
              have hY1 := hX5.trans (hb1.mono hX5.size)
              have hoa := hoa.mono hX5.size
              obtain ⟨la, hla'⟩ : ∃ l, xa.length = l := ⟨_, rfl⟩
              rw [hla']
              rw [hla'] at hla
              have Hla := Lib.hid hla'
              clear hla' hb1 hX5
              go_wp2_with fail
              refine (spec_DrawSortBy_any a n c _ hn (HC.out _ hY1)).mono ?_
              rintro e y2 ⟨xb, wb, gb, cb, gd, cd, hlb, hld, rfl, hob, hod, hb2⟩
              have hY2 := hY1.trans (hb2.mono hY1.size)
              have hoa2 := hoa.below hb2 hoa.lt
              have hob := hob.mono hY1.size
              have hod := hod.mono hY1.size
              obtain ⟨lb, hlb'⟩ : ∃ l, xb.length = l := ⟨_, rfl⟩
              obtain ⟨ld, hld'⟩ : ∃ l, wb.length = l := ⟨_, rfl⟩
              rw [hlb', hld']
              rw [hlb'] at hlb
              rw [hld'] at hld
              have Hlb := Lib.hid hlb'; have Hld := Lib.hid hld'
              clear hlb' hld' hb2 hY1 hoa
              go_wp2_with fail
              refine (spec_DrawPermutationOf_any a n c _ hn (HC.out _ hY2)).mono ?_
              rintro e y3 ⟨N3, we, ge, ce, hN3, hwe, rfl, hoe, hb3⟩
              have hY3 := hY2.trans (hb3.mono hY2.size)
              have hoa3 := hoa2.below hb3 hoa2.lt
              have hob3 := hob.below hb3 hob.lt
              have hod3 := hod.below hb3 hod.lt
              have hoe := hoe.mono hY2.size
              obtain ⟨le, hle'⟩ : ∃ l, we.length = l := ⟨_, rfl⟩
              rw [hle']
              have hle12 : le ≤ 12 := by omega
              have Hle := Lib.hid hle'
              clear hle' hb3 hY2 hoa2 hob hod hwe
              have kP1 := Lib.hid (fun (W : World) (ho : Own W w.heap.size ge ce we) => impl_PermutationOf_any N3 ge 0 le ce we W Hle.out (by rw [Hle.out]; omega) ho.lt ho.cells)
              have kP2 := Lib.hid (fun (W : World) (ho : Own W w.heap.size ge ce we) => spec_PermutationOf_any N3 ge 0 le ce we W (by omega) Hle.out (by rw [Hle.out]; omega) ho.lt ho.cells)
              have hpl : (permOf N3 we).length ≤ 6 := by
                unfold permOf
                split
                · rw [permFrom_length]; omega
                · simp
              generalize permOf N3 we = pf at *
              generalize net N3 we = nf at *
              obtain ⟨lf2, hlf2⟩ : ∃ l, pf.length = l := ⟨_, rfl⟩
              rw [hlf2] at hpl
              have Hlf2 := Lib.hid hlf2
              clear hlf2
              go_wp2_with fail
              refine (kP1.out y3 hoe).mono ?_
              rintro e y4 ⟨gf, cf, rfl, hof, hb4⟩
              rw [Hlf2.out]
              have hY4 := hY3.trans (hb4.mono hY3.size)
              have hoa4 := hoa3.below hb4 hoa3.lt
              have hob4 := hob3.below hb4 hob3.lt
              have hod4 := hod3.below hb4 hod3.lt
              have hoe4 := hoe.below hb4 hoe.lt
              have hof := hof.mono hY3.size
              clear hb4 hY3 hoa3 hob3 hod3 hoe kP1
              go_wp2_with fail
              refine (kP2.out y4 hoe4).mono ?_
              rintro e y5 ⟨gg, cg, rfl, hog, hb5⟩
              rw [Hlf2.out]
              have hY5 := hY4.trans (hb5.mono hY4.size)
              have hoa5 := hoa4.below hb5 hoa4.lt
              have hob5 := hob4.below hb5 hob4.lt
              have hod5 := hod4.below hb5 hod4.lt
              have hof5 := hof.below hb5 hof.lt
              have hog := hog.mono hY4.size
              clear hb5 hY4 hoa4 hob4 hod4 hoe4 hof kP2
              go_wp2_with fail
              refine (spec_DrawCountInversions_any a n c _ hn (HC.out _ hY5)).mono ?_
              rintro e y6 ⟨xh, gh, ch, hh, rfl, hoh, hb6⟩
              have hY6 := hY5.trans (hb6.mono hY5.size)
              have hoa6 := hoa5.below hb6 hoa5.lt
              have hob6 := hob5.below hb6 hob5.lt
              have hod6 := hod5.below hb6 hod5.lt
              have hof6 := hof5.below hb6 hof5.lt
              have hog6 := hog.below hb6 hog.lt
              have hoh := hoh.mono hY5.size
              obtain ⟨lh, hlh'⟩ : ∃ l, xh.length = l := ⟨_, rfl⟩
              rw [hlh']
              have hlh5 : lh ≤ 5 := by omega
              have Hlh := Lib.hid hlh'
              clear hlh' hb6 hY5 hoa5 hob5 hod5 hof5 hog hh
              have hsl : (sortStep xa ia).length = la := by rw [sortStep_length]; exact Hla.out
              have hbl : (sortBy xb wb).length = lb := by rw [sortBy_length]; exact Hlb.out
              have kA1 := fun (W : World) (ho : Own W w.heap.size ga ca xa) => impl_SortStep_any ga 0 la ca xa ia W Hla.out (by rw [Hla.out]; omega) ho.lt ho.cells
              have kA2 := fun (W : World) (ho : Own W w.heap.size ga ca xa) => spec_SortStep_any ga 0 la ca xa ia W Hla.out (by rw [Hla.out]; omega) ho.lt ho.cells
              have kB1 := fun (W : World) (ho : Own W w.heap.size gb cb xb) (ho2 : Own W w.heap.size gd cd wb) => impl_SortBy_any gb 0 lb cb gd 0 ld cd xb wb W Hlb.out (by rw [Hlb.out]; omega) ho.lt ho.cells Hld.out (by rw [Hld.out]; omega) ho2.lt ho2.cells
              have kB2 := fun (W : World) (ho : Own W w.heap.size gb cb xb) (ho2 : Own W w.heap.size gd cd wb) => spec_SortBy_any gb 0 lb cb gd 0 ld cd xb wb W Hlb.out (by rw [Hlb.out]; omega) ho.lt ho.cells Hld.out (by rw [Hld.out]; omega) ho2.lt ho2.cells
              have kH1 := fun (W : World) (ho : Own W w.heap.size gh ch xh) => impl_CountInversions_A gh 0 lh ch xh W Hlh.out (by rw [Hlh.out]; omega) (by have := ho.capLe; rw [Hlh.out] at this; exact this) ho.cells
              have kH2 := fun (W : World) (ho : Own W w.heap.size gh ch xh) => spec_CountInversions_any gh 0 lh ch xh W Hlh.out (by rw [Hlh.out]; omega) ho.cells
              generalize sortStep xa ia = sa at *
              generalize sortBy xb wb = sb at *
              generalize invA xh xh.length = vh at *
              have Hsl := Lib.hid hsl; have Hbl := Lib.hid hbl
              have KA1 := Lib.hid kA1; have KA2 := Lib.hid kA2; have KB1 := Lib.hid kB1; have KB2 := Lib.hid kB2; have KH1 := Lib.hid kH1; have KH2 := Lib.hid kH2
              clear hsl hbl kA1 kA2 kB1 kB2 kH1 kH2
              have dN : (nf == nf) = true := by simp
              have dV : ((vh : Int) == (vh : Int)) = true := by simp
              go_wp2_with fail
              refine (KA1.out y6 hoa6).mono ?_
              rintro e z1 ⟨gA1, cA1, rfl, hs1, hq1⟩
              rw [Hsl.out]
              have hZ1 := hY6.trans (hq1.mono hY6.size)
              have hoa7 := hoa6.below hq1 hoa6.lt
              have hob7 := hob6.below hq1 hob6.lt
              have hod7 := hod6.below hq1 hod6.lt
              have hof7 := hof6.below hq1 hof6.lt
              have hog7 := hog6.below hq1 hog6.lt
              have hoh7 := hoh.below hq1 hoh.lt
              clear hq1 hY6 hoa6 hob6 hod6 hof6 hog6 hoh KA1
              go_wp2_with fail
              refine (KA2.out z1 hoa7).mono ?_
              rintro e z2 ⟨gA2, cA2, rfl, hs2, hq2⟩
              rw [Hsl.out]
              have hZ2 := hZ1.trans (hq2.mono hZ1.size)
              have hs12 := hs1.below hq2 hs1.lt
              have hob8 := hob7.below hq2 hob7.lt
              have hod8 := hod7.below hq2 hod7.lt
              have hof8 := hof7.below hq2 hof7.lt
              have hog8 := hog7.below hq2 hog7.lt
              have hoh8 := hoh7.below hq2 hoh7.lt
              clear hq2 hZ1 hoa7 hob7 hod7 hof7 hog7 hoh7 hs1 KA2
              go_wp2_with fail
              refine (laws_sameInts_same gA1 0 la cA1 gA2 0 la cA2 sa z2 Hsl.out Hsl.out (by rw [Hsl.out]; omega) hs12.cells hs2.cells).mono ?_
              rintro e z3 ⟨rfl, m3, rfl⟩
              have hZ3 : Below w.heap.size w (z2.drewN m3) := below_drewN hZ2 m3
              have hob9 := hob8.drewN m3
              have hod9 := hod8.drewN m3
              have hof9 := hof8.drewN m3
              have hog9 := hog8.drewN m3
              have hoh9 := hoh8.drewN m3
              generalize z2.drewN m3 = z3 at *
              clear hZ2 hob8 hod8 hof8 hog8 hoh8 hs12 hs2
              go_wp2_with fail
              refine (KB1.out z3 hob9 hod9).mono ?_
              rintro e z4 ⟨gB1, cB1, rfl, ht1, hq4⟩
              rw [Hbl.out]
              have hZ4 := hZ3.trans (hq4.mono hZ3.size)
              have hob10 := hob9.below hq4 hob9.lt
              have hod10 := hod9.below hq4 hod9.lt
              have hof10 := hof9.below hq4 hof9.lt
              have hog10 := hog9.below hq4 hog9.lt
              have hoh10 := hoh9.below hq4 hoh9.lt
              clear hq4 hZ3 hob9 hod9 hof9 hog9 hoh9 KB1
              go_wp2_with fail
              refine (KB2.out z4 hob10 hod10).mono ?_
              rintro e z5 ⟨gB2, cB2, rfl, ht2, hq5⟩
              rw [Hbl.out]
              have hZ5 := hZ4.trans (hq5.mono hZ4.size)
              have ht12 := ht1.below hq5 ht1.lt
              have hof11 := hof10.below hq5 hof10.lt
              have hog11 := hog10.below hq5 hog10.lt
              have hoh11 := hoh10.below hq5 hoh10.lt
              clear hq5 hZ4 hob10 hod10 hof10 hog10 hoh10 ht1 KB2
              go_wp2_with fail
              refine (laws_sameInts_same gB1 0 lb cB1 gB2 0 lb cB2 sb z5 Hbl.out Hbl.out (by rw [Hbl.out]; omega) ht12.cells ht2.cells).mono ?_
              rintro e z6 ⟨rfl, m6, rfl⟩
              have hZ6 : Below w.heap.size w (z5.drewN m6) := below_drewN hZ5 m6
              have hof12 := hof11.drewN m6
              have hog12 := hog11.drewN m6
              have hoh12 := hoh11.drewN m6
              generalize z5.drewN m6 = z6 at *
              clear hZ5 hof11 hog11 hoh11 ht12 ht2
              go_wp2_with fail
              refine (laws_sameInts_same gf 0 lf2 cf gg 0 lf2 cg pf z6 Hlf2.out Hlf2.out (by rw [Hlf2.out]; omega) hof12.cells hog12.cells).mono ?_
              rintro e z7 ⟨rfl, m7, rfl⟩
              have hZ7 : Below w.heap.size w (z6.drewN m7) := below_drewN hZ6 m7
              have hoh13 := hoh12.drewN m7
              generalize z6.drewN m7 = z7 at *
              clear hZ6 hof12 hog12 hoh12
              go_wp2_with fail
              refine (KH1.out z7 hoh13).mono ?_
              rintro e z8 ⟨rfl, m8, rfl⟩
              have hZ8 : Below w.heap.size w (z7.drewN m8) := below_drewN hZ7 m8
              have hoh14 := hoh13.drewN m8
              generalize z7.drewN m8 = z8 at *
              clear hZ7 hoh13
              go_wp2_with fail
              refine (KH2.out z8 hoh14).mono ?_
              rintro e z9 ⟨rfl, m9, rfl⟩
              have hZ9 : Below w.heap.size w (z8.drewN m9) := below_drewN hZ8 m9
              go_wp2_with fail
              go_ret
              exact ⟨rfl, hZ9⟩

theorem lifted (os : Os) (started : os.Started) (H : Type) (enc : TypeId × Value → H) :
    ReturnsInHanded {} Try.checked os 3 .any (Rows.fnSortersSpec.pre6 enc Try.prog Try.f3 Rows.fnSortersRow.domain false) (Rows.fnSortersSpec.post enc Try.prog Try.f3 false true false false) := by
  refine returnsInHanded_of_change (C := Try.checked) own started (by kernel_rfl) Try.func3
    (ChangeSpec.witness6 (enc := enc) (C := Try.checked) false ⟨#[], #[.slice none 0 0], []⟩ 8 (by kernel_rfl) (by kernel_rfl) (by kernel_rfl) (by kernel_rfl)) ?_
  intro W base args ds gs before hval0 hW hcnd _
  have hval : ∀ (j : Nat) t v, Try.f3.params[j]? = some t → args[j]? = some v → Value.okWide Try.prog W .any base t v := hval0
  have hW' := hW
  obtain ⟨p, q, hA0, hV, rfl, hfz, hnd⟩ := hW
  have hA : DataW.TrodAll enc Try.prog W 0 (fun _ => true) true Try.f3.params.toList args.toList ds p := hA0
  rw [Try.params3] at hA hval
  obtain ⟨v0, vs0, d0, ds0, p0, q0, hargs, rfl, rfl, h0, r0⟩ := trodAll_cons hA
  obtain ⟨rfl, rfl, rfl⟩ := trodAll_nil r0
  obtain rfl : args = #[v0] := by cases args; simp_all
  obtain ⟨rfl, rfl⟩ := trodVars_none hV
  have k0 := h0
  have lt0 : ∀ x ∈ p0, x.block < W.heap.size := by obtain ⟨m, hm⟩ := k0; exact DataW.trod_lt m _ _ _ hm
  obtain ⟨a0, n0, c0, rfl, ax0, nx0⟩ := argCode_at (hval 0 22 v0 rfl rfl) h0
  clear hA0 hval0
  refine (walk a0 n0 c0 W ax0 nx0).mono fun e W' ⟨he, bel⟩ => ?_
  subst he
  exact ⟨_, rfl, _, _, _, [], _, [], hW', trodAll_mk1 (shut_bool Try.underlying4 _), (trodAll_cons_mk (Below.trod laidOut (by kernel_rfl) (of_decide_eq_true (by kernel_rfl)) k0 bel lt0) trodAll_mk0), rfl, bel.frame _, fun h => by cases h⟩

theorem over : Rows.fnSortersRow.holds Try.pinned (OpenSpec.ofChange Rows.fnSortersSpec) :=
  OpenClaim.holds_of_wide 3 Try.f3 rfl rfl rfl rfl rfl rfl rfl ⟨rfl, rfl, rfl, rfl, rfl⟩ rfl rfl rfl rfl rfl (by kernel_rfl) Try.func3 (by kernel_rfl)
    (of_decide_eq_true (by kernel_rfl)) (by unfold Func.isWrapper; first | (rw [if_pos (by decide +kernel)]; kernel_rfl) | (rw [if_neg (by decide +kernel)]; exact ⟨rfl, rfl⟩))
    (fun os started H enc _ => lifted os started H enc)

/-- THE STATEMENT -/
theorem proved : Rows.FnSortersSaid := over
#print axioms proved
end Go.Proofs.Ytjhoimdfmcjkbaa.fnSorters
