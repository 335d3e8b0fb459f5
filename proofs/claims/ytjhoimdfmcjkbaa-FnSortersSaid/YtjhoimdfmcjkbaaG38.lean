/- The laws' draws for networks; bytes of a code; equal lists; chains and their names. -/
import Derived.Test.YtjhoimdfmcjkbaaG11
import Derived.Test.YtjhoimdfmcjkbaaG37
import Derived.Test.YtjhoimdfmcjkbaaG10
namespace Go.Proofs.Ytjhoimdfmcjkbaa
set_option maxRecDepth 100000
open Go.RowKit

theorem CodeV.mono {w : World} {B B' : Nat} {a : Option Addr} {n : Nat} (h : CodeV w B a n) (hB : B ≤ B') : CodeV w B' a n := by
  rcases h with h | ⟨g, o, e, h1, h2, h3⟩
  · exact .inl h
  · exact .inr ⟨g, o, e, Nat.lt_of_lt_of_le h1 hB, h2, h3⟩
/-- a list is drawn by a call that makes its own cursor -/
def DrewB (w : World) (m : Nat) (b : Int) (e : Ending) (w' : World) : Prop :=
  ∃ (xs : List Int) (g cap : Nat), (xs.length ≤ m ∧ ∀ x ∈ xs, 0 ≤ x ∧ x < b) ∧ e = .returned (Value.slice (some ⟨g, 0, none⟩) xs.length cap) ∧ Own w' w.heap.size g cap xs ∧ Below w.heap.size w w'
/-- a network is drawn -/
def DrewN (w : World) (e : Ending) (w' : World) : Prop :=
  ∃ (N : Int) (xs : List Int) (g cap : Nat), (0 ≤ N ∧ N ≤ 6) ∧ (xs.length ≤ 12 ∧ ∀ x ∈ xs, 0 ≤ x ∧ x < max 1 (N - 1)) ∧ e = .returned (.tuple #[.int .i64 N, (Value.slice (some ⟨g, 0, none⟩) xs.length cap)]) ∧ Own w' w.heap.size g cap xs ∧ Below w.heap.size w w'

section
variable (a : Option Addr) (n c : Nat) (w : World) (hn : n ≤ 1048576) (hc : CodeV w w.heap.size a n)
include hn hc

set_option maxHeartbeats 1000000 in
theorem spec_l33Both_any : Calls Try.prog 30 #[.slice a n c] w (DrewN w) := by
  have h1 := Lib.hid (spec_l1New_any a n c w hn hc)
  have Hc := Lib.hid hc
  clear hc
  go_enter Try.func30, Try.ntmps30
  go_wp2_with fail
  refine h1.out.mono ?_
  rintro e w1 ⟨p, hp, rfl, hcur, hb1⟩
  have hc1 := Hc.out.below hb1
  have k1 := Lib.hid (spec_l1Below_any w.heap.size p a n c 7 w1 (by omega) hn hc1 hp hcur)
  clear hcur hc1
  go_wp2_with fail
  refine k1.out.mono ?_
  rintro e w2 ⟨N, hN, rfl, hcur2, hc2, hO2⟩
  have k2 := Lib.hid (spec_l33Word_any w.heap.size p a n c N w2 (by omega) hn hc2 hp hcur2)
  have hb2 := Below.only hb1 hO2 hp (Nat.le_refl _)
  clear hcur2 hc2 hb1 hO2
  go_wp2_with fail
  refine k2.out.mono ?_
  rintro e w3 ⟨xs, g, cap, hxs, rfl, ho, hcur3, hc3, hO3⟩
  go_wp2_with fail
  go_ret2
  exact ⟨N, xs, g, cap, by omega, hxs, rfl, ho.mono hb2.size, Below.only hb2 hO3 hp (Nat.le_refl _)⟩
set_option maxHeartbeats 1000000 in
theorem spec_DrawIsSorter_any : Calls Try.prog 5 #[.slice a n c] w (DrewN w) := by
  have h1 := Lib.hid (spec_l33Both_any a n c w hn hc)
  clear hc
  go_enter Try.func5, Try.ntmps5
  go_wp2_with fail
  refine h1.out.mono ?_
  rintro e w1 ⟨N, xs, g, cap, hN, hxs, rfl, ho, hb⟩
  go_wp2_with fail
  go_ret2
  exact ⟨N, xs, g, cap, hN, hxs, rfl, ho, hb⟩
set_option maxHeartbeats 1000000 in
theorem spec_DrawPermutationOf_any : Calls Try.prog 23 #[.slice a n c] w (DrewN w) := by
  have h1 := Lib.hid (spec_l33Both_any a n c w hn hc)
  clear hc
  go_enter Try.func23, Try.ntmps23
  go_wp2_with fail
  refine h1.out.mono ?_
  rintro e w1 ⟨N, xs, g, cap, hN, hxs, rfl, ho, hb⟩
  go_wp2_with fail
  go_ret2
  exact ⟨N, xs, g, cap, hN, hxs, rfl, ho, hb⟩
set_option maxHeartbeats 1000000 in
theorem spec_DrawCountInversions_any : Calls Try.prog 25 #[.slice a n c] w (DrewB w 5 6) := by
  have h1 := Lib.hid (spec_l1New_any a n c w hn hc)
  have Hc := Lib.hid hc
  clear hc
  go_enter Try.func25, Try.ntmps25
  go_wp2_with fail
  refine h1.out.mono ?_
  rintro e w1 ⟨p, hp, rfl, hcur, hb1⟩
  have hc1 := Hc.out.below hb1
  have k1 := Lib.hid (spec_l33List_any w.heap.size p a n c w1 hn hc1 hp hcur)
  clear hcur hc1
  go_wp2_with fail
  refine k1.out.mono ?_
  rintro e w2 ⟨xs, g, cap, hxs, rfl, ho, hcur2, hc2, hO2⟩
  go_wp2_with fail
  go_ret
  exact ⟨xs, g, cap, hxs, rfl, ho.mono hb1.size, Below.only hb1 hO2 hp (Nat.le_refl _)⟩
set_option maxHeartbeats 1000000 in
theorem spec_DrawSwapWord_any : Calls Try.prog 15 #[.slice a n c] w (DrewB w 5 6) := by
  have h1 := Lib.hid (spec_l1New_any a n c w hn hc)
  have Hc := Lib.hid hc
  clear hc
  go_enter Try.func15, Try.ntmps15
  go_wp2_with fail
  refine h1.out.mono ?_
  rintro e w1 ⟨p, hp, rfl, hcur, hb1⟩
  have hc1 := Hc.out.below hb1
  have k1 := Lib.hid (spec_l1Once_any w.heap.size p a n c 6 w1 (by omega) hn hc1 hp hcur)
  clear hcur hc1
  go_wp2_with fail
  refine k1.out.mono ?_
  rintro e w2 ⟨b, rfl, hcur2, hc2, hO2⟩
  have hb2 := Below.only hb1 hO2 hp (Nat.le_refl _)
  have k2 := Lib.hid (spec_l33List_any w.heap.size p a n c w2 hn hc2 hp hcur2)
  have k3 := Lib.hid (spec_l33Perm_any w.heap.size p a n c w2 hn hc2 hp hcur2)
  clear hcur2 hc2 hb1 hO2 k1 h1
  cases b with
  | true =>
    clear k3
    go_wp2_with fail
    refine k2.out.mono ?_
    rintro e w3 ⟨xs, g, cap, hxs, rfl, ho, hcur3, hc3, hO3⟩
    go_wp2_with fail
    go_ret
    exact ⟨xs, g, cap, hxs, rfl, ho.mono hb2.size, Below.only hb2 hO3 hp (Nat.le_refl _)⟩
  | false =>
    clear k2
    go_wp2_with fail
    refine k3.out.mono ?_
    rintro e w3 ⟨xs, g, cap, hxs, rfl, ho, hcur3, hc3, hO3⟩
    go_wp2_with fail
    go_ret
    exact ⟨xs, g, cap, hxs, rfl, ho.mono hb2.size, Below.only hb2 hO3 hp (Nat.le_refl _)⟩
set_option maxHeartbeats 1000000 in
theorem spec_DrawSortStep_any : Calls Try.prog 21 #[.slice a n c] w fun e w' => ∃ (xs : List Int) (i : Int) (g cap : Nat), xs.length ≤ 5 ∧ e = .returned (.tuple #[(Value.slice (some ⟨g, 0, none⟩) xs.length cap), .int .i64 i]) ∧ Own w' w.heap.size g cap xs ∧ Below w.heap.size w w' := by
  have h1 := Lib.hid (spec_l1New_any a n c w hn hc)
  have Hc := Lib.hid hc
  clear hc
  go_enter Try.func21, Try.ntmps21
  go_wp2_with fail
  refine h1.out.mono ?_
  rintro e w1 ⟨p, hp, rfl, hcur, hb1⟩
  have hc1 := Hc.out.below hb1
  have k1 := Lib.hid (spec_l33List_any w.heap.size p a n c w1 hn hc1 hp hcur)
  have hpl := hcur.lt
  clear hcur hc1
  go_wp2_with fail
  refine k1.out.mono ?_
  rintro e w2 ⟨xs, g, cap, hxs, rfl, ho, hcur2, hc2, hO2⟩
  have hb2 := Below.only hb1 hO2 hp (Nat.le_refl _)
  have k2 := Lib.hid (spec_l1Below_any w.heap.size p a n c 6 w2 (by omega) hn hc2 hp hcur2)
  clear hc2 hO2
  have hgp : g < p ∨ p + 1 ≤ g := by have h1 := ho.base; omega
  clear hcur2 k1
  go_wp2_with fail
  refine k2.out.mono ?_
  rintro e w3 ⟨i, hi, rfl, hcur3, hc3, hO3⟩
  have ho3 := ho.only hO3 hgp
  go_wp2_with fail
  go_ret2
  exact ⟨xs, _, g, cap, hxs.1, rfl, ho3.mono hb1.size, Below.only hb2 hO3 hp (Nat.le_refl _)⟩
set_option maxHeartbeats 1000000 in
theorem spec_DrawSortBy_any : Calls Try.prog 22 #[.slice a n c] w fun e w' => ∃ (xs ws : List Int) (g cap g2 cap2 : Nat), xs.length ≤ 5 ∧ ws.length ≤ 12 ∧ e = .returned (.tuple #[(Value.slice (some ⟨g, 0, none⟩) xs.length cap), (Value.slice (some ⟨g2, 0, none⟩) ws.length cap2)]) ∧ Own w' w.heap.size g cap xs ∧ Own w' w.heap.size g2 cap2 ws ∧ Below w.heap.size w w' := by
  have h1 := Lib.hid (spec_l1New_any a n c w hn hc)
  have Hc := Lib.hid hc
  clear hc
  go_enter Try.func22, Try.ntmps22
  go_wp2_with fail
  refine h1.out.mono ?_
  rintro e w1 ⟨p, hp, rfl, hcur, hb1⟩
  have hc1 := Hc.out.below hb1
  have k1 := Lib.hid (spec_l33List_any w.heap.size p a n c w1 hn hc1 hp hcur)
  have hpl := hcur.lt
  clear hcur hc1
  go_wp2_with fail
  refine k1.out.mono ?_
  rintro e w2 ⟨xs, g, cap, hxs, rfl, ho, hcur2, hc2, hO2⟩
  have hb2 := Below.only hb1 hO2 hp (Nat.le_refl _)
  have k2 := Lib.hid (spec_l33Word_any w.heap.size p a n c 5 w2 (by omega) hn hc2 hp hcur2)
  have hgp : g < p ∨ p + 1 ≤ g := by have h1 := ho.base; omega
  clear hc2 hO2 hcur2 k1
  go_wp2_with fail
  refine k2.out.mono ?_
  rintro e w3 ⟨ws, g2, cap2, hws, rfl, ho2, hcur3, hc3, hO3⟩
  have ho3 := ho.only hO3 hgp
  go_wp2_with fail
  go_ret2
  exact ⟨xs, ws, g, cap, g2, cap2, hxs.1, hws.1, rfl, ho3.mono hb1.size, ho2.mono hb2.size, Below.only hb2 hO3 hp (Nat.le_refl _)⟩
end

/-! ### bytes of a code; equal lists -/
theorem laws_big_any (a : Option Addr) (n c : Nat) (w : World) : Calls Try.prog 4 #[.slice a n c] w (Reads w (.bool (decide (1048576 < n)))) := by
  have e : decide ((1048576 : Int) < (n : Int)) = decide (1048576 < n) := by rw [decide_eq_decide]; omega
  go_enter Try.func4, Try.ntmps4
  go_wp2_with fail
  go_ret
  exact ⟨by first | rfl | exact ret_bool e, (by first | exact ⟨_, rfl⟩ | exact ⟨0, rfl⟩ | exact still2 _ _ _ | exact still3 _ _ _ _)⟩
theorem laws_at_any (a : Option Addr) (n c i B : Nat) (w : World) (hn : n ≤ 1048576) (hi : i ≤ 100) (hc : CodeV w B a n) :
    Calls Try.prog 13 #[.slice a n c, .int .i64 i] w fun e w' => ∃ x : Int, (0 ≤ x ∧ x < 256) ∧ e = .returned (.int .i64 x) ∧ ∃ q, w' = w.drewN q := by
  by_cases hlt : i < n
  · obtain ⟨g, o, rfl, hgB, hgs, hcell⟩ := hc.resolve_left (by omega)
    obtain ⟨y, hy, hyc⟩ := hcell i hlt
    have hltI : (i : Int) < (n : Int) := by omega
    clear hc hcell
    go_enter Try.func13, Try.ntmps13
    go_wp2_with fail
    go_ret
    exact ⟨y, hy, rfl, (by first | exact ⟨_, rfl⟩ | exact ⟨0, rfl⟩ | exact still2 _ _ _ | exact still3 _ _ _ _)⟩
  · have hltI : ¬ (i : Int) < (n : Int) := by omega
    have e1 : IntKind.i64.wrap ((i : Int) * 37) = (i : Int) * 37 := IntWalk.i64_in _ (by omega)
    have e2 : IntKind.i64.wrap ((n : Int) * 11) = (n : Int) * 11 := IntWalk.i64_in _ (by omega)
    have e3 : IntKind.i64.wrap ((i : Int) * 37 + (n : Int) * 11) = (i : Int) * 37 + (n : Int) * 11 := IntWalk.i64_in _ (by omega)
    clear hc
    go_enter Try.func13, Try.ntmps13
    go_wp2_with fail
    go_ret
    exact ⟨_, ⟨by omega, by omega⟩, rfl, (by first | exact ⟨_, rfl⟩ | exact ⟨0, rfl⟩ | exact still2 _ _ _ | exact still3 _ _ _ _)⟩
theorem laws_sameInts_same (g1 o1 n1 c1 g2 o2 n2 c2 : Nat) (xs : List Int) (w : World) (hn1 : xs.length = n1) (hn2 : xs.length = n2) (hx : xs.length ≤ 1048576) (h1 : Cells w g1 o1 xs) (h2 : Cells w g2 o2 xs) :
    Calls Try.prog 10 #[(Value.slice (some ⟨g1, o1, none⟩) n1 c1), (Value.slice (some ⟨g2, o2, none⟩) n2 c2)] w (Reads w (.bool true)) := by
  subst hn1; subst hn2
  go_enter Try.func10, Try.ntmps10
  go_wp2_with fail
  go_loopw [5] (fun i wr => ∃ k : Nat, k ≤ xs.length ∧ i = .int .i64 k ∧ ∃ q, wr = w.drewN q) (fun i _ => xs.length - (intOf i).toNat)
  case atStart => exact ⟨0, Nat.zero_le _, rfl, (by first | exact ⟨_, rfl⟩ | exact ⟨0, rfl⟩ | exact still2 _ _ _ | exact still3 _ _ _ _)⟩
  case round =>
    obtain ⟨k, hk, rfl, q, rfl⟩ := hrel
    by_cases hlt : k < xs.length
    · have q1 := h1 k hlt
      have q2 := h2 k hlt
      generalize xs.getD k 0 = z at *
      go_wp2_with fail
      go_quiet (fail)
      go_wp2_with fail
      go_roundw
      case rel => exact ⟨k + 1, by omega, by go_num, (by first | exact ⟨_, rfl⟩ | exact ⟨0, rfl⟩ | exact still2 _ _ _ | exact still3 _ _ _ _)⟩
      case measure => simp [intOf]; omega
    · obtain rfl : k = xs.length := by omega
      go_wp2_with fail
      go_ret
      exact ⟨rfl, (by first | exact ⟨_, rfl⟩ | exact ⟨0, rfl⟩ | exact still2 _ _ _ | exact still3 _ _ _ _)⟩

/-! ### chains -/
theorem OwnRows.grownK2 {w w' : World} {B g cap k : Nat} {rs : List RowRef} (h : OwnRows w B g cap rs) (hg : w.grownBy w' (some k)) (h1 : g ≠ k) (h2 : ∀ r ∈ rs, r.1 ≠ k) : OwnRows w' B g cap rs :=
  ⟨h.1.grown hg (by intro e; cases e; exact h1 rfl), fun r hr => (h.2.1 r hr).grown hg (by intro e; cases e; exact h2 r hr rfl), h.2.2⟩
def rowC (n k : Nat) : List Int :=
  let r1 := (List.replicate n (0 : Int)).set k 2
  let r2 := if 0 < k then r1.set (k - 1) (-1) else r1
  if k + 1 < n then r2.set (k + 1) (-1) else r2
theorem rowC_eq {n k : Nat} (hn : n ≤ 4) (hk : k < n) : (chainA n).getD k [] = rowC n k := by
  have : n = 1 ∨ n = 2 ∨ n = 3 ∨ n = 4 := by omega
  rcases this with rfl | rfl | rfl | rfl
  · obtain rfl : k = 0 := by omega
    decide
  · have : k = 0 ∨ k = 1 := by omega
    rcases this with rfl | rfl <;> decide
  · have : k = 0 ∨ k = 1 ∨ k = 2 := by omega
    rcases this with rfl | rfl | rfl <;> decide
  · have : k = 0 ∨ k = 1 ∨ k = 2 ∨ k = 3 := by omega
    rcases this with rfl | rfl | rfl | rfl <;> decide
theorem rowC_length (n k : Nat) : (rowC n k).length = n := by
  unfold rowC
  simp only
  split <;> split <;> simp
theorem chainA_length (n : Nat) : (chainA n).length = n := by simp [chainA]
theorem chainA_take {n k : Nat} (hn : n ≤ 4) (hk : k < n) : (chainA n).take (k + 1) = (chainA n).take k ++ [rowC n k] := by
  rw [List.take_succ_eq_append_getElem (by rw [chainA_length]; exact hk), ← rowC_eq hn hk]
  simp [List.getD, chainA_length, hk]

set_option maxHeartbeats 1000000 in
theorem spec_l2Chain_any (n : Nat) (w : World) (hn : n ≤ 4) : Calls Try.prog 35 #[.int .i64 n] w (GotRows w (chainA n)) := by
  go_enter Try.func35, Try.ntmps35
  go_wp2
  go_loopw [3, 4] (fun ov kv wr => ∃ (k g2 c2 : Nat) (rs : List RowRef), k ≤ n ∧ kv = .int .i64 k ∧ ov = (Value.slice (some ⟨g2, 0, none⟩) k c2) ∧ Hid (rs.length = k) ∧ Hid (contents rs = (chainA n).take k) ∧ OwnRows wr w.heap.size g2 c2 rs ∧ Below w.heap.size w wr) (fun _ kv _ => n - (intOf kv).toNat)
  case atStart => exact ⟨0, w.heap.size, 0, [], Nat.zero_le _, rfl, rfl, rfl, rfl, OwnRows.empty (Nat.le_refl _), (Below.refl _ _).alloc (Nat.le_refl _) _⟩
  case round =>
    obtain ⟨k, g2, c2, rs, hk, rfl, rfl, hrk, hcon, hO, hb⟩ := hrel
    by_cases hlt : k < n
    · have Ht := Lib.hid (chainA_take hn hlt)
      have Hl := Lib.hid (rowC_length n k)
      go_wp2_with (at_make; refine wpList_make_ints rfl _ _ rfl w.heap.size n _ rfl rfl rfl (by omega) hb.size ?_)
      intro w2 ho2 hg2
      have hO2 : OwnRows w2 w.heap.size g2 c2 rs := hO.below ⟨hg2.os, hg2.tape, hg2.output, hg2.size, fun j hj => hg2.block j hj (by intro e; cases e)⟩
      have hB2 : Below w.heap.size w w2 := hb.trans ⟨hg2.os, hg2.tape, hg2.output, hg2.size, fun j hj => hg2.block j (Nat.lt_of_lt_of_le hj hb.size) (by intro e; cases e)⟩
      have hne : ∀ s ∈ rs, s.1 ≠ wr.heap.size := fun s hs e => by have := (hO.2.1 s hs).lt; omega
      have hng : g2 ≠ wr.heap.size := by have := hO.lt; omega
      have hbs := hb.size
      clear hO hb hg2
      generalize wr.heap.size = gr at *
      have x0 := ho2.cell k (by simpa using hlt)
      have y0 := ho2.frozen k
      have s1 := ho2.set k 2
      have e2 : IntKind.i64.wrap ((k : Int) + 1) = (k : Int) + 1 := IntWalk.i64_in _ (by omega)
      have t2 : ((k : Int) + 1).toNat = k + 1 := by omega
      have b2 : (0 : Int) ≤ (k : Int) + 1 := by omega
      have hX : rowC n k = if k + 1 < n then (if 0 < k then ((List.replicate n (0 : Int)).set k 2).set (k - 1) (-1) else (List.replicate n (0 : Int)).set k 2).set (k + 1) (-1) else (if 0 < k then ((List.replicate n (0 : Int)).set k 2).set (k - 1) (-1) else (List.replicate n (0 : Int)).set k 2) := rfl
      have hltI : (k : Int) < (n : Int) := by omega
      by_cases h0 : 0 < k
      · by_cases h1 : k + 1 < n
        · have e1 : IntKind.i64.wrap ((k : Int) - 1) = (k : Int) - 1 := IntWalk.i64_in _ (by omega)
          have t1 : ((k : Int) - 1).toNat = k - 1 := by omega
          have b1 : (0 : Int) ≤ (k : Int) - 1 := by omega
          have b1' : (k : Int) - 1 < (n : Int) := by omega
          have z0 : (0 : Int) < (k : Int) := by omega
          have x1 := s1.1.cell (k - 1) (by simp; omega)
          have y1 := s1.1.frozen (k - 1)
          have s2 := s1.1.set (k - 1) (-1)
          have l0 : (k : Int) + 1 < (n : Int) := by omega
          have x2 := s2.1.cell (k + 1) (by simp; omega)
          have y2 := s2.1.frozen (k + 1)
          have s3 := s2.1.set (k + 1) (-1)
          have hR : rowC n k = (((List.replicate n (0 : Int)).set k 2).set (k - 1) (-1)).set (k + 1) (-1) := by rw [hX, if_pos h1, if_pos h0]
          have HR := Lib.hid hR
          have hown := s3.1
          have hgr := World.grownBy.trans' (World.grownBy.trans' s1.2 s2.2) s3.2
          rw [← hR] at hown
          have Hown := Lib.hid hown; have Hgr := Lib.hid hgr
          clear hown hgr s1 s2 s3 hR hX ho2
          have hO3 : OwnRows _ w.heap.size g2 c2 rs := hO2.grownK2 Hgr.out hng hne
          have hB3 := hB2.grown Hgr.out hB2.size (by intro j hj; cases hj; exact hbs)
          clear hO2 hB2
          go_wp2_with (at_builtin; refine wpList_append_row (w := (((w2.setCell ⟨gr, k, none⟩ (.int .i64 2)).setCell ⟨gr, k - 1, none⟩ (.int .i64 (-1))).setCell ⟨gr, k + 1, none⟩ (.int .i64 (-1)))) rfl _ _ rfl w.heap.size g2 c2 k w2.heap.size rs (gr, n, rowC n k) _ hrk.out (by unfold rowVal; rw [Hl.out]) (by simp) hO3 (Hown.out.mono (Nat.le_refl _)) hne rfl rfl (by omega) ?_)
          intro g4 c4 w4 hO4 hg4 hor4
          have hB4 : Below w.heap.size w w4 := hB3.grown hg4 hB3.size (by intro t ht; cases ht; exact hO3.base)
          have hl4 : Hid ((rs ++ [(gr, n, rowC n k)]).length = k + 1) := Lib.hid (by rw [List.length_append, hrk.out]; rfl)
          have hc4 : Hid (contents (rs ++ [(gr, n, rowC n k)]) = (chainA n).take (k + 1)) := Lib.hid (by rw [Ht.out, ← hcon.out]; simp [contents])
          clear hO3 hB3 hg4 hor4
          go_wp2_with fail
          go_roundw
          case rel => exact ⟨k + 1, g4, c4, _, by omega, by go_num, rfl, hl4.out, hc4.out, hO4, hB4⟩
          case measure => simp [intOf]; omega
        · have e1 : IntKind.i64.wrap ((k : Int) - 1) = (k : Int) - 1 := IntWalk.i64_in _ (by omega)
          have t1 : ((k : Int) - 1).toNat = k - 1 := by omega
          have b1 : (0 : Int) ≤ (k : Int) - 1 := by omega
          have b1' : (k : Int) - 1 < (n : Int) := by omega
          have z0 : (0 : Int) < (k : Int) := by omega
          have x1 := s1.1.cell (k - 1) (by simp; omega)
          have y1 := s1.1.frozen (k - 1)
          have s2 := s1.1.set (k - 1) (-1)
          have l0 : ¬ (k : Int) + 1 < (n : Int) := by omega
          have hR : rowC n k = ((List.replicate n (0 : Int)).set k 2).set (k - 1) (-1) := by rw [hX, if_neg h1, if_pos h0]
          have HR := Lib.hid hR
          have hown := s2.1
          have hgr := World.grownBy.trans' s1.2 s2.2
          rw [← hR] at hown
          have Hown := Lib.hid hown; have Hgr := Lib.hid hgr
          clear hown hgr s1 s2 hR hX ho2
          have hO3 : OwnRows _ w.heap.size g2 c2 rs := hO2.grownK2 Hgr.out hng hne
          have hB3 := hB2.grown Hgr.out hB2.size (by intro j hj; cases hj; exact hbs)
          clear hO2 hB2
          go_wp2_with (at_builtin; refine wpList_append_row (w := ((w2.setCell ⟨gr, k, none⟩ (.int .i64 2)).setCell ⟨gr, k - 1, none⟩ (.int .i64 (-1)))) rfl _ _ rfl w.heap.size g2 c2 k w2.heap.size rs (gr, n, rowC n k) _ hrk.out (by unfold rowVal; rw [Hl.out]) (by simp) hO3 (Hown.out.mono (Nat.le_refl _)) hne rfl rfl (by omega) ?_)
          intro g4 c4 w4 hO4 hg4 hor4
          have hB4 : Below w.heap.size w w4 := hB3.grown hg4 hB3.size (by intro t ht; cases ht; exact hO3.base)
          have hl4 : Hid ((rs ++ [(gr, n, rowC n k)]).length = k + 1) := Lib.hid (by rw [List.length_append, hrk.out]; rfl)
          have hc4 : Hid (contents (rs ++ [(gr, n, rowC n k)]) = (chainA n).take (k + 1)) := Lib.hid (by rw [Ht.out, ← hcon.out]; simp [contents])
          clear hO3 hB3 hg4 hor4
          go_wp2_with fail
          go_roundw
          case rel => exact ⟨k + 1, g4, c4, _, by omega, by go_num, rfl, hl4.out, hc4.out, hO4, hB4⟩
          case measure => simp [intOf]; omega
      · by_cases h1 : k + 1 < n
        · have z0 : ¬ (0 : Int) < (k : Int) := by omega
          have l0 : (k : Int) + 1 < (n : Int) := by omega
          have x2 := s1.1.cell (k + 1) (by simp; omega)
          have y2 := s1.1.frozen (k + 1)
          have s3 := s1.1.set (k + 1) (-1)
          have hR : rowC n k = ((List.replicate n (0 : Int)).set k 2).set (k + 1) (-1) := by rw [hX, if_pos h1, if_neg h0]
          have HR := Lib.hid hR
          have hown := s3.1
          have hgr := World.grownBy.trans' s1.2 s3.2
          rw [← hR] at hown
          have Hown := Lib.hid hown; have Hgr := Lib.hid hgr
          clear hown hgr s1 s3 hR hX ho2
          have hO3 : OwnRows _ w.heap.size g2 c2 rs := hO2.grownK2 Hgr.out hng hne
          have hB3 := hB2.grown Hgr.out hB2.size (by intro j hj; cases hj; exact hbs)
          clear hO2 hB2
          go_wp2_with (at_builtin; refine wpList_append_row (w := ((w2.setCell ⟨gr, k, none⟩ (.int .i64 2)).setCell ⟨gr, k + 1, none⟩ (.int .i64 (-1)))) rfl _ _ rfl w.heap.size g2 c2 k w2.heap.size rs (gr, n, rowC n k) _ hrk.out (by unfold rowVal; rw [Hl.out]) (by simp) hO3 (Hown.out.mono (Nat.le_refl _)) hne rfl rfl (by omega) ?_)
          intro g4 c4 w4 hO4 hg4 hor4
          have hB4 : Below w.heap.size w w4 := hB3.grown hg4 hB3.size (by intro t ht; cases ht; exact hO3.base)
          have hl4 : Hid ((rs ++ [(gr, n, rowC n k)]).length = k + 1) := Lib.hid (by rw [List.length_append, hrk.out]; rfl)
          have hc4 : Hid (contents (rs ++ [(gr, n, rowC n k)]) = (chainA n).take (k + 1)) := Lib.hid (by rw [Ht.out, ← hcon.out]; simp [contents])
          clear hO3 hB3 hg4 hor4
          go_wp2_with fail
          go_roundw
          case rel => exact ⟨k + 1, g4, c4, _, by omega, by go_num, rfl, hl4.out, hc4.out, hO4, hB4⟩
          case measure => simp [intOf]; omega
        · have z0 : ¬ (0 : Int) < (k : Int) := by omega
          have l0 : ¬ (k : Int) + 1 < (n : Int) := by omega
          have hR : rowC n k = (List.replicate n (0 : Int)).set k 2 := by rw [hX, if_neg h1, if_neg h0]
          have HR := Lib.hid hR
          have hown := s1.1
          have hgr := s1.2
          rw [← hR] at hown
          have Hown := Lib.hid hown; have Hgr := Lib.hid hgr
          clear hown hgr s1 hR hX ho2
          have hO3 : OwnRows _ w.heap.size g2 c2 rs := hO2.grownK2 Hgr.out hng hne
          have hB3 := hB2.grown Hgr.out hB2.size (by intro j hj; cases hj; exact hbs)
          clear hO2 hB2
          go_wp2_with (at_builtin; refine wpList_append_row (w := (w2.setCell ⟨gr, k, none⟩ (.int .i64 2))) rfl _ _ rfl w.heap.size g2 c2 k w2.heap.size rs (gr, n, rowC n k) _ hrk.out (by unfold rowVal; rw [Hl.out]) (by simp) hO3 (Hown.out.mono (Nat.le_refl _)) hne rfl rfl (by omega) ?_)
          intro g4 c4 w4 hO4 hg4 hor4
          have hB4 : Below w.heap.size w w4 := hB3.grown hg4 hB3.size (by intro t ht; cases ht; exact hO3.base)
          have hl4 : Hid ((rs ++ [(gr, n, rowC n k)]).length = k + 1) := Lib.hid (by rw [List.length_append, hrk.out]; rfl)
          have hc4 : Hid (contents (rs ++ [(gr, n, rowC n k)]) = (chainA n).take (k + 1)) := Lib.hid (by rw [Ht.out, ← hcon.out]; simp [contents])
          clear hO3 hB3 hg4 hor4
          go_wp2_with fail
          go_roundw
          case rel => exact ⟨k + 1, g4, c4, _, by omega, by go_num, rfl, hl4.out, hc4.out, hO4, hB4⟩
          case measure => simp [intOf]; omega
    · obtain rfl : k = n := by omega
      have hc := hcon.out
      rw [List.take_of_length_le (by rw [chainA_length]; exact Nat.le_refl _)] at hc
      have Hc := Lib.hid hc
      have Hl := Lib.hid (show k = (chainA k).length by rw [chainA_length])
      go_wp2_with fail
      go_ret
      exact ⟨g2, c2, rs, congrArg (fun z => Ending.returned (Value.slice (some ⟨g2, 0, none⟩) z c2)) Hl.out, Hc.out, hO, hb⟩

def GotChain (w : World) (k : Nat) (e : Ending) (w' : World) : Prop :=
  ∃ g cap rs, e = .returned (.tuple #[(Value.slice (some ⟨g, 0, none⟩) k cap), .bool true]) ∧ contents rs = chainA k ∧ OwnRows w' w.heap.size g cap rs ∧ Below w.heap.size w w'
def strA : Nat → Value
  | 1 => .string ⟨#[65, 49]⟩
  | 2 => .string ⟨#[65, 50]⟩
  | 3 => .string ⟨#[65, 51]⟩
  | _ => .string ⟨#[65, 52]⟩
set_option maxHeartbeats 1000000 in
theorem spec_TypeCartan_A (k : Nat) (w : World) (h1 : 1 ≤ k) (h4 : k ≤ 4) : Calls Try.prog 11 #[strA k] w (GotChain w k) := by
  have hk := Lib.hid (spec_l2Chain_any k w h4)
  have hl := Lib.hid (chainA_length k)
  have : k = 1 ∨ k = 2 ∨ k = 3 ∨ k = 4 := by omega
  rcases this with rfl | rfl | rfl | rfl
  all_goals
    unfold strA
    go_enter Try.func11, Try.ntmps11
    go_wp2_with fail
    refine hk.out.mono ?_
    rintro e w1 ⟨g, cap, rs, rfl, hc, ho, hb⟩
    rw [hl.out]
    go_wp2_with fail
    go_ret2
    exact ⟨g, cap, rs, rfl, hc, ho, hb⟩
end Go.Proofs.Ytjhoimdfmcjkbaa
