/- SortBy, the program's and the reference's: contracts. FirstUnsorted and IsSorter: contracts. -/
import Derived.Test.YtjhoimdfmcjkbaaSort
import Derived.Test.YtjhoimdfmcjkbaaNet
import Derived.WalkLawsBesides
namespace Go.Proofs.Ytjhoimdfmcjkbaa
set_option maxRecDepth 100000
open Go.RowKit

def sortBy (xs ws : List Int) : List Int := ws.foldl sortStep xs
theorem sortBy_length (xs ws : List Int) : (sortBy xs ws).length = xs.length := by
  unfold sortBy
  induction ws generalizing xs with
  | nil => rfl
  | cons i ws ih => simp only [List.foldl_cons]; rw [ih, sortStep_length]
theorem foldl_take_succ {α : Type} (f : α → Int → α) (a : α) (ws : List Int) (k : Nat) (hk : k < ws.length) : (ws.take (k + 1)).foldl f a = f ((ws.take k).foldl f a) (ws[k]) := by
  rw [List.take_succ_eq_append_getElem hk, List.foldl_append]; rfl
theorem sortBy_succ (xs ws : List Int) (k : Nat) (hk : k < ws.length) : sortBy xs (ws.take (k + 1)) = sortStep (sortBy xs (ws.take k)) ws[k] := foldl_take_succ _ _ _ _ hk

set_option maxHeartbeats 400000 in
theorem impl_SortBy_any (g o n c g2 o2 n2 c2 : Nat) (xs ws : List Int) (w : World) (hn : xs.length = n) (hx : xs.length ≤ 1048576) (hg : g < w.heap.size) (hc : Cells w g o xs)
    (hn2 : ws.length = n2) (hx2 : ws.length ≤ 1048576) (hg2 : g2 < w.heap.size) (hc2 : Cells w g2 o2 ws) :
    Calls Try.prog 14 #[(Value.slice (some ⟨g, o, none⟩) n c), (Value.slice (some ⟨g2, o2, none⟩) n2 c2)] w (GotInts w (sortBy xs ws)) := by
  subst hn; subst hn2
  go_enter Try.func14, Try.ntmps14
  go_wp2_with (at_builtin; refine wpList_clone rfl _ _ rfl g o _ c xs rfl hg hc rfl rfl (by omega) ?_)
  intro g1 c1 w1 ho hb
  go_wp2
  go_loopw [5, 13] (fun v i wr => ∃ k g' c' : Nat, k ≤ ws.length ∧ i = .int .i64 k ∧ v = (Value.slice (some ⟨g', 0, none⟩) xs.length c') ∧ Own wr w.heap.size g' c' (sortBy xs (ws.take k)) ∧ Below w.heap.size w wr) (fun _ i _ => ws.length - (intOf i).toNat)
  case atStart => exact ⟨0, g1, c1, Nat.zero_le _, rfl, rfl, ho, hb⟩
  case round =>
    obtain ⟨k, g', c', hk, rfl, rfl, ho', hb'⟩ := hrel
    by_cases hlt : k < ws.length
    · have h1 := hc2.below hb' hg2 k hlt
      go_wp2_with fail
      refine (impl_SortStep_any g' 0 _ c' (sortBy xs (ws.take k)) ws[k] _ (sortBy_length _ _) (by rw [sortBy_length]; exact hx) ho'.lt ho'.cells).mono ?_
      rintro e w2 ⟨g3, c3, rfl, ho3, hb3⟩
      rw [← sortBy_succ _ _ _ hlt] at ho3 ⊢
      rw [sortBy_length]
      go_wp2
      go_roundw
      case rel => exact ⟨k + 1, g3, c3, by omega, by go_num, rfl, ho3.mono hb'.size, hb'.trans (hb3.mono hb'.size)⟩
      case measure => simp [intOf]; omega
    · obtain rfl : k = ws.length := by omega
      go_wp2
      go_ret
      rw [List.take_length] at ho'
      exact GotInts.mk' g' c' (sortBy_length _ _) ho' hb'

set_option maxHeartbeats 400000 in
theorem spec_SortBy_any (g o n c g2 o2 n2 c2 : Nat) (xs ws : List Int) (w : World) (hn : xs.length = n) (hx : xs.length ≤ 1048576) (hg : g < w.heap.size) (hc : Cells w g o xs)
    (hn2 : ws.length = n2) (hx2 : ws.length ≤ 1048576) (hg2 : g2 < w.heap.size) (hc2 : Cells w g2 o2 ws) :
    Calls Try.prog 28 #[(Value.slice (some ⟨g, o, none⟩) n c), (Value.slice (some ⟨g2, o2, none⟩) n2 c2)] w (GotInts w (sortBy xs ws)) := by
  subst hn; subst hn2
  go_enter Try.func28, Try.ntmps28
  go_wp2_with (at_builtin; refine wpList_clone rfl _ _ rfl g o _ c xs rfl hg hc rfl rfl (by omega) ?_)
  intro g1 c1 w1 ho hb
  go_wp2
  go_loopw [5, 6] (fun v i wr => ∃ k g' c' : Nat, k ≤ ws.length ∧ i = .int .i64 k ∧ v = (Value.slice (some ⟨g', 0, none⟩) xs.length c') ∧ Own wr w.heap.size g' c' (sortBy xs (ws.take k)) ∧ Below w.heap.size w wr) (fun _ i _ => ws.length - (intOf i).toNat)
  case atStart => exact ⟨0, g1, c1, Nat.zero_le _, rfl, rfl, ho, hb⟩
  case round =>
    obtain ⟨k, g', c', hk, rfl, rfl, ho', hb'⟩ := hrel
    by_cases hlt : k < ws.length
    · have h1 := hc2.below hb' hg2 k hlt
      go_wp2_with fail
      refine (spec_SortStep_any g' 0 _ c' (sortBy xs (ws.take k)) ws[k] _ (sortBy_length _ _) (by rw [sortBy_length]; exact hx) ho'.lt ho'.cells).mono ?_
      rintro e w2 ⟨g3, c3, rfl, ho3, hb3⟩
      rw [← sortBy_succ _ _ _ hlt] at ho3 ⊢
      rw [sortBy_length]
      go_wp2
      go_roundw
      case rel => exact ⟨k + 1, g3, c3, by omega, by go_num, rfl, ho3.mono hb'.size, hb'.trans (hb3.mono hb'.size)⟩
      case measure => simp [intOf]; omega
    · obtain rfl : k = ws.length := by omega
      go_wp2
      go_ret
      rw [List.take_length] at ho'
      exact GotInts.mk' g' c' (sortBy_length _ _) ho' hb'
end Go.Proofs.Ytjhoimdfmcjkbaa
namespace Go.Proofs.Ytjhoimdfmcjkbaa
set_option maxRecDepth 100000
open Go.RowKit

theorem cmp_isNaN_any (x : Int) (w : World) : Calls Try.prog 64 #[.int .i64 x] w (Reads w (.bool false)) := by
  have h : (x != x) = false := by simp
  go_enter Try.func64, Try.ntmps64
  go_wp2
  go_ret
  exact ⟨ret_bool (by simp), 0, rfl⟩

set_option maxHeartbeats 400000 in
theorem cmp_Less_any (x y : Int) (w : World) : Calls Try.prog 51 #[.int .i64 x, .int .i64 y] w (Reads w (.bool (decide (x < y)))) := by
  go_enter Try.func51, Try.ntmps51
  go_wp2_with fail
  refine (cmp_isNaN_any x _).mono ?_
  rintro e w1 ⟨rfl, m1, rfl⟩
  go_wp2_with fail
  go_ret
  exact ⟨rfl, m1, rfl⟩

def sortedB : List Int → Bool
  | [] => true
  | [_] => true
  | x :: y :: l => decide (x ≤ y) && sortedB (y :: l)
theorem sortedB_iff (xs : List Int) : sortedB xs = true ↔ ∀ i, i + 1 < xs.length → xs.getD i 0 ≤ xs.getD (i + 1) 0 := by
  induction xs with
  | nil => simp [sortedB]
  | cons x l ih =>
    cases l with
    | nil => simp [sortedB]
    | cons y l =>
      simp only [sortedB, Bool.and_eq_true, decide_eq_true_eq, ih]
      constructor
      · rintro ⟨h1, h2⟩ i hi
        cases i with
        | zero => simpa using h1
        | succ i => simpa using h2 i (by simpa using hi)
      · intro h
        refine ⟨by simpa using h 0 (by simp), fun i hi => ?_⟩
        simpa using h (i + 1) (by simpa using hi)
theorem sortedB_no {xs : List Int} {i : Nat} (hi : i + 1 < xs.length) (h : xs[i + 1] < xs[i]'(by omega)) : sortedB xs = false := by
  cases e : sortedB xs with
  | false => rfl
  | true =>
    have h1 := (sortedB_iff xs).1 e i hi
    simp [List.getD, hi, show i < xs.length by omega] at h1
    omega
theorem Reads.quiet {f : FuncId} {args : Array Value} {w : World} {n : Nat} {v : Value} (h : Calls Try.prog f args (w.drewN n) (Reads (w.drewN n) v)) :
    Calls Try.prog f args (w.drewN n) fun e w'' => e = .returned v ∧ ∃ m, w'' = w.drewN m := Calls.quiet_of h

theorem Reads.quiet2 {f : FuncId} {args : Array Value} {w : World} {m n : Nat} {v : Value} (h : Calls Try.prog f args (w.drewN (m + n)) (Reads (w.drewN (m + n)) v)) :
    Calls Try.prog f args (w.drewN (m + n)) fun e w'' => e = .returned v ∧ ∃ k, w'' = w.drewN (m + k) :=
  h.mono fun _ _ ⟨he, k, hk⟩ => ⟨he, n + k, by rw [hk, World.drewN_drewN, Nat.add_assoc]⟩

set_option maxHeartbeats 400000 in
theorem slices_IsSorted_any (g o n c : Nat) (xs : List Int) (w : World) (hn : xs.length = n) (hx : xs.length ≤ 1099511627776) (hc : Cells w g o xs) :
    Calls Try.prog 32 #[(Value.slice (some ⟨g, o, none⟩) n c)] w (Reads w (.bool (sortedB xs))) := by
  subst hn
  by_cases h0 : xs = []
  · subst h0
    go_enter Try.func32, Try.ntmps32
    go_wp2
    refine wp_loop_rounds 1 ?_
    rw [rounds_succ]
    go_wp2
    go_ret
    exact ⟨ret_bool rfl, 0, rfl⟩
  have hpos : 0 < xs.length := List.length_pos_iff.2 h0
  clear h0
  go_enter Try.func32, Try.ntmps32
  go_wp2
  go_loopw [3] (fun i wr => ∃ t : Nat, t < xs.length ∧ i = .int .i64 t ∧ Hid (∀ j, j + 1 < xs.length → t ≤ j → xs.getD j 0 ≤ xs.getD (j + 1) 0) ∧ ∃ m, wr = w.drewN m) (fun i _ => (intOf i).toNat)
  case atStart => exact ⟨xs.length - 1, by omega, by go_num, fun j h1 h2 => absurd h1 (by omega), 0, rfl⟩
  case round =>
    obtain ⟨t, ht, rfl, hp, m, rfl⟩ := hrel
    by_cases ht0 : 0 < t
    · have l0 : t - 1 < xs.length := by omega
      have c1 := hc t ht
      have c0 := hc (t - 1) l0
      have i1 : ((t : Int) - 1).toNat = t - 1 := by omega
      have i2 : 1 ≤ t := ht0
      go_wp2
      go_quiet ((go_at_call 51; exact Reads.quiet2 (cmp_Less_any _ _ _)))
      go_wp2
      · have hlt : xs[t] < xs[t - 1] := by assumption
        go_ret
        exact ⟨ret_bool (sortedB_no (i := t - 1) (by omega) (by simpa [Nat.sub_add_cancel i2] using hlt)).symm, (by first | exact ⟨_, rfl⟩ | exact ⟨0, rfl⟩ | exact still2 _ _ _ | exact still3 _ _ _ _)⟩
      · have hge : xs[t - 1] ≤ xs[t] := by assumption
        go_roundw
        case rel => exact ⟨t - 1, by omega, by go_num, fun j h1 h2 => if e : j = t - 1 then by subst e; simpa [List.getD, l0, ht, Nat.sub_add_cancel i2] using hge else hp.out j h1 (by omega), (by first | exact ⟨_, rfl⟩ | exact ⟨0, rfl⟩ | exact still2 _ _ _ | exact still3 _ _ _ _)⟩
        case measure => simp [intOf]; omega
    · obtain rfl : t = 0 := by omega
      go_wp2
      go_ret
      exact ⟨ret_bool ((sortedB_iff xs).2 fun j h1 => hp.out j h1 (Nat.zero_le _)).symm, (by first | exact ⟨_, rfl⟩ | exact ⟨0, rfl⟩ | exact still2 _ _ _ | exact still3 _ _ _ _)⟩

set_option maxHeartbeats 400000 in
theorem spec_l33Sorted_any (g o n c : Nat) (xs : List Int) (w : World) (hn : xs.length = n) (hx : xs.length ≤ 1099511627776) (hc : Cells w g o xs) :
    Calls Try.prog 34 #[(Value.slice (some ⟨g, o, none⟩) n c)] w (Reads w (.bool (sortedB xs))) := by
  subst hn
  go_enter Try.func34, Try.ntmps34
  go_wp2
  go_loopw [3] (fun i wr => ∃ t : Nat, i = .int .i64 (t + 1 : Nat) ∧ (t < xs.length ∨ t = 0) ∧ Hid (∀ j, j + 1 < xs.length → j < t → xs.getD j 0 ≤ xs.getD (j + 1) 0) ∧ ∃ m, wr = w.drewN m) (fun i _ => xs.length + 1 - (intOf i).toNat)
  case atStart => exact ⟨0, rfl, .inr rfl, fun j h1 h2 => absurd h2 (by omega), 0, rfl⟩
  case round =>
    obtain ⟨t, rfl, ht, hp, m, rfl⟩ := hrel
    by_cases hlt : t + 1 < xs.length
    · have l0 : t < xs.length := by omega
      have c1 := hc (t + 1) hlt
      have c0 := hc t l0
      have i1 : ((t + 1 : Nat) : Int).toNat = t + 1 := by omega
      have i2 : (((t + 1 : Nat) : Int) - 1).toNat = t := by omega
      go_wp2
      go_quiet (fail)
      go_wp2
      · have hlt2 : xs[t + 1] < xs[t] := by assumption
        go_ret
        exact ⟨ret_bool (sortedB_no hlt hlt2).symm, (by first | exact ⟨_, rfl⟩ | exact ⟨0, rfl⟩ | exact still2 _ _ _ | exact still3 _ _ _ _)⟩
      · have hge : xs[t] ≤ xs[t + 1] := by assumption
        go_roundw
        case rel => exact ⟨t + 1, by go_num, .inl hlt, fun j h1 h2 => if e : j = t then by subst e; simpa [List.getD, l0, hlt] using hge else hp.out j h1 (by omega), (by first | exact ⟨_, rfl⟩ | exact ⟨0, rfl⟩ | exact still2 _ _ _ | exact still3 _ _ _ _)⟩
        case measure => simp [intOf]; omega
    · go_wp2
      go_ret
      exact ⟨ret_bool ((sortedB_iff xs).2 fun j h1 => hp.out j h1 (by omega)).symm, (by first | exact ⟨_, rfl⟩ | exact ⟨0, rfl⟩ | exact still2 _ _ _ | exact still3 _ _ _ _)⟩
end Go.Proofs.Ytjhoimdfmcjkbaa
