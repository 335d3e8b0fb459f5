/- The laws' own helpers: toIntS, eqIntS, markIntS, heldIntS. -/
import Derived.Test.YtmplcohpinghbaaBase
namespace Go.Proofs.Ytmplcohpinghbaa
open Go.RowKit

theorem take_succ_eq {xs ys : List Int} {k : Nat} (hl : xs.length = ys.length) (hk : k < xs.length) (h : xs.take k = ys.take k) (he : xs.getD k 0 = ys.getD k 0) : xs.take (k + 1) = ys.take (k + 1) := by
  have hk2 : k < ys.length := by omega
  rw [List.take_succ_eq_append_getElem hk, List.take_succ_eq_append_getElem hk2, h]
  simp [List.getD, hk, hk2] at he
  rw [he]

set_option maxHeartbeats 400000 in
theorem eqIntS_any (g1 o1 c1 g2 o2 c2 : Nat) (xs ys : List Int) (w : World) (hx : xs.length ≤ 1099511627776) (hy : ys.length ≤ 1099511627776)
    (hcx : Cells w g1 o1 xs) (hcy : Cells w g2 o2 ys) :
    Calls Try.prog 17 #[(Value.slice (some ⟨g1, o1, none⟩) xs.length c1), (Value.slice (some ⟨g2, o2, none⟩) ys.length c2)] w (Reads w (.bool (decide (xs = ys)))) := by
  by_cases hl : xs.length = ys.length
  · go_enter Try.func17, Try.ntmps17
    go_wp2
    go_loopw [5] (fun i wr => ∃ k : Nat, k ≤ xs.length ∧ i = .int .i64 k ∧ xs.take k = ys.take k ∧ ∃ n, wr = w.drewN n) (fun i _ => xs.length - (intOf i).toNat)
    case atStart => exact ⟨0, Nat.zero_le _, rfl, rfl, 0, rfl⟩
    case round =>
      obtain ⟨k, hk, rfl, he, n, rfl⟩ := hrel
      have He := Lib.hid he; clear he
      have Hl := Lib.hid hl; clear hl
      by_cases hlt : k < xs.length
      · have h1 := hcx k hlt
        have h2 := hcy k (by rw [← Hl.out]; omega)
        have hl2 : k < ys.length := by rw [← Hl.out]; omega
        go_wp2
        go_quiet (fail)
        go_wp2
        · have ht : (xs[k] != ys[k]) = true := by assumption
          go_ret
          have hne : xs ≠ ys := fun e => by subst e; simp at ht
          exact ⟨ret_bool (by simp [hne]), (by first | exact ⟨_, rfl⟩ | exact ⟨0, rfl⟩ | exact still2 _ _ _ | exact still3 _ _ _ _)⟩
        · have ht : (xs[k] != ys[k]) = false := by assumption
          go_roundw
          case rel => exact ⟨k + 1, by omega, by go_num, take_succ_eq Hl.out hlt He.out (by simpa [List.getD, hlt, hl2] using ht), (by first | exact ⟨_, rfl⟩ | exact ⟨0, rfl⟩ | exact still2 _ _ _ | exact still3 _ _ _ _)⟩
          case measure => simp [intOf]; omega
      · go_wp2
        go_ret
        refine ⟨ret_bool ?_, n, rfl⟩
        have h3 := He.out
        rw [List.take_of_length_le (by omega), List.take_of_length_le (by have := Hl.out; omega)] at h3
        simp [h3]
  · have hb : ((xs.length : Int) != (ys.length : Int)) = true := by rw [bne_iff_ne]; omega
    go_enter Try.func17, Try.ntmps17
    go_wp2
    go_ret
    exact ⟨ret_bool (by simp; intro e; exact hl (by rw [e])), 0, rfl⟩

/-- the marks k, k + 1, .. -/
def marks (k n : Nat) : List Int := (List.range n).map fun i => ((k + i : Nat) : Int)
theorem marks_length (k n : Nat) : (marks k n).length = n := by simp [marks]
theorem marks_getD (k n j : Nat) (h : j < n) : (marks k n).getD j 0 = ((k + j : Nat) : Int) := by simp [marks, List.getD, h]

theorem mark_set (k n i : Nat) (xs : List Int) (hx : xs.length = n) (hi : i < n) :
    (marks k i ++ xs.drop i).set i (((k + i : Nat) : Int)) = marks k (i + 1) ++ xs.drop (i + 1) := by
  rw [List.set_append_right _ _ (by simp [marks])]
  simp only [marks_length, Nat.sub_self]
  have e : xs.drop i = xs[i] :: xs.drop (i + 1) := List.drop_eq_getElem_cons (by omega)
  rw [e, List.set_cons_zero]
  have e2 : marks k (i + 1) = marks k i ++ [((k + i : Nat) : Int)] := by simp [marks, List.range_succ]
  rw [e2, List.append_assoc]
  rfl

theorem fill_set (xs : List Int) (j : Nat) (hj : j < xs.length) :
    (xs.take j ++ List.replicate (xs.length - j) 0).set j xs[j] = xs.take (j + 1) ++ List.replicate (xs.length - (j + 1)) 0 := by
  have e : xs.length - j = (xs.length - (j + 1)) + 1 := by omega
  rw [List.set_append_right _ _ (by rw [List.length_take]; omega), e, List.replicate_succ, List.take_succ_eq_append_getElem hj]
  have e2 : j - (xs.take j).length = 0 := by rw [List.length_take]; omega
  rw [e2, List.set_cons_zero, List.append_assoc]
  rfl
theorem World.grownBy.trans' {a b c : World} {row : Option Nat} (h : a.grownBy b row) (k : b.grownBy c row) : a.grownBy c row :=
  ⟨k.os.trans h.os, k.tape.trans h.tape, k.output.trans h.output, Nat.le_trans h.size k.size, fun i hi hne => (k.block i (Nat.lt_of_lt_of_le hi h.size) hne).trans (h.block i hi hne)⟩

set_option maxHeartbeats 400000 in
theorem markIntS_any (B g cap : Nat) (xs : List Int) (k0 : Nat) (w : World) (hx : xs.length ≤ 1099511627776) (hk0 : k0 ≤ 1099511627776) (hown : Own w B g cap xs) :
    Calls Try.prog 20 #[(Value.slice (some ⟨g, 0, none⟩) xs.length cap), .int .i64 k0] w fun e w' =>
      e = .returned (.int .i64 ((k0 + xs.length : Nat) : Int)) ∧ Own w' B g cap (marks k0 xs.length) ∧ w.grownBy w' (some g) := by
  go_enter Try.func20, Try.ntmps20
  go_wp2
  go_loopw [1, 5] (fun k i wr => ∃ j : Nat, j ≤ xs.length ∧ i = .int .i64 j ∧ k = .int .i64 ((k0 + j : Nat) : Int) ∧ Own wr B g cap (marks k0 j ++ xs.drop j) ∧ w.grownBy wr (some g)) (fun _ i _ => xs.length - (intOf i).toNat)
  case atStart => exact ⟨0, Nat.zero_le _, rfl, rfl, by simpa [marks] using hown, World.grownBy.refl _ _⟩
  case round =>
    obtain ⟨j, hj, rfl, rfl, ho, hg⟩ := hrel
    by_cases hlt : j < xs.length
    · have hl : (marks k0 j ++ xs.drop j).length = xs.length := by simp [marks_length]; omega
      have h1 := ho.cell j (by rw [hl]; exact hlt)
      have h2 := ho.frozen j
      have Hl := Lib.hid hl; clear hl
      go_wp2
      go_roundw
      case rel =>
        have hs := ho.set j (((k0 + j : Nat) : Int))
        rw [mark_set k0 xs.length j xs rfl hlt] at hs
        exact ⟨j + 1, by omega, by go_num, by go_num, hs.1, World.grownBy.trans' hg hs.2⟩
      case measure => simp [intOf]; omega
    · obtain rfl : j = xs.length := by omega
      go_wp2
      go_ret
      exact ⟨rfl, by simpa using ho, hg⟩

set_option maxHeartbeats 400000 in
theorem heldIntS_any (g o cap : Nat) (xs : List Int) (k0 n : Nat) (w : World) (hx : n ≤ 1099511627776) (hk0 : k0 ≤ 1099511627776) (hn : xs.length = n) (hxs : xs = marks k0 n) (hc : Cells w g o xs) :
    Calls Try.prog 21 #[(Value.slice (some ⟨g, o, none⟩) n cap), .int .i64 k0] w (Reads w (.int .i64 ((k0 + n : Nat) : Int))) := by
  have hcell : ∀ j, j < n → w.cell? ⟨g, o + j, none⟩ = some (.int .i64 ((k0 + j : Nat) : Int)) := fun j hj => by
    rw [hc j (by omega), hxs, marks_getD _ _ _ hj]
  clear hxs hn hc
  go_enter Try.func21, Try.ntmps21
  go_wp2
  go_loopw [1, 5] (fun k i wr => ∃ j : Nat, j ≤ n ∧ i = .int .i64 j ∧ k = .int .i64 ((k0 + j : Nat) : Int) ∧ ∃ m, wr = w.drewN m) (fun _ i _ => n - (intOf i).toNat)
  case atStart => exact ⟨0, Nat.zero_le _, rfl, rfl, 0, rfl⟩
  case round =>
    obtain ⟨j, hj, rfl, rfl, m, rfl⟩ := hrel
    by_cases hlt : j < n
    · have h1 := hcell j hlt
      clear hcell
      go_wp2
      go_roundw
      case rel => exact ⟨j + 1, by omega, by go_num, by go_num, m, rfl⟩
      case measure => simp [intOf]; omega
    · obtain rfl : j = n := by omega
      go_wp2
      go_ret
      exact ⟨rfl, m, rfl⟩

set_option maxHeartbeats 400000 in
theorem toIntS_any (a : Option Addr) (cap : Nat) (xs : List Int) (w : World) (hx : xs.length ≤ 1099511627776) (ha : ArgInts w a xs) :
    Calls Try.prog 15 #[.slice a xs.length cap] w (GotInts w xs) := by
  go_enter Try.func15, Try.ntmps15
  go_wp2_with (at_make; refine wpList_make_ints rfl _ _ rfl w.heap.size xs.length _ rfl rfl rfl hx (Nat.le_refl _) ?_)
  intro w1 hown0 hgr
  have hb0 := below_of_grown hgr
  go_wp2
  go_loopw [4] (fun i wr => ∃ j : Nat, j ≤ xs.length ∧ i = .int .i64 j ∧ Own wr w.heap.size w.heap.size xs.length (xs.take j ++ List.replicate (xs.length - j) 0) ∧ Below w.heap.size w wr) (fun i _ => xs.length - (intOf i).toNat)
  case atStart => exact ⟨0, Nat.zero_le _, rfl, by simpa using hown0, hb0⟩
  case round =>
    obtain ⟨j, hj, rfl, ho, hb⟩ := hrel
    by_cases hlt : j < xs.length
    · rcases ha with rfl | ⟨g, o, rfl, hg, hc⟩
      · simp at hlt
      have hl : (xs.take j ++ List.replicate (xs.length - j) 0).length = xs.length := by simp; omega
      have h0 := hc.below hb hg j hlt
      have h1 := ho.cell j (by rw [hl]; exact hlt)
      have h2 := ho.frozen j
      have Hl := Lib.hid hl; clear hl
      go_wp2
      go_roundw
      case rel =>
        have hs := ho.set j xs[j]
        rw [fill_set xs j hlt] at hs
        exact ⟨j + 1, by omega, by go_num, hs.1, hb.grown hs.2 (by exact hb.size) (by intro k hk; cases hk; exact Nat.le_refl _)⟩
      case measure => simp [intOf]; omega
    · obtain rfl : j = xs.length := by omega
      go_wp2
      go_ret
      exact ⟨w.heap.size, xs.length, rfl, by simpa using ho, hb⟩

theorem eqIntS_same (g1 o1 n1 c1 g2 o2 n2 c2 : Nat) (xs : List Int) (w : World) (h1 : xs.length = n1) (h2 : xs.length = n2) (hx : xs.length ≤ 1099511627776)
    (hcx : Cells w g1 o1 xs) (hcy : Cells w g2 o2 xs) : Calls Try.prog 17 #[(Value.slice (some ⟨g1, o1, none⟩) n1 c1), (Value.slice (some ⟨g2, o2, none⟩) n2 c2)] w (Reads w (.bool true)) := by
  subst h1; subst h2
  have := eqIntS_any g1 o1 c1 g2 o2 c2 xs xs w hx hx hcx hcy
  rwa [decide_eq_true rfl] at this
theorem markIntS_n (B g n cap : Nat) (xs : List Int) (k0 : Nat) (K : Int) (w : World) (hK : K = (k0 : Int)) (hn : xs.length = n) (hx : xs.length ≤ 1099511627776) (hk0 : k0 ≤ 1099511627776) (hown : Own w B g cap xs) :
    Calls Try.prog 20 #[(Value.slice (some ⟨g, 0, none⟩) n cap), .int .i64 K] w fun e w' =>
      e = .returned (.int .i64 ((k0 + n : Nat) : Int)) ∧ Own w' B g cap (marks k0 n) ∧ w.grownBy w' (some g) := by
  subst hn; subst hK
  exact markIntS_any B g cap xs k0 w hx hk0 hown
theorem heldIntS_n (g n cap k0 : Nat) (K : Int) (w : World) (hK : K = (k0 : Int)) (hx : n ≤ 1099511627776) (hk0 : k0 ≤ 1099511627776) (hc : Cells w g 0 (marks k0 n)) :
    Calls Try.prog 21 #[(Value.slice (some ⟨g, 0, none⟩) n cap), .int .i64 K] w (Reads w (.int .i64 ((k0 + n : Nat) : Int))) := by
  subst hK
  exact heldIntS_any g 0 cap _ k0 n w hx hk0 (marks_length _ _) rfl hc
end Go.Proofs.Ytmplcohpinghbaa
