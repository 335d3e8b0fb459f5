/- slices.Equal, CompareWords, EqualWords: contracts (parts of XPal and XEq, for seats that lack the rest). -/
import Derived.Test.YtihfbbpkgmkbcaaCart
namespace Go.Proofs.Ytihfbbpkgmkbcaa
set_option maxRecDepth 100000
open Go.RowKit

set_option maxHeartbeats 400000 in
theorem slices_Equal_any (g1 o1 n1 c1 g2 o2 n2 c2 : Nat) (xs ys : List Int) (w : World) (hn1 : xs.length = n1) (hn2 : ys.length = n2) (hx : xs.length ≤ 1099511627776) (hy : ys.length ≤ 1099511627776)
    (hcx : Cells w g1 o1 xs) (hcy : Cells w g2 o2 ys) :
    Calls Try.prog 54 #[(Value.slice (some ⟨g1, o1, none⟩) n1 c1), (Value.slice (some ⟨g2, o2, none⟩) n2 c2)] w (Reads w (.bool (decide (xs = ys)))) := by
  subst hn1; subst hn2
  by_cases hl : ys.length = xs.length
  · go_enter Try.func54, Try.ntmps54
    go_wp2
    go_loopw [13] (fun i wr => ∃ k : Nat, k ≤ xs.length ∧ i = .int .i64 k ∧ xs.take k = ys.take k ∧ ∃ n, wr = w.drewN n) (fun i _ => xs.length - (intOf i).toNat)
    case atStart => exact ⟨0, Nat.zero_le _, rfl, rfl, 0, rfl⟩
    case round =>
      obtain ⟨k, hk, rfl, he, n, rfl⟩ := hrel
      have He := Lib.hid he; clear he
      have Hl := Lib.hid hl; clear hl
      by_cases hlt : k < xs.length
      · have h1 := hcx k hlt
        have h2 := hcy k (by rw [Hl.out]; omega)
        have hl2 : k < ys.length := by rw [Hl.out]; omega
        go_wp2
        go_quiet (fail)
        go_wp2
        · have ht : (xs[k] != ys[k]) = true := by assumption
          go_ret
          have hne : xs ≠ ys := fun e => by subst e; simp at ht
          exact ⟨ret_bool (by simp [hne]), (by first | exact ⟨_, rfl⟩ | exact ⟨0, rfl⟩ | exact still2 _ _ _ | exact still3 _ _ _ _)⟩
        · have ht : (xs[k] != ys[k]) = false := by assumption
          go_roundw
          case rel => exact ⟨k + 1, by omega, by go_num, take_succ_eq Hl.out.symm hlt He.out (by simpa [List.getD, hlt, hl2] using ht), (by first | exact ⟨_, rfl⟩ | exact ⟨0, rfl⟩ | exact still2 _ _ _ | exact still3 _ _ _ _)⟩
          case measure => simp [intOf]; omega
      · go_wp2
        go_ret
        refine ⟨ret_bool ?_, n, rfl⟩
        have h3 := He.out
        rw [List.take_of_length_le (by omega), List.take_of_length_le (by have := Hl.out; omega)] at h3
        simp [h3]
  · have hb : ((xs.length : Int) != (ys.length : Int)) = true := by rw [bne_iff_ne]; omega
    go_enter Try.func54, Try.ntmps54
    go_wp2
    go_ret
    exact ⟨ret_bool (by simp; intro e; exact hl (by rw [e])), 0, rfl⟩

def lexCmp : List Int → List Int → Int
  | x :: a, y :: b => if x < y then -1 else if y < x then 1 else lexCmp a b
  | _, _ => 0
def wordCmp (a b : List Int) : Int := if a.length < b.length then -1 else if b.length < a.length then 1 else lexCmp a b
theorem lexCmp_eq {a b : List Int} (h : a.length = b.length) : lexCmp a b = 0 ↔ a = b := by
  induction a generalizing b with
  | nil => cases b with
    | nil => simp [lexCmp]
    | cons y b => simp at h
  | cons x a ih => cases b with
    | nil => simp at h
    | cons y b =>
      simp only [lexCmp]
      by_cases h1 : x < y
      · rw [if_pos h1]; simp; intro e; omega
      · rw [if_neg h1]
        by_cases h2 : y < x
        · rw [if_pos h2]; simp; intro e; omega
        · rw [if_neg h2, ih (by simpa using h)]
          have : x = y := by omega
          subst this; simp
theorem wordCmp_eq (a b : List Int) : (wordCmp a b == 0) = decide (a = b) := by
  unfold wordCmp
  by_cases h1 : a.length < b.length
  · rw [if_pos h1]; simp; intro e; subst e; omega
  · rw [if_neg h1]
    by_cases h2 : b.length < a.length
    · rw [if_pos h2]; simp; intro e; subst e; omega
    · rw [if_neg h2]
      have := lexCmp_eq (a := a) (b := b) (by omega)
      by_cases e : a = b
      · rw [this.2 e]; simp [e]
      · have h3 : lexCmp a b ≠ 0 := fun h => e (this.1 h)
        simp [e, h3]
theorem lexCmp_drop {a b : List Int} {k : Nat} (h1 : k < a.length) (h2 : k < b.length) : lexCmp (a.drop k) (b.drop k) = if a[k] < b[k] then -1 else if b[k] < a[k] then 1 else lexCmp (a.drop (k + 1)) (b.drop (k + 1)) := by
  have e1 : a.drop k = a[k] :: a.drop (k + 1) := List.drop_eq_getElem_cons h1
  have e2 : b.drop k = b[k] :: b.drop (k + 1) := List.drop_eq_getElem_cons h2
  rw [e1, e2]; rfl

set_option maxHeartbeats 1000000 in
theorem spec_CompareWords_any (g1 o1 n1 c1 g2 o2 n2 c2 : Nat) (xs ys : List Int) (w : World) (hn1 : xs.length = n1) (hn2 : ys.length = n2) (hx : xs.length ≤ 1099511627776)
    (hcx : Cells w g1 o1 xs) (hcy : Cells w g2 o2 ys) :
    Calls Try.prog 59 #[(Value.slice (some ⟨g1, o1, none⟩) n1 c1), (Value.slice (some ⟨g2, o2, none⟩) n2 c2)] w (Reads w (.int .i64 (wordCmp xs ys))) := by
  subst hn1; subst hn2
  by_cases hl : ys.length = xs.length
  · have e : wordCmp xs ys = lexCmp xs ys := by unfold wordCmp; rw [if_neg (by omega), if_neg (by omega)]
    rw [e]
    clear e
    have hl' : ys.length = xs.length := hl
    have Hl := Lib.hid hl'; clear hl'
    have hb : ((xs.length : Int) != (ys.length : Int)) = false := by rw [hl]; simp
    clear hl
    go_enter Try.func59, Try.ntmps59
    go_wp2
    go_loopw [5] (fun i wr => ∃ k : Nat, k ≤ xs.length ∧ i = .int .i64 k ∧ Hid (lexCmp xs ys = lexCmp (xs.drop k) (ys.drop k)) ∧ ∃ n, wr = w.drewN n) (fun i _ => xs.length - (intOf i).toNat)
    case atStart => exact ⟨0, Nat.zero_le _, rfl, rfl, 0, rfl⟩
    case round =>
      obtain ⟨k, hk, rfl, he, n, rfl⟩ := hrel
      by_cases hlt : k < xs.length
      · have hl2 : k < ys.length := by rw [Hl.out]; exact hlt
        have h1 := hcx k hlt
        have h2 := hcy k hl2
        have hd := lexCmp_drop hlt hl2
        have Hd := Lib.hid hd; clear hd
        go_wp2
        go_quiet (fail)
        go_wp2
        · have ht : xs[k] < ys[k] := by assumption
          go_ret
          exact ⟨ret_int (by rw [he.out, Hd.out, if_pos ht]), (by first | exact ⟨_, rfl⟩ | exact ⟨0, rfl⟩ | exact still2 _ _ _ | exact still3 _ _ _ _)⟩
        · have ht : ys[k] ≤ xs[k] := by assumption
          go_quiet (fail)
          go_wp2
          · have ht2 : ys[k] < xs[k] := by assumption
            go_ret
            exact ⟨ret_int (by rw [he.out, Hd.out, if_neg (by omega), if_pos ht2]), (by first | exact ⟨_, rfl⟩ | exact ⟨0, rfl⟩ | exact still2 _ _ _ | exact still3 _ _ _ _)⟩
          · have ht2 : xs[k] ≤ ys[k] := by assumption
            go_roundw
            case rel => exact ⟨k + 1, by omega, by go_num, by show _ = _; rw [he.out, Hd.out, if_neg (by omega), if_neg (by omega)], (by first | exact ⟨_, rfl⟩ | exact ⟨0, rfl⟩ | exact still2 _ _ _ | exact still3 _ _ _ _)⟩
            case measure => simp [intOf]; omega
      · obtain rfl : k = xs.length := by omega
        go_wp2
        go_ret
        refine ⟨ret_int ?_, n, rfl⟩
        rw [he.out, List.drop_length]; rfl
  · have hb : ((xs.length : Int) != (ys.length : Int)) = true := by rw [bne_iff_ne]; omega
    by_cases h1 : xs.length < ys.length
    · have e : wordCmp xs ys = -1 := by unfold wordCmp; rw [if_pos h1]
      rw [e]
      go_enter Try.func59, Try.ntmps59
      go_wp2
      go_ret
      exact ⟨rfl, 0, rfl⟩
    · have e : wordCmp xs ys = 1 := by unfold wordCmp; rw [if_neg h1, if_pos (by omega)]
      rw [e]
      go_enter Try.func59, Try.ntmps59
      go_wp2
      go_ret
      exact ⟨rfl, 0, rfl⟩

set_option maxHeartbeats 400000 in
theorem spec_EqualWords_any (g1 o1 n1 c1 g2 o2 n2 c2 : Nat) (xs ys : List Int) (w : World) (hn1 : xs.length = n1) (hn2 : ys.length = n2) (hx : xs.length ≤ 1099511627776)
    (hcx : Cells w g1 o1 xs) (hcy : Cells w g2 o2 ys) :
    Calls Try.prog 48 #[(Value.slice (some ⟨g1, o1, none⟩) n1 c1), (Value.slice (some ⟨g2, o2, none⟩) n2 c2)] w (Reads w (.bool (decide (xs = ys)))) := by
  have hw := wordCmp_eq xs ys
  rw [← hw]
  clear hw
  go_enter Try.func48, Try.ntmps48
  go_wp2_with fail
  refine (spec_CompareWords_any g1 o1 n1 c1 g2 o2 n2 c2 xs ys _ hn1 hn2 hx hcx hcy).mono ?_
  rintro e w1 ⟨rfl, m, rfl⟩
  go_wp2_with fail
  go_ret
  exact ⟨rfl, m, rfl⟩

end Go.Proofs.Ytihfbbpkgmkbcaa
