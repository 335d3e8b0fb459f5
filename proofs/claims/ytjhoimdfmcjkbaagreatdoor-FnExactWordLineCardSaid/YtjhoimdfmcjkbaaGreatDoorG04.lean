/- slices.Equal, CompareWords, EqualWords: contracts (parts of XPal and XEq, for seats that lack the rest). Lists of weights with counts ([]impl.Weighted): what they read as. -/
import Derived.Test.YtjhoimdfmcjkbaaGreatDoorG03
namespace Go.Proofs.YtjhoimdfmcjkbaaGreatDoor
set_option maxRecDepth 100000
open Go.RowKit

def lexCmp : List Int → List Int → Int
  | x :: a, y :: b => if x < y then -1 else if y < x then 1 else lexCmp a b
  | _, _ => 0
def wordCmp (a b : List Int) : Int := if a.length < b.length then -1 else if b.length < a.length then 1 else lexCmp a b
theorem lexCmp_eq {a b : List Int} (h : a.length = b.length) : lexCmp a b = 0 ↔ a = b := by
  induction a generalizing b with
  | nil => cases b with
    | nil => simp [lexCmp]
    | cons y b => simp at h
  | cons x a ih => cases b with
    | nil => simp at h
    | cons y b =>
      simp only [lexCmp]
      by_cases h1 : x < y
      · rw [if_pos h1]; simp; intro e; omega
      · rw [if_neg h1]
        by_cases h2 : y < x
        · rw [if_pos h2]; simp; intro e; omega
        · rw [if_neg h2, ih (by simpa using h)]
          have : x = y := by omega
          subst this; simp
theorem wordCmp_eq (a b : List Int) : (wordCmp a b == 0) = decide (a = b) := by
  unfold wordCmp
  by_cases h1 : a.length < b.length
  · rw [if_pos h1]; simp; intro e; subst e; omega
  · rw [if_neg h1]
    by_cases h2 : b.length < a.length
    · rw [if_pos h2]; simp; intro e; subst e; omega
    · rw [if_neg h2]
      have := lexCmp_eq (a := a) (b := b) (by omega)
      by_cases e : a = b
      · rw [this.2 e]; simp [e]
      · have h3 : lexCmp a b ≠ 0 := fun h => e (this.1 h)
        simp [e, h3]
theorem lexCmp_drop {a b : List Int} {k : Nat} (h1 : k < a.length) (h2 : k < b.length) : lexCmp (a.drop k) (b.drop k) = if a[k] < b[k] then -1 else if b[k] < a[k] then 1 else lexCmp (a.drop (k + 1)) (b.drop (k + 1)) := by
  have e1 : a.drop k = a[k] :: a.drop (k + 1) := List.drop_eq_getElem_cons h1
  have e2 : b.drop k = b[k] :: b.drop (k + 1) := List.drop_eq_getElem_cons h2
  rw [e1, e2]; rfl

set_option maxHeartbeats 1000000 in
theorem spec_CompareWords_any (g1 o1 n1 c1 g2 o2 n2 c2 : Nat) (xs ys : List Int) (w : World) (hn1 : xs.length = n1) (hn2 : ys.length = n2) (hx : xs.length ≤ 1099511627776)
    (hcx : Cells w g1 o1 xs) (hcy : Cells w g2 o2 ys) :
    Calls Tryz.prog 61 #[(Value.slice (some ⟨g1, o1, none⟩) n1 c1), (Value.slice (some ⟨g2, o2, none⟩) n2 c2)] w (Reads w (.int .i64 (wordCmp xs ys))) := by
  subst hn1; subst hn2
  by_cases hl : ys.length = xs.length
  · have e : wordCmp xs ys = lexCmp xs ys := by unfold wordCmp; rw [if_neg (by omega), if_neg (by omega)]
    rw [e]
    clear e
    have hl' : ys.length = xs.length := hl
    have Hl := Lib.hid hl'; clear hl'
    have hb : ((xs.length : Int) != (ys.length : Int)) = false := by rw [hl]; simp
    clear hl
    go_enter Tryz.func61, Tryz.ntmps61
    go_wp2
    go_loopw [5] (fun i wr => ∃ k : Nat, k ≤ xs.length ∧ i = .int .i64 k ∧ Hid (lexCmp xs ys = lexCmp (xs.drop k) (ys.drop k)) ∧ ∃ n, wr = w.drewN n) (fun i _ => xs.length - (intOf i).toNat)
    case atStart => exact ⟨0, Nat.zero_le _, rfl, rfl, 0, rfl⟩
    case round =>
      obtain ⟨k, hk, rfl, he, n, rfl⟩ := hrel
      by_cases hlt : k < xs.length
      · have hl2 : k < ys.length := by rw [Hl.out]; exact hlt
        have h1 := hcx k hlt
        have h2 := hcy k hl2
        have hd := lexCmp_drop hlt hl2
        have Hd := Lib.hid hd; clear hd
        go_wp2
        go_quiet (fail)
        go_wp2
        · have ht : xs[k] < ys[k] := by assumption
          go_ret
          exact ⟨ret_int (by rw [he.out, Hd.out, if_pos ht]), (by first | exact ⟨_, rfl⟩ | exact ⟨0, rfl⟩ | exact still2 _ _ _ | exact still3 _ _ _ _)⟩
        · have ht : ys[k] ≤ xs[k] := by assumption
          go_quiet (fail)
          go_wp2
          · have ht2 : ys[k] < xs[k] := by assumption
            go_ret
            exact ⟨ret_int (by rw [he.out, Hd.out, if_neg (by omega), if_pos ht2]), (by first | exact ⟨_, rfl⟩ | exact ⟨0, rfl⟩ | exact still2 _ _ _ | exact still3 _ _ _ _)⟩
          · have ht2 : xs[k] ≤ ys[k] := by assumption
            go_roundw
            case rel => exact ⟨k + 1, by omega, by go_num, by show _ = _; rw [he.out, Hd.out, if_neg (by omega), if_neg (by omega)], (by first | exact ⟨_, rfl⟩ | exact ⟨0, rfl⟩ | exact still2 _ _ _ | exact still3 _ _ _ _)⟩
            case measure => simp [intOf]; omega
      · obtain rfl : k = xs.length := by omega
        go_wp2
        go_ret
        refine ⟨ret_int ?_, n, rfl⟩
        rw [he.out, List.drop_length]; rfl
  · have hb : ((xs.length : Int) != (ys.length : Int)) = true := by rw [bne_iff_ne]; omega
    by_cases h1 : xs.length < ys.length
    · have e : wordCmp xs ys = -1 := by unfold wordCmp; rw [if_pos h1]
      rw [e]
      go_enter Tryz.func61, Tryz.ntmps61
      go_wp2
      go_ret
      exact ⟨rfl, 0, rfl⟩
    · have e : wordCmp xs ys = 1 := by unfold wordCmp; rw [if_neg h1, if_pos (by omega)]
      rw [e]
      go_enter Tryz.func61, Tryz.ntmps61
      go_wp2
      go_ret
      exact ⟨rfl, 0, rfl⟩

set_option maxHeartbeats 400000 in
theorem spec_EqualWords_any (g1 o1 n1 c1 g2 o2 n2 c2 : Nat) (xs ys : List Int) (w : World) (hn1 : xs.length = n1) (hn2 : ys.length = n2) (hx : xs.length ≤ 1099511627776)
    (hcx : Cells w g1 o1 xs) (hcy : Cells w g2 o2 ys) :
    Calls Tryz.prog 58 #[(Value.slice (some ⟨g1, o1, none⟩) n1 c1), (Value.slice (some ⟨g2, o2, none⟩) n2 c2)] w (Reads w (.bool (decide (xs = ys)))) := by
  have hw := wordCmp_eq xs ys
  rw [← hw]
  clear hw
  go_enter Tryz.func58, Tryz.ntmps58
  go_wp2_with fail
  refine (spec_CompareWords_any g1 o1 n1 c1 g2 o2 n2 c2 xs ys _ hn1 hn2 hx hcx hcy).mono ?_
  rintro e w1 ⟨rfl, m, rfl⟩
  go_wp2_with fail
  go_ret
  exact ⟨rfl, m, rfl⟩

end Go.Proofs.YtjhoimdfmcjkbaaGreatDoor
namespace Go.Proofs.YtjhoimdfmcjkbaaGreatDoor
set_option maxRecDepth 100000
open Go.RowKit

/-- a weight with its count -/
abbrev Wt := List Int × Int
def wOf (l : List Wt) (j : Nat) : List Int := (l.getD j ([], 0)).1
def ctOf (l : List Wt) (j : Nat) : Int := (l.getD j ([], 0)).2
/-- cells that hold weights with counts, two a piece -/
def WRows (w : World) (g o : Nat) (l : List Wt) : Prop :=
  ∀ j, j < l.length → ∃ gj oj cj, w.cell? ⟨g, o + j * 2, none⟩ = some (Value.slice (some ⟨gj, oj, none⟩) ((wOf l j).length) cj) ∧ w.cell? ⟨g, o + j * 2 + 1, none⟩ = some (.int .i64 (ctOf l j)) ∧ (wOf l j).length ≤ cj ∧ gj < w.heap.size ∧ Cells w gj oj (wOf l j)
theorem WRows.below {w w' : World} {g o : Nat} {l : List Wt} (h : WRows w g o l) (hb : Below w.heap.size w w') (hg : g < w.heap.size) : WRows w' g o l := fun j hj => by
  obtain ⟨gj, oj, cj, h1, h2, h3, h4, h5⟩ := h j hj
  exact ⟨gj, oj, cj, (hb.cell (p := ⟨g, o + j * 2, none⟩) hg).trans h1, (hb.cell (p := ⟨g, o + j * 2 + 1, none⟩) hg).trans h2, h3, Nat.lt_of_lt_of_le h4 hb.size, h5.below hb h4⟩
def wFew (l : List Wt) : Prop := l.length ≤ 1048576 ∧ ∀ j, j < l.length → (wOf l j).length ≤ 1048576

/-- the count of a weight in a list: of the first that is equal -/
def countIn : List Wt → List Int → Int
  | [], _ => 0
  | x :: l, v => if x.1 = v then x.2 else countIn l v
theorem countIn_drop (l : List Wt) (v : List Int) (k : Nat) (hk : k < l.length) : countIn (l.drop k) v = if wOf l k = v then ctOf l k else countIn (l.drop (k + 1)) v := by
  have e : l.drop k = l[k] :: l.drop (k + 1) := List.drop_eq_getElem_cons hk
  rw [e]; simp [countIn, wOf, ctOf, List.getD, hk]

end Go.Proofs.YtjhoimdfmcjkbaaGreatDoor
