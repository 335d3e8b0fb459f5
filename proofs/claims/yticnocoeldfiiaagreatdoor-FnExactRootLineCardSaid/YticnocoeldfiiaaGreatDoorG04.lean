/- slices.Equal, CompareWords, EqualWords: contracts (parts of XPal and XEq, for seats that lack the rest). Lists of weights with counts ([]impl.Weighted): what they read as. Arguments opened: integers, rows of integers (parts of XClOf); small words on blocks. -/
import Derived.Test.YticnocoeldfiiaaGreatDoorCart
import Derived.Test.YticnocoeldfiiaaGreatDoorRh
import Derived.Deep.Matrix
import Derived.Lib.SmallJoins
namespace Go.Proofs.YticnocoeldfiiaaGreatDoor
open Go.RowKit

def lexCmp : List Int → List Int → Int
  | x :: a, y :: b => if x < y then -1 else if y < x then 1 else lexCmp a b
  | _, _ => 0
def wordCmp (a b : List Int) : Int := if a.length < b.length then -1 else if b.length < a.length then 1 else lexCmp a b
theorem lexCmp_eq {a b : List Int} (h : a.length = b.length) : lexCmp a b = 0 ↔ a = b := by
  induction a generalizing b with
  | nil => cases b with
    | nil => simp [lexCmp]
    | cons y b => simp at h
  | cons x a ih => cases b with
    | nil => simp at h
    | cons y b =>
      simp only [lexCmp]
      by_cases h1 : x < y
      · rw [if_pos h1]; simp; intro e; omega
      · rw [if_neg h1]
        by_cases h2 : y < x
        · rw [if_pos h2]; simp; intro e; omega
        · rw [if_neg h2, ih (by simpa using h)]
          have : x = y := by omega
          subst this; simp
theorem wordCmp_eq (a b : List Int) : (wordCmp a b == 0) = decide (a = b) := by
  unfold wordCmp
  by_cases h1 : a.length < b.length
  · rw [if_pos h1]; simp; intro e; subst e; omega
  · rw [if_neg h1]
    by_cases h2 : b.length < a.length
    · rw [if_pos h2]; simp; intro e; subst e; omega
    · rw [if_neg h2]
      have := lexCmp_eq (a := a) (b := b) (by omega)
      by_cases e : a = b
      · rw [this.2 e]; simp [e]
      · have h3 : lexCmp a b ≠ 0 := fun h => e (this.1 h)
        simp [e, h3]
theorem lexCmp_drop {a b : List Int} {k : Nat} (h1 : k < a.length) (h2 : k < b.length) : lexCmp (a.drop k) (b.drop k) = if a[k] < b[k] then -1 else if b[k] < a[k] then 1 else lexCmp (a.drop (k + 1)) (b.drop (k + 1)) := by
  have e1 : a.drop k = a[k] :: a.drop (k + 1) := List.drop_eq_getElem_cons h1
  have e2 : b.drop k = b[k] :: b.drop (k + 1) := List.drop_eq_getElem_cons h2
  rw [e1, e2]; rfl

set_option maxHeartbeats 1000000 in
theorem spec_CompareWords_any (g1 o1 n1 c1 g2 o2 n2 c2 : Nat) (xs ys : List Int) (w : World) (hn1 : xs.length = n1) (hn2 : ys.length = n2) (hx : xs.length ≤ 1099511627776)
    (hcx : Cells w g1 o1 xs) (hcy : Cells w g2 o2 ys) :
    Calls Tryz.prog 101 #[(Value.slice (some ⟨g1, o1, none⟩) n1 c1), (Value.slice (some ⟨g2, o2, none⟩) n2 c2)] w (Reads w (.int .i64 (wordCmp xs ys))) := by
  subst hn1; subst hn2
  by_cases hl : ys.length = xs.length
  · have e : wordCmp xs ys = lexCmp xs ys := by unfold wordCmp; rw [if_neg (by omega), if_neg (by omega)]
    rw [e]
    clear e
    have hl' : ys.length = xs.length := hl
    have Hl := Lib.hid hl'; clear hl'
    have hb : ((xs.length : Int) != (ys.length : Int)) = false := by rw [hl]; simp
    clear hl
    go_enter Tryz.func101, Tryz.ntmps101
    go_wp2
    go_loopw [5] (fun i wr => ∃ k : Nat, k ≤ xs.length ∧ i = .int .i64 k ∧ Hid (lexCmp xs ys = lexCmp (xs.drop k) (ys.drop k)) ∧ ∃ n, wr = w.drewN n) (fun i _ => xs.length - (intOf i).toNat)
    case atStart => exact ⟨0, Nat.zero_le _, rfl, rfl, 0, rfl⟩
    case round =>
      obtain ⟨k, hk, rfl, he, n, rfl⟩ := hrel
      by_cases hlt : k < xs.length
      · have hl2 : k < ys.length := by rw [Hl.out]; exact hlt
        have h1 := hcx k hlt
        have h2 := hcy k hl2
        have hd := lexCmp_drop hlt hl2
        have Hd := Lib.hid hd; clear hd
        go_wp2
        go_quiet (fail)
        go_wp2
        · have ht : xs[k] < ys[k] := by assumption
          go_ret
          exact ⟨ret_int (by rw [he.out, Hd.out, if_pos ht]), (by first | exact ⟨_, rfl⟩ | exact ⟨0, rfl⟩ | exact still2 _ _ _ | exact still3 _ _ _ _)⟩
        · have ht : ys[k] ≤ xs[k] := by assumption
          go_quiet (fail)
          go_wp2
          · have ht2 : ys[k] < xs[k] := by assumption
            go_ret
            exact ⟨ret_int (by rw [he.out, Hd.out, if_neg (by omega), if_pos ht2]), (by first | exact ⟨_, rfl⟩ | exact ⟨0, rfl⟩ | exact still2 _ _ _ | exact still3 _ _ _ _)⟩
          · have ht2 : xs[k] ≤ ys[k] := by assumption
            go_roundw
            case rel => exact ⟨k + 1, by omega, by go_num, by show _ = _; rw [he.out, Hd.out, if_neg (by omega), if_neg (by omega)], (by first | exact ⟨_, rfl⟩ | exact ⟨0, rfl⟩ | exact still2 _ _ _ | exact still3 _ _ _ _)⟩
            case measure => simp [intOf]; omega
      · obtain rfl : k = xs.length := by omega
        go_wp2
        go_ret
        refine ⟨ret_int ?_, n, rfl⟩
        rw [he.out, List.drop_length]; rfl
  · have hb : ((xs.length : Int) != (ys.length : Int)) = true := by rw [bne_iff_ne]; omega
    by_cases h1 : xs.length < ys.length
    · have e : wordCmp xs ys = -1 := by unfold wordCmp; rw [if_pos h1]
      rw [e]
      go_enter Tryz.func101, Tryz.ntmps101
      go_wp2
      go_ret
      exact ⟨rfl, 0, rfl⟩
    · have e : wordCmp xs ys = 1 := by unfold wordCmp; rw [if_neg h1, if_pos (by omega)]
      rw [e]
      go_enter Tryz.func101, Tryz.ntmps101
      go_wp2
      go_ret
      exact ⟨rfl, 0, rfl⟩

set_option maxHeartbeats 400000 in
theorem spec_EqualWords_any (g1 o1 n1 c1 g2 o2 n2 c2 : Nat) (xs ys : List Int) (w : World) (hn1 : xs.length = n1) (hn2 : ys.length = n2) (hx : xs.length ≤ 1099511627776)
    (hcx : Cells w g1 o1 xs) (hcy : Cells w g2 o2 ys) :
    Calls Tryz.prog 78 #[(Value.slice (some ⟨g1, o1, none⟩) n1 c1), (Value.slice (some ⟨g2, o2, none⟩) n2 c2)] w (Reads w (.bool (decide (xs = ys)))) := by
  have hw := wordCmp_eq xs ys
  rw [← hw]
  clear hw
  go_enter Tryz.func78, Tryz.ntmps78
  go_wp2_with fail
  refine (spec_CompareWords_any g1 o1 n1 c1 g2 o2 n2 c2 xs ys _ hn1 hn2 hx hcx hcy).mono ?_
  rintro e w1 ⟨rfl, m, rfl⟩
  go_wp2_with fail
  go_ret
  exact ⟨rfl, m, rfl⟩

end Go.Proofs.YticnocoeldfiiaaGreatDoor
namespace Go.Proofs.YticnocoeldfiiaaGreatDoor
open Go.RowKit

/-- a weight with its count -/
abbrev Wt := List Int × Int
def wOf (l : List Wt) (j : Nat) : List Int := (l.getD j ([], 0)).1
def ctOf (l : List Wt) (j : Nat) : Int := (l.getD j ([], 0)).2
/-- cells that hold weights with counts, two a piece -/
def WRows (w : World) (g o : Nat) (l : List Wt) : Prop :=
  ∀ j, j < l.length → ∃ gj oj cj, w.cell? ⟨g, o + j * 2, none⟩ = some (Value.slice (some ⟨gj, oj, none⟩) ((wOf l j).length) cj) ∧ w.cell? ⟨g, o + j * 2 + 1, none⟩ = some (.int .i64 (ctOf l j)) ∧ (wOf l j).length ≤ cj ∧ gj < w.heap.size ∧ Cells w gj oj (wOf l j)
theorem WRows.below {w w' : World} {g o : Nat} {l : List Wt} (h : WRows w g o l) (hb : Below w.heap.size w w') (hg : g < w.heap.size) : WRows w' g o l := fun j hj => by
  obtain ⟨gj, oj, cj, h1, h2, h3, h4, h5⟩ := h j hj
  exact ⟨gj, oj, cj, (hb.cell (p := ⟨g, o + j * 2, none⟩) hg).trans h1, (hb.cell (p := ⟨g, o + j * 2 + 1, none⟩) hg).trans h2, h3, Nat.lt_of_lt_of_le h4 hb.size, h5.below hb h4⟩
def wFew (l : List Wt) : Prop := l.length ≤ 1048576 ∧ ∀ j, j < l.length → (wOf l j).length ≤ 1048576

/-- the count of a weight in a list: of the first that is equal -/
def countIn : List Wt → List Int → Int
  | [], _ => 0
  | x :: l, v => if x.1 = v then x.2 else countIn l v
theorem countIn_drop (l : List Wt) (v : List Int) (k : Nat) (hk : k < l.length) : countIn (l.drop k) v = if wOf l k = v then ctOf l k else countIn (l.drop (k + 1)) v := by
  have e : l.drop k = l[k] :: l.drop (k + 1) := List.drop_eq_getElem_cons hk
  rw [e]; simp [countIn, wOf, ctOf, List.getD, hk]

end Go.Proofs.YticnocoeldfiiaaGreatDoor
namespace Go.Proofs.YticnocoeldfiiaaGreatDoor
open Go.Joins Go.ChangeShapes Go.WideShapes Go.RowKit Go.Deep

def rowsWf (rows : List (List Int)) : Prop := ∀ r ∈ rows, ∀ n ∈ r, (Lit.int .i64 n).wf = true

section
variable {H : Type} {enc : TypeId × Value → H} {w : World} {base : Nat}

theorem argInts_open {fuel : Nat} {v : Value} {x : DataW H × List MemPlace} (h : DataW.trod enc Tryz.prog w base (fun _ => true) true fuel 28 [v] = some x) :
    ∃ a c, ∃ xs : List Int, v = .slice a xs.length c ∧ ArgInts w a xs ∧ xs.length ≤ maxLen ∧ ∀ n ∈ xs, (Lit.int .i64 n).wf = true := by
  rcases open_ints Tryz.underlying28 Tryz.underlying3 (by kernel_rfl) h with ⟨hcs, _⟩ | ⟨a, l, c, zs, hcs, _, hl, hm, hz, _, hcell, hwz⟩
  · simp at hcs
    exact ⟨none, 0, [], hcs, .inl rfl, Nat.zero_le _, by simp⟩
  · simp at hcs
    have hz' : zs.length = c := by simpa using hz
    obtain ⟨h1, h2, h3⟩ := argInts_of (w := w) (a := some a) (len := l) (cap := c) (zs := zs) (.inr ⟨a, rfl, hl, hm, hz', hcell, hwz⟩)
    exact ⟨some a, c, zs.take l, by rw [h2]; exact hcs, h1, by rw [h2]; omega, h3⟩

theorem argRows_open {fuel : Nat} {v : Value} {x : DataW H × List MemPlace} (h : DataW.trod enc Tryz.prog w base (fun _ => true) true fuel 22 [v] = some x) :
    ∃ a c, ∃ rows : List (List Int), v = .slice a rows.length c ∧ ArgRows w a rows ∧ rows.length ≤ maxLen ∧ (∀ j, j < rows.length → (rows.getD j []).length ≤ maxLen) ∧ rowsWf rows := by
  rcases open_int_rows Tryz.underlying22 Tryz.underlying28 Tryz.underlying3 (by kernel_rfl) (by kernel_rfl) h with ⟨hcs, _⟩ | ⟨a, l, c, A, L, C, Z, hcs, _, hl, hm, _, hr⟩
  · simp at hcs
    exact ⟨none, 0, [], hcs, .inl rfl, Nat.zero_le _, by simp, by intro r hr; cases hr⟩
  · simp at hcs
    have hrow : ∀ r, r < c → ArgInts w (A r) ((Z r).take (L r)) ∧ ((Z r).take (L r)).length = L r ∧ (∀ n ∈ (Z r).take (L r), (Lit.int .i64 n).wf = true) ∧ L r ≤ maxLen := by
      intro r hrc
      obtain ⟨e0, e1, e2, e3, e4, e5, e6⟩ := hr r hrc
      have hq : ArgInts w (A r) ((Z r).take (L r)) ∧ ((Z r).take (L r)).length = L r ∧ ∀ n ∈ (Z r).take (L r), (Lit.int .i64 n).wf = true := by
        apply argInts_of (cap := C r)
        cases hA : A r with
        | none =>
          have hc0 := e5 hA
          exact .inl ⟨rfl, by omega, hc0, List.length_eq_zero_iff.1 (by omega)⟩
        | some a' =>
          exact .inr ⟨a', rfl, e1, e2, e3, fun i hi => (e6 a' hA).2 i (by omega), e4⟩
      exact ⟨hq.1, hq.2.1, hq.2.2, by omega⟩
    refine ⟨some a, c, (List.range l).map fun r => (Z r).take (L r), by simpa using hcs, ?_, by simp; omega, ?_, ?_⟩
    · by_cases h0 : l = 0
      · subst h0; exact .inl rfl
      obtain ⟨b, o, s⟩ := a
      have hc0 := (hr 0 (by omega)).1
      cases s with
      | some s => simp [World.cell?, Addr.add] at hc0; split at hc0 <;> simp_all
      | none =>
        refine .inr ⟨b, o, rfl, World.block_lt_of_cell? w _ hc0, fun j hj => ?_⟩
        simp only [List.length_map, List.length_range] at hj
        have e : ((List.range l).map fun r => (Z r).take (L r)).getD j [] = (Z j).take (L j) := by simp [List.getD_eq_getElem?_getD, hj]
        rw [e]
        obtain ⟨q1, q2, _, _⟩ := hrow j (by omega)
        refine ⟨A j, C j, ?_, q1⟩
        rw [q2]
        have := (hr j (by omega)).1
        rwa [Addr.add_lit] at this
    · intro j hj
      simp only [List.length_map, List.length_range] at hj
      have e : ((List.range l).map fun r => (Z r).take (L r)).getD j [] = (Z j).take (L j) := by simp [List.getD_eq_getElem?_getD, hj]
      rw [e]
      obtain ⟨_, q2, _, q4⟩ := hrow j (by omega)
      rw [q2]; exact q4
    · intro r hr' n hn
      obtain ⟨j, hj, rfl⟩ := List.mem_map.1 hr'
      exact (hrow j (by have := List.mem_range.1 hj; omega)).2.2.1 n hn
end

theorem cell_of_cells {w : World} {b : Nat} {cs : Array Value} {t : TypeId} (h : w.heap[b]? = some (.cells cs t (0, 0))) (i : Nat) : w.cell? ⟨b, i, none⟩ = cs[i]? := by simp [World.cell?, h]
theorem free_of_cells {w : World} {b : Nat} {cs : Array Value} {t : TypeId} (h : w.heap[b]? = some (.cells cs t (0, 0))) (i : Nat) : w.frozen? ⟨b, i, none⟩ = false := by simp [World.frozen?, h]

theorem keepCell {W W' : World} {b o : Nat} {v : Value} (hb : Below W.heap.size W W') (h : W.cell? ⟨b, o, none⟩ = some v) : W'.cell? ⟨b, o, none⟩ = some v :=
  (hb.cell (p := ⟨b, o, none⟩) (World.block_lt_of_cell? W _ h)).trans h
end Go.Proofs.YticnocoeldfiiaaGreatDoor
