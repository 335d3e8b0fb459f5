/- Lists of weights with counts of the call's own; what came in as one; toWeighted, szWeighted, eqWeighted. -/
import Derived.Test.YtihfbbpkgmkbcaaArg
import Derived.Test.YtihfbbpkgmkbcaaG06
import Derived.Laws.ResultCell
namespace Go.Proofs.Ytihfbbpkgmkbcaa
set_option maxRecDepth 100000
open Go.RowKit

theorem Own.setNe {w : World} {B g cap : Nat} {xs : List Int} (h : Own w B g cap xs) (p : Addr) (v : Value) (hp : g ≠ p.block) : Own (w.setCell p v) B g cap xs := by
  refine ⟨h.1, ?_⟩
  rcases h.2 with ⟨h', _⟩ | ⟨g', cap', cur, h', hbb, hh, r⟩
  · simp at h'
  · refine .inr ⟨g', cap', cur, h', hbb, ?_, r⟩
    simp only [Value.slice.injEq, Option.some.injEq, Addr.mk.injEq] at h'
    obtain ⟨⟨rfl, _⟩, _⟩ := h'
    rw [Below.heap_setCell _ _ _ _ hp]; exact hh

/-- a row with its count: its block, its capacity, its numbers; the count -/
abbrev WRef := RowRef × Int
def flatW (rs : List WRef) : List Value := rs.flatMap fun r => [rowVal r.1, .int .i64 r.2]
def contW (rs : List WRef) : List Wt := rs.map fun r => (r.1.2.2, r.2)
theorem contW_length (rs : List WRef) : (contW rs).length = rs.length := by simp [contW]
theorem flatW_length (rs : List WRef) : (flatW rs).length = rs.length * 2 := by
  induction rs with
  | nil => rfl
  | cons r rs ih => simp only [flatW, List.flatMap_cons, List.length_append, List.length_cons, List.length_nil] at *; rw [ih]; omega
theorem flatW_append (a b : List WRef) : flatW (a ++ b) = flatW a ++ flatW b := by simp [flatW]
theorem flatW_one (r : WRef) : flatW [r] = [rowVal r.1, .int .i64 r.2] := rfl
theorem flatW_at (rs : List WRef) (zs : List Value) (j : Nat) (hj : j < rs.length) : (flatW rs ++ zs)[j * 2]? = some (rowVal rs[j].1) ∧ (flatW rs ++ zs)[j * 2 + 1]? = some (.int .i64 rs[j].2) := by
  have e : rs = rs.take j ++ [rs[j]] ++ rs.drop (j + 1) := by
    have h1 : rs.drop j = rs[j] :: rs.drop (j + 1) := List.drop_eq_getElem_cons hj
    rw [List.append_assoc, List.singleton_append, ← h1, List.take_append_drop]
  have hl : (flatW (rs.take j)).length = j * 2 := by rw [flatW_length, List.length_take]; omega
  have e2 : flatW rs ++ zs = flatW (rs.take j) ++ (rowVal rs[j].1 :: .int .i64 rs[j].2 :: (flatW (rs.drop (j + 1)) ++ zs)) := by
    conv => lhs; rw [e, flatW_append, flatW_append, flatW_one]
    simp
  rw [e2]
  constructor
  · rw [List.getElem?_append_right (by omega), hl]; simp
  · rw [List.getElem?_append_right (by omega), hl, show j * 2 + 1 - j * 2 = 1 by omega]; simp
theorem flatW_put (rs : List WRef) (r : WRef) (zs : List Value) (j : Nat) (hj : rs.length = j) (hz : 2 ≤ zs.length) :
    ((flatW rs ++ zs).set (j * 2) (rowVal r.1)).set (j * 2 + 1) (.int .i64 r.2) = flatW (rs ++ [r]) ++ zs.drop 2 := by
  have hl : (flatW rs).length = j * 2 := by rw [flatW_length, hj]
  match zs, hz with
  | a :: b :: zs', _ =>
    rw [List.set_append_right _ _ (by omega), hl, Nat.sub_self, List.set_cons_zero, List.set_append_right _ _ (by omega), hl, show j * 2 + 1 - j * 2 = 1 by omega, flatW_append, flatW_one]
    simp

def OwnW (w : World) (B g cap : Nat) (rs : List WRef) : Prop := OwnK w B 48 2 g cap rs.length (flatW rs) ∧ Inner w B (rs.map (·.1))
theorem OwnW.base {w : World} {B g cap : Nat} {rs : List WRef} (h : OwnW w B g cap rs) : B ≤ g := h.1.base
theorem OwnW.lt {w : World} {B g cap : Nat} {rs : List WRef} (h : OwnW w B g cap rs) : g < w.heap.size := h.1.lt
theorem OwnW.below {w w' : World} {B g cap : Nat} {rs : List WRef} (h : OwnW w B g cap rs) (hb : Below w.heap.size w w') : OwnW w' B g cap rs := ⟨h.1.below hb h.1.lt, h.2.below hb⟩
theorem OwnW.mono {w : World} {B B' g cap : Nat} {rs : List WRef} (h : OwnW w B g cap rs) (hB : B' ≤ B) : OwnW w B' g cap rs := ⟨h.1.mono hB, h.2.mono hB⟩
theorem wOf_cont (rs : List WRef) (j : Nat) (hj : j < rs.length) : wOf (contW rs) j = rs[j].1.2.2 ∧ ctOf (contW rs) j = rs[j].2 := by
  simp [wOf, ctOf, contW, List.getD, hj]
theorem OwnW.wrows {w : World} {B g cap : Nat} {rs : List WRef} (h : OwnW w B g cap rs) : WRows w g 0 (contW rs) := by
  intro j hj
  rw [contW_length] at hj
  obtain ⟨e1, e2⟩ := wOf_cont rs j hj
  have ho := h.2.1 rs[j].1 (List.mem_map_of_mem (List.getElem_mem hj))
  have hl := flatW_length rs
  have hf := flatW_at rs [] j hj
  rw [List.append_nil] at hf
  rw [e1, e2]
  refine ⟨rs[j].1.1, 0, rs[j].1.2.1, ?_, ?_, ho.capLe, ho.lt, ho.cells⟩
  · rw [Nat.zero_add, h.1.cell (j * 2) (by omega), ← List.getElem?_eq_getElem]; rw [hf.1]; rfl
  · rw [Nat.zero_add, h.1.cell (j * 2 + 1) (by omega), ← List.getElem?_eq_getElem]; exact hf.2

/-- what came in as a list of weights with counts -/
def ArgWts (w : World) (a : Option Addr) (l : List Wt) : Prop :=
  l = [] ∨ ∃ g o, a = some ⟨g, o, none⟩ ∧ g < w.heap.size ∧ ∀ j, j < l.length → ∃ aj cj, w.cell? ⟨g, o + j * 2, none⟩ = some (.slice aj (wOf l j).length cj) ∧ w.cell? ⟨g, o + j * 2 + 1, none⟩ = some (.int .i64 (ctOf l j)) ∧ ArgInts w aj (wOf l j)
theorem ArgWts.below {w w' : World} {a : Option Addr} {l : List Wt} (h : ArgWts w a l) (hb : Below w.heap.size w w') : ArgWts w' a l := by
  rcases h with h | ⟨g, o, ha, hg, hc⟩
  · exact .inl h
  · refine .inr ⟨g, o, ha, Nat.lt_of_lt_of_le hg hb.size, fun j hj => ?_⟩
    obtain ⟨aj, cj, h1, h2, h3⟩ := hc j hj
    exact ⟨aj, cj, (hb.cell (p := ⟨g, o + j * 2, none⟩) hg).trans h1, (hb.cell (p := ⟨g, o + j * 2 + 1, none⟩) hg).trans h2, h3.below hb⟩

theorem szWeighted_any (a : Option Addr) (n c : Nat) (k left : Int) (w : World) (hl : 0 ≤ left ∧ left ≤ 1048576) (hn : n ≤ 9223372036854775807) :
    Calls Try.prog 26 #[.agg #[.slice a n c, .int .i64 k], .int .i64 left] w (fun e w' => e = .returned (.int .i64 (szL n left)) ∧ Below w.heap.size w w') := by
  have hw := szIntS_any a n c left (w.alloc (.cells #[.slice a n c, .int .i64 k] 44)) hl hn
  have hcase : szL n left = -1 ∨ 0 ≤ szL n left := by unfold szL; split <;> omega
  generalize szL n left = L at *
  go_enter Try.func26, Try.ntmps26
  go_wp2_with fail
  refine hw.mono ?_
  rintro e w1 ⟨rfl, m1, rfl⟩
  rcases hcase with rfl | h
  · go_wp2_with fail
    go_ret
    exact ⟨rfl, (by repeat (first | with_reducible exact Below.refl _ _ | with_reducible assumption | with_reducible refine below_drewN ?_ _ | with_reducible refine Below.drew ?_ | (with_reducible refine Below.alloc ?_ ?_ _; rotate_left; · first | (simp; done) | (simp; omega) | exact Below.size (by assumption) | (have hsz := Below.size (by assumption : Below _ _ _); simp at hsz ⊢; omega)) | (with_reducible refine Below.setCell ?_ ?_ _; rotate_left; · first | (simp; done) | (simp; omega))))⟩
  · go_wp2_with fail
    go_ret
    exact ⟨rfl, (by repeat (first | with_reducible exact Below.refl _ _ | with_reducible assumption | with_reducible refine below_drewN ?_ _ | with_reducible refine Below.drew ?_ | (with_reducible refine Below.alloc ?_ ?_ _; rotate_left; · first | (simp; done) | (simp; omega) | exact Below.size (by assumption) | (have hsz := Below.size (by assumption : Below _ _ _); simp at hsz ⊢; omega)) | (with_reducible refine Below.setCell ?_ ?_ _; rotate_left; · first | (simp; done) | (simp; omega))))⟩

/-- the size of a list: what is left, where it is not negative, tells that it is small -/
def szWPost (l : List Wt) (w : World) (e : Ending) (w' : World) : Prop := ∃ L : Int, e = .returned (.int .i64 L) ∧ (0 ≤ L → wFew l ∧ L ≤ 1048576) ∧ Below w.heap.size w w'

theorem szL_bound {n : Nat} {left : Int} (hl : left ≤ 1048576) (h : 0 ≤ szL n left) : n ≤ 1048576 ∧ szL n left ≤ 1048576 := by
  unfold szL at *
  split at h
  · omega
  · rename_i hh; rw [if_neg hh]; omega

set_option maxHeartbeats 1000000 in
theorem szWeightedS_any (a : Option Addr) (n c : Nat) (l : List Wt) (left : Int) (w : World) (hlen : l.length = n) (hl : 0 ≤ left ∧ left ≤ 1048576) (hn : n ≤ 9223372036854775807)
    (hrl : ∀ j, j < l.length → (wOf l j).length ≤ 9223372036854775807) (ha : ArgWts w a l) :
    Calls Try.prog 7 #[.slice a n c, .int .i64 left] w (szWPost l w) := by
  subst hlen
  have e0 : IntKind.i64.wrap (left - (l.length : Int)) = left - l.length := IntWalk.i64_in _ (by omega)
  by_cases h : left - (l.length : Int) < 0
  · go_enter Try.func7, Try.ntmps7
    go_wp2
    go_ret
    exact ⟨-1, rfl, fun h => absurd h (by omega), Below.refl _ _⟩
  · have hln : l.length ≤ 1048576 := by omega
    go_enter Try.func7, Try.ntmps7
    go_wp2
    go_loopw [1, 5] (fun x i wr => ∃ (k : Nat) (L : Int), k ≤ l.length ∧ i = .int .i64 k ∧ x = .int .i64 L ∧ 0 ≤ L ∧ L ≤ 1048576 ∧ Hid (∀ j, j < k → (wOf l j).length ≤ 1048576) ∧ Below w.heap.size w wr) (fun _ i _ => l.length - (intOf i).toNat)
    case atStart => exact ⟨0, _, Nat.zero_le _, rfl, rfl, by omega, by omega, fun j hj => absurd hj (by omega), Below.refl _ _⟩
    case round =>
      obtain ⟨k, L, hk, rfl, rfl, hL0, hL1, hall, hb⟩ := hrel
      by_cases hlt : k < l.length
      · rcases ha.below hb with rfl | ⟨g, o, rfl, hg, hc⟩
        · simp at hlt
        obtain ⟨aj, cj, p1, p2, hai⟩ := hc k hlt
        have hrk := hrl k hlt
        have HV : Hid (wOf l k = wOf l k) := rfl
        generalize hV : wOf l k = V at p1 p2 hai hrk
        generalize ctOf l k = C at p2
        have HV := Lib.hid hV
        have hsz := fun (h : 0 ≤ szL V.length L) => szL_bound (left := L) hL1 h
        have Hsz := Lib.hid hsz
        clear hV hsz hc hai
        go_wp2_with fail
        refine (szWeighted_any aj V.length cj C L wr ⟨hL0, hL1⟩ hrk).mono ?_
        rintro e w1 ⟨rfl, hb1⟩
        have hbb := hb.trans (hb1.mono hb.size)
        generalize szL V.length L = L2 at *
        by_cases hneg : L2 < 0
        · go_wp2_with fail
          go_ret
          exact ⟨-1, rfl, fun h => absurd h (by omega), hbb⟩
        · have hp := Hsz.out (by omega)
          go_wp2_with fail
          go_roundw
          case rel =>
            refine ⟨k + 1, L2, by omega, by go_num, rfl, by omega, hp.2, ?_, hbb⟩
            intro j hj
            by_cases e : j = k
            · subst e; rw [HV.out]; exact hp.1
            · exact hall.out j (by omega)
          case measure => simp [intOf]; omega
      · obtain rfl : k = l.length := by omega
        go_wp2
        go_ret
        exact ⟨L, rfl, fun _ => ⟨⟨by omega, hall.out⟩, hL1⟩, hb⟩
end Go.Proofs.Ytihfbbpkgmkbcaa
