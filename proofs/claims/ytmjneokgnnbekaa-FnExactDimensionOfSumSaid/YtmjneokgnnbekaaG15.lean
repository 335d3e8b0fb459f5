/- slices.SortFunc over rows of the call's own: contract. Mirrored roots, the order of roots, transposed matrices: contracts. -/
import Derived.Test.YtmjneokgnnbekaaG11
import Derived.Shelf.SlSortCmp.Whole1
import Derived.Shelf.SlSortCmp.NoneTotal
import Derived.Test.YtmjneokgnnbekaaG13
import Derived.Test.YtmjneokgnnbekaaG14
import Derived.Deep.RegionWith
namespace Go.Proofs.Ytmjneokgnnbekaa
set_option maxRecDepth 100000
open Go.RowKit Game
open Go.Sort (Holds putRow putCells mapBlock onCells grow heap_grow_old SWO PermIn SortedIn)

section
variable {α : Type} [Inhabited α] (enc : α → Value)
theorem heap_sortedE {w : World} {g n : Nat} {os : Array Obj} {cur : Array Value} {e : TypeId} {fr : Nat × Nat} (d : Array α) (hb : w.heap[g]? = some (.cells cur e fr)) :
    (sortWorld enc w g 0 n d os).heap[g]? = some (.cells (putCells enc 0 d cur) e fr) := by
  have hg : g < w.heap.size := (Array.getElem?_eq_some_iff.1 hb).1
  unfold sortWorld
  rw [heap_grow_old _ _ (by simpa using hg)]
  simp [putRow, mapBlock, Sort.ahead, Array.getElem?_modify, hb, onCells]
theorem heap_sorted_other {w : World} {g n k : Nat} {os : Array Obj} (d : Array α) (hk : k < w.heap.size) (hne : g ≠ k) :
    (sortWorld enc w g 0 n d os).heap[k]? = w.heap[k]? := by
  unfold sortWorld
  rw [heap_grow_old _ _ (by simpa using hk)]
  simp [putRow, mapBlock, Sort.ahead, Array.getElem?_modify, hne]
theorem grownBy_sortedE {w : World} {g n : Nat} {os : Array Obj} (d : Array α) : w.grownBy (sortWorld enc w g 0 n d os) (some g) :=
  ⟨rfl, rfl, rfl, by unfold sortWorld; simp, fun k hk hne => heap_sorted_other enc d hk (fun e => hne (by rw [e]))⟩
theorem take_putCellsE (cur : Array Value) (ts : List α) (h : ts.length ≤ cur.size) : (putCells enc 0 ts.toArray cur).toList.take ts.length = ts.map enc := by
  apply List.ext_getElem?
  intro j
  by_cases hj : j < ts.length
  · rw [List.getElem?_take_of_lt hj, Array.getElem?_toList]
    simp [putCells, hj, show j < cur.size by omega]
  · rw [List.getElem?_take_eq_none (by omega), List.getElem?_eq_none (by simp; omega)]
theorem holds_of_ownV {w : World} {B g cap : Nat} {E : TypeId} {ss : List α} (h : OwnV w B E g cap (ss.map enc)) : Holds enc w g 0 ss.toArray := by
  intro j hj
  have hj' : j < ss.length := by simpa using hj
  refine ⟨?_, h.frozen _⟩
  rw [Nat.zero_add, h.cell j (by simpa using hj')]
  simp [hj']
theorem ownV_sorted {w : World} {B g cap n : Nat} {E : TypeId} {os : Array Obj} {ss ts : List α} (h : OwnV w B E g cap (ss.map enc)) (hl : ts.length = ss.length) : OwnV (sortWorld enc w g 0 n ts.toArray os) B E g cap (ts.map enc) := by
  rcases h.2 with ⟨h', _⟩ | ⟨g', cap', cur, h', hb, hh, hn, hm, hs, htk⟩
  · simp at h'
  · simp only [Value.slice.injEq, Option.some.injEq, Addr.mk.injEq, List.length_map] at h'
    obtain ⟨⟨rfl, _⟩, _, rfl⟩ := h'
    refine ⟨by simp, .inr ⟨g, cap, _, by simp, hb, heap_sortedE enc _ hh, by simp at hn ⊢; omega, hm, by simp [putCells, hs], ?_⟩⟩
    rw [Nat.mul_one, List.length_map]
    refine take_putCellsE enc cur ts ?_
    simp at hn hs; omega
end

/-- what is asked of a comparison: in whatever world, at whatever two lists -/
def CmpOk (f : Nat) (cf : List Int → List Int → Int) : Prop :=
  ∀ (g1 o1 c1 g2 o2 c2 : Nat) (xs ys : List Int) (w : World), xs.length ≤ 1048576 → ys.length ≤ 1048576 → Cells w g1 o1 xs → Cells w g2 o2 ys →
    Calls Try.prog f #[(Value.slice (some ⟨g1, o1, none⟩) xs.length c1), (Value.slice (some ⟨g2, o2, none⟩) ys.length c2)] w fun e w' => e = .returned (.int .i64 (cf xs ys)) ∧ ∃ q os', w' = grow (w.drewN q) os'
theorem lays_grow {w : World} {v : Value} {e : Ending} {w' : World} (h : Lays w v e w') : e = .returned v ∧ ∃ q os', w' = grow (w.drewN q) os' := by
  obtain ⟨h1, o, q, rfl⟩ := h
  refine ⟨h1, q, #[o], ?_⟩
  rw [← Sort.alloc_eq_grow]
  rfl
theorem reads_grow {w : World} {v : Value} {e : Ending} {w' : World} (h : Reads w v e w') : e = .returned v ∧ ∃ q os', w' = grow (w.drewN q) os' := by
  obtain ⟨h1, q, rfl⟩ := h
  exact ⟨h1, q, #[], by simp⟩

/-- a comparison that tells all lists apart is a strict weak order -/
theorem swo_of {cf : List Int → List Int → Int} (anti : ∀ a b, cf b a = - cf a b) (zero : ∀ {a b}, cf a b = 0 → a = b) (tr : ∀ {a b d}, cf a b < 0 → cf b d < 0 → cf a d < 0) : SWO (ltOf cf) where
  irrefl x := by unfold ltOf; have := anti x x; simp; omega
  trans x y z h1 h2 := by unfold ltOf at *; simp at *; exact tr h1 h2
  ntrans x y z h1 h2 := by
    unfold ltOf at *
    simp at *
    rcases Int.lt_trichotomy (cf x z) 0 with h | h | h
    · have a1 := anti x y
      have a2 := anti y z
      rcases Int.lt_trichotomy (cf x y) 0 with g | g | g
      · omega
      · have := zero g; subst this; omega
      · rcases Int.lt_trichotomy (cf y z) 0 with k | k | k
        · omega
        · have := zero k; subst this; omega
        · have := tr (a := z) (b := y) (d := x) (by omega) (by omega)
          have a3 := anti x z
          omega
    · omega
    · omega
/-- the order by a comparison -/
def Total (cf : List Int → List Int → Int) : Prop := SWO (ltOf cf)

end Go.Proofs.Ytmjneokgnnbekaa
namespace Go.Proofs.Ytmjneokgnnbekaa
set_option maxRecDepth 100000
open Go.RowKit Game

set_option maxHeartbeats 1000000 in
theorem impl_compareRoots_any (g1 o1 n1 c1 g2 o2 n2 c2 : Nat) (xs ys : List Int) (w : World) (hn1 : xs.length = n1) (hn2 : ys.length = n2) (hx : xs.length ≤ 1048576) (hy : ys.length ≤ 1048576)
    (hcx : Cells w g1 o1 xs) (hcy : Cells w g2 o2 ys) :
    Calls Try.prog 120 #[(Value.slice (some ⟨g1, o1, none⟩) n1 c1), (Value.slice (some ⟨g2, o2, none⟩) n2 c2)] w (Lays w (.int .i64 (rootCmp xs ys))) := by
  subst hn1; subst hn2
  have Ho : Hid (orL [cmpI (heightL xs) (heightL ys), sliceCmp ys xs] = rootCmp xs ys) := rfl
  go_enter Try.func120, Try.ntmps120
  go_wp2_with fail
  refine (impl_HeightOf_any g1 o1 _ c1 xs w rfl hx hcx).mono ?_
  rintro e w1 ⟨rfl, hs1⟩
  go_wp2_with fail
  refine (impl_HeightOf_any g2 o2 _ c2 ys w1 rfl hy (hcy.still hs1)).mono ?_
  rintro e w2 ⟨rfl, hs2⟩
  replace hs2 := still_trans hs1 hs2
  clear hs1
  generalize heightL xs = h1 at *
  generalize heightL ys = h2 at *
  go_wp2_with fail
  refine (cw_Compare h1 h2 w2).mono ?_
  rintro e w3 ⟨rfl, hs3⟩
  replace hs3 := still_trans hs2 hs3
  clear hs2
  go_wp2_with fail
  refine (slices_Compare_any g2 o2 ys.length c2 g1 o1 xs.length c1 ys xs w3 rfl rfl (by omega) (hcy.still hs3) (hcx.still hs3)).mono ?_
  rintro e w4 ⟨rfl, hs4⟩
  replace hs4 := still_trans hs3 hs4
  clear hs3
  generalize sliceCmp ys xs = z at *
  generalize cmpI h1 h2 = y at *
  have Hs4 := Lib.hid hs4
  clear hs4
  obtain ⟨w5, hw5⟩ : ∃ w5, w5 = w4.alloc (.cells #[.int .i64 y, .int .i64 z] 3) := ⟨_, rfl⟩
  have hc5 : Cells w5 w4.heap.size 0 [y, z] := by
    obtain ⟨q1, q2⟩ : w5.cell? ⟨w4.heap.size, 0, none⟩ = some (.int .i64 y) ∧ w5.cell? ⟨w4.heap.size, 1, none⟩ = some (.int .i64 z) := by
      have hh : w5.heap[w4.heap.size]? = some (.cells #[.int .i64 y, .int .i64 z] 3 (0, 0)) := by rw [hw5]; exact heap_alloc_new _ _
      constructor <;> simp [World.cell?, hh]
    intro j hj
    have : j = 0 ∨ j = 1 := by simp at hj; omega
    rcases this with rfl | rfl
    · exact q1
    · exact q2
  have hcall := cw_Or w4.heap.size 0 2 2 [y, z] w5 rfl (by simp) hc5
  rw [hw5, Ho.out] at hcall
  have Hcall := Lib.hid hcall
  clear hcall hc5 hw5
  go_wp2_with fail
  refine Hcall.out.mono ?_
  rintro e w6 ⟨rfl, hs6⟩
  go_wp2_with fail
  go_ret
  refine ⟨rfl, ?_⟩
  obtain ⟨m4, e4⟩ := Hs4.out
  obtain ⟨m6, e6⟩ := hs6
  refine ⟨.cells #[.int .i64 y, .int .i64 z] 3, m4 + m6, ?_⟩
  rw [e6, e4]
  show ((w.alloc _).drewN m4).drewN m6 = _
  rw [World.drewN_drewN]
theorem cmp_roots : CmpOk 120 rootCmp := fun g1 o1 c1 g2 o2 c2 xs ys w hx hy h1 h2 =>
  (impl_compareRoots_any g1 o1 _ c1 g2 o2 _ c2 xs ys w rfl rfl hx hy h1 h2).mono fun _ _ h => lays_grow h

theorem before_of {xs ys : List Int} (hl : xs.length = ys.length) : decide (rootCmp xs ys < 0) = if heightL xs = heightL ys then decide (0 < lexCmp xs ys) else decide (heightL xs < heightL ys) := by
  rw [rootCmp_def]
  by_cases h : heightL xs = heightL ys
  · rw [if_pos (by rw [h]; unfold cmpI; simp), if_pos h, sliceCmp_same hl.symm]
    have h2 := sliceCmp_anti xs ys
    rw [sliceCmp_same hl, sliceCmp_same hl.symm] at h2
    exact decide_eq_decide.2 (by omega)
  · rw [if_neg (by intro h2; exact h (cmpI_zero h2)), if_neg h]
    exact decide_eq_decide.2 cmpI_neg
set_option maxHeartbeats 2000000 in
theorem spec_l7Before_any (g1 o1 n1 c1 g2 o2 n2 c2 : Nat) (xs ys : List Int) (w : World) (hn1 : xs.length = n1) (hn2 : ys.length = n2) (hl : xs.length = ys.length) (hx : xs.length ≤ 1048576)
    (hcx : Cells w g1 o1 xs) (hcy : Cells w g2 o2 ys) :
    Calls Try.prog 107 #[(Value.slice (some ⟨g1, o1, none⟩) n1 c1), (Value.slice (some ⟨g2, o2, none⟩) n2 c2)] w (Reads w (.bool (decide (rootCmp xs ys < 0)))) := by
  subst hn1; subst hn2
  have hv := before_of hl
  have hl' : ys.length = xs.length := hl.symm
  have hy : ys.length ≤ 1048576 := by omega
  have Hl := Lib.hid hl'; clear hl' hl
  have Hv := Lib.hid hv; clear hv
  go_enter Try.func107, Try.ntmps107
  go_wp2_with fail
  refine (spec_HeightOf_any g1 o1 _ c1 xs w rfl hx hcx).mono ?_
  rintro e w1 ⟨rfl, m1, rfl⟩
  go_wp2_with fail
  refine (spec_HeightOf_any g2 o2 _ c2 ys (w.drewN m1) rfl hy hcy).mono ?_
  rintro e w2 ⟨rfl, m2, rfl⟩
  by_cases hh : heightL xs = heightL ys
  · have hv := Hv.out
    rw [if_pos hh] at hv
    have hb : (heightL xs != heightL ys) = false := by simp [hh]
    have Hv2 := Lib.hid hv; clear hv Hv
    generalize heightL xs = h1 at *
    generalize heightL ys = h2 at *
    clear hh
    go_wp2_with fail
    go_loopw [7] (fun i wr => ∃ k : Nat, k ≤ xs.length ∧ i = .int .i64 k ∧ Hid (lexCmp xs ys = lexCmp (xs.drop k) (ys.drop k)) ∧ ∃ n, wr = w.drewN n) (fun i _ => xs.length - (intOf i).toNat)
    case atStart => exact ⟨0, Nat.zero_le _, rfl, rfl, (by first | exact ⟨_, rfl⟩ | exact ⟨0, rfl⟩ | exact still2 _ _ _ | exact still3 _ _ _ _)⟩
    case round =>
      obtain ⟨k, hk, rfl, he, n, rfl⟩ := hrel
      by_cases hlt : k < xs.length
      · have hl2 : k < ys.length := by rw [Hl.out]; exact hlt
        have h1 := hcx k hlt
        have h2 := hcy k hl2
        have hd := lexCmp_drop hlt hl2
        have Hd := Lib.hid hd; clear hd
        go_wp2
        go_quiet (fail)
        go_wp2
        · have ht : (xs[k] != ys[k]) = true := by assumption
          go_quiet (fail)
          go_wp2
          go_ret
          refine ⟨ret_bool ?_, (by first | exact ⟨_, rfl⟩ | exact ⟨0, rfl⟩ | exact still2 _ _ _ | exact still3 _ _ _ _)⟩
          rw [Hv2.out, he.out, Hd.out]
          have hne : xs[k] ≠ ys[k] := by simpa using ht
          by_cases h : xs[k] < ys[k]
          · rw [if_pos h]; simp; omega
          · rw [if_neg h, if_pos (by omega)]; simp; omega
        · have ht : (xs[k] != ys[k]) = false := by assumption
          have hee : xs[k] = ys[k] := by simpa using ht
          go_roundw
          case rel => exact ⟨k + 1, by omega, by go_num, by show _ = _; rw [he.out, Hd.out, if_neg (by omega), if_neg (by omega)], (by first | exact ⟨_, rfl⟩ | exact ⟨0, rfl⟩ | exact still2 _ _ _ | exact still3 _ _ _ _)⟩
          case measure => simp [intOf]; omega
      · obtain rfl : k = xs.length := by omega
        go_wp2
        go_ret
        refine ⟨ret_bool ?_, (by first | exact ⟨_, rfl⟩ | exact ⟨0, rfl⟩ | exact still2 _ _ _ | exact still3 _ _ _ _)⟩
        rw [Hv2.out, he.out, List.drop_length]; rfl
  · have hv := Hv.out
    rw [if_neg hh] at hv
    have hb : (heightL xs != heightL ys) = true := by simp [hh]
    have Hv2 := Lib.hid hv; clear hv Hv
    generalize heightL xs = h1 at *
    generalize heightL ys = h2 at *
    clear hh
    go_wp2_with fail
    go_ret
    exact ⟨ret_bool (by rw [Hv2.out]), (by first | exact ⟨_, rfl⟩ | exact ⟨0, rfl⟩ | exact still2 _ _ _ | exact still3 _ _ _ _)⟩
end Go.Proofs.Ytmjneokgnnbekaa
