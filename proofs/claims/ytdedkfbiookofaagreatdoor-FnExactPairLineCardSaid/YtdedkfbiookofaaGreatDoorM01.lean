/- Words of my own for slices of slices of integers. The laws' own helpers for slices of slices: toIntSS, eqIntSS, szIntS, szIntSS. Arguments opened: integers, rows of integers (parts of XClOf); small words on blocks. -/
import Derived.Test.YtdedkfbiookofaaGreatDoorM00
import Derived.Deep.Matrix
import Derived.Lib.SmallJoins
namespace Go.Proofs.YtdedkfbiookofaaGreatDoor
set_option maxRecDepth 100000
open Go.RowKit
theorem infoRow : (Tryz.prog.info? 25).map (fun i => (i.zero, i.size, i.bytes)) = some (some (.slice none 0 0), 1, 24) := by kernel_rfl
/-- a slice of one-cell values, at the head of block g, of the call's own -/
def OwnV (w : World) (B : Nat) (E : TypeId) (g cap : Nat) (vs : List Value) : Prop := w.ownsRow B E 1 (Value.slice (some ⟨g, 0, none⟩) vs.length cap) vs.length vs
section
variable {w w' : World} {B g cap : Nat} {E : TypeId} {vs : List Value}
theorem OwnV.base (h : OwnV w B E g cap vs) : B ≤ g := (World.ownsRow.lt h g rfl).1
theorem OwnV.lt (h : OwnV w B E g cap vs) : g < w.heap.size := (World.ownsRow.lt h g rfl).2
theorem OwnV.row (h : OwnV w B E g cap vs) : ∃ cur, w.heap[g]? = some (.cells cur E (0, 0)) ∧ vs.length ≤ cap ∧ cap ≤ maxLen := by
  rcases h.2 with ⟨h', _⟩ | ⟨g', cap', cur, h', _, hh, hn, hm, _⟩
  · simp at h'
  · simp only [Value.slice.injEq, Option.some.injEq, Addr.mk.injEq] at h'
    obtain ⟨⟨rfl, _⟩, _, rfl⟩ := h'
    exact ⟨cur, hh, hn, hm⟩
theorem OwnV.capLe (h : OwnV w B E g cap vs) : vs.length ≤ cap := by obtain ⟨_, _, h, _⟩ := h.row; exact h
theorem OwnV.cell (h : OwnV w B E g cap vs) (j : Nat) (hj : j < vs.length) : w.cell? ⟨g, j, none⟩ = some vs[j] := by
  rw [World.ownsRow.cellAt h j (by omega)]; simp [hj]
theorem OwnV.frozen (h : OwnV w B E g cap vs) (j : Nat) : w.frozen? ⟨g, j, none⟩ = false := World.ownsRow.frozenAt h j
theorem OwnV.mono {B' : Nat} (h : OwnV w B E g cap vs) (hB : B' ≤ B) : OwnV w B' E g cap vs := by
  refine ⟨h.1, ?_⟩
  rcases h.2 with ⟨h', _⟩ | ⟨g', cap', cur, h', hb, r⟩
  · simp at h'
  · exact .inr ⟨g', cap', cur, h', by omega, r⟩
theorem OwnV.grown {row : Option Nat} (h : OwnV w B E g cap vs) (hg : w.grownBy w' row) (hne : some g ≠ row) : OwnV w' B E g cap vs := World.ownsRow.kept h hg (.inr hne)
theorem OwnV.below {B' : Nat} (h : OwnV w B E g cap vs) (hb : Below B' w w') (hg : g < B') : OwnV w' B E g cap vs := by
  refine ⟨h.1, ?_⟩
  rcases h.2 with ⟨h', _⟩ | ⟨g', cap', cur, h', hbb, hh, r⟩
  · simp at h'
  · refine .inr ⟨g', cap', cur, h', hbb, ?_, r⟩
    simp only [Value.slice.injEq, Option.some.injEq, Addr.mk.injEq] at h'
    obtain ⟨⟨rfl, _⟩, _⟩ := h'
    rw [hb.block _ hg]; exact hh
theorem OwnV.alloc (h : OwnV w B E g cap vs) (o : Obj) : OwnV (w.alloc o) B E g cap vs := World.ownsRow.alloc h o
theorem OwnV.set (h : OwnV w B E g cap vs) (j : Nat) (v : Value) : OwnV (w.setCell ⟨g, j, none⟩ v) B E g cap (vs.set j v) ∧ w.grownBy (w.setCell ⟨g, j, none⟩ v) (some g) := by
  have := World.ownsRow.stored h j v
  refine ⟨?_, this.2⟩
  unfold OwnV
  rw [List.length_set]
  exact this.1
theorem OwnV.ne {B' g' cap' : Nat} {E' : TypeId} {vs' : List Value} (h : OwnV w B E g cap vs) (h' : OwnV w B' E' g' cap' vs') (hE : E ≠ E') : g ≠ g' := by
  rintro rfl
  obtain ⟨c1, e1, _⟩ := h.row
  obtain ⟨c2, e2, _⟩ := h'.row
  rw [e1] at e2
  simp at e2
  exact hE e2.2
theorem Own.toV {xs : List Int} (h : Own w B g cap xs) : OwnV w B 3 g cap (xs.map (Value.int .i64)) := by
  unfold OwnV; rw [List.length_map]; exact h
end
/-- a row: its block, its capacity, its numbers -/
abbrev RowRef := Nat × Nat × List Int
def rowVal (r : RowRef) : Value := (Value.slice (some ⟨r.1, 0, none⟩) r.2.2.length r.2.1)
/-- rows of the call's own, each in a block of its own -/
def Inner (w : World) (B : Nat) (rs : List RowRef) : Prop := (∀ r ∈ rs, Own w B r.1 r.2.1 r.2.2) ∧ (rs.map (·.1)).Nodup
def OwnRows (w : World) (B g cap : Nat) (rs : List RowRef) : Prop := OwnV w B 25 g cap (rs.map rowVal) ∧ Inner w B rs
/-- what the rows hold -/
def contents (rs : List RowRef) : List (List Int) := rs.map (·.2.2)
/-- cells that hold slices of integers -/
def Rows2 (w : World) (g o : Nat) (rows : List (List Int)) : Prop :=
  ∀ j, j < rows.length → ∃ gj oj cj, w.cell? ⟨g, o + j, none⟩ = some (Value.slice (some ⟨gj, oj, none⟩) ((rows.getD j []).length) cj) ∧ (rows.getD j []).length ≤ cj ∧ gj < w.heap.size ∧ Cells w gj oj (rows.getD j [])
theorem Rows2.below {w w' : World} {g o : Nat} {rows : List (List Int)} (h : Rows2 w g o rows) (hb : Below w.heap.size w w') (hg : g < w.heap.size) : Rows2 w' g o rows := fun j hj => by
  obtain ⟨gj, oj, cj, h1, h2, h3, h4⟩ := h j hj
  exact ⟨gj, oj, cj, (hb.cell (p := ⟨g, o + j, none⟩) hg).trans h1, h2, Nat.lt_of_lt_of_le h3 hb.size, h4.below hb h3⟩
theorem Rows2.drewN {w : World} {g o : Nat} {rows : List (List Int)} (h : Rows2 w g o rows) (n : Nat) : Rows2 (w.drewN n) g o rows := h
theorem Inner.below {w w' : World} {B : Nat} {rs : List RowRef} (h : Inner w B rs) (hb : Below w.heap.size w w') : Inner w' B rs :=
  ⟨fun r hr => (h.1 r hr).below hb (h.1 r hr).lt, h.2⟩
theorem OwnRows.below {w w' : World} {B g cap : Nat} {rs : List RowRef} (h : OwnRows w B g cap rs) (hb : Below w.heap.size w w') : OwnRows w' B g cap rs :=
  ⟨h.1.below hb h.1.lt, h.2.below hb⟩
theorem OwnRows.drewN {w : World} {B g cap : Nat} {rs : List RowRef} (h : OwnRows w B g cap rs) (n : Nat) : OwnRows (w.drewN n) B g cap rs := h
theorem Inner.mono {w : World} {B B' : Nat} {rs : List RowRef} (h : Inner w B rs) (hB : B' ≤ B) : Inner w B' rs := ⟨fun r hr => (h.1 r hr).mono hB, h.2⟩
theorem OwnRows.mono {w : World} {B B' g cap : Nat} {rs : List RowRef} (h : OwnRows w B g cap rs) (hB : B' ≤ B) : OwnRows w B' g cap rs := ⟨h.1.mono hB, h.2.mono hB⟩
theorem OwnRows.base {w : World} {B g cap : Nat} {rs : List RowRef} (h : OwnRows w B g cap rs) : B ≤ g := h.1.base
theorem OwnRows.lt {w : World} {B g cap : Nat} {rs : List RowRef} (h : OwnRows w B g cap rs) : g < w.heap.size := h.1.lt
theorem OwnRows.capLe {w : World} {B g cap : Nat} {rs : List RowRef} (h : OwnRows w B g cap rs) : rs.length ≤ cap := by have := h.1.capLe; rwa [List.length_map] at this
theorem Inner.append {w : World} {B : Nat} {rs : List RowRef} {r : RowRef} (h : Inner w B rs) (hr : Own w B r.1 r.2.1 r.2.2) (hn : ∀ s ∈ rs, s.1 ≠ r.1) : Inner w B (rs ++ [r]) := by
  refine ⟨fun s hs => ?_, ?_⟩
  · rcases List.mem_append.1 hs with h1 | h1
    · exact h.1 s h1
    · rw [List.mem_singleton] at h1; subst h1; exact hr
  · rw [List.map_append, List.nodup_append]
    refine ⟨h.2, by simp, fun a ha b hb => ?_⟩
    obtain ⟨s, hs, rfl⟩ := List.mem_map.1 ha
    simp only [List.map_cons, List.map_nil, List.mem_singleton] at hb
    subst hb
    exact hn s hs
theorem OwnRows.rows2 {w : World} {B g cap : Nat} {rs : List RowRef} (h : OwnRows w B g cap rs) : Rows2 w g 0 (contents rs) := by
  intro j hj
  have hj' : j < rs.length := by simpa [contents] using hj
  have hm : rs[j] ∈ rs := List.getElem_mem hj'
  have e : (contents rs).getD j [] = rs[j].2.2 := by simp [contents, List.getD, hj']
  have ho := h.2.1 _ hm
  rw [e]
  refine ⟨rs[j].1, 0, rs[j].2.1, ?_, ho.capLe, ho.lt, ho.cells⟩
  rw [Nat.zero_add, h.1.cell j (by simpa using hj')]
  simp [rowVal]
/-- the call hands back a new slice of new rows -/
def GotRows (w : World) (rows : List (List Int)) (e : Ending) (w' : World) : Prop :=
  ∃ g cap rs, e = .returned (Value.slice (some ⟨g, 0, none⟩) rows.length cap) ∧ contents rs = rows ∧ OwnRows w' w.heap.size g cap rs ∧ Below w.heap.size w w'
/-- what came in as a slice of slices of integers -/
def ArgRows (w : World) (a : Option Addr) (rows : List (List Int)) : Prop :=
  rows = [] ∨ ∃ g o, a = some ⟨g, o, none⟩ ∧ g < w.heap.size ∧ ∀ j, j < rows.length → ∃ aj cj, w.cell? ⟨g, o + j, none⟩ = some (.slice aj (rows.getD j []).length cj) ∧ ArgInts w aj (rows.getD j [])
theorem ArgRows.below {w w' : World} {a : Option Addr} {rows : List (List Int)} (h : ArgRows w a rows) (hb : Below w.heap.size w w') : ArgRows w' a rows := by
  rcases h with h | ⟨g, o, ha, hg, hc⟩
  · exact .inl h
  · refine .inr ⟨g, o, ha, Nat.lt_of_lt_of_le hg hb.size, fun j hj => ?_⟩
    obtain ⟨aj, cj, h1, h2⟩ := hc j hj
    exact ⟨aj, cj, (hb.cell (p := ⟨g, o + j, none⟩) hg).trans h1, h2.below hb⟩
/-- 'make([][]int, n)' -/
theorem wpList_make_rows {w : World} {ops : Array Oper} {rest : List Oper} {o : Oper} {a : Act} {Q : Exit → Act → World → Prop} (hgd : o.guard = none) (l c : Operand)
    (hop : o.op = Op.makeSlice 24 l c) (B n : Nat) (C : Int) (hC : C = (n : Int)) (hl : a.eval l = .int .i64 C) (hc : a.eval c = .int .i64 C) (hn : n ≤ 1099511627776) (hB : B ≤ w.heap.size)
    (h : ∀ w', OwnV w' B 25 w.heap.size n (List.replicate n (.slice none 0 0)) → w.grownBy w' none → wpList Tryz.prog ops Q rest (a.put o.dst (Value.slice (some ⟨w.heap.size, 0, none⟩) n n)) w') :
    wpList Tryz.prog ops Q (o :: rest) a w := by
  obtain ⟨i0, hi, hz0, hz1, hz2⟩ := info_parts infoRow
  refine wpList_make_full _ hgd l c 24 hop B 25 i0 (.slice none 0 0) 1 Tryz.underlying24 hi hz0 hz1 _ _ _ _ n hl hc hC hC (by rw [hz2]; omega) (by unfold maxLen; omega) hB ?_
  intro w' hown hgr
  refine h w' ?_ hgr
  unfold OwnV
  rw [List.length_replicate]
  have e : (madeCells (Value.slice none 0 0).cells (n * 1)).toList = List.replicate n (.slice none 0 0) := by
    rw [Nat.mul_one]; exact toList_madeCells_one _ _
  rw [← e]; exact hown
end Go.Proofs.YtdedkfbiookofaaGreatDoor
namespace Go.Proofs.YtdedkfbiookofaaGreatDoor
set_option maxRecDepth 100000
open Go.RowKit
/-- what is left of a size, or -1 -/
def szL (n : Nat) (left : Int) : Int := if left - n < 0 then -1 else left - n
set_option maxHeartbeats 400000 in
theorem szIntS_any (a : Option Addr) (n c : Nat) (left : Int) (w : World) (hl : 0 ≤ left ∧ left ≤ 1048576) (hn : n ≤ 9223372036854775807) :
    Calls Tryz.prog 69 #[.slice a n c, .int .i64 left] w (Reads w (.int .i64 (szL n left))) := by
  have e0 : IntKind.i64.wrap (left - (n : Int)) = left - n := IntWalk.i64_in _ (by omega)
  by_cases h : left - (n : Int) < 0
  · have e : szL n left = -1 := by unfold szL; rw [if_pos h]
    rw [e]
    go_enter Tryz.func69, Tryz.ntmps69
    go_wp2
    go_ret
    exact ⟨rfl, 0, rfl⟩
  · have e : szL n left = left - n := by unfold szL; rw [if_neg h]
    rw [e]
    go_enter Tryz.func69, Tryz.ntmps69
    go_wp2
    go_ret
    exact ⟨rfl, 0, rfl⟩
/-- the sum of the rows' lengths, of the first k -/
def sumLen (rows : List (List Int)) (k : Nat) : Nat := (rows.take k).foldl (fun s r => s + r.length) 0
theorem sumLen_succ (rows : List (List Int)) (k : Nat) (hk : k < rows.length) : sumLen rows (k + 1) = sumLen rows k + (rows.getD k []).length := by
  unfold sumLen
  rw [List.take_succ_eq_append_getElem hk, List.foldl_append]
  simp [List.getD, hk]
theorem sumLen_mono (rows : List (List Int)) {k n : Nat} (h : k ≤ n) : sumLen rows k ≤ sumLen rows n := by
  induction n with
  | zero => obtain rfl : k = 0 := by omega
            exact Nat.le_refl _
  | succ n ih =>
    by_cases e : k = n + 1
    · subst e; exact Nat.le_refl _
    · have h1 := ih (by omega)
      by_cases hn : n < rows.length
      · rw [sumLen_succ _ _ hn]; omega
      · have e2 : sumLen rows (n + 1) = sumLen rows n := by
          unfold sumLen; rw [List.take_of_length_le (by omega), List.take_of_length_le (by omega)]
        omega
/-- what is left of a size behind a slice of slices, or -1 -/
def szLL (rows : List (List Int)) (left : Int) : Int := if left - rows.length - sumLen rows rows.length < 0 then -1 else left - rows.length - sumLen rows rows.length
set_option maxHeartbeats 400000 in
theorem szIntSS_any (a : Option Addr) (n c : Nat) (rows : List (List Int)) (left : Int) (w : World) (hlen : rows.length = n) (hl : 0 ≤ left ∧ left ≤ 1048576) (hn : n ≤ 9223372036854775807)
    (hrl : ∀ j, j < rows.length → (rows.getD j []).length ≤ 9223372036854775807) (ha : ArgRows w a rows) :
    Calls Tryz.prog 35 #[.slice a n c, .int .i64 left] w (Reads w (.int .i64 (szLL rows left))) := by
  subst hlen
  have e0 : IntKind.i64.wrap (left - (rows.length : Int)) = left - rows.length := IntWalk.i64_in _ (by omega)
  by_cases h : left - (rows.length : Int) < 0
  · have e : szLL rows left = -1 := by unfold szLL; rw [if_pos (by omega)]
    rw [e]
    go_enter Tryz.func35, Tryz.ntmps35
    go_wp2
    go_ret
    exact ⟨rfl, 0, rfl⟩
  · go_enter Tryz.func35, Tryz.ntmps35
    go_wp2
    go_loopw [1, 5] (fun l i wr => ∃ k : Nat, k ≤ rows.length ∧ i = .int .i64 k ∧ l = .int .i64 (left - rows.length - sumLen rows k) ∧ 0 ≤ left - rows.length - sumLen rows k ∧ ∃ m, wr = w.drewN m) (fun _ i _ => rows.length - (intOf i).toNat)
    case atStart => exact ⟨0, Nat.zero_le _, rfl, by simp [sumLen], by simp [sumLen]; omega, 0, rfl⟩
    case round =>
      obtain ⟨k, hk, rfl, rfl, h0, m, rfl⟩ := hrel
      by_cases hlt : k < rows.length
      · rcases ha with rfl | ⟨g, o, rfl, hg, hc⟩
        · simp at hlt
        obtain ⟨aj, cj, hcell, hai⟩ := hc k hlt
        have hrk := hrl k hlt
        have hsum := sumLen_succ rows k hlt
        obtain ⟨R, hR⟩ : ∃ R, rows.getD k [] = R := ⟨_, rfl⟩
        rw [hR] at hcell hai hrk hsum
        have Hsum := Lib.hid hsum; have HR := Lib.hid hR
        clear hsum hR hai
        obtain ⟨S, hS⟩ : ∃ S : Nat, sumLen rows k = S := ⟨_, rfl⟩
        rw [hS] at h0 Hsum ⊢
        have HS := Lib.hid hS; clear hS
        have hm := sumLen_mono rows (k := k + 1) (n := rows.length) hlt
        have Hm := Lib.hid hm; clear hm
        by_cases hneg : left - rows.length - S - (R.length : Int) < 0
        · have hcall := szIntS_any aj R.length cj (left - rows.length - S) (w.drewN m) (by omega) hrk
          rw [show szL R.length (left - rows.length - S) = -1 from by unfold szL; rw [if_pos hneg]] at hcall
          have Hcall := Lib.hid hcall; clear hcall
          go_wp2_with fail
          refine Hcall.out.mono ?_
          rintro e w' ⟨rfl, m', rfl⟩
          go_wp2
          go_ret
          refine ⟨ret_int ?_, (by first | exact ⟨_, rfl⟩ | exact ⟨0, rfl⟩ | exact still2 _ _ _ | exact still3 _ _ _ _)⟩
          unfold szLL
          have h1 := Hsum.out; have h2 := Hm.out
          rw [if_pos (by omega)]
        · have hcall := szIntS_any aj R.length cj (left - rows.length - S) (w.drewN m) (by omega) hrk
          rw [show szL R.length (left - rows.length - S) = left - rows.length - S - R.length from by unfold szL; rw [if_neg hneg]] at hcall
          have Hcall := Lib.hid hcall; clear hcall
          go_wp2_with fail
          refine Hcall.out.mono ?_
          rintro e w' ⟨rfl, m', rfl⟩
          go_wp2
          go_roundw
          case rel => exact ⟨k + 1, by omega, by go_num, by rw [Hsum.out]; go_num, by rw [Hsum.out]; omega, (by first | exact ⟨_, rfl⟩ | exact ⟨0, rfl⟩ | exact still2 _ _ _ | exact still3 _ _ _ _)⟩
          case measure => simp [intOf]; omega
      · obtain rfl : k = rows.length := by omega
        go_wp2
        go_ret
        exact ⟨ret_int (by unfold szLL; rw [if_neg (by omega)]), (by first | exact ⟨_, rfl⟩ | exact ⟨0, rfl⟩ | exact still2 _ _ _ | exact still3 _ _ _ _)⟩
theorem contents_append (rs : List RowRef) (r : RowRef) : contents (rs ++ [r]) = contents rs ++ [r.2.2] := by simp [contents]
theorem contents_length (rs : List RowRef) : (contents rs).length = rs.length := by simp [contents]
theorem fill_rows (rs : List RowRef) (r : RowRef) {k n : Nat} (hlt : rs.length < n) (hk : rs.length = k) :
    (rs.map rowVal ++ List.replicate (n - k) (Value.slice none 0 0)).set k (Value.slice (some ⟨r.1, 0, none⟩) r.2.2.length r.2.1) = (rs ++ [r]).map rowVal ++ List.replicate (n - (k + 1)) (Value.slice none 0 0) := by
  subst hk
  have e : n - rs.length = (n - (rs.length + 1)) + 1 := by omega
  rw [List.set_append_right _ _ (by simp), e, List.replicate_succ]
  simp [rowVal]
set_option maxHeartbeats 1000000 in
theorem toIntSS_any (a : Option Addr) (n c : Nat) (rows : List (List Int)) (w : World) (hlen : rows.length = n) (hn : n ≤ 1048576) (hrl : ∀ j, j < rows.length → (rows.getD j []).length ≤ 1099511627776) (ha : ArgRows w a rows) :
    Calls Tryz.prog 37 #[.slice a n c] w (GotRows w rows) := by
  subst hlen
  go_enter Tryz.func37, Tryz.ntmps37
  go_wp2_with (at_make; refine wpList_make_rows rfl _ _ rfl w.heap.size rows.length _ rfl rfl rfl (by omega) (Nat.le_refl _) ?_)
  intro w1 hown0 hgr
  have hb0 := below_of_grown hgr
  clear hgr
  go_wp2
  go_loopw [4] (fun i wr => ∃ (k : Nat) (rs : List RowRef), k ≤ rows.length ∧ i = .int .i64 k ∧ Hid (contents rs = rows.take k) ∧ OwnV wr w.heap.size 25 w.heap.size rows.length (rs.map rowVal ++ List.replicate (rows.length - k) (.slice none 0 0)) ∧ Inner wr w.heap.size rs ∧ Below w.heap.size w wr) (fun i _ => rows.length - (intOf i).toNat)
  case atStart => exact ⟨0, [], Nat.zero_le _, rfl, rfl, by simpa using hown0, ⟨by simp, by simp⟩, hb0⟩
  case round =>
    obtain ⟨k, rs, hk, rfl, hcon, ho, hin, hb⟩ := hrel
    have hrs : rs.length = k := by have := congrArg List.length hcon.out; rw [contents_length, List.length_take] at this; omega
    have Hrs := Lib.hid hrs; clear hrs
    by_cases hlt : k < rows.length
    · have ha' := ha.below hb
      rcases ha' with h | ⟨g, o, rfl, hg, hc⟩
      · rw [h] at hlt; simp at hlt
      obtain ⟨aj, cj, hcell, hai⟩ := hc k hlt
      have hrk := hrl k hlt
      obtain ⟨R, hR⟩ : ∃ R, rows.getD k [] = R := ⟨_, rfl⟩
      rw [hR] at hcell hai hrk
      have HR := Lib.hid hR; clear hR
      have hl : (rs.map rowVal ++ List.replicate (rows.length - k) (Value.slice none 0 0)).length = rows.length := by simp [Hrs.out]; omega
      have h1 := ho.cell k (by rw [hl]; exact hlt)
      have h2 := ho.frozen k
      have hv : (rs.map rowVal ++ List.replicate (rows.length - k) (Value.slice none 0 0))[k]'(by rw [hl]; exact hlt) = .slice none 0 0 := by
        rw [List.getElem_append_right (by simp [Hrs.out])]
        simp
      rw [hv] at h1
      clear hv hl
      go_wp2_with fail
      refine (toIntS_any aj cj R wr hrk hai).mono ?_
      rintro e w2 ⟨g1, c1, rfl, ho1, hb1⟩
      have ho2 := ho.below hb1 ho.lt
      have h1' := (hb1.cell (p := ⟨w.heap.size, k, none⟩) ho.lt).trans h1
      have h2' := ho2.frozen k
      have hset := ho2.set k (Value.slice (some ⟨g1, 0, none⟩) R.length c1)
      have Hset := Lib.hid hset
      clear hset h1 h2
      go_wp2
      go_roundw
      case rel =>
        have hs := Hset.out
        rw [fill_rows rs (g1, c1, R) (by rw [Hrs.out]; exact hlt) Hrs.out] at hs
        have hb2 := hb.trans (hb1.mono hb.size)
        have hne : w.heap.size ≠ g1 := by have h3 := ho.lt; have h4 := ho1.base; omega
        refine ⟨k + 1, rs ++ [(g1, c1, R)], by omega, by go_num, ?_, hs.1, ?_, hb2.grown hs.2 hb2.size (by intro j hj; cases hj; exact Nat.le_refl _)⟩
        · show contents _ = _
          rw [contents_append, hcon.out, List.take_succ_eq_append_getElem hlt, ← HR.out]
          simp [List.getD, hlt]
        · have hin2 := (hin.below hb1).append (r := (g1, c1, R)) (ho1.mono hb.size) (fun s hs' => by have h3 := (hin.1 s hs').lt; have h4 := ho1.base; show s.1 ≠ g1; omega)
          refine ⟨fun r hr => (hin2.1 r hr).grown hs.2 ?_, hin2.2⟩
          intro e
          exact ho2.ne (hin2.1 r hr).toV (by decide) (Option.some.inj e).symm
      case measure => simp [intOf]; omega
    · obtain rfl : k = rows.length := by omega
      go_wp2
      go_ret
      have hcon' := hcon.out
      rw [List.take_length] at hcon'
      rw [Nat.sub_self, List.replicate_zero, List.append_nil] at ho
      exact ⟨w.heap.size, rows.length, rs, rfl, hcon', ⟨ho, hin⟩, hb⟩
theorem Reads.quiet3 {f : FuncId} {args : Array Value} {w : World} {m n : Nat} {v : Value} (h : Calls Tryz.prog f args (w.drewN (m + n)) (Reads (w.drewN (m + n)) v)) :
    Calls Tryz.prog f args (w.drewN (m + n)) fun e w'' => e = .returned v ∧ ∃ k, w'' = w.drewN (m + k) :=
  h.mono fun _ _ ⟨he, k, hk⟩ => ⟨he, n + k, by rw [hk, World.drewN_drewN, Nat.add_assoc]⟩
set_option maxHeartbeats 1000000 in
theorem eqIntSS_same (g1 o1 n1 c1 g2 o2 n2 c2 : Nat) (rows : List (List Int)) (w : World) (h1 : rows.length = n1) (h2 : rows.length = n2) (hx : rows.length ≤ 1048576) (hrl : ∀ j, j < rows.length → (rows.getD j []).length ≤ 1099511627776)
    (hr1 : Rows2 w g1 o1 rows) (hr2 : Rows2 w g2 o2 rows) : Calls Tryz.prog 40 #[(Value.slice (some ⟨g1, o1, none⟩) n1 c1), (Value.slice (some ⟨g2, o2, none⟩) n2 c2)] w (Reads w (.bool true)) := by
  subst h1; subst h2
  go_enter Tryz.func40, Tryz.ntmps40
  go_wp2
  go_loopw [5] (fun i wr => ∃ k : Nat, k ≤ rows.length ∧ i = .int .i64 k ∧ ∃ m, wr = w.drewN m) (fun i _ => rows.length - (intOf i).toNat)
  case atStart => exact ⟨0, Nat.zero_le _, rfl, 0, rfl⟩
  case round =>
    obtain ⟨k, hk, rfl, m, rfl⟩ := hrel
    by_cases hlt : k < rows.length
    · obtain ⟨ga, oa, ca, q1, q2, q3, q4⟩ := hr1 k hlt
      obtain ⟨gb, ob, cb, p1, p2, p3, p4⟩ := hr2 k hlt
      have hrk := hrl k hlt
      obtain ⟨R, hR⟩ : ∃ R, rows.getD k [] = R := ⟨_, rfl⟩
      rw [hR] at q1 q2 q4 p1 p2 p4 hrk
      clear hR hr1 hr2 hrl
      go_wp2
      go_quiet ((go_at_call 41; exact Reads.quiet3 (eqIntS_same ga oa _ ca gb ob _ cb R _ rfl rfl hrk q4 p4)))
      go_wp2
      go_roundw
      case rel => exact ⟨k + 1, by omega, by go_num, (by first | exact ⟨_, rfl⟩ | exact ⟨0, rfl⟩ | exact still2 _ _ _ | exact still3 _ _ _ _)⟩
      case measure => simp [intOf]; omega
    · obtain rfl : k = rows.length := by omega
      go_wp2
      go_ret
      exact ⟨rfl, m, rfl⟩
end Go.Proofs.YtdedkfbiookofaaGreatDoor
namespace Go.Proofs.YtdedkfbiookofaaGreatDoor
set_option maxRecDepth 100000
open Go.Joins Go.ChangeShapes Go.WideShapes Go.RowKit Go.Deep
def rowsWf (rows : List (List Int)) : Prop := ∀ r ∈ rows, ∀ n ∈ r, (Lit.int .i64 n).wf = true
section
variable {H : Type} {enc : TypeId × Value → H} {w : World} {base : Nat}
theorem argInts_open {fuel : Nat} {v : Value} {x : DataW H × List MemPlace} (h : DataW.trod enc Tryz.prog w base (fun _ => true) true fuel 25 [v] = some x) :
    ∃ a c, ∃ xs : List Int, v = .slice a xs.length c ∧ ArgInts w a xs ∧ xs.length ≤ maxLen ∧ ∀ n ∈ xs, (Lit.int .i64 n).wf = true := by
  rcases open_ints Tryz.underlying25 Tryz.underlying3 (by kernel_rfl) h with ⟨hcs, _⟩ | ⟨a, l, c, zs, hcs, _, hl, hm, hz, _, hcell, hwz⟩
  · simp at hcs
    exact ⟨none, 0, [], hcs, .inl rfl, Nat.zero_le _, by simp⟩
  · simp at hcs
    have hz' : zs.length = c := by simpa using hz
    obtain ⟨h1, h2, h3⟩ := argInts_of (w := w) (a := some a) (len := l) (cap := c) (zs := zs) (.inr ⟨a, rfl, hl, hm, hz', hcell, hwz⟩)
    exact ⟨some a, c, zs.take l, by rw [h2]; exact hcs, h1, by rw [h2]; omega, h3⟩
theorem argRows_open {fuel : Nat} {v : Value} {x : DataW H × List MemPlace} (h : DataW.trod enc Tryz.prog w base (fun _ => true) true fuel 24 [v] = some x) :
    ∃ a c, ∃ rows : List (List Int), v = .slice a rows.length c ∧ ArgRows w a rows ∧ rows.length ≤ maxLen ∧ (∀ j, j < rows.length → (rows.getD j []).length ≤ maxLen) ∧ rowsWf rows := by
  rcases open_int_rows Tryz.underlying24 Tryz.underlying25 Tryz.underlying3 (by kernel_rfl) (by kernel_rfl) h with ⟨hcs, _⟩ | ⟨a, l, c, A, L, C, Z, hcs, _, hl, hm, _, hr⟩
  · simp at hcs
    exact ⟨none, 0, [], hcs, .inl rfl, Nat.zero_le _, by simp, by intro r hr; cases hr⟩
  · simp at hcs
    have hrow : ∀ r, r < c → ArgInts w (A r) ((Z r).take (L r)) ∧ ((Z r).take (L r)).length = L r ∧ (∀ n ∈ (Z r).take (L r), (Lit.int .i64 n).wf = true) ∧ L r ≤ maxLen := by
      intro r hrc
      obtain ⟨e0, e1, e2, e3, e4, e5, e6⟩ := hr r hrc
      have hq : ArgInts w (A r) ((Z r).take (L r)) ∧ ((Z r).take (L r)).length = L r ∧ ∀ n ∈ (Z r).take (L r), (Lit.int .i64 n).wf = true := by
        apply argInts_of (cap := C r)
        cases hA : A r with
        | none =>
          have hc0 := e5 hA
          exact .inl ⟨rfl, by omega, hc0, List.length_eq_zero_iff.1 (by omega)⟩
        | some a' =>
          exact .inr ⟨a', rfl, e1, e2, e3, fun i hi => (e6 a' hA).2 i (by omega), e4⟩
      exact ⟨hq.1, hq.2.1, hq.2.2, by omega⟩
    refine ⟨some a, c, (List.range l).map fun r => (Z r).take (L r), by simpa using hcs, ?_, by simp; omega, ?_, ?_⟩
    · by_cases h0 : l = 0
      · subst h0; exact .inl rfl
      obtain ⟨b, o, s⟩ := a
      have hc0 := (hr 0 (by omega)).1
      cases s with
      | some s => simp [World.cell?, Addr.add] at hc0; split at hc0 <;> simp_all
      | none =>
        refine .inr ⟨b, o, rfl, World.block_lt_of_cell? w _ hc0, fun j hj => ?_⟩
        simp only [List.length_map, List.length_range] at hj
        have e : ((List.range l).map fun r => (Z r).take (L r)).getD j [] = (Z j).take (L j) := by simp [List.getD_eq_getElem?_getD, hj]
        rw [e]
        obtain ⟨q1, q2, _, _⟩ := hrow j (by omega)
        refine ⟨A j, C j, ?_, q1⟩
        rw [q2]
        have := (hr j (by omega)).1
        rwa [Addr.add_lit] at this
    · intro j hj
      simp only [List.length_map, List.length_range] at hj
      have e : ((List.range l).map fun r => (Z r).take (L r)).getD j [] = (Z j).take (L j) := by simp [List.getD_eq_getElem?_getD, hj]
      rw [e]
      obtain ⟨_, q2, _, q4⟩ := hrow j (by omega)
      rw [q2]; exact q4
    · intro r hr' n hn
      obtain ⟨j, hj, rfl⟩ := List.mem_map.1 hr'
      exact (hrow j (by have := List.mem_range.1 hj; omega)).2.2.1 n hn
end
theorem cell_of_cells {w : World} {b : Nat} {cs : Array Value} {t : TypeId} (h : w.heap[b]? = some (.cells cs t (0, 0))) (i : Nat) : w.cell? ⟨b, i, none⟩ = cs[i]? := by simp [World.cell?, h]
theorem free_of_cells {w : World} {b : Nat} {cs : Array Value} {t : TypeId} (h : w.heap[b]? = some (.cells cs t (0, 0))) (i : Nat) : w.frozen? ⟨b, i, none⟩ = false := by simp [World.frozen?, h]
theorem keepCell {W W' : World} {b o : Nat} {v : Value} (hb : Below W.heap.size W W') (h : W.cell? ⟨b, o, none⟩ = some v) : W'.cell? ⟨b, o, none⟩ = some v :=
  (hb.cell (p := ⟨b, o, none⟩) (World.block_lt_of_cell? W _ h)).trans h
end Go.Proofs.YtdedkfbiookofaaGreatDoor
