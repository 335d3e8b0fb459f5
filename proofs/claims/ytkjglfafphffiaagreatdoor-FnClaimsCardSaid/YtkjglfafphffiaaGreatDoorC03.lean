/- Draw AppRow RegApp2 Draw2 Still LawB Code Fmt -/
import Derived.Test.YtkjglfafphffiaaGreatDoorC02
import Derived.Laws.BitsLemmas
import Derived.Test.YtkjglfafphffiaaGreatDoorC00
import Derived.Deep.Matrix
import Derived.Lib.SmallJoins
import Derived.Test.YtkjglfafphffiaaGreatDoorC01
import Derived.Lib.Join
import Derived.Lib.ItoaLen
import Derived.Laws.Concat
namespace Go.Proofs.YtkjglfafphffiaaGreatDoor
set_option maxRecDepth 100000
open Go.RowKit
theorem and255 (x : Int) : 0 ≤ bits .and .i64 x 255 ∧ bits .and .i64 x 255 < 256 := by
  have h : (BitVec.ofInt 64 255).toNat = 255 := by decide
  have h2 := Nat.and_le_right (n := (BitVec.ofInt 64 x).toNat) (m := 255)
  have e : bits .and .i64 x 255 = IntKind.i64.wrap (((BitVec.ofInt 64 x).toNat &&& 255 : Nat) : Int) := by
    show IntKind.i64.wrap (((BitVec.ofInt 64 x &&& BitVec.ofInt 64 255).toNat : Nat) : Int) = _
    rw [BitVec.toNat_and, h]
  rw [e]
  generalize (BitVec.ofInt 64 x).toNat &&& 255 = m at *
  rw [IntWalk.i64_in _ (by omega)]
  omega
def CodeV (w : World) (B : Nat) (a : Option Addr) (n : Nat) : Prop :=
  n = 0 ∨ ∃ g o, a = some ⟨g, o, none⟩ ∧ g < B ∧ g < w.heap.size ∧ ∀ j, j < n → ∃ x : Int, (0 ≤ x ∧ x < 256) ∧ w.cell? ⟨g, o + j, none⟩ = some (.int .u8 x)
theorem CodeV.only {w w' : World} {B p E : Nat} {a : Option Addr} {n : Nat} (h : CodeV w B a n) (k : Only p E w w') (hp : B ≤ p) : CodeV w' B a n := by
  rcases h with h | ⟨g, o, e, h1, h2, h3⟩
  · exact .inl h
  · refine .inr ⟨g, o, e, h1, Nat.lt_of_lt_of_le h2 k.size, fun j hj => ?_⟩
    obtain ⟨x, hx, hc⟩ := h3 j hj
    exact ⟨x, hx, (World.cell?_of_block (k.block g h2 (.inl (by omega)))).trans hc⟩
theorem CodeV.below {w w' : World} {B : Nat} {a : Option Addr} {n : Nat} (h : CodeV w B a n) (k : Below B w w') : CodeV w' B a n := by
  rcases h with h | ⟨g, o, e, h1, h2, h3⟩
  · exact .inl h
  · refine .inr ⟨g, o, e, h1, Nat.lt_of_lt_of_le h2 k.size, fun j hj => ?_⟩
    obtain ⟨x, hx, hc⟩ := h3 j hj
    exact ⟨x, hx, (World.cell?_of_block (k.block g h1)).trans hc⟩
def Cur (w : World) (p : Nat) (a : Option Addr) (n c : Nat) : Prop := ∃ i h : Int, (0 ≤ i ∧ i ≤ n) ∧ w.heap[p]? = some (.cells #[.slice a n c, .int .i64 i, .int .i64 h] 90 (0, 0))
theorem three {W : World} {b : Nat} {v0 v1 v2 : Value} {t : TypeId} (h : W.heap[b]? = some (.cells #[v0, v1, v2] t (0, 0))) :
    W.cell? ⟨b, 0, none⟩ = some v0 ∧ W.cell? ⟨b, 1, none⟩ = some v1 ∧ W.cell? ⟨b, 2, none⟩ = some v2 := by
  refine ⟨?_, ?_, ?_⟩ <;> (rw [cell_of_cells h]; rfl)
theorem only_setC (w : World) (p k : Nat) (u : Value) : Only p (p + 1) w (w.setCell ⟨p, k, none⟩ u) :=
  ⟨rfl, rfl, rfl, by simp [World.setCell], fun j _ hd => Below.heap_setCell _ _ _ _ (by show j ≠ p; omega)⟩
theorem Only.of_below {w w' : World} (p E : Nat) (h : Below w.heap.size w w') : Only p E w w' := ⟨h.os, h.tape, h.output, h.size, fun k hk _ => h.block k hk⟩
def DrewI (w : World) (B p : Nat) (a : Option Addr) (n c : Nat) (m : Int) (e : Ending) (w' : World) : Prop :=
  ∃ x : Int, (0 ≤ x ∧ x < m) ∧ e = .returned (.int .i64 x) ∧ Cur w' p a n c ∧ CodeV w' B a n ∧ Only p (p + 1) w w'
set_option maxHeartbeats 1000000 in
theorem spec_l1Byte_any (B p : Nat) (a : Option Addr) (n c : Nat) (w : World) (hn : n ≤ 1048577) (hc : CodeV w B a n) (hp : B ≤ p) (hcur : Cur w p a n c) :
    Calls Tryz.prog 123 #[.pointer (some ⟨p, 0, none⟩)] w (DrewI w B p a n c 256) := by
  obtain ⟨i, h, hi, hblk⟩ := hcur
  obtain ⟨z0, z1, z2⟩ := three hblk
  have f1 := free_of_cells hblk 1
  have f2 := free_of_cells hblk 2
  have HB0 := Lib.hid hblk; have HC0 := Lib.hid hc
  clear hblk hc
  go_enter Tryz.func123, Tryz.ntmps123
  go_wp2_with fail
  generalize wrap64 (wrap64 (h * 6364136223846793005) + 1442695040888963407) = h2 at *
  have B1 : (w.setCell ⟨p, 2, none⟩ (.int .i64 h2)).heap[p]? = some (.cells #[.slice a n c, .int .i64 i, .int .i64 h2] 90 (0, 0)) := by rw [heap_setCell_same w p 2 _ _ (.int .i64 h2) HB0.out]; rfl
  have O1 := only_setC w p 2 (.int .i64 h2)
  have C1 := HC0.out.only O1 hp
  generalize w.setCell ⟨p, 2, none⟩ (.int .i64 h2) = w1 at *
  clear z0 z1 z2 f1 f2 HB0 HC0
  obtain ⟨z0, z1, z2⟩ := three B1
  have f1 := free_of_cells B1 1
  have HB1 := Lib.hid B1; have HC1 := Lib.hid C1
  clear B1 C1
  go_quiet (fail)
  go_wp2_with fail
  have hx0 := and255 (bits BinOp.xor IntKind.i64 (h2 / 8589934592) (h2 / 35184372088832))
  generalize bits BinOp.and IntKind.i64 (bits BinOp.xor IntKind.i64 (h2 / 8589934592) (h2 / 35184372088832)) 255 = x0 at *
  obtain ⟨k, rfl⟩ : ∃ k : Nat, i = k := ⟨i.toNat, by omega⟩
  by_cases hk : k < n
  · obtain ⟨g, o, rfl, hgB, hgs, hcell⟩ := HC1.out.resolve_left (by omega)
    obtain ⟨y, hy, hyc⟩ := hcell k hk
    have e1 : IntKind.i64.wrap ((k : Int) + 1) = (k : Int) + 1 := IntWalk.i64_in _ (by omega)
    have hkI : (k : Int) < (n : Int) := by omega
    clear hcell
    go_quiet (fail)
    go_wp2_with fail
    go_quiet (fail)
    go_wp2_with fail
    go_ret
    refine ⟨_, and255 (x0 + y), rfl, ⟨(k : Int) + 1, h2, ⟨by omega, by omega⟩, ?_⟩, ?_, ?_⟩
    · exact (heap_setCell_same (w1.drewN _) p 1 _ _ (.int .i64 ((k : Int) + 1)) HB1.out).trans rfl
    · exact (HC1.out.only (Only.drewN (Only.refl p (p + 1) w1) _) hp).only (only_setC _ p 1 _) hp
    · exact (Only.drewN O1 _).trans (only_setC _ p 1 _)
  · have hkI : ¬ (k : Int) < (n : Int) := by omega
    go_quiet (fail)
    go_wp2_with fail
    go_ret
    exact ⟨x0, hx0, rfl, ⟨k, h2, hi, HB1.out⟩, HC1.out.only (Only.drewN (Only.refl p (p + 1) w1) _) hp, Only.drewN O1 _⟩
set_option maxHeartbeats 1000000 in
theorem spec_l1Below_any (B p : Nat) (a : Option Addr) (n c : Nat) (m : Int) (w : World) (hm : 1 ≤ m ∧ m ≤ 256) (hn : n ≤ 1048577) (hc : CodeV w B a n) (hp : B ≤ p) (hcur : Cur w p a n c) :
    Calls Tryz.prog 64 #[.pointer (some ⟨p, 0, none⟩), .int .i64 m] w (DrewI w B p a n c m) := by
  have h1 := Lib.hid (spec_l1Byte_any B p a n c w hn hc hp hcur)
  have d1 : decide (m ≤ 0) = false := by simp; omega
  have d2 : decide (m ≤ 256) = true := by simp; omega
  have d3 : (m == 0) = false := by simp; omega
  have d4 : m ≠ 0 := by omega
  clear hc hcur
  go_enter Tryz.func64, Tryz.ntmps64
  go_wp2_with fail
  refine h1.out.mono ?_
  rintro e w1 ⟨x, hx, rfl, hcur, hc, hO⟩
  have hr : 0 ≤ x % m ∧ x % m < m := ⟨Int.emod_nonneg _ (by omega), Int.emod_lt_of_pos _ (by omega)⟩
  go_wp2_with fail
  go_ret
  exact ⟨_, hr, rfl, hcur, hc, hO⟩
set_option maxHeartbeats 1000000 in
theorem spec_l1New_any (a : Option Addr) (n c : Nat) (w : World) (hn : n ≤ 1048577) (hc : CodeV w w.heap.size a n) :
    Calls Tryz.prog 65 #[.slice a n c] w fun e w' => ∃ p, w.heap.size ≤ p ∧ e = .returned (.pointer (some ⟨p, 0, none⟩)) ∧ Cur w' p a n c ∧ Below w.heap.size w w' := by
  have hc' := Lib.hid hc
  clear hc
  go_enter Tryz.func65, Tryz.ntmps65
  go_wp2
  go_loopw [3, 4] (fun hv iv wr => ∃ (k : Nat) (h : Int), k ≤ n ∧ iv = .int .i64 k ∧ hv = .int .i64 h ∧ ∃ q, wr = w.drewN q) (fun _ iv _ => n - (intOf iv).toNat)
  case atStart => exact ⟨0, _, Nat.zero_le _, rfl, rfl, (by first | exact ⟨_, rfl⟩ | exact ⟨0, rfl⟩ | exact still2 _ _ _ | exact still3 _ _ _ _)⟩
  case round =>
    obtain ⟨k, h, hk, rfl, rfl, q, rfl⟩ := hrel
    by_cases hlt : k < n
    · obtain ⟨g, o, rfl, hgB, hgs, hcell⟩ := hc'.out.resolve_left (by omega)
      obtain ⟨y, hy, hyc⟩ := hcell k hlt
      have hend : ∀ W, W = (w.drewN q).alloc (.cells #[.slice (some ⟨g, o, none⟩) n c, .int .i64 0, .int .i64 h] 90) → ∃ p, w.heap.size ≤ p ∧ Ending.returned (.pointer (some ⟨w.heap.size, 0, none⟩)) = Ending.returned (.pointer (some ⟨p, 0, none⟩)) ∧ Cur W p (some ⟨g, o, none⟩) n c ∧ Below w.heap.size w W := by
        rintro W rfl
        exact ⟨w.heap.size, Nat.le_refl _, rfl, ⟨0, h, ⟨by omega, by omega⟩, heap_alloc_new (w.drewN q) _⟩, (below_drewN (Below.refl _ w) q).alloc (Nat.le_refl _) _⟩
      by_cases h4 : k < 4000
      · go_wp2_with fail
        go_roundw
        case rel => exact ⟨k + 1, _, by omega, by go_num, rfl, (by first | exact ⟨_, rfl⟩ | exact ⟨0, rfl⟩ | exact still2 _ _ _ | exact still3 _ _ _ _)⟩
        case measure => simp [intOf]; omega
      · go_wp2_with fail
        go_ret
        exact hend _ rfl
    · obtain rfl : k = n := by omega
      have hend : ∀ W, W = (w.drewN q).alloc (.cells #[.slice a k c, .int .i64 0, .int .i64 h] 90) → ∃ p, w.heap.size ≤ p ∧ Ending.returned (.pointer (some ⟨w.heap.size, 0, none⟩)) = Ending.returned (.pointer (some ⟨p, 0, none⟩)) ∧ Cur W p a k c ∧ Below w.heap.size w W := by
        rintro W rfl
        exact ⟨w.heap.size, Nat.le_refl _, rfl, ⟨0, h, ⟨by omega, by omega⟩, heap_alloc_new (w.drewN q) _⟩, (below_drewN (Below.refl _ w) q).alloc (Nat.le_refl _) _⟩
      go_wp2_with fail
      go_ret
      exact hend _ rfl
theorem all_snoc {P : Int → Prop} {xs : List Int} {y : Int} (h : ∀ z ∈ xs, P z) (hy : P y) : ∀ z ∈ xs ++ [y], P z := fun z hz => by
  rcases List.mem_append.1 hz with q | q
  · exact h z q
  · rw [List.mem_singleton] at q; subst q; exact hy
def DrewL (w : World) (B p : Nat) (a : Option Addr) (n c : Nat) (m : Nat) (b : Int) (e : Ending) (w' : World) : Prop :=
  ∃ (xs : List Int) (g cap : Nat), (xs.length ≤ m ∧ ∀ x ∈ xs, 0 ≤ x ∧ x < b) ∧ e = .returned (Value.slice (some ⟨g, 0, none⟩) xs.length cap) ∧ Own w' w.heap.size g cap xs ∧ Cur w' p a n c ∧ CodeV w' B a n ∧ Only p (p + 1) w w'
theorem Own.only {w w' : World} {B p E g cap : Nat} {xs : List Int} (h : Own w B g cap xs) (k : Only p E w w') (hd : g < p ∨ E ≤ g) : Own w' B g cap xs := h.same (k.block g h.lt hd)
theorem Cur.lt {w : World} {p : Nat} {a : Option Addr} {n c : Nat} (h : Cur w p a n c) : p < w.heap.size := by obtain ⟨i, x, hi, hb⟩ := h; exact lt_of_block hb
end Go.Proofs.YtkjglfafphffiaaGreatDoor
namespace Go.Proofs.YtkjglfafphffiaaGreatDoor
set_option maxRecDepth 100000
open Go.RowKit
theorem OwnV.new {w : World} {B : Nat} {E : TypeId} (v : Value) (_hv : v.oneCell' = true) (hB : B ≤ w.heap.size) : OwnV (w.alloc (.cells #[v] E)) B E w.heap.size 1 [v] :=
  World.ownsRow_lit w #[v] 1 hB (by decide) rfl
theorem run_append_row {w : World} {B g cap : Nat} {vs : List Value} (hown : OwnV w B 25 g cap vs) (v : Value) (hv : v.oneCell' = true) (hlen : vs.length + 1 ≤ 1048576) (ty : TypeId) :
    ∃ g' cap' w', (Builtin.append_ #[24, 24] ty #[(Value.slice (some ⟨g, 0, none⟩) vs.length cap), (Value.slice (some ⟨w.heap.size, 0, none⟩) 1 1)]).run Tryz.prog (w.alloc (.cells #[v] 25)) = .ok (Value.slice (some ⟨g', 0, none⟩) (vs.length + 1) cap') w' ∧
      OwnV w' B 25 g' cap' (vs ++ [v]) ∧ w.grownBy w' (some g) ∧ (g' = g ∨ w.heap.size < g') := by
  obtain ⟨i0, hi, hz0, hz1, hz2⟩ := info_parts infoRow
  have hBg := hown.base
  have hlt := hown.lt
  have hown' : OwnV (w.alloc (.cells #[v] 25)) B 25 g cap vs := hown.alloc _
  have hcell : (w.alloc (.cells #[v] 25)).cell? ⟨w.heap.size, 0, none⟩ = some v := (OwnV.new (B := w.heap.size) v hv (Nat.le_refl _)).cell 0 (by simp)
  have hnews : ∀ j u, ([v] : List Value)[j]? = some u → (w.alloc (.cells #[v] 25)).cell? ((⟨w.heap.size, 0, none⟩ : Addr).add j) = some u := by
    intro j u hu
    have hj : j = 0 := by have := (List.getElem?_eq_some_iff.1 hu).1; simp at this; exact this
    subst hj
    simp at hu; subst hu
    rw [Addr.add_lit]; exact hcell
  have h1 : ∀ u ∈ ([v] : List Value), u.oneCell' = true := by simp [hv]
  have hl : ([v] : List Value).length = 1 * i0.size := by simp [hz1]
  obtain ⟨v', w', hr, ho, hg, -⟩ := run_append_own (P := Tryz.prog) (w.alloc (.cells #[v] 25)) B 24 ty 25 i0 (.slice none 0 0) 1 24 Tryz.underlying24 hi hz0 hz1 hz2 rfl (by decide) _ vs.length _ hown' ⟨w.heap.size, 0, none⟩ 1 1
    [v] (by simp) hnews h1 (by unfold maxLen; omega) (by omega) (by simp; omega)
  have hgr : w.grownBy w' (some g) := ⟨hg.os, hg.tape, hg.output, Nat.le_trans (by simp) hg.size, fun k hk hne => (hg.block k (by simp; omega) hne).trans (Below.heap_alloc _ _ _ hk)⟩
  have fin : ∀ g' cap', v' = (Value.slice (some ⟨g', 0, none⟩) (vs.length + 1) cap') → (g' = g ∨ w.heap.size < g') → ∃ g' cap' w', (Builtin.append_ #[24, 24] ty #[(Value.slice (some ⟨g, 0, none⟩) vs.length cap), (Value.slice (some ⟨w.heap.size, 0, none⟩) 1 1)]).run Tryz.prog (w.alloc (.cells #[v] 25)) = .ok (Value.slice (some ⟨g', 0, none⟩) (vs.length + 1) cap') w' ∧
      OwnV w' B 25 g' cap' (vs ++ [v]) ∧ w.grownBy w' (some g) ∧ (g' = g ∨ w.heap.size < g') := by
    intro g' cap' hv' hor
    subst hv'
    refine ⟨g', cap', w', hr, ?_, hgr, hor⟩
    unfold OwnV
    rw [List.length_append]
    exact ho
  by_cases hroom : vs.length + 1 ≤ cap
  · rcases hown'.2 with ⟨h', _⟩ | ⟨g1, cap1, cur, hv', hb, hh, hn, hm, hs, htk⟩
    · simp at h'
    simp only [Value.slice.injEq, Option.some.injEq, Addr.mk.injEq, and_true, true_and] at hv'
    obtain ⟨rfl, rfl⟩ := hv'
    have hr2 := run_append_room (P := Tryz.prog) (w.alloc (.cells #[v] 25)) 24 ty 25 i0 Tryz.underlying24 hi g vs.length cap cur hh ⟨w.heap.size, 0, none⟩ 1 1 [v] hl hnews h1 hroom (by rw [hz1] at *; simp; omega)
    rw [hr2] at hr
    simp only [Result.ok.injEq] at hr
    exact fin g cap hr.1.symm (.inl rfl)
  · have hr2 := run_append_grow (P := Tryz.prog) (w.alloc (.cells #[v] 25)) 24 ty 25 i0 (.slice none 0 0) Tryz.underlying24 hi hz0 ⟨g, 0, none⟩ vs.length cap vs (by simp [hz1]) (World.ownsRow.cells hown' rfl) ⟨w.heap.size, 0, none⟩ 1 1 _ hl hnews (by omega) (by omega) (growslice_fits (by omega) (by rw [hz2]; omega))
    rw [hr2] at hr
    simp only [Result.ok.injEq] at hr
    exact fin _ _ hr.1.symm (.inr (by simp))
theorem OwnRows.push {w w' : World} {B g cap g' cap' : Nat} {rs : List RowRef} {r : RowRef} (h : OwnRows w B g cap rs) (hr : Own w B r.1 r.2.1 r.2.2) (hne : ∀ s ∈ rs, s.1 ≠ r.1)
    (ho : OwnV w' B 25 g' cap' (rs.map rowVal ++ [rowVal r])) (hg : w.grownBy w' (some g)) : OwnRows w' B g' cap' (rs ++ [r]) := by
  refine ⟨by rw [List.map_append]; exact ho, ?_⟩
  have hg1 : ∀ s ∈ rs, some s.1 ≠ some g := fun s hs e => h.1.ne (h.2.1 s hs).toV (by decide) (Option.some.inj e).symm
  have hg2 : some r.1 ≠ some g := fun e => h.1.ne hr.toV (by decide) (Option.some.inj e).symm
  exact (Inner.append (w := w') (r := r) ⟨fun s hs => (h.2.1 s hs).grown hg (hg1 s hs), h.2.2⟩ (hr.grown hg hg2) hne)
theorem wpList_append_row {w : World} {ops : Array Oper} {rest : List Oper} {o : Oper} {a : Act} {Q : Exit → Act → World → Prop} (hgd : o.guard = none) (s x : Operand)
    (ho : o.op = .call { callee := .builtin .append, args := #[s, x], argTypes := #[24, 24] })
    (B g cap n H : Nat) (rs : List RowRef) (r : RowRef) (W : World) (hn : rs.length = n) (hW : W = w.alloc (.cells #[rowVal r] 25)) (hH : w.heap.size = H) (hown : OwnRows w B g cap rs) (hr : Own w B r.1 r.2.1 r.2.2) (hne : ∀ s ∈ rs, s.1 ≠ r.1)
    (hs : a.eval s = (Value.slice (some ⟨g, 0, none⟩) n cap)) (hx : a.eval x = (Value.slice (some ⟨H, 0, none⟩) 1 1)) (hlen : n + 1 ≤ 1048576)
    (h : ∀ g' cap' w', OwnRows w' B g' cap' (rs ++ [r]) → w.grownBy w' (some g) → (g' = g ∨ w.heap.size < g') → wpList Tryz.prog ops Q rest (a.put o.dst (Value.slice (some ⟨g', 0, none⟩) (n + 1) cap')) w') :
    wpList Tryz.prog ops Q (o :: rest) a W := by
  subst hn; subst hW; subst hH
  have hl : (rs.map rowVal).length = rs.length := by simp
  obtain ⟨g', cap', w', hrun, h2, h3, h4⟩ := run_append_row hown.1 (rowVal r) rfl (by rw [hl]; exact hlen) o.type
  rw [hl] at hrun
  refine wpList_plain hgd fun K hK => ?_
  unfold Oper.wp execOp
  simp only [ho, resolve, invoke, builtin, Sem.run_bind, Sem.run_pure, Result.andThen_ok, List.map_toArray, List.map_cons, List.map_nil, hs, hx, hrun]
  exact hK _ _ (h g' cap' w' (hown.push hr hne h2 h3) h3 h4)
theorem OwnRows.empty {w : World} {B : Nat} (hB : B ≤ w.heap.size) : OwnRows (w.alloc (.cells #[] 25)) B w.heap.size 0 [] :=
  ⟨World.ownsRow_lit w #[] 0 hB (by decide) rfl, ⟨by simp, by simp⟩⟩
end Go.Proofs.YtkjglfafphffiaaGreatDoor
namespace Go.Proofs.YtkjglfafphffiaaGreatDoor
set_option maxRecDepth 100000
open Go.RowKit
theorem step_append_ints {ops : Array Oper} {W : World} {o : Oper} {a : Act} {K : Act → World → Prop} {Q : Exit → Act → World → Prop} {E : Prop} (hgd : o.guard = none) (s x : Operand)
    (ho : o.op = .call { callee := .builtin .append, args := #[s, x], argTypes := #[25, 25] })
    (B g cap n g2 o2 n2 c2 : Nat) (xs ys : List Int) (hn : xs.length = n) (hn2 : ys.length = n2) (hown : Own W B g cap xs) (hc : Cells W g2 o2 ys) (hs : a.eval s = (Value.slice (some ⟨g, 0, none⟩) n cap)) (hx : a.eval x = (Value.slice (some ⟨g2, o2, none⟩) n2 c2)) (hlen : n + n2 ≤ 1099511627776)
    (h : ∀ g' cap' w', Own w' B g' cap' (xs ++ ys) → W.grownBy w' (some g) → (g' = g ∨ g' = W.heap.size) → K (a.put o.dst (Value.slice (some ⟨g', 0, none⟩) (n + n2) cap')) w') :
    if Region.wanted o (yielded ops a.tmps) = true then Oper.wp Tryz.prog o a W K Q else E := by
  subst hn; subst hn2
  have hw : Region.wanted o (yielded ops a.tmps) = true := by simp [Region.wanted, hgd]
  rw [if_pos hw]
  obtain ⟨g', cap', w', hr, h1, h2, h3⟩ := run_append_ints hown hc (c2 := c2) hlen o.type
  unfold Oper.wp execOp
  simp only [ho, resolve, invoke, builtin, Sem.run_bind, Sem.run_pure, Result.andThen_ok, List.map_toArray, List.map_cons, List.map_nil, hs, hx, hr]
  exact h g' cap' w' h1 h2 h3
theorem step_append_intsA {ops : Array Oper} {W : World} {o : Oper} {a : Act} {K : Act → World → Prop} {Q : Exit → Act → World → Prop} {E : Prop} (hgd : o.guard = none) (s x : Operand)
    (ho : o.op = .call { callee := .builtin .append, args := #[s, x], argTypes := #[25, 25] })
    (B g cap n n2 c2 : Nat) (A : Option Addr) (xs ys : List Int) (hn : xs.length = n) (hn2 : ys.length = n2) (hown : Own W B g cap xs) (hs : a.eval s = (Value.slice (some ⟨g, 0, none⟩) n cap)) (hx : a.eval x = .slice A n2 c2) (hc : ∃ g2 o2, A = some ⟨g2, o2, none⟩ ∧ Cells W g2 o2 ys) (hlen : n + n2 ≤ 1099511627776)
    (h : ∀ g' cap' w', Own w' B g' cap' (xs ++ ys) → W.grownBy w' (some g) → (g' = g ∨ g' = W.heap.size) → K (a.put o.dst (Value.slice (some ⟨g', 0, none⟩) (n + n2) cap')) w') :
    if Region.wanted o (yielded ops a.tmps) = true then Oper.wp Tryz.prog o a W K Q else E := by
  obtain ⟨g2, o2, rfl, hc2⟩ := hc
  exact step_append_ints hgd s x ho B g cap n g2 o2 n2 c2 xs ys hn hn2 hown hc2 hs hx hlen h
theorem step_append_row {ops : Array Oper} {w : World} {o : Oper} {a : Act} {K : Act → World → Prop} {Q : Exit → Act → World → Prop} {E : Prop} (hgd : o.guard = none) (s x : Operand)
    (ho : o.op = .call { callee := .builtin .append, args := #[s, x], argTypes := #[24, 24] })
    (B g cap n H : Nat) (rs : List RowRef) (r : RowRef) (W : World) (hn : rs.length = n) (hW : W = w.alloc (.cells #[rowVal r] 25)) (hH : w.heap.size = H) (hown : OwnRows w B g cap rs) (hr : Own w B r.1 r.2.1 r.2.2) (hne : ∀ s ∈ rs, s.1 ≠ r.1)
    (hs : a.eval s = (Value.slice (some ⟨g, 0, none⟩) n cap)) (hx : a.eval x = (Value.slice (some ⟨H, 0, none⟩) 1 1)) (hlen : n + 1 ≤ 1048576)
    (h : ∀ g' cap' w', OwnRows w' B g' cap' (rs ++ [r]) → w.grownBy w' (some g) → (g' = g ∨ w.heap.size < g') → K (a.put o.dst (Value.slice (some ⟨g', 0, none⟩) (n + 1) cap')) w') :
    if Region.wanted o (yielded ops a.tmps) = true then Oper.wp Tryz.prog o a W K Q else E := by
  subst hn; subst hW; subst hH
  have hw : Region.wanted o (yielded ops a.tmps) = true := by simp [Region.wanted, hgd]
  rw [if_pos hw]
  have hl : (rs.map rowVal).length = rs.length := by simp
  obtain ⟨g', cap', w', hrun, h2, h3, h4⟩ := run_append_row hown.1 (rowVal r) rfl (by rw [hl]; exact hlen) o.type
  rw [hl] at hrun
  unfold Oper.wp execOp
  simp only [ho, resolve, invoke, builtin, Sem.run_bind, Sem.run_pure, Result.andThen_ok, List.map_toArray, List.map_cons, List.map_nil, hs, hx, hrun]
  exact h g' cap' w' (hown.push hr hne h2 h3) h3 h4
end Go.Proofs.YtkjglfafphffiaaGreatDoor
namespace Go.Proofs.YtkjglfafphffiaaGreatDoor
set_option maxRecDepth 100000
open Go.RowKit
set_option maxHeartbeats 1000000 in
theorem spec_l1Once_any (B p : Nat) (a : Option Addr) (n c : Nat) (m : Int) (w : World) (hm : 1 ≤ m ∧ m ≤ 256) (hn : n ≤ 1048577) (hc : CodeV w B a n) (hp : B ≤ p) (hcur : Cur w p a n c) :
    Calls Tryz.prog 133 #[.pointer (some ⟨p, 0, none⟩), .int .i64 m] w fun e w' => ∃ b : Bool, e = .returned (.bool b) ∧ Cur w' p a n c ∧ CodeV w' B a n ∧ Only p (p + 1) w w' := by
  have h1 := Lib.hid (spec_l1Below_any B p a n c m w hm hn hc hp hcur)
  clear hc hcur
  go_enter Tryz.func133, Tryz.ntmps133
  go_wp2_with fail
  refine h1.out.mono ?_
  rintro e w1 ⟨x, hx, rfl, hcur, hc, hO⟩
  go_wp2_with fail
  go_ret
  exact ⟨_, rfl, hcur, hc, hO⟩
theorem Only.grown {w w1 w2 : World} {p E g : Nat} (h : Only p E w w1) (k : w1.grownBy w2 (some g)) (hg : w.heap.size ≤ g) : Only p E w w2 :=
  ⟨k.os.trans h.os, k.tape.trans h.tape, k.output.trans h.output, Nat.le_trans h.size k.size, fun j hj hd => (k.block j (Nat.lt_of_lt_of_le hj h.size) (by intro e; cases e; omega)).trans (h.block j hj hd)⟩
theorem Cur.grown {w w' : World} {p g : Nat} {a : Option Addr} {n c : Nat} (h : Cur w p a n c) (k : w.grownBy w' (some g)) (hg : p < g) : Cur w' p a n c := by
  obtain ⟨i, x, hi, hb⟩ := h
  exact ⟨i, x, hi, (k.block p (lt_of_block hb) (by intro e; cases e; omega)).trans hb⟩
theorem CodeV.grown {w w' : World} {B g : Nat} {a : Option Addr} {n : Nat} (h : CodeV w B a n) (k : w.grownBy w' (some g)) (hg : B ≤ g) : CodeV w' B a n :=
  h.only (p := g) (E := g + 1) ⟨k.os, k.tape, k.output, k.size, fun j hj hd => k.block j hj (by intro e; cases e; omega)⟩ hg
theorem Only.below' {w w1 w2 : World} {p E b : Nat} (h : Only p E w w1) (k : Below b w1 w2) (hb : w.heap.size ≤ b) : Only p E w w2 :=
  ⟨k.os.trans h.os, k.tape.trans h.tape, k.output.trans h.output, Nat.le_trans h.size k.size, fun j hj hd => (k.block j (Nat.lt_of_lt_of_le hj hb)).trans (h.block j hj hd)⟩
theorem Cur.below' {w w' : World} {p b : Nat} {a : Option Addr} {n c : Nat} (h : Cur w p a n c) (k : Below b w w') (hb : p < b) : Cur w' p a n c := by
  obtain ⟨i, x, hi, hl⟩ := h
  exact ⟨i, x, hi, (k.block p hb).trans hl⟩
theorem CodeV.below' {w w' : World} {B b : Nat} {a : Option Addr} {n : Nat} (h : CodeV w B a n) (k : Below b w w') (hb : B ≤ b) : CodeV w' B a n := h.below (k.mono hb)
end Go.Proofs.YtkjglfafphffiaaGreatDoor
namespace Go.Proofs.YtkjglfafphffiaaGreatDoor
set_option maxRecDepth 100000
namespace Game
end Game
open Go.RowKit
def GotPut (w : World) (B0 : Nat) (rows : List (List Int)) (e : Ending) (w' : World) : Prop :=
  ∃ g cap rs, e = .returned (Value.slice (some ⟨g, 0, none⟩) rows.length cap) ∧ contents rs = rows ∧ OwnRows w' B0 g cap rs ∧ w.heap.size ≤ g ∧ Below w.heap.size w w'
theorem GotPut.mk' {w w' : World} {B0 : Nat} {rows : List (List Int)} {n : Nat} (g cap : Nat) (rs : List RowRef) (hl : rs.length = n) (hc : contents rs = rows) (ho : OwnRows w' B0 g cap rs) (hg : w.heap.size ≤ g) (hb : Below w.heap.size w w') :
    GotPut w B0 rows (.returned (Value.slice (some ⟨g, 0, none⟩) n cap)) w' := by
  subst hl; subst hc
  exact ⟨g, cap, rs, by rw [contents_length], rfl, ho, hg, hb⟩
section
variable {w a b : World} {B B' : Nat}
theorem below_still (h : Below B w a) (hs : ∃ n, b = a.drewN n) : Below B w b := by obtain ⟨n, rfl⟩ := hs; exact below_drewN h n
theorem OwnRows.still {g cap : Nat} {rs : List RowRef} (h : OwnRows a B g cap rs) (hs : ∃ n, b = a.drewN n) : OwnRows b B g cap rs := by obtain ⟨n, rfl⟩ := hs; exact h
theorem Own.still {g cap : Nat} {xs : List Int} (h : Own a B g cap xs) (hs : ∃ n, b = a.drewN n) : Own b B g cap xs := by obtain ⟨n, rfl⟩ := hs; exact h
theorem Cells.still {g o : Nat} {xs : List Int} (h : Cells a g o xs) (hs : ∃ n, b = a.drewN n) : Cells b g o xs := by obtain ⟨n, rfl⟩ := hs; exact h
theorem Rows2.still {g o : Nat} {xs : List (List Int)} (h : Rows2 a g o xs) (hs : ∃ n, b = a.drewN n) : Rows2 b g o xs := by obtain ⟨n, rfl⟩ := hs; exact h
theorem size_still (hs : ∃ n, b = a.drewN n) : b.heap.size = a.heap.size := by obtain ⟨n, rfl⟩ := hs; rfl
theorem cell_still (hs : ∃ n, b = a.drewN n) (p : Addr) : b.cell? p = a.cell? p := by obtain ⟨n, rfl⟩ := hs; rfl
end
theorem still_trans {a b d : World} (h : ∃ n, b = a.drewN n) (k : ∃ n, d = b.drewN n) : ∃ n, d = a.drewN n := by
  obtain ⟨n, rfl⟩ := h
  obtain ⟨m, rfl⟩ := k
  exact ⟨n + m, by rw [World.drewN_drewN]⟩
structure PutSt (put : List (List Int) → List (List Int)) (H : Nat) (rs : List RowRef) (i : Nat) (acc : List RowRef) (pl : Bool) : Prop where
  blocks : ∀ s ∈ acc, s ∈ rs.take i ∨ H ≤ s.1
  fin : contents acc ++ (if pl then contents (rs.drop i) else put (contents (rs.drop i))) = put (contents rs)
  len : acc.length ≤ i + 1
  lenF : pl = false → acc.length = i
section
variable {put : List (List Int) → List (List Int)} {H : Nat} {rs acc : List RowRef} {i : Nat} {pl : Bool}
theorem PutSt.start : PutSt put H rs 0 [] false := ⟨by simp, by simp [contents], by simp, by simp⟩
theorem contents_drop (rs : List RowRef) {i : Nat} (hi : i < rs.length) : contents (rs.drop i) = rs[i].2.2 :: contents (rs.drop (i + 1)) := by
  rw [List.drop_eq_getElem_cons hi]; rfl
theorem PutSt.step (h : PutSt put H rs i acc pl) (hi : i < rs.length) (new : List RowRef) (pl' : Bool) (hnew : ∀ s ∈ new, H ≤ s.1) (hl : acc.length + new.length ≤ i + 1) (hF : pl' = false → pl = false ∧ new = [])
    (hf : (if pl then contents (rs.drop i) else put (contents (rs.drop i))) = contents new ++ rs[i].2.2 :: (if pl' then contents (rs.drop (i + 1)) else put (contents (rs.drop (i + 1))))) :
    PutSt put H rs (i + 1) (acc ++ new ++ [rs[i]]) pl' := by
  refine ⟨?_, ?_, by simp; omega, ?_⟩
  · intro s hs
    rw [List.append_assoc, List.mem_append, List.mem_append, List.mem_singleton] at hs
    rcases hs with h1 | h1 | h1
    · rcases h.blocks s h1 with h2 | h2
      · left
        rw [List.take_succ_eq_append_getElem hi]
        exact List.mem_append_left _ h2
      · exact .inr h2
    · exact .inr (hnew s h1)
    · left
      rw [List.take_succ_eq_append_getElem hi, h1]
      exact List.mem_append_right _ (by simp)
  · rw [← h.fin, hf]
    simp [contents]
  · intro e
    have := hF e
    rw [this.2, List.append_nil, List.length_append, h.lenF this.1]; rfl
theorem PutSt.last (h : PutSt put H rs rs.length acc false) (r : RowRef) (hp : put [] = [r.2.2]) : contents (acc ++ [r]) = put (contents rs) := by
  have := h.fin
  simp [contents] at this ⊢
  rw [hp] at this
  exact this
theorem PutSt.done (h : PutSt put H rs rs.length acc true) : contents acc = put (contents rs) := by
  have := h.fin
  simpa [contents] using this
theorem PutSt.ne (h : PutSt put H rs i acc pl) (hnd : (rs.map (·.1)).Nodup) (hi : i < rs.length) (hH : rs[i].1 < H) : ∀ s ∈ acc, s.1 ≠ rs[i].1 := by
  intro s hs e
  rcases h.blocks s hs with h1 | h1
  · obtain ⟨t, ht, rfl⟩ := List.mem_iff_getElem.1 h1
    rw [List.length_take] at ht
    rw [List.getElem_take] at e
    have ht' : t < rs.length := by omega
    have h2 : (rs.map (·.1))[t]'(by simpa using ht') = (rs.map (·.1))[i]'(by simpa using hi) := by simpa using e
    have h3 := (List.getElem_inj hnd).1 h2
    omega
  · omega
end
end Go.Proofs.YtkjglfafphffiaaGreatDoor
namespace Go.Proofs.YtkjglfafphffiaaGreatDoor
set_option maxRecDepth 100000
open Go.RowKit
theorem CodeV.mono {w : World} {B B' : Nat} {a : Option Addr} {n : Nat} (h : CodeV w B a n) (hB : B ≤ B') : CodeV w B' a n := by
  rcases h with h | ⟨g, o, e, h1, h2, h3⟩
  · exact .inl h
  · exact .inr ⟨g, o, e, Nat.lt_of_lt_of_le h1 hB, h2, h3⟩
theorem laws_big_any (a : Option Addr) (n c : Nat) (w : World) : Calls Tryz.prog 4 #[.slice a n c] w (Reads w (.bool (decide (1048576 < n)))) := by
  have e : decide ((1048576 : Int) < (n : Int)) = decide (1048576 < n) := by rw [decide_eq_decide]; omega
  go_enter Tryz.func4, Tryz.ntmps4
  go_wp2_with fail
  go_ret
  exact ⟨by first | rfl | exact ret_bool e, (by first | exact ⟨_, rfl⟩ | exact ⟨0, rfl⟩ | exact still2 _ _ _ | exact still3 _ _ _ _)⟩
end Go.Proofs.YtkjglfafphffiaaGreatDoor
namespace Go.Proofs.YtkjglfafphffiaaGreatDoor
set_option maxRecDepth 100000
open Go.Joins Go.ChangeShapes Go.WideShapes Go.RowKit Go.Deep
section
variable {H : Type} {enc : TypeId × Value → H} {w : World} {base : Nat}
theorem argCode_open {fuel : Nat} {v : Value} {x : DataW H × List MemPlace} (h : DataW.trod enc Tryz.prog w base (fun _ => true) true fuel 22 [v] = some x) :
    ∃ a n c, v = .slice a n c ∧ CodeV w w.heap.size a n ∧ n ≤ maxLen := by
  rcases open_ints Tryz.underlying22 Tryz.underlying5 (by kernel_rfl) h with ⟨hcs, _⟩ | ⟨a, l, c, zs, hcs, _, hl, hm, hz, _, hcell, hwz⟩
  · simp at hcs
    exact ⟨none, 0, 0, hcs, .inl rfl, Nat.zero_le _⟩
  · simp at hcs
    have hz' : zs.length = c := by simpa using hz
    refine ⟨some a, l, c, hcs, ?_, by omega⟩
    by_cases h0 : l = 0
    · exact .inl h0
    obtain ⟨b, o, s⟩ := a
    have hc0 := hcell 0 (by omega)
    cases s with
    | some s => simp [World.cell?, Addr.add] at hc0; split at hc0 <;> simp_all
    | none =>
      refine .inr ⟨b, o, rfl, World.block_lt_of_cell? w _ hc0, World.block_lt_of_cell? w _ hc0, fun j hj => ?_⟩
      have hj' : j < zs.length := by omega
      have hcj := hcell j hj'
      rw [Addr.add_lit] at hcj
      have hwf := hwz (zs.getD j 0) (by simp [List.getD, hj'])
      refine ⟨zs.getD j 0, ?_, hcj⟩
      generalize zs.getD j 0 = z at *
      have h3 : 0 ≤ z ∧ z ≤ 255 := by simpa [Lit.wf, IntKind.min, IntKind.max, IntKind.signed, IntKind.bits] using hwf
      omega
variable {v : Value} {d : DataW H} {p : List MemPlace} {r : Reach} {b0 : Nat}
theorem argCode_at (hv : Value.okWide Tryz.prog w r b0 22 v) (h : DataW.Trod enc Tryz.prog w base (fun _ => true) true 22 v d p) :
    ∃ a n c, v = .slice a n c ∧ Hid (CodeV w w.heap.size a n) ∧ n ≤ maxLen := by
  obtain ⟨a, l, c, rfl⟩ := okWide_slice Tryz.underlying22 hv
  obtain ⟨fuel, hf⟩ := h
  exact argCode_open hf
end
end Go.Proofs.YtkjglfafphffiaaGreatDoor
namespace Go.Proofs.YtkjglfafphffiaaGreatDoor
set_option maxRecDepth 100000
open Go.Lib (join decDigits itoa)
theorem u8_int (x : Int) (h0 : 0 ≤ x) (h1 : x < 256) : ((UInt8.ofNat x.toNat).toNat : Int) = x := by
  rw [UInt8.toNat_ofNat']
  omega
def digSt (N m : Nat) (out : List UInt8) : Prop := (m = 0 ∧ out = decDigits N) ∨ (0 < m ∧ decDigits N = decDigits m ++ out)
theorem decDigits_big {m : Nat} (h : 10 ≤ m) : decDigits m = decDigits (m / 10) ++ [UInt8.ofNat (48 + m % 10)] := by
  conv => lhs; rw [decDigits]
  rw [dif_neg (by omega)]
theorem digSt_start {N : Nat} (h : 0 < N) : digSt N N [] := .inr ⟨h, by simp⟩
theorem digSt_step {N m : Nat} {out : List UInt8} (h : digSt N m out) (hm : 0 < m) : digSt N (m / 10) (UInt8.ofNat (48 + m % 10) :: out) := by
  rcases h with ⟨h, -⟩ | ⟨-, h⟩
  · omega
  · by_cases h10 : m < 10
    · refine .inl ⟨by omega, ?_⟩
      rw [h, Lib.decDigits_one h10, Nat.mod_eq_of_lt h10]
      rfl
    · refine .inr ⟨by omega, ?_⟩
      rw [h, decDigits_big (by omega)]
      simp
theorem digSt_end {N : Nat} {out : List UInt8} (h : digSt N 0 out) : out = decDigits N := by
  rcases h with ⟨-, h⟩ | ⟨h, -⟩
  · exact h
  · omega
theorem digSt_len {N m : Nat} {out : List UInt8} (hN : N < 18446744073709551616) (h : digSt N m out) : out.length ≤ 20 := by
  have hl : (decDigits N).length ≤ 20 := by rw [Lib.decDigits_length]; exact Lib.nDigits_le20 N hN
  rcases h with ⟨-, h⟩ | ⟨-, h⟩
  · rw [h]; exact hl
  · rw [h, List.length_append] at hl; omega
theorem join_snoc {xs : List (List UInt8)} (h : xs ≠ []) (y sep : List UInt8) : join (xs ++ [y]) sep = join xs sep ++ sep ++ y := by
  cases xs with
  | nil => exact absurd rfl h
  | cons x r =>
    rw [List.cons_append, Lib.join_cons, Lib.join_cons]
    simp [Lib.joinTail, List.append_assoc]
theorem join_len_le (xs : List (List UInt8)) (sep : List UInt8) : (join xs sep).length ≤ sep.length * xs.length + Lib.lens xs := by
  cases xs with
  | nil => simp [Lib.join_nil]
  | cons x r =>
    rw [Lib.join_length, List.length_cons, Nat.mul_succ]
    omega
def itoas (v : List Int) : List (List UInt8) := v.map itoa
def weightL (v : List Int) : List UInt8 := join (itoas v) [44]
def I64s (v : List Int) : Prop := ∀ x ∈ v, (Lit.int .i64 x).wf = true
theorem wf_bounds {x : Int} (h : (Lit.int .i64 x).wf = true) : -9223372036854775808 ≤ x ∧ x ≤ 9223372036854775807 := by
  simp [Lit.wf, IntKind.min, IntKind.max, IntKind.signed, IntKind.bits] at h
  omega
theorem itoas_lens {v : List Int} (h : I64s v) : Lib.lens (itoas v) ≤ 21 * v.length := by
  induction v with
  | nil => simp [itoas, Lib.lens]
  | cons x v ih =>
    have h1 := wf_bounds (h x (by simp))
    have h2 := Lib.itoa_length_le x h1.1 h1.2
    have h3 := ih fun y hy => h y (by simp [hy])
    simp only [itoas, Lib.lens, List.map_cons, List.sum_cons, List.length_cons] at h3 ⊢
    omega
theorem weightL_len {v : List Int} (h : I64s v) : (weightL v).length ≤ 22 * v.length := by
  have h1 := join_len_le (itoas v) [44]
  have h2 := itoas_lens h
  have h3 : (itoas v).length = v.length := by simp [itoas]
  unfold weightL
  rw [h3] at h1
  simp only [List.length_cons, List.length_nil] at h1
  omega
theorem I64s.take {v : List Int} (h : I64s v) (k : Nat) : I64s (v.take k) := fun x hx => h x (List.mem_of_mem_take hx)
theorem I64s.at {v : List Int} (h : I64s v) {k : Nat} (hk : k < v.length) : (Lit.int .i64 (v.getD k 0)).wf = true := by
  apply h
  simp [List.getD, hk]
theorem itoas_take {v : List Int} {k : Nat} (hk : k < v.length) : itoas (v.take (k + 1)) = itoas (v.take k) ++ [itoa (v.getD k 0)] := by
  unfold itoas
  rw [List.take_succ_eq_append_getElem hk, List.map_append]
  congr 1
  simp [List.getD, hk]
theorem weightL_zero (v : List Int) : weightL (v.take 0) = [] := by simp [weightL, itoas, Lib.join_nil]
theorem weightL_first {v : List Int} (h : 0 < v.length) : weightL (v.take 1) = itoa (v.getD 0 0) := by
  unfold weightL
  rw [itoas_take h]
  simp [itoas, Lib.join_one]
theorem weightL_next {v : List Int} {k : Nat} (hk : k < v.length) (h0 : 0 < k) : weightL (v.take (k + 1)) = weightL (v.take k) ++ [44] ++ itoa (v.getD k 0) := by
  unfold weightL
  rw [itoas_take hk, join_snoc]
  intro h
  have h2 : (itoas (v.take k)).length = 0 := by rw [h]; rfl
  rw [itoas, List.length_map, List.length_take] at h2
  omega
def rowsL (sep : List UInt8) (l : List (List Int)) : List UInt8 := join (l.map weightL) sep
def cellsOf (l : List (List Int)) : Nat := (l.map List.length).sum
theorem cellsOf_take_succ {l : List (List Int)} {k : Nat} (hk : k < l.length) : cellsOf (l.take (k + 1)) = cellsOf (l.take k) + (l.getD k []).length := by
  unfold cellsOf
  rw [List.take_succ_eq_append_getElem hk, List.map_append, List.sum_append]
  simp [List.getD, hk]
theorem rowsL_len {l : List (List Int)} {sep : List UInt8} (h : ∀ r ∈ l, I64s r) : (rowsL sep l).length ≤ sep.length * l.length + 22 * cellsOf l := by
  have h1 := join_len_le (l.map weightL) sep
  rw [List.length_map] at h1
  have h2 : Lib.lens (l.map weightL) ≤ 22 * cellsOf l := by
    clear h1
    induction l with
    | nil => simp [Lib.lens, cellsOf]
    | cons r l ih =>
      have a := weightL_len (h r (by simp))
      have b := ih fun y hy => h y (by simp [hy])
      simp only [Lib.lens, cellsOf, List.map_cons, List.sum_cons] at b ⊢
      omega
  unfold rowsL
  omega
theorem rowsL_take {l : List (List Int)} {k : Nat} (hk : k < l.length) : (l.take (k + 1)).map weightL = (l.take k).map weightL ++ [weightL (l.getD k [])] := by
  rw [List.take_succ_eq_append_getElem hk, List.map_append]
  congr 1
  simp [List.getD, hk]
theorem rowsL_zero (sep : List UInt8) (l : List (List Int)) : rowsL sep (l.take 0) = [] := by simp [rowsL, Lib.join_nil]
theorem rowsL_first {sep : List UInt8} {l : List (List Int)} (h : 0 < l.length) : rowsL sep (l.take 1) = weightL (l.getD 0 []) := by
  unfold rowsL
  rw [rowsL_take h]
  simp [Lib.join_one]
theorem rowsL_next {sep : List UInt8} {l : List (List Int)} {k : Nat} (hk : k < l.length) (h0 : 0 < k) : rowsL sep (l.take (k + 1)) = rowsL sep (l.take k) ++ sep ++ weightL (l.getD k []) := by
  unfold rowsL
  rw [rowsL_take hk, join_snoc]
  intro h
  have h2 : ((l.take k).map weightL).length = 0 := by rw [h]; rfl
  rw [List.length_map, List.length_take] at h2
  omega
def rootsL (l : List (List Int)) : List UInt8 := if l.length = 0 then [110, 111, 110, 101] else rowsL [32] l
def cartanL (c : List (List Int)) : List UInt8 := if IsC c then rowsL [59] c else []
def InW (w : List Int) : Prop := ∀ i ∈ w, 0 ≤ i ∧ i < 4
instance (w : List Int) : Decidable (InW w) := by unfold InW; infer_instance
def digs (w : List Int) : List UInt8 := w.map fun i => UInt8.ofNat (49 + i.toNat)
def wordL (w : List Int) : List UInt8 := if w.length = 0 then [101] else if InW w then digs w else []
theorem digs_take {v : List Int} {k : Nat} (hk : k < v.length) : digs (v.take (k + 1)) = digs (v.take k) ++ [UInt8.ofNat (49 + (v.getD k 0).toNat)] := by
  unfold digs
  rw [List.take_succ_eq_append_getElem hk, List.map_append]
  congr 1
  simp [List.getD, hk]
theorem itoa_letter {i : Int} (h0 : 0 ≤ i) (h1 : i < 4) : itoa (i + 1) = [UInt8.ofNat (49 + i.toNat)] := by
  have : i = 0 ∨ i = 1 ∨ i = 2 ∨ i = 3 := by omega
  rcases this with rfl | rfl | rfl | rfl
  all_goals
    unfold itoa
    rw [if_neg (by omega), Lib.decDigits_one (by decide)]
    rfl
theorem inW_of_take {w : List Int} (h : ∀ j, j < w.length → 0 ≤ w.getD j 0 ∧ w.getD j 0 < 4) : InW w := by
  intro i hi
  obtain ⟨j, hj, rfl⟩ := List.mem_iff_getElem.1 hi
  have := h j hj
  simpa [List.getD, hj] using this
theorem not_inW {w : List Int} {j : Nat} (hj : j < w.length) (h : ¬ (0 ≤ w.getD j 0 ∧ w.getD j 0 < 4)) : ¬ InW w := by
  intro hw
  apply h
  apply hw
  simp [List.getD, hj]
end Go.Proofs.YtkjglfafphffiaaGreatDoor
