/- Claims: the laws' own helpers toClaim, szClaim, eqClaim: contracts. -/
import Derived.Test.YtmfncbibajoeoaaG03
import Derived.Laws.ResultCell
namespace Go.Proofs.Ytmfncbibajoeoaa
set_option maxRecDepth 100000
open Go.RowKit

/-- what came in as a claim -/
def ArgClaim (w : World) (v : Value) (x : ClaimD) : Prop :=
  ∃ a1 c1 a2 c2 a3 c3 a4 c4 a5 c5, v = .agg #[.int .i64 x.kind, .slice a1 x.cartan.length c1, .slice a2 x.a.length c2, .slice a3 x.b.length c3, .slice a4 x.proof.length c4, .slice a5 x.roots.length c5] ∧
    ArgRows w a1 x.cartan ∧ ArgInts w a2 x.a ∧ ArgInts w a3 x.b ∧ ArgInts w a4 x.proof ∧ ArgRows w a5 x.roots
theorem ArgClaim.below {w w' : World} {v : Value} {x : ClaimD} (h : ArgClaim w v x) (hb : Below w.heap.size w w') : ArgClaim w' v x := by
  obtain ⟨a1, c1, a2, c2, a3, c3, a4, c4, a5, c5, e, h1, h2, h3, h4, h5⟩ := h
  exact ⟨a1, c1, a2, c2, a3, c3, a4, c4, a5, c5, e, h1.below hb, h2.below hb, h3.below hb, h4.below hb, h5.below hb⟩

/-- the blocks from B on that were there are as they were -/
structure Keep (B : Nat) (w w' : World) : Prop where
  size : w.heap.size ≤ w'.heap.size
  block : ∀ k, B ≤ k → k < w.heap.size → w'.heap[k]? = w.heap[k]?
theorem Keep.refl (B : Nat) (w : World) : Keep B w w := ⟨Nat.le_refl _, fun _ _ _ => rfl⟩
theorem Keep.trans {B : Nat} {a b c : World} (h : Keep B a b) (k : Keep B b c) : Keep B a c :=
  ⟨Nat.le_trans h.size k.size, fun i hi hlt => (k.block i hi (Nat.lt_of_lt_of_le hlt h.size)).trans (h.block i hi hlt)⟩
theorem Keep.of_below {B : Nat} {w w' : World} (h : Below w.heap.size w w') : Keep B w w' := ⟨h.size, fun k _ hk => h.block k hk⟩
theorem Keep.of_below' {B n : Nat} {w w' : World} (h : Below n w w') (hn : w.heap.size ≤ n) : Keep B w w' := ⟨h.size, fun k _ hk => h.block k (Nat.lt_of_lt_of_le hk hn)⟩
theorem Keep.setCell {B : Nat} {a w : World} (h : Keep B a w) {p : Addr} (hp : p.block < B) (u : Value) : Keep B a (w.setCell p u) :=
  h.trans ⟨by simp [World.setCell], fun k hk _ => Below.heap_setCell _ _ _ _ (by omega)⟩
theorem Keep.drew {B : Nat} {a w : World} (h : Keep B a w) : Keep B a w.drew := ⟨h.size, h.block⟩
theorem Keep.drewN {B : Nat} {a w : World} (h : Keep B a w) (n : Nat) : Keep B a (w.drewN n) := ⟨h.size, h.block⟩
theorem Keep.cell {B : Nat} {w w' : World} (h : Keep B w w') {p : Addr} (hp : B ≤ p.block) {v : Value} (hc : w.cell? p = some v) : w'.cell? p = some v :=
  (World.cell?_of_block (h.block _ hp (World.block_lt_of_cell? w p hc))).trans hc
/-- as IntsV, RowsV, all its blocks from B on -/
def IntsB (w : World) (B : Nat) (v : Value) (xs : List Int) : Prop := ∃ g o n c, v = (Value.slice (some ⟨g, o, none⟩) n c) ∧ xs.length = n ∧ n ≤ c ∧ B ≤ g ∧ g < w.heap.size ∧ Cells w g o xs
def RowsB (w : World) (B : Nat) (v : Value) (rows : List (List Int)) : Prop := ∃ g o n c, v = (Value.slice (some ⟨g, o, none⟩) n c) ∧ rows.length = n ∧ n ≤ c ∧ B ≤ g ∧ g < w.heap.size ∧
  ∀ j, j < rows.length → ∃ gj oj cj, w.cell? ⟨g, o + j, none⟩ = some (Value.slice (some ⟨gj, oj, none⟩) ((rows.getD j []).length) cj) ∧ (rows.getD j []).length ≤ cj ∧ B ≤ gj ∧ gj < w.heap.size ∧ Cells w gj oj (rows.getD j [])
theorem IntsB.keep {w w' : World} {B : Nat} {v : Value} {xs : List Int} (h : IntsB w B v xs) (hk : Keep B w w') : IntsV w' v xs := by
  obtain ⟨g, o, n, c, h1, h2, h3, h4, h5, h6⟩ := h
  exact ⟨g, o, n, c, h1, h2, h3, Nat.lt_of_lt_of_le h5 hk.size, fun j hj => hk.cell (p := ⟨g, o + j, none⟩) h4 (h6 j hj)⟩
theorem RowsB.keep {w w' : World} {B : Nat} {v : Value} {rows : List (List Int)} (h : RowsB w B v rows) (hk : Keep B w w') : RowsV w' v rows := by
  obtain ⟨g, o, n, c, h1, h2, h3, h4, h5, h6⟩ := h
  refine ⟨g, o, n, c, h1, h2, h3, Nat.lt_of_lt_of_le h5 hk.size, fun j hj => ?_⟩
  obtain ⟨gj, oj, cj, q1, q2, q3, q4, q5⟩ := h6 j hj
  exact ⟨gj, oj, cj, hk.cell (p := ⟨g, o + j, none⟩) h4 q1, q2, Nat.lt_of_lt_of_le q4 hk.size, fun i hi => hk.cell (p := ⟨gj, oj + i, none⟩) q3 (q5 i hi)⟩
theorem IntsB.mono {w : World} {B B' : Nat} {v : Value} {xs : List Int} (h : IntsB w B v xs) (hB : B' ≤ B) : IntsB w B' v xs := by
  obtain ⟨g, o, n, c, h1, h2, h3, h4, h5⟩ := h
  exact ⟨g, o, n, c, h1, h2, h3, Nat.le_trans hB h4, h5⟩
theorem RowsB.mono {w : World} {B B' : Nat} {v : Value} {rows : List (List Int)} (h : RowsB w B v rows) (hB : B' ≤ B) : RowsB w B' v rows := by
  obtain ⟨g, o, n, c, h1, h2, h3, h4, h5, h6⟩ := h
  refine ⟨g, o, n, c, h1, h2, h3, Nat.le_trans hB h4, h5, fun j hj => ?_⟩
  obtain ⟨gj, oj, cj, q1, q2, q3, q4⟩ := h6 j hj
  exact ⟨gj, oj, cj, q1, q2, Nat.le_trans hB q3, q4⟩
theorem OwnRows.rowsB {w : World} {B g cap n : Nat} {rs : List RowRef} (h : OwnRows w B g cap rs) (hn : rs.length = n) : RowsB w B (Value.slice (some ⟨g, 0, none⟩) n cap) (contents rs) := by
  refine ⟨g, 0, n, cap, rfl, by rw [contents_length]; exact hn, by have := h.capLe; omega, h.base, h.lt, fun j hj => ?_⟩
  have hj' : j < rs.length := by rwa [contents_length] at hj
  have hm : rs[j] ∈ rs := List.getElem_mem hj'
  have e : (contents rs).getD j [] = rs[j].2.2 := by simp [contents, List.getD, hj']
  have ho := h.2.1 _ hm
  rw [e]
  refine ⟨rs[j].1, 0, rs[j].2.1, ?_, ho.capLe, ho.base, ho.lt, ho.cells⟩
  rw [Nat.zero_add, h.1.cell j (by simpa using hj')]
  simp [rowVal]

theorem toIntSS_V {a : Option Addr} {c : Nat} {rows : List (List Int)} {w : World} (h : ArgRows w a rows) (hf : rowsFewC rows) :
    Calls Try.prog 73 #[.slice a rows.length c] w (fun e w' => ∃ g n c, e = .returned (Value.slice (some ⟨g, 0, none⟩) n c) ∧ RowsB w' w.heap.size (Value.slice (some ⟨g, 0, none⟩) n c) rows ∧ Below w.heap.size w w') :=
  (toIntSS_any a _ c rows w rfl hf.1 (fun j hj => by have := hf.2 j hj; omega) h).mono fun _ _ ⟨g, cap, rs, he, hc, ho, hb⟩ => ⟨g, _, cap, he, by
    have hl : rs.length = rows.length := by rw [← hc, contents_length]
    have := ho.rowsB hl; rwa [hc] at this, hb⟩
theorem toIntS_V {a : Option Addr} {c : Nat} {xs : List Int} {w : World} (h : ArgInts w a xs) (hf : xs.length ≤ 1048576) :
    Calls Try.prog 74 #[.slice a xs.length c] w (fun e w' => ∃ g n c, e = .returned (Value.slice (some ⟨g, 0, none⟩) n c) ∧ IntsB w' w.heap.size (Value.slice (some ⟨g, 0, none⟩) n c) xs ∧ Below w.heap.size w w') :=
  (toIntS_any a c xs w (by omega) h).mono fun _ _ ⟨g, cap, he, ho, hb⟩ => ⟨g, _, cap, he, ⟨g, 0, _, cap, rfl, rfl, ho.capLe, ho.base, ho.lt, ho.cells⟩, hb⟩

theorem three_blocks (w : World) (o0 o1 o2 : Obj) : (((w.alloc o0).alloc o1).alloc o2).heap[w.heap.size]? = some o0 ∧ (((w.alloc o0).alloc o1).alloc o2).heap[w.heap.size + 1]? = some o1 ∧ (((w.alloc o0).alloc o1).alloc o2).heap[w.heap.size + 1 + 1]? = some o2 := by
  have e : (((w.alloc o0).alloc o1).alloc o2).heap = ((w.heap.push o0).push o1).push o2 := rfl
  rw [e]
  refine ⟨?_, ?_, ?_⟩
  · rw [Array.getElem?_push, if_neg (by simp; omega), Array.getElem?_push, if_neg (by simp), Array.getElem?_push, if_pos rfl]
  · rw [Array.getElem?_push, if_neg (by simp), Array.getElem?_push, if_pos (by simp)]
  · rw [Array.getElem?_push, if_pos (by simp)]

set_option maxHeartbeats 4000000 in
theorem toClaim_any (v : Value) (x : ClaimD) (w : World) (h : ArgClaim w v x) (hf : claimFew x) :
    Calls Try.prog 33 #[v] w (fun e w' => ∃ v', e = .returned v' ∧ ClaimV w' v' x ∧ Below w.heap.size w w') := by
  obtain ⟨a1, c1, a2, c2, a3, c3, a4, c4, a5, c5, rfl, h1, h2, h3, h4, h5⟩ := h
  have k1 : Hid (∀ W, Below w.heap.size w W → Calls Try.prog 73 #[.slice a1 x.cartan.length c1] W (fun e w' => ∃ g n c, e = .returned (Value.slice (some ⟨g, 0, none⟩) n c) ∧ RowsB w' W.heap.size (Value.slice (some ⟨g, 0, none⟩) n c) x.cartan ∧ Below W.heap.size W w')) := fun W hW => toIntSS_V (h1.below hW) hf.1
  have k2 : Hid (∀ W, Below w.heap.size w W → Calls Try.prog 74 #[.slice a2 x.a.length c2] W (fun e w' => ∃ g n c, e = .returned (Value.slice (some ⟨g, 0, none⟩) n c) ∧ IntsB w' W.heap.size (Value.slice (some ⟨g, 0, none⟩) n c) x.a ∧ Below W.heap.size W w')) := fun W hW => toIntS_V (h2.below hW) hf.2.1
  have k3 : Hid (∀ W, Below w.heap.size w W → Calls Try.prog 74 #[.slice a3 x.b.length c3] W (fun e w' => ∃ g n c, e = .returned (Value.slice (some ⟨g, 0, none⟩) n c) ∧ IntsB w' W.heap.size (Value.slice (some ⟨g, 0, none⟩) n c) x.b ∧ Below W.heap.size W w')) := fun W hW => toIntS_V (h3.below hW) hf.2.2.1
  have k4 : Hid (∀ W, Below w.heap.size w W → Calls Try.prog 74 #[.slice a4 x.proof.length c4] W (fun e w' => ∃ g n c, e = .returned (Value.slice (some ⟨g, 0, none⟩) n c) ∧ IntsB w' W.heap.size (Value.slice (some ⟨g, 0, none⟩) n c) x.proof ∧ Below W.heap.size W w')) := fun W hW => toIntS_V (h4.below hW) hf.2.2.2.1
  have k5 : Hid (∀ W, Below w.heap.size w W → Calls Try.prog 73 #[.slice a5 x.roots.length c5] W (fun e w' => ∃ g n c, e = .returned (Value.slice (some ⟨g, 0, none⟩) n c) ∧ RowsB w' W.heap.size (Value.slice (some ⟨g, 0, none⟩) n c) x.roots ∧ Below W.heap.size W w')) := fun W hW => toIntSS_V (h5.below hW) hf.2.2.2.2
  clear h1 h2 h3 h4 h5
  have tb := three_blocks w (.cells #[.int .i64 x.kind, .slice a1 x.cartan.length c1, .slice a2 x.a.length c2, .slice a3 x.b.length c3, .slice a4 x.proof.length c4, .slice a5 x.roots.length c5] 47) (.cells #[.int .i64 0, .slice none 0 0, .slice none 0 0, .slice none 0 0, .slice none 0 0, .slice none 0 0] 50) (.cells #[.int .i64 x.kind, .slice none 0 0, .slice none 0 0, .slice none 0 0, .slice none 0 0, .slice none 0 0] 50)
  have A0 := Lib.hid tb.1; have D0 := Lib.hid tb.2.1; have C0 := Lib.hid tb.2.2
  clear tb
  have hB0 : Below w.heap.size w (((w.alloc (.cells #[.int .i64 x.kind, .slice a1 x.cartan.length c1, .slice a2 x.a.length c2, .slice a3 x.b.length c3, .slice a4 x.proof.length c4, .slice a5 x.roots.length c5] 47)).alloc (.cells #[.int .i64 0, .slice none 0 0, .slice none 0 0, .slice none 0 0, .slice none 0 0, .slice none 0 0] 50)).alloc (.cells #[.int .i64 x.kind, .slice none 0 0, .slice none 0 0, .slice none 0 0, .slice none 0 0, .slice none 0 0] 50)) := (by repeat (first | with_reducible exact Below.refl _ _ | with_reducible assumption | with_reducible refine below_drewN ?_ _ | with_reducible refine Below.drew ?_ | (with_reducible refine Below.alloc ?_ ?_ _; rotate_left; · first | (simp; done) | (simp; omega) | exact Below.size (by assumption) | (have hsz := Below.size (by assumption : Below _ _ _); simp at hsz ⊢; omega)) | (with_reducible refine Below.setCell ?_ ?_ _; rotate_left; · first | (simp; done) | (simp; omega))))
  go_enter Try.func33, Try.ntmps33
  go_wp2_with fail
  refine (k1.out _ hB0).mono ?_
  rintro e w1 ⟨g1, n1, d1, rfl, hr1, hb1⟩
  have A1p : w1.heap[w.heap.size]? = some (.cells #[.int .i64 x.kind, .slice a1 x.cartan.length c1, .slice a2 x.a.length c2, .slice a3 x.b.length c3, .slice a4 x.proof.length c4, .slice a5 x.roots.length c5] 47 (0, 0)) := (hb1.block _ (lt_of_block A0.out)).trans A0.out
  have D1p : w1.heap[w.heap.size + 1]? = some (.cells #[.int .i64 0, .slice none 0 0, .slice none 0 0, .slice none 0 0, .slice none 0 0, .slice none 0 0] 50 (0, 0)) := (hb1.block _ (lt_of_block D0.out)).trans D0.out
  have C1p : w1.heap[w.heap.size + 1 + 1]? = some (.cells #[.int .i64 x.kind, .slice none 0 0, .slice none 0 0, .slice none 0 0, .slice none 0 0, .slice none 0 0] 50 (0, 0)) := (hb1.block _ (lt_of_block C0.out)).trans C0.out
  have hr1B := hr1.mono (B' := w.heap.size + 3) (lt_of_block C0.out)
  have hB1p : Below w.heap.size w w1 := hB0.trans (hb1.mono hB0.size)
  have r1 : w1.cell? ⟨w.heap.size, 2, none⟩ = some (.slice a2 x.a.length c2) := by rw [cell_of_cells A1p]; rfl
  have s1 : w1.cell? ⟨w.heap.size + 1 + 1, 1, none⟩ = some (.slice none 0 0) := by rw [cell_of_cells C1p]; rfl
  have f1 : w1.frozen? ⟨w.heap.size + 1 + 1, 1, none⟩ = false := free_of_cells C1p 1
  have A1 := Lib.hid ((Below.heap_setCell w1 ⟨w.heap.size + 1 + 1, 1, none⟩ (Value.slice (some ⟨g1, 0, none⟩) n1 d1) w.heap.size (by simp; omega)).trans A1p)
  have D1 := Lib.hid ((Below.heap_setCell w1 ⟨w.heap.size + 1 + 1, 1, none⟩ (Value.slice (some ⟨g1, 0, none⟩) n1 d1) (w.heap.size + 1) (by simp)).trans D1p)
  have C1 : Hid ((w1.setCell ⟨w.heap.size + 1 + 1, 1, none⟩ (Value.slice (some ⟨g1, 0, none⟩) n1 d1)).heap[w.heap.size + 1 + 1]? = some (.cells #[.int .i64 x.kind, (Value.slice (some ⟨g1, 0, none⟩) n1 d1), .slice none 0 0, .slice none 0 0, .slice none 0 0, .slice none 0 0] 50 (0, 0))) := by rw [Hid, heap_setCell_same w1 _ 1 _ _ (Value.slice (some ⟨g1, 0, none⟩) n1 d1) C1p]; rfl
  have hB1 : Below w.heap.size w (w1.setCell ⟨w.heap.size + 1 + 1, 1, none⟩ (Value.slice (some ⟨g1, 0, none⟩) n1 d1)) := hB1p.setCell (by simp; omega) _
  clear A1p C1p D1p hr1
  go_wp2_with fail
  clear r1 s1 f1
  refine (k2.out _ hB1).mono ?_
  rintro e w2 ⟨g2, n2, d2, rfl, hr2, hb2⟩
  have A2p : w2.heap[w.heap.size]? = some (.cells #[.int .i64 x.kind, .slice a1 x.cartan.length c1, .slice a2 x.a.length c2, .slice a3 x.b.length c3, .slice a4 x.proof.length c4, .slice a5 x.roots.length c5] 47 (0, 0)) := (hb2.block _ (lt_of_block A1.out)).trans A1.out
  have D2p : w2.heap[w.heap.size + 1]? = some (.cells #[.int .i64 0, .slice none 0 0, .slice none 0 0, .slice none 0 0, .slice none 0 0, .slice none 0 0] 50 (0, 0)) := (hb2.block _ (lt_of_block D1.out)).trans D1.out
  have C2p : w2.heap[w.heap.size + 1 + 1]? = some (.cells #[.int .i64 x.kind, (Value.slice (some ⟨g1, 0, none⟩) n1 d1), .slice none 0 0, .slice none 0 0, .slice none 0 0, .slice none 0 0] 50 (0, 0)) := (hb2.block _ (lt_of_block C1.out)).trans C1.out
  have hr2B := hr2.mono (B' := w.heap.size + 3) (lt_of_block C1.out)
  have hB2p : Below w.heap.size w w2 := hB1.trans (hb2.mono hB1.size)
  have r2 : w2.cell? ⟨w.heap.size, 3, none⟩ = some (.slice a3 x.b.length c3) := by rw [cell_of_cells A2p]; rfl
  have s2 : w2.cell? ⟨w.heap.size + 1 + 1, 2, none⟩ = some (.slice none 0 0) := by rw [cell_of_cells C2p]; rfl
  have f2 : w2.frozen? ⟨w.heap.size + 1 + 1, 2, none⟩ = false := free_of_cells C2p 2
  have A2 := Lib.hid ((Below.heap_setCell w2 ⟨w.heap.size + 1 + 1, 2, none⟩ (Value.slice (some ⟨g2, 0, none⟩) n2 d2) w.heap.size (by simp; omega)).trans A2p)
  have D2 := Lib.hid ((Below.heap_setCell w2 ⟨w.heap.size + 1 + 1, 2, none⟩ (Value.slice (some ⟨g2, 0, none⟩) n2 d2) (w.heap.size + 1) (by simp)).trans D2p)
  have C2 : Hid ((w2.setCell ⟨w.heap.size + 1 + 1, 2, none⟩ (Value.slice (some ⟨g2, 0, none⟩) n2 d2)).heap[w.heap.size + 1 + 1]? = some (.cells #[.int .i64 x.kind, (Value.slice (some ⟨g1, 0, none⟩) n1 d1), (Value.slice (some ⟨g2, 0, none⟩) n2 d2), .slice none 0 0, .slice none 0 0, .slice none 0 0] 50 (0, 0))) := by rw [Hid, heap_setCell_same w2 _ 2 _ _ (Value.slice (some ⟨g2, 0, none⟩) n2 d2) C2p]; rfl
  have hB2 : Below w.heap.size w (w2.setCell ⟨w.heap.size + 1 + 1, 2, none⟩ (Value.slice (some ⟨g2, 0, none⟩) n2 d2)) := hB2p.setCell (by simp; omega) _
  clear A2p C2p D2p hr2
  go_wp2_with fail
  clear r2 s2 f2
  refine (k3.out _ hB2).mono ?_
  rintro e w3 ⟨g3, n3, d3, rfl, hr3, hb3⟩
  have A3p : w3.heap[w.heap.size]? = some (.cells #[.int .i64 x.kind, .slice a1 x.cartan.length c1, .slice a2 x.a.length c2, .slice a3 x.b.length c3, .slice a4 x.proof.length c4, .slice a5 x.roots.length c5] 47 (0, 0)) := (hb3.block _ (lt_of_block A2.out)).trans A2.out
  have D3p : w3.heap[w.heap.size + 1]? = some (.cells #[.int .i64 0, .slice none 0 0, .slice none 0 0, .slice none 0 0, .slice none 0 0, .slice none 0 0] 50 (0, 0)) := (hb3.block _ (lt_of_block D2.out)).trans D2.out
  have C3p : w3.heap[w.heap.size + 1 + 1]? = some (.cells #[.int .i64 x.kind, (Value.slice (some ⟨g1, 0, none⟩) n1 d1), (Value.slice (some ⟨g2, 0, none⟩) n2 d2), .slice none 0 0, .slice none 0 0, .slice none 0 0] 50 (0, 0)) := (hb3.block _ (lt_of_block C2.out)).trans C2.out
  have hr3B := hr3.mono (B' := w.heap.size + 3) (lt_of_block C2.out)
  have hB3p : Below w.heap.size w w3 := hB2.trans (hb3.mono hB2.size)
  have r3 : w3.cell? ⟨w.heap.size, 4, none⟩ = some (.slice a4 x.proof.length c4) := by rw [cell_of_cells A3p]; rfl
  have s3 : w3.cell? ⟨w.heap.size + 1 + 1, 3, none⟩ = some (.slice none 0 0) := by rw [cell_of_cells C3p]; rfl
  have f3 : w3.frozen? ⟨w.heap.size + 1 + 1, 3, none⟩ = false := free_of_cells C3p 3
  have A3 := Lib.hid ((Below.heap_setCell w3 ⟨w.heap.size + 1 + 1, 3, none⟩ (Value.slice (some ⟨g3, 0, none⟩) n3 d3) w.heap.size (by simp; omega)).trans A3p)
  have D3 := Lib.hid ((Below.heap_setCell w3 ⟨w.heap.size + 1 + 1, 3, none⟩ (Value.slice (some ⟨g3, 0, none⟩) n3 d3) (w.heap.size + 1) (by simp)).trans D3p)
  have C3 : Hid ((w3.setCell ⟨w.heap.size + 1 + 1, 3, none⟩ (Value.slice (some ⟨g3, 0, none⟩) n3 d3)).heap[w.heap.size + 1 + 1]? = some (.cells #[.int .i64 x.kind, (Value.slice (some ⟨g1, 0, none⟩) n1 d1), (Value.slice (some ⟨g2, 0, none⟩) n2 d2), (Value.slice (some ⟨g3, 0, none⟩) n3 d3), .slice none 0 0, .slice none 0 0] 50 (0, 0))) := by rw [Hid, heap_setCell_same w3 _ 3 _ _ (Value.slice (some ⟨g3, 0, none⟩) n3 d3) C3p]; rfl
  have hB3 : Below w.heap.size w (w3.setCell ⟨w.heap.size + 1 + 1, 3, none⟩ (Value.slice (some ⟨g3, 0, none⟩) n3 d3)) := hB3p.setCell (by simp; omega) _
  clear A3p C3p D3p hr3
  go_wp2_with fail
  clear r3 s3 f3
  refine (k4.out _ hB3).mono ?_
  rintro e w4 ⟨g4, n4, d4, rfl, hr4, hb4⟩
  have A4p : w4.heap[w.heap.size]? = some (.cells #[.int .i64 x.kind, .slice a1 x.cartan.length c1, .slice a2 x.a.length c2, .slice a3 x.b.length c3, .slice a4 x.proof.length c4, .slice a5 x.roots.length c5] 47 (0, 0)) := (hb4.block _ (lt_of_block A3.out)).trans A3.out
  have D4p : w4.heap[w.heap.size + 1]? = some (.cells #[.int .i64 0, .slice none 0 0, .slice none 0 0, .slice none 0 0, .slice none 0 0, .slice none 0 0] 50 (0, 0)) := (hb4.block _ (lt_of_block D3.out)).trans D3.out
  have C4p : w4.heap[w.heap.size + 1 + 1]? = some (.cells #[.int .i64 x.kind, (Value.slice (some ⟨g1, 0, none⟩) n1 d1), (Value.slice (some ⟨g2, 0, none⟩) n2 d2), (Value.slice (some ⟨g3, 0, none⟩) n3 d3), .slice none 0 0, .slice none 0 0] 50 (0, 0)) := (hb4.block _ (lt_of_block C3.out)).trans C3.out
  have hr4B := hr4.mono (B' := w.heap.size + 3) (lt_of_block C3.out)
  have hB4p : Below w.heap.size w w4 := hB3.trans (hb4.mono hB3.size)
  have r4 : w4.cell? ⟨w.heap.size, 5, none⟩ = some (.slice a5 x.roots.length c5) := by rw [cell_of_cells A4p]; rfl
  have s4 : w4.cell? ⟨w.heap.size + 1 + 1, 4, none⟩ = some (.slice none 0 0) := by rw [cell_of_cells C4p]; rfl
  have f4 : w4.frozen? ⟨w.heap.size + 1 + 1, 4, none⟩ = false := free_of_cells C4p 4
  have A4 := Lib.hid ((Below.heap_setCell w4 ⟨w.heap.size + 1 + 1, 4, none⟩ (Value.slice (some ⟨g4, 0, none⟩) n4 d4) w.heap.size (by simp; omega)).trans A4p)
  have D4 := Lib.hid ((Below.heap_setCell w4 ⟨w.heap.size + 1 + 1, 4, none⟩ (Value.slice (some ⟨g4, 0, none⟩) n4 d4) (w.heap.size + 1) (by simp)).trans D4p)
  have C4 : Hid ((w4.setCell ⟨w.heap.size + 1 + 1, 4, none⟩ (Value.slice (some ⟨g4, 0, none⟩) n4 d4)).heap[w.heap.size + 1 + 1]? = some (.cells #[.int .i64 x.kind, (Value.slice (some ⟨g1, 0, none⟩) n1 d1), (Value.slice (some ⟨g2, 0, none⟩) n2 d2), (Value.slice (some ⟨g3, 0, none⟩) n3 d3), (Value.slice (some ⟨g4, 0, none⟩) n4 d4), .slice none 0 0] 50 (0, 0))) := by rw [Hid, heap_setCell_same w4 _ 4 _ _ (Value.slice (some ⟨g4, 0, none⟩) n4 d4) C4p]; rfl
  have hB4 : Below w.heap.size w (w4.setCell ⟨w.heap.size + 1 + 1, 4, none⟩ (Value.slice (some ⟨g4, 0, none⟩) n4 d4)) := hB4p.setCell (by simp; omega) _
  clear A4p C4p D4p hr4
  go_wp2_with fail
  clear r4 s4 f4
  refine (k5.out _ hB4).mono ?_
  rintro e w5 ⟨g5, n5, d5, rfl, hr5, hb5⟩
  have A5p : w5.heap[w.heap.size]? = some (.cells #[.int .i64 x.kind, .slice a1 x.cartan.length c1, .slice a2 x.a.length c2, .slice a3 x.b.length c3, .slice a4 x.proof.length c4, .slice a5 x.roots.length c5] 47 (0, 0)) := (hb5.block _ (lt_of_block A4.out)).trans A4.out
  have D5p : w5.heap[w.heap.size + 1]? = some (.cells #[.int .i64 0, .slice none 0 0, .slice none 0 0, .slice none 0 0, .slice none 0 0, .slice none 0 0] 50 (0, 0)) := (hb5.block _ (lt_of_block D4.out)).trans D4.out
  have C5p : w5.heap[w.heap.size + 1 + 1]? = some (.cells #[.int .i64 x.kind, (Value.slice (some ⟨g1, 0, none⟩) n1 d1), (Value.slice (some ⟨g2, 0, none⟩) n2 d2), (Value.slice (some ⟨g3, 0, none⟩) n3 d3), (Value.slice (some ⟨g4, 0, none⟩) n4 d4), .slice none 0 0] 50 (0, 0)) := (hb5.block _ (lt_of_block C4.out)).trans C4.out
  have hr5B := hr5.mono (B' := w.heap.size + 3) (lt_of_block C4.out)
  have hB5p : Below w.heap.size w w5 := hB4.trans (hb5.mono hB4.size)
  have cc : ∀ j, w5.cell? ⟨w.heap.size + 1 + 1, j, none⟩ = (#[.int .i64 x.kind, (Value.slice (some ⟨g1, 0, none⟩) n1 d1), (Value.slice (some ⟨g2, 0, none⟩) n2 d2), (Value.slice (some ⟨g3, 0, none⟩) n3 d3), (Value.slice (some ⟨g4, 0, none⟩) n4 d4), .slice none 0 0] : Array Value)[j]? := fun j => cell_of_cells C5p j
  have dd : ∀ j, w5.cell? ⟨w.heap.size + 1, j, none⟩ = (#[.int .i64 0, .slice none 0 0, .slice none 0 0, .slice none 0 0, .slice none 0 0, .slice none 0 0] : Array Value)[j]? := fun j => cell_of_cells D5p j
  have fc : ∀ j, w5.frozen? ⟨w.heap.size + 1 + 1, j, none⟩ = false := fun j => free_of_cells C5p j
  have fd : ∀ j, w5.frozen? ⟨w.heap.size + 1, j, none⟩ = false := fun j => free_of_cells D5p j
  clear hr5
  go_wp2_with fail
  have KS1 : Keep (w.heap.size + 3) w1 w2 := (Keep.setCell (B := w.heap.size + 3) (Keep.refl _ w1) (p := ⟨w.heap.size + 1 + 1, 1, none⟩) (by show w.heap.size + 1 + 1 < _; omega) (Value.slice (some ⟨g1, 0, none⟩) n1 d1)).trans (Keep.of_below' hb2 (by simp))
  have KS2 : Keep (w.heap.size + 3) w2 w3 := (Keep.setCell (B := w.heap.size + 3) (Keep.refl _ w2) (p := ⟨w.heap.size + 1 + 1, 2, none⟩) (by show w.heap.size + 1 + 1 < _; omega) (Value.slice (some ⟨g2, 0, none⟩) n2 d2)).trans (Keep.of_below' hb3 (by simp))
  have KS3 : Keep (w.heap.size + 3) w3 w4 := (Keep.setCell (B := w.heap.size + 3) (Keep.refl _ w3) (p := ⟨w.heap.size + 1 + 1, 3, none⟩) (by show w.heap.size + 1 + 1 < _; omega) (Value.slice (some ⟨g3, 0, none⟩) n3 d3)).trans (Keep.of_below' hb4 (by simp))
  have KS4 : Keep (w.heap.size + 3) w4 w5 := (Keep.setCell (B := w.heap.size + 3) (Keep.refl _ w4) (p := ⟨w.heap.size + 1 + 1, 4, none⟩) (by show w.heap.size + 1 + 1 < _; omega) (Value.slice (some ⟨g4, 0, none⟩) n4 d4)).trans (Keep.of_below' hb5 (by simp))
  have KF : ∀ W, Keep (w.heap.size + 3) w5 W → ClaimV W (.agg #[.int .i64 x.kind, (Value.slice (some ⟨g1, 0, none⟩) n1 d1), (Value.slice (some ⟨g2, 0, none⟩) n2 d2), (Value.slice (some ⟨g3, 0, none⟩) n3 d3), (Value.slice (some ⟨g4, 0, none⟩) n4 d4), (Value.slice (some ⟨g5, 0, none⟩) n5 d5)]) x := fun W hW =>
    ⟨_, _, _, _, _, rfl, hr1B.keep (KS1.trans (KS2.trans (KS3.trans (KS4.trans hW)))), hr2B.keep (KS2.trans (KS3.trans (KS4.trans hW))), hr3B.keep (KS3.trans (KS4.trans hW)), hr4B.keep (KS4.trans hW), hr5B.keep hW⟩
  have KF' := Lib.hid KF
  clear KF KS1 KS2 KS3 KS4 hr1B hr2B hr3B hr4B hr5B
  refine bodyPost_ret (v := .agg #[.int .i64 x.kind, (Value.slice (some ⟨g1, 0, none⟩) n1 d1), (Value.slice (some ⟨g2, 0, none⟩) n2 d2), (Value.slice (some ⟨g3, 0, none⟩) n3 d3), (Value.slice (some ⟨g4, 0, none⟩) n4 d4), (Value.slice (some ⟨g5, 0, none⟩) n5 d5)]) (by simp [results, Try.results33, go_sem, dd]) rfl ⟨_, rfl, ?_, ?_⟩
  · clear cc dd fc fd
    apply KF'.out
    iterate 7 (refine Keep.setCell ?_ (by first | exact Nat.lt_succ_self _ | exact Nat.lt_succ_of_lt (Nat.lt_succ_self _)) _)
    exact Keep.refl _ _
  · clear cc dd fc fd
    iterate 7 (refine Below.setCell ?_ (by first | exact Nat.le_succ _ | exact Nat.le_succ_of_le (Nat.le_succ _)) _)
    exact hB5p
end Go.Proofs.Ytmfncbibajoeoaa
