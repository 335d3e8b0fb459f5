/- Vectors of four numbers as keys: vectorOf, list. -/
import Derived.Test.YticnocoeldfiiaaGreatDoorG08
import Derived.Laws.CopyOwn
namespace Go.Proofs.YticnocoeldfiiaaGreatDoor
open Go.RowKit Game

def vecVal (v : List Int) : Value := .agg #[.int .i64 (v.getD 0 0), .int .i64 (v.getD 1 0), .int .i64 (v.getD 2 0), .int .i64 (v.getD 3 0)]

theorem splice4 (v : List Int) (h : v.length ≤ 4) : splice [Value.int .i64 0, .int .i64 0, .int .i64 0, .int .i64 0] 0 (v.map (Value.int .i64)) = [.int .i64 (v.getD 0 0), .int .i64 (v.getD 1 0), .int .i64 (v.getD 2 0), .int .i64 (v.getD 3 0)] := by
  match v, h with
  | [], _ => rfl
  | [a], _ => rfl
  | [a, b], _ => rfl
  | [a, b, c], _ => rfl
  | [a, b, c, d], _ => rfl
theorem cell4 {w : World} {B : Nat} {a b c d : Value} {t : TypeId} (h : w.heap[B]? = some (.cells #[a, b, c, d] t (0, 0))) :
    (w.cell? ⟨B, 0, none⟩ = some a ∧ w.cell? ⟨B, 1, none⟩ = some b ∧ w.cell? ⟨B, 2, none⟩ = some c ∧ w.cell? ⟨B, 3, none⟩ = some d) ∧ ∀ j, w.frozen? ⟨B, j, none⟩ = false := by
  refine ⟨⟨?_, ?_, ?_, ?_⟩, fun j => ?_⟩ <;> simp [World.cell?, World.frozen?, h]

set_option maxRecDepth 100000 in
set_option maxHeartbeats 1000000 in
theorem impl_vectorOf_any (g o n cp : Nat) (v : List Int) (w : World) (hn : v.length = n) (h4 : v.length ≤ 4) (hg : g < w.heap.size) (hc : Cells w g o v) :
    Calls Tryz.prog 89 #[(Value.slice (some ⟨g, o, none⟩) n cp)] w (Gives w (vecVal v)) := by
  subst hn
  obtain ⟨w1, hw1⟩ : ∃ w1, w1 = w.alloc (.cells #[.int .i64 0, .int .i64 0, .int .i64 0, .int .i64 0] 73) := ⟨_, rfl⟩
  have hs1 : w1.heap.size = w.heap.size + 1 := by rw [hw1]; simp
  have hb1 : Below w.heap.size w w1 := by rw [hw1]; exact (Below.refl _ _).alloc (Nat.le_refl _) _
  have hh1 : w1.heap[w.heap.size]? = some (.cells #[.int .i64 0, .int .i64 0, .int .i64 0, .int .i64 0] 73 (0, 0)) := by rw [hw1]; exact heap_alloc_new _ _
  have hh2 : (w1.alloc (.cells #[.int .i64 0, .int .i64 0, .int .i64 0, .int .i64 0] 73)).heap[w.heap.size + 1]? = some (.cells #[.int .i64 0, .int .i64 0, .int .i64 0, .int .i64 0] 73 (0, 0)) := by rw [← hs1]; exact heap_alloc_new _ _
  have hb2 : Below (w.heap.size + 1) w1 (w1.alloc (.cells #[.int .i64 0, .int .i64 0, .int .i64 0, .int .i64 0] 73)) := by rw [← hs1]; exact (Below.refl _ _).alloc (Nat.le_refl _) _
  rw [hw1] at hh2
  have Hh2 := Lib.hid hh2; have Hb2 := Lib.hid hb2; have Hh1 := Lib.hid hh1; have Hs1 := Lib.hid hs1
  clear hh2 hb2 hh1 hs1
  have hc1 := hc.below hb1 hg
  have Hw1 := Lib.hid hw1
  go_enter Tryz.func89, Tryz.ntmps89
  go_wp2_with (refine wpList_copy_splice (o := ⟨some 7, _, _, _, _, _⟩) rfl (.tmp 5) (.tmp 6) 28 28 rfl 3 Tryz.underlying28 (by kernel_rfl) (some ⟨w.heap.size + 1, 0, none⟩) (some ⟨g, o, none⟩) 4 4 v.length cp rfl rfl (w.heap.size + 1) 0 [.int .i64 0, .int .i64 0, .int .i64 0, .int .i64 0] 73 Hh2.out (v.map (Value.int .i64)) (by rw [List.length_map]; exact (Nat.min_eq_left h4).symm) (fun _ => ⟨rfl, ⟨g, o, none⟩, rfl, ?_⟩) (by simp; omega) (ints_oneCell _ _) (w.heap.size + 1) w1 ?_ (Nat.le_refl _) ?_)
  · intro j u hu
    have hj : j < v.length := by have := (List.getElem?_eq_some_iff.1 hu).1; simpa using this
    rw [Addr.add_lit, ← Hw1.out]
    have h1 : Cells (w1.alloc (.cells #[.int .i64 0, .int .i64 0, .int .i64 0, .int .i64 0] 73)) g o v := hc1.below Hb2.out (by omega)
    rw [h1 j hj, ← hu]
    simp [List.getD, hj]
  · rw [← Hw1.out]; exact Hb2.out
  · intro w2 HG2 hB2
    have hG2 := HG2.out
    rw [splice4 v h4] at hG2
    have hb20 : w2.heap[w.heap.size]? = some (.cells #[.int .i64 0, .int .i64 0, .int .i64 0, .int .i64 0] 73 (0, 0)) := by rw [hB2.block _ (by omega), ← Hw1.out]; exact Hh1.out
    rw [← Hw1.out] at hB2
    have hbw : Below w.heap.size w w2 := hb1.trans (hB2.mono (Nat.le_succ _))
    obtain ⟨⟨a0, a1, a2, a3⟩, af⟩ := cell4 hG2
    obtain ⟨⟨b0, b1, b2, b3⟩, bf⟩ := cell4 hb20
    have f0 := bf 0
    have f1 := bf 1
    have f2 := bf 2
    have f3 := bf 3
    clear bf af hG2 HG2 hb20 hB2 hb1 hc1 Hw1 hw1 hc
    have hvv : vecVal v = .agg #[.int .i64 (v.getD 0 0), .int .i64 (v.getD 1 0), .int .i64 (v.getD 2 0), .int .i64 (v.getD 3 0)] := rfl
    generalize v.getD 0 0 = x0 at *
    generalize v.getD 1 0 = x1 at *
    generalize v.getD 2 0 = x2 at *
    generalize v.getD 3 0 = x3 at *
    have Hvv := Lib.hid hvv; clear hvv
    go_wp2
    have hB : Below w.heap.size w ((((w2.setCell ⟨w.heap.size, 0, none⟩ (.int .i64 x0)).setCell ⟨w.heap.size, 1, none⟩ (.int .i64 x1)).setCell ⟨w.heap.size, 2, none⟩ (.int .i64 x2)).setCell ⟨w.heap.size, 3, none⟩ (.int .i64 x3)) := (by repeat (first | with_reducible exact Below.refl _ _ | with_reducible assumption | with_reducible refine below_drewN ?_ _ | with_reducible refine Below.drew ?_ | (with_reducible refine Below.alloc ?_ ?_ _; rotate_left; · first | (simp; done) | (simp; omega) | exact Below.size (by assumption) | (have hsz := Below.size (by assumption : Below _ _ _); simp at hsz ⊢; omega)) | (with_reducible refine Below.setCell ?_ ?_ _; rotate_left; · first | (simp; done) | (simp; omega))))
    exact bodyPost_ret (v := .agg #[.int .i64 x0, .int .i64 x1, .int .i64 x2, .int .i64 x3]) (by simp [results, Tryz.results89, go_sem, b0, b1, b2, b3]) rfl ⟨by rw [Hvv.out], hB⟩

/-- 'append([]int{}, l...)', the worlds under names -/
theorem wpList_clone_n {w : World} {ops : Array Oper} {rest : List Oper} {o : Oper} {a : Act} {Q : Exit → Act → World → Prop} (hgd : o.guard = none) (s x : Operand)
    (ho : o.op = .call { callee := .builtin .append, args := #[s, x], argTypes := #[28, 28] })
    (w1 W : World) (H g2 o2 n2 c2 : Nat) (ys : List Int) (hn : ys.length = n2) (hW : W = w1.alloc (.cells #[] 3)) (hH : w1.heap.size = H) (hb : Below w.heap.size w w1) (hg : g2 < w1.heap.size) (hc : Cells w1 g2 o2 ys)
    (hs : a.eval s = (Value.slice (some ⟨H, 0, none⟩) 0 0)) (hx : a.eval x = (Value.slice (some ⟨g2, o2, none⟩) n2 c2)) (hlen : ys.length ≤ 1099511627776)
    (h : ∀ g' cap' w', Own w' w.heap.size g' cap' ys → Below w.heap.size w w' → wpList Tryz.prog ops Q rest (a.put o.dst (Value.slice (some ⟨g', 0, none⟩) n2 cap')) w') :
    wpList Tryz.prog ops Q (o :: rest) a W := by
  subst hW; subst hH
  exact wpList_clone hgd s x ho g2 o2 n2 c2 ys hn hg hc hs hx hlen fun g' cap' w' h1 h2 => h g' cap' w' (h1.mono hb.size) (hb.trans (h2.mono hb.size))

theorem cells_of4 {w : World} {B : Nat} {v : List Int} {t : TypeId} (h4 : v.length ≤ 4) (h : w.heap[B]? = some (.cells #[.int .i64 (v.getD 0 0), .int .i64 (v.getD 1 0), .int .i64 (v.getD 2 0), .int .i64 (v.getD 3 0)] t (0, 0))) : Cells w B 0 v := by
  obtain ⟨⟨a0, a1, a2, a3⟩, -⟩ := cell4 h
  intro j hj
  have : j = 0 ∨ j = 1 ∨ j = 2 ∨ j = 3 := by omega
  rcases this with rfl | rfl | rfl | rfl
  · exact a0
  · exact a1
  · exact a2
  · exact a3
end Go.Proofs.YticnocoeldfiiaaGreatDoor
