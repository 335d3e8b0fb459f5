/- Vectors of four numbers as keys: vectorOf, list. Sets of vectors that a call keeps in a map: words and laws. append of elements of any number of cells to a slice of the call's own; slices of vectors; append of rows to rows. The program's matches: contract. -/
import Derived.Test.YtdedkfbiookofaaGreatDoorK02
import Derived.Laws.CopyOwn
import Derived.Maps.Own
import Derived.Maps.OwnOps
import Derived.Maps.Views
import Derived.WideKeyArr2
import Derived.DeepKeys4
import Derived.Test.YtdedkfbiookofaaGreatDoorK01
import Derived.Test.YtdedkfbiookofaaGreatDoorK11
import Derived.Test.YtdedkfbiookofaaGreatDoorK12
namespace Go.Proofs.YtdedkfbiookofaaGreatDoor
set_option maxRecDepth 100000
open Go.RowKit Game
def vecVal (v : List Int) : Value := .agg #[.int .i64 (v.getD 0 0), .int .i64 (v.getD 1 0), .int .i64 (v.getD 2 0), .int .i64 (v.getD 3 0)]
theorem splice4 (v : List Int) (h : v.length ≤ 4) : splice [Value.int .i64 0, .int .i64 0, .int .i64 0, .int .i64 0] 0 (v.map (Value.int .i64)) = [.int .i64 (v.getD 0 0), .int .i64 (v.getD 1 0), .int .i64 (v.getD 2 0), .int .i64 (v.getD 3 0)] := by
  match v, h with
  | [], _ => rfl
  | [a], _ => rfl
  | [a, b], _ => rfl
  | [a, b, c], _ => rfl
  | [a, b, c, d], _ => rfl
theorem cell4 {w : World} {B : Nat} {a b c d : Value} {t : TypeId} (h : w.heap[B]? = some (.cells #[a, b, c, d] t (0, 0))) :
    (w.cell? ⟨B, 0, none⟩ = some a ∧ w.cell? ⟨B, 1, none⟩ = some b ∧ w.cell? ⟨B, 2, none⟩ = some c ∧ w.cell? ⟨B, 3, none⟩ = some d) ∧ ∀ j, w.frozen? ⟨B, j, none⟩ = false := by
  refine ⟨⟨?_, ?_, ?_, ?_⟩, fun j => ?_⟩ <;> simp [World.cell?, World.frozen?, h]
set_option maxRecDepth 100000 in
set_option maxHeartbeats 1000000 in
theorem impl_vectorOf_any (g o n cp : Nat) (v : List Int) (w : World) (hn : v.length = n) (h4 : v.length ≤ 4) (hg : g < w.heap.size) (hc : Cells w g o v) :
    Calls Tryz.prog 145 #[(Value.slice (some ⟨g, o, none⟩) n cp)] w (Gives w (vecVal v)) := by
  subst hn
  obtain ⟨w1, hw1⟩ : ∃ w1, w1 = w.alloc (.cells #[.int .i64 0, .int .i64 0, .int .i64 0, .int .i64 0] 117) := ⟨_, rfl⟩
  have hs1 : w1.heap.size = w.heap.size + 1 := by rw [hw1]; simp
  have hb1 : Below w.heap.size w w1 := by rw [hw1]; exact (Below.refl _ _).alloc (Nat.le_refl _) _
  have hh1 : w1.heap[w.heap.size]? = some (.cells #[.int .i64 0, .int .i64 0, .int .i64 0, .int .i64 0] 117 (0, 0)) := by rw [hw1]; exact heap_alloc_new _ _
  have hh2 : (w1.alloc (.cells #[.int .i64 0, .int .i64 0, .int .i64 0, .int .i64 0] 117)).heap[w.heap.size + 1]? = some (.cells #[.int .i64 0, .int .i64 0, .int .i64 0, .int .i64 0] 117 (0, 0)) := by rw [← hs1]; exact heap_alloc_new _ _
  have hb2 : Below (w.heap.size + 1) w1 (w1.alloc (.cells #[.int .i64 0, .int .i64 0, .int .i64 0, .int .i64 0] 117)) := by rw [← hs1]; exact (Below.refl _ _).alloc (Nat.le_refl _) _
  rw [hw1] at hh2
  have Hh2 := Lib.hid hh2; have Hb2 := Lib.hid hb2; have Hh1 := Lib.hid hh1; have Hs1 := Lib.hid hs1
  clear hh2 hb2 hh1 hs1
  have hc1 := hc.below hb1 hg
  have Hw1 := Lib.hid hw1
  go_enter Tryz.func145, Tryz.ntmps145
  go_wp2_with (refine wpList_copy_splice (o := ⟨some 7, _, _, _, _, _⟩) rfl (.tmp 5) (.tmp 6) 25 25 rfl 3 Tryz.underlying25 (by kernel_rfl) (some ⟨w.heap.size + 1, 0, none⟩) (some ⟨g, o, none⟩) 4 4 v.length cp rfl rfl (w.heap.size + 1) 0 [.int .i64 0, .int .i64 0, .int .i64 0, .int .i64 0] 117 Hh2.out (v.map (Value.int .i64)) (by rw [List.length_map]; exact (Nat.min_eq_left h4).symm) (fun _ => ⟨rfl, ⟨g, o, none⟩, rfl, ?_⟩) (by simp; omega) (ints_oneCell _ _) (w.heap.size + 1) w1 ?_ (Nat.le_refl _) ?_)
  · intro j u hu
    have hj : j < v.length := by have := (List.getElem?_eq_some_iff.1 hu).1; simpa using this
    rw [Addr.add_lit, ← Hw1.out]
    have h1 : Cells (w1.alloc (.cells #[.int .i64 0, .int .i64 0, .int .i64 0, .int .i64 0] 117)) g o v := hc1.below Hb2.out (by omega)
    rw [h1 j hj, ← hu]
    simp [List.getD, hj]
  · rw [← Hw1.out]; exact Hb2.out
  · intro w2 HG2 hB2
    have hG2 := HG2.out
    rw [splice4 v h4] at hG2
    have hb20 : w2.heap[w.heap.size]? = some (.cells #[.int .i64 0, .int .i64 0, .int .i64 0, .int .i64 0] 117 (0, 0)) := by rw [hB2.block _ (by omega), ← Hw1.out]; exact Hh1.out
    rw [← Hw1.out] at hB2
    have hbw : Below w.heap.size w w2 := hb1.trans (hB2.mono (Nat.le_succ _))
    obtain ⟨⟨a0, a1, a2, a3⟩, af⟩ := cell4 hG2
    obtain ⟨⟨b0, b1, b2, b3⟩, bf⟩ := cell4 hb20
    have f0 := bf 0
    have f1 := bf 1
    have f2 := bf 2
    have f3 := bf 3
    clear bf af hG2 HG2 hb20 hB2 hb1 hc1 Hw1 hw1 hc
    have hvv : vecVal v = .agg #[.int .i64 (v.getD 0 0), .int .i64 (v.getD 1 0), .int .i64 (v.getD 2 0), .int .i64 (v.getD 3 0)] := rfl
    generalize v.getD 0 0 = x0 at *
    generalize v.getD 1 0 = x1 at *
    generalize v.getD 2 0 = x2 at *
    generalize v.getD 3 0 = x3 at *
    have Hvv := Lib.hid hvv; clear hvv
    go_wp2
    have hB : Below w.heap.size w ((((w2.setCell ⟨w.heap.size, 0, none⟩ (.int .i64 x0)).setCell ⟨w.heap.size, 1, none⟩ (.int .i64 x1)).setCell ⟨w.heap.size, 2, none⟩ (.int .i64 x2)).setCell ⟨w.heap.size, 3, none⟩ (.int .i64 x3)) := (by repeat (first | with_reducible exact Below.refl _ _ | with_reducible assumption | with_reducible refine below_drewN ?_ _ | with_reducible refine Below.drew ?_ | (with_reducible refine Below.alloc ?_ ?_ _; rotate_left; · first | (simp; done) | (simp; omega) | exact Below.size (by assumption) | (have hsz := Below.size (by assumption : Below _ _ _); simp at hsz ⊢; omega)) | (with_reducible refine Below.setCell ?_ ?_ _; rotate_left; · first | (simp; done) | (simp; omega))))
    exact bodyPost_ret (v := .agg #[.int .i64 x0, .int .i64 x1, .int .i64 x2, .int .i64 x3]) (by simp [results, Tryz.results145, go_sem, b0, b1, b2, b3]) rfl ⟨by rw [Hvv.out], hB⟩
/-- 'append([]int{}, l...)', the worlds under names -/
theorem wpList_clone_n {w : World} {ops : Array Oper} {rest : List Oper} {o : Oper} {a : Act} {Q : Exit → Act → World → Prop} (hgd : o.guard = none) (s x : Operand)
    (ho : o.op = .call { callee := .builtin .append, args := #[s, x], argTypes := #[25, 25] })
    (w1 W : World) (H g2 o2 n2 c2 : Nat) (ys : List Int) (hn : ys.length = n2) (hW : W = w1.alloc (.cells #[] 3)) (hH : w1.heap.size = H) (hb : Below w.heap.size w w1) (hg : g2 < w1.heap.size) (hc : Cells w1 g2 o2 ys)
    (hs : a.eval s = (Value.slice (some ⟨H, 0, none⟩) 0 0)) (hx : a.eval x = (Value.slice (some ⟨g2, o2, none⟩) n2 c2)) (hlen : ys.length ≤ 1099511627776)
    (h : ∀ g' cap' w', Own w' w.heap.size g' cap' ys → Below w.heap.size w w' → wpList Tryz.prog ops Q rest (a.put o.dst (Value.slice (some ⟨g', 0, none⟩) n2 cap')) w') :
    wpList Tryz.prog ops Q (o :: rest) a W := by
  subst hW; subst hH
  exact wpList_clone hgd s x ho g2 o2 n2 c2 ys hn hg hc hs hx hlen fun g' cap' w' h1 h2 => h g' cap' w' (h1.mono hb.size) (hb.trans (h2.mono hb.size))
theorem cells_of4 {w : World} {B : Nat} {v : List Int} {t : TypeId} (h4 : v.length ≤ 4) (h : w.heap[B]? = some (.cells #[.int .i64 (v.getD 0 0), .int .i64 (v.getD 1 0), .int .i64 (v.getD 2 0), .int .i64 (v.getD 3 0)] t (0, 0))) : Cells w B 0 v := by
  obtain ⟨⟨a0, a1, a2, a3⟩, -⟩ := cell4 h
  intro j hj
  have : j = 0 ∨ j = 1 ∨ j = 2 ∨ j = 3 := by omega
  rcases this with rfl | rfl | rfl | rfl
  · exact a0
  · exact a1
  · exact a2
  · exact a3
end Go.Proofs.YtdedkfbiookofaaGreatDoor
namespace Go.Proofs.YtdedkfbiookofaaGreatDoor
set_option maxRecDepth 100000
open Go.RowKit Game
open Go.Maps (Keyed IsMap)
theorem vecLaidOut : laidOutB Tryz.prog = true := by kernel_rfl
theorem vecRow : (117 : TypeId) < Tryz.prog.types.size := of_decide_eq_true (by kernel_rfl)
theorem vecLaw : WideMaps.KeyLaw Tryz.prog 117 := deep_law_laid vecLaidOut (m := 2) (by omega) vecRow (by kernel_rfl) (by rw [Tryz.underlying117])
theorem vecKeyed : Keyed Tryz.prog 117 := Keyed.of_law vecLaw
theorem vecArr : WideMaps.ArrKey Tryz.prog 117 3 4 := ⟨Tryz.underlying117, by kernel_rfl, by kernel_rfl, by kernel_rfl⟩
theorem boolZero (w : World) : (zeroValue 4).run Tryz.prog w = .ok (.bool false) w := by kernel_rfl
theorem typesPos : ∃ m, Tryz.prog.types.size = m + 1 := by
  have h : 0 < Tryz.prog.types.size := Nat.lt_of_le_of_lt (Nat.zero_le _) vecRow
  generalize Tryz.prog.types.size = k at h
  exact ⟨k - 1, by omega⟩
def WfV (v : List Int) : Prop := ∀ j, j < 4 → (Lit.int .i64 (v.getD j 0)).wf = true
def keyL (v : List Int) : Lit := .string (keyBytes [.int .i64 (v.getD 0 0), .int .i64 (v.getD 1 0), .int .i64 (v.getD 2 0), .int .i64 (v.getD 3 0)])
theorem keyOf_vec {v : List Int} (h : WfV v) : keyOf Tryz.prog 117 (vecVal v) = some (keyL v) := by
  have hkt := vecArr.keyType typesPos
  obtain ⟨m, hm⟩ := typesPos
  have h0 := h 0 (by omega)
  have h1 := h 1 (by omega)
  have h2 := h 2 (by omega)
  have h3 := h 3 (by omega)
  unfold vecVal keyL
  generalize v.getD 0 0 = x0 at *
  generalize v.getD 1 0 = x1 at *
  generalize v.getD 2 0 = x2 at *
  generalize v.getD 3 0 = x3 at *
  unfold keyOf
  simp only [vecArr.hu]
  rw [if_pos (by simp [hkt, Value.formed, vecArr.hu, vecArr.size]), hm]
  unfold Program.keyLits
  simp only [vecArr.hu, Value.cells]
  rw [if_pos (by rw [vecArr.size]; rfl), show List.range 4 = [0, 1, 2, 3] from rfl, List.mapM_cons, List.mapM_cons, List.mapM_cons, List.mapM_cons, List.mapM_nil]
  simp [vecArr.one, Program.keyLits, Tryz.underlying3, h0, h1, h2, h3]
theorem vecVal_inj {v u : List Int} (hl : v.length = u.length) (h4 : v.length ≤ 4) (h : vecVal v = vecVal u) : v = u := by
  unfold vecVal at h
  simp at h
  obtain ⟨h0, h1, h2, h3⟩ := h
  apply List.ext_getElem hl
  intro i hi hi'
  have : i = 0 ∨ i = 1 ∨ i = 2 ∨ i = 3 := by omega
  rcases this with rfl | rfl | rfl | rfl <;> simp_all
theorem keyL_inj {v u : List Int} (hv : WfV v) (hu : WfV u) (hl : v.length = u.length) (h4 : v.length ≤ 4) (h : keyL v = keyL u) : v = u :=
  vecVal_inj hl h4 (vecKeyed.inj (keyOf_vec hv) (by rw [h]; exact keyOf_vec hu))
/-- block b is a map that holds just these vectors of m numbers -/
def SeenM (w : World) (b n m : Nat) (ks : List (List Int)) : Prop :=
  ∃ D : DataW Unit, w.ownsMap Tryz.prog 117 (plainElem Tryz.prog 4) b n D ∧ IsMap D ∧ ∀ v : List Int, v.length = m → WfV v → D.atKey (keyL v) (.lit (.bool false)) = .lit (.bool (decide (v ∈ ks)))
section
variable {w w' : World} {b n m : Nat} {ks : List (List Int)}
theorem SeenM.start (w : World) (m : Nat) : SeenM (w.alloc (.map #[] 0)) w.heap.size 0 m [] :=
  ⟨.map [], World.ownsMap_made _ _ _ _, ⟨[], rfl⟩, fun v _ _ => by simp [DataW.atKey]⟩
theorem SeenM.lt (h : SeenM w b n m ks) : b < w.heap.size := by obtain ⟨D, h, -⟩ := h; exact h.lt
theorem SeenM.grown {row : Option Nat} (h : SeenM w b n m ks) (hg : w.grownBy w' row) (hne : some b ≠ row) : SeenM w' b n m ks := by
  obtain ⟨D, h, h2⟩ := h; exact ⟨D, h.kept hg hne, h2⟩
theorem SeenM.below {B : Nat} (h : SeenM w b n m ks) (hb : Below B w w') (hB : b < B) : SeenM w' b n m ks := by
  obtain ⟨D, ⟨es, clock, hh, r⟩, h2⟩ := h
  exact ⟨D, ⟨es, clock, (hb.block b hB).trans hh, r⟩, h2⟩
theorem plainElem_bool_inv {P : Program} {e : TypeId} (he : P.underlying e = some .bool) {v : Value} {z : DataW Unit × List MemPlace} (h : plainElem P e v = some z) : ∃ x, v = .bool x ∧ z = (.lit (.bool x), []) := by
  unfold plainElem at h
  rw [he] at h
  cases v <;> simp at h
  subst h
  exact ⟨_, rfl, rfl⟩
/-- 'seen[key]' -/
theorem wpList_seen_lookup {ops : Array Oper} {rest : List Oper} {o : Oper} {a : Act} {Q : Exit → Act → World → Prop}
    (hg : o.guard = none) (x y : Operand) (hop : o.op = Op.lookup 137 x y false) (b n m : Nat) (ks : List (List Int)) (v : List Int) (hv : v.length = m) (hw : WfV v)
    (hown : SeenM w b n m ks) (hx : a.eval x = .map (some b)) (hy : a.eval y = vecVal v) (r : Bool) (hr : decide (v ∈ ks) = r)
    (hK : wpList Tryz.prog ops Q rest (a.put o.dst (.bool r)) w) :
    wpList Tryz.prog ops Q (o :: rest) a w := by
  refine wpList_plain hg fun K' hK' => ?_
  obtain ⟨D, hD, -, hat⟩ := hown
  obtain ⟨u, ps, hrun, hu⟩ := hD.lookup vecKeyed Tryz.underlying137 (boolZero w) (plainElem_bool (H := Unit) Tryz.underlying4 false) (keyOf_vec hw)
  obtain ⟨z, rfl, hz⟩ := plainElem_bool_inv Tryz.underlying4 hu
  rw [hat v hv hw] at hz
  simp at hz
  unfold Oper.wp
  simp [execOp, hop, hx, hy, hrun, Result.andThen]
  rw [← hz.1, hr]
  exact hK' _ _ hK
/-- 'seen[key] = true' -/
theorem wpList_seen_put {ops : Array Oper} {rest : List Oper} {o : Oper} {a : Act} {Q : Exit → Act → World → Prop}
    (hg : o.guard = none) (x y z : Operand) (hop : o.op = Op.mapUpdate 137 x y z) (b n m : Nat) (ks : List (List Int)) (v : List Int) (hv : v.length = m) (h4 : m ≤ 4) (hw : WfV v)
    (hown : SeenM w b n m ks) (hn : n < 1048576) (hx : a.eval x = .map (some b)) (hy : a.eval y = vecVal v) (hz : a.eval z = .bool true)
    (hK : ∀ w', SeenM w' b (n + 1) m (ks ++ [v]) → w.grownBy w' (some b) → wpList Tryz.prog ops Q rest (a.put o.dst undef) w') :
    wpList Tryz.prog ops Q (o :: rest) a w := by
  obtain ⟨D, hD, hmap, hat⟩ := hown
  refine wpList_mapUpdate_own w hg x y z _ hop _ _ vecKeyed Tryz.underlying137 _ b n D hx hD (by unfold maxLen; omega) _ _ (keyL v) hy hz (keyOf_vec hw) _ [] (plainElem_bool (H := Unit) Tryz.underlying4 true) ?_
  intro w' hown' hgr
  refine hK w' ⟨_, hown', ?_, fun u hu hwu => ?_⟩ hgr
  · obtain ⟨es, rfl⟩ := hmap
    exact ⟨_, rfl⟩
  · by_cases e : u = v
    · subst e
      rw [Maps.atKey_put_same hmap (vecKeyed.key (keyOf_vec hw))]
      simp
    · have hne : keyL u ≠ keyL v := fun h => e (keyL_inj hwu hw (by omega) (by omega) h)
      rw [Maps.atKey_put_other hne, hat u hu hwu]
      simp [e]
end
end Go.Proofs.YtdedkfbiookofaaGreatDoor
namespace Go.Proofs.YtdedkfbiookofaaGreatDoor
set_option maxRecDepth 100000
open Go.RowKit Game
theorem infoVec : (Tryz.prog.info? 117).map (fun i => (i.zero, i.size, i.bytes)) = some (some (.agg #[.int .i64 0, .int .i64 0, .int .i64 0, .int .i64 0]), 4, 32) := by kernel_rfl
def vec4 (v : List Int) : List Value := [.int .i64 (v.getD 0 0), .int .i64 (v.getD 1 0), .int .i64 (v.getD 2 0), .int .i64 (v.getD 3 0)]
def flatV (vs : List (List Int)) : List Value := vs.flatMap vec4
def OwnVecs (w : World) (B g cap : Nat) (vs : List (List Int)) : Prop := OwnK w B 117 4 g cap vs.length (flatV vs)
theorem flatV_length (vs : List (List Int)) : (flatV vs).length = vs.length * 4 := by
  induction vs with
  | nil => rfl
  | cons v vs ih => unfold flatV at *; simp only [List.flatMap_cons, List.length_append, ih, List.length_cons]; simp [vec4]; omega
theorem flatV_append (a b : List (List Int)) : flatV (a ++ b) = flatV a ++ flatV b := by simp [flatV]
theorem flatV_at {vs : List (List Int)} {j i : Nat} (hj : j < vs.length) (hi : i < 4) : (flatV vs)[j * 4 + i]? = some (.int .i64 ((vs.getD j []).getD i 0)) := by
  induction vs generalizing j with
  | nil => simp at hj
  | cons v vs ih =>
    unfold flatV at *
    simp only [List.flatMap_cons]
    cases j with
    | zero =>
      rw [List.getElem?_append_left (by simp [vec4]; omega)]
      have : i = 0 ∨ i = 1 ∨ i = 2 ∨ i = 3 := by omega
      rcases this with rfl | rfl | rfl | rfl <;> rfl
    | succ j =>
      have := ih (j := j) (by simpa using hj)
      rw [List.getElem?_append_right (by simp [vec4]; omega)]
      have e : (j + 1) * 4 + i - (vec4 v).length = j * 4 + i := by simp [vec4]; omega
      rw [e, this]
      simp [List.getD]
section
variable {w w' : World} {B g cap : Nat} {vs : List (List Int)}
theorem OwnVecs.lt (h : OwnVecs w B g cap vs) : g < w.heap.size := OwnK.lt h
theorem OwnVecs.base (h : OwnVecs w B g cap vs) : B ≤ g := OwnK.base h
theorem OwnVecs.below {B' : Nat} (h : OwnVecs w B g cap vs) (hb : Below B' w w') (hg : g < B') : OwnVecs w' B g cap vs := OwnK.below h hb hg
theorem OwnVecs.mono {B' : Nat} (h : OwnVecs w B g cap vs) (hB : B' ≤ B) : OwnVecs w B' g cap vs := OwnK.mono h hB
theorem OwnVecs.grown {row : Option Nat} (h : OwnVecs w B g cap vs) (hg : w.grownBy w' row) (hne : some g ≠ row) : OwnVecs w' B g cap vs := OwnK.grown h hg hne
theorem OwnVecs.cell (h : OwnVecs w B g cap vs) {j i : Nat} (hj : j < vs.length) (hi : i < 4) : w.cell? ⟨g, j * 4 + i, none⟩ = some (.int .i64 ((vs.getD j []).getD i 0)) := by
  have hl : j * 4 + i < (flatV vs).length := by rw [flatV_length]; omega
  rw [OwnK.cell h _ hl, ← flatV_at hj hi, List.getElem?_eq_getElem hl]
theorem OwnVecs.empty (hB : B ≤ w.heap.size) : OwnVecs (w.alloc (.cells #[] 117)) B w.heap.size 0 [] :=
  World.ownsRow_lit w #[] 0 hB (by decide) rfl
theorem OwnVecs.one (v : List Int) (hB : B ≤ w.heap.size) : OwnVecs (w.alloc (.cells #[.int .i64 (v.getD 0 0), .int .i64 (v.getD 1 0), .int .i64 (v.getD 2 0), .int .i64 (v.getD 3 0)] 117)) B w.heap.size 1 [v] :=
  World.ownsRow_lit w #[.int .i64 (v.getD 0 0), .int .i64 (v.getD 1 0), .int .i64 (v.getD 2 0), .int .i64 (v.getD 3 0)] 1 hB (by decide) rfl
theorem wpList_append_vec {ops : Array Oper} {rest : List Oper} {o : Oper} {a : Act} {Q : Exit → Act → World → Prop} (hgd : o.guard = none) (s x : Operand)
    (ho : o.op = .call { callee := .builtin .append, args := #[s, x], argTypes := #[136, 136] })
    (B g cap n H : Nat) (vs : List (List Int)) (v : List Int) (w W : World) (hn : vs.length = n) (hW : W = w.alloc (.cells #[.int .i64 (v.getD 0 0), .int .i64 (v.getD 1 0), .int .i64 (v.getD 2 0), .int .i64 (v.getD 3 0)] 117)) (hH : w.heap.size = H) (hown : OwnVecs w B g cap vs)
    (hs : a.eval s = (Value.slice (some ⟨g, 0, none⟩) n cap)) (hx : a.eval x = (Value.slice (some ⟨H, 0, none⟩) 1 1)) (hlen : n + 1 ≤ 1048576)
    (h : ∀ g' cap' w', OwnVecs w' B g' cap' (vs ++ [v]) → w.grownBy w' (some g) → (g' = g ∨ w.heap.size < g') → wpList Tryz.prog ops Q rest (a.put o.dst (Value.slice (some ⟨g', 0, none⟩) (n + 1) cap')) w') :
    wpList Tryz.prog ops Q (o :: rest) a W := by
  subst hn; subst hW; subst hH
  have hnew := OwnVecs.one (w := w) (B := w.heap.size) v (Nat.le_refl _)
  refine wpList_append_K infoVec Tryz.underlying136 rfl (by decide) (by decide) hgd s x ho B g cap vs.length (flatV vs) (OwnK.alloc hown _) w.heap.size 0 1 1 (vec4 v) rfl ?_ ?_ hs hx hlen ?_
  · intro j u hu
    have hj : j < 4 := by have := (List.getElem?_eq_some_iff.1 hu).1; simpa [vec4] using this
    have h1 := hnew.cell (j := 0) (i := j) (by simp) hj
    rw [Nat.zero_mul] at h1
    rw [h1, ← hu]
    have : j = 0 ∨ j = 1 ∨ j = 2 ∨ j = 3 := by omega
    rcases this with rfl | rfl | rfl | rfl <;> rfl
  · intro u hu
    simp [vec4] at hu
    rcases hu with rfl | rfl | rfl | rfl <;> rfl
  · intro g' cap' w' h2 h3 h4
    refine h g' cap' w' ?_ ⟨h3.os, h3.tape, h3.output, Nat.le_trans (by simp) h3.size, fun k hk hne => (h3.block k (by simp; omega) hne).trans (Below.heap_alloc _ _ _ hk)⟩ (h4.imp id (by simp; omega))
    unfold OwnVecs
    rw [flatV_append, List.length_append]
    have e : flatV [v] = vec4 v := by simp [flatV]
    rw [e]
    exact h2
/-- 'append(out, rows...)' -/
theorem wpList_append_rows {ops : Array Oper} {rest : List Oper} {o : Oper} {a : Act} {Q : Exit → Act → World → Prop} (hgd : o.guard = none) (s x : Operand)
    (ho : o.op = .call { callee := .builtin .append, args := #[s, x], argTypes := #[24, 24] })
    (B g cap n g2 c2 m : Nat) (rs rs2 : List RowRef) (w : World) (hn : rs.length = n) (hm : rs2.length = m) (hown : OwnRows w B g cap rs) (hown2 : OwnRows w B g2 c2 rs2) (hne : ∀ r ∈ rs, ∀ s ∈ rs2, r.1 ≠ s.1)
    (hs : a.eval s = (Value.slice (some ⟨g, 0, none⟩) n cap)) (hx : a.eval x = (Value.slice (some ⟨g2, 0, none⟩) m c2)) (hlen : n + m ≤ 1048576)
    (h : ∀ g' cap' w', OwnRows w' B g' cap' (rs ++ rs2) → w.grownBy w' (some g) → (g' = g ∨ g' = w.heap.size) → wpList Tryz.prog ops Q rest (a.put o.dst (Value.slice (some ⟨g', 0, none⟩) (n + m) cap')) w') :
    wpList Tryz.prog ops Q (o :: rest) a w := by
  subst hn; subst hm
  have ho1 : OwnK w B 25 1 g cap rs.length (rs.map rowVal) := by have := hown.1; unfold OwnV at this; rw [List.length_map] at this; exact this
  refine wpList_append_K infoRow Tryz.underlying24 rfl (by decide) (by decide) hgd s x ho B g cap rs.length (rs.map rowVal) ho1 g2 0 rs2.length c2 (rs2.map rowVal) (by simp) ?_ ?_ hs hx hlen ?_
  · intro j u hu
    have hj : j < (rs2.map rowVal).length := (List.getElem?_eq_some_iff.1 hu).1
    rw [Nat.zero_add, hown2.1.cell j hj, ← hu, List.getElem?_eq_getElem hj]
  · intro u hu
    obtain ⟨r, -, rfl⟩ := List.mem_map.1 hu
    rfl
  · intro g' cap' w' h2 h3 h4
    refine h g' cap' w' ⟨?_, fun r hr => ?_, ?_⟩ h3 h4
    · unfold OwnV
      rw [List.map_append, List.length_append, List.length_map, List.length_map]
      exact h2
    · rcases List.mem_append.1 hr with hr | hr
      · exact (hown.2.1 r hr).grown h3 (fun e => hown.1.ne (hown.2.1 r hr).toV (by decide) (Option.some.inj e).symm)
      · exact (hown2.2.1 r hr).grown h3 (fun e => hown.1.ne (hown2.2.1 r hr).toV (by decide) (Option.some.inj e).symm)
    · rw [List.map_append, List.nodup_append]
      refine ⟨hown.2.2, hown2.2.2, fun x hx y hy => ?_⟩
      obtain ⟨r, hr, rfl⟩ := List.mem_map.1 hx
      obtain ⟨s, hs, rfl⟩ := List.mem_map.1 hy
      exact hne r hr s hs
end
end Go.Proofs.YtdedkfbiookofaaGreatDoor
namespace Go.Proofs.YtdedkfbiookofaaGreatDoor
set_option maxRecDepth 100000
open Go.RowKit
theorem wpList_append_ord {w : World} {ops : Array Oper} {rest : List Oper} {o : Oper} {a : Act} {Q : Exit → Act → World → Prop} (hgd : o.guard = none) (s x : Operand)
    (ho : o.op = .call { callee := .builtin .append, args := #[s, x], argTypes := #[25, 25] })
    (B n : Nat) (v : Value) (xs : List Int) (z : Int) (hn : xs.length = n) (hv : OrdV w B v xs) (hB : B ≤ w.heap.size) (hs : a.eval s = v) (hx : a.eval x = (Value.slice (some ⟨w.heap.size, 0, none⟩) 1 1)) (hlen : n + 1 ≤ 1048576)
    (h : ∀ g c w', Own w' B g c (xs ++ [z]) → Below B w w' → wpList Tryz.prog ops Q rest (a.put o.dst (Value.slice (some ⟨g, 0, none⟩) (n + 1) c)) w') :
    wpList Tryz.prog ops Q (o :: rest) a (w.alloc (.cells #[.int .i64 z] 3)) := by
  subst hn
  obtain ⟨g, c, w', hr, h1, h2, h3⟩ := run_append_ord hv hB z hlen o.type
  have hb : Below B w w' := by
    rcases hv with ⟨e, -⟩ | ⟨g0, c0, e, ho⟩
    · exact (h2 e).mono hB
    · have hg := h3 g0 _ c0 e
      exact (Below.refl _ _).grown hg hB (by intro k hk; cases hk; exact ho.base)
  refine wpList_plain hgd fun K hK => ?_
  unfold Oper.wp execOp
  simp only [ho, resolve, invoke, builtin, Sem.run_bind, Sem.run_pure, Result.andThen_ok, List.map_toArray, List.map_cons, List.map_nil, hs, hx, hr]
  exact hK _ _ (h g c w' h1 hb)
theorem own_row1 {w : World} {B g c n : Nat} {xs : List Int} (hB : B ≤ w.heap.size) (hn : xs.length = n) (h : Own w B g c xs) : OwnRows (w.alloc (.cells #[(Value.slice (some ⟨g, 0, none⟩) n c)] 25)) B w.heap.size 1 [(g, c, xs)] := by
  subst hn
  have h2 := OwnV.new (w := w) (B := B) (E := 25) (Value.slice (some ⟨g, 0, none⟩) xs.length c) rfl hB
  exact ⟨h2, ⟨fun r hr => by rw [List.mem_singleton] at hr; subst hr; exact h.alloc _, by simp⟩⟩
def prefM (a b : List (List Int)) (f : Nat) (o : List Nat) (i : Nat) : List (List Nat) := (List.range i).flatMap fun i => if o.contains i || !(fit a b o i) then [] else mtF a b f (o ++ [i])
theorem prefM_skip {a b : List (List Int)} {f : Nat} {o : List Nat} {i : Nat} (h : (o.contains i || !(fit a b o i)) = true) : prefM a b f o (i + 1) = prefM a b f o i := by
  unfold prefM
  rw [List.range_succ, List.flatMap_append, List.flatMap_cons, List.flatMap_nil, if_pos h, List.append_nil, List.append_nil]
theorem prefM_take {a b : List (List Int)} {f : Nat} {o : List Nat} {i : Nat} (h : (o.contains i || !(fit a b o i)) = false) : prefM a b f o (i + 1) = prefM a b f o i ++ mtF a b f (o ++ [i]) := by
  unfold prefM
  rw [List.range_succ, List.flatMap_append, List.flatMap_cons, List.flatMap_nil, if_neg (by rw [h]; simp), List.append_nil]
theorem prefM_all (a b : List (List Int)) (f : Nat) (o : List Nat) : mtF a b (f + 1) o = prefM a b f o a.length := rfl
theorem prefM_break {a b : List (List Int)} {f : Nat} {o : List Nat} {i M : Nat} (hi : i ≤ a.length) (h : M ≤ (prefM a b f o i).length) : (mtF a b (f + 1) o).take M = (prefM a b f o i).take M := by
  rw [prefM_all]
  have e : List.range a.length = List.range i ++ (List.range a.length).drop i := by
    have := (List.take_append_drop i (List.range a.length)).symm
    rwa [List.take_range, Nat.min_eq_left hi] at this
  unfold prefM at *
  rw [e, List.flatMap_append, List.take_append_of_le_length h]
def fitTo (a b : List (List Int)) (o : List Nat) (i j : Nat) : Bool := (List.range j).all fun j => (ent a i (o.getD j 0) == ent b o.length j) && (ent a (o.getD j 0) i == ent b j o.length)
theorem fitTo_succ (a b : List (List Int)) (o : List Nat) (i j : Nat) : fitTo a b o i (j + 1) = (fitTo a b o i j && ((ent a i (o.getD j 0) == ent b o.length j) && (ent a (o.getD j 0) i == ent b j o.length))) := by
  unfold fitTo
  rw [List.range_succ, List.all_append]
  simp
theorem mem_intsOf (o : List Nat) (i : Nat) : decide ((i : Int) ∈ intsOf o) = o.contains i := by
  rw [Bool.eq_iff_iff]
  simp only [decide_eq_true_eq, intsOf, List.mem_map, List.contains_iff_mem]
  constructor
  · rintro ⟨x, hx, e⟩
    have : x = i := by omega
    rw [← this]; exact hx
  · intro h; exact ⟨i, h, rfl⟩
theorem GotRows.mk' {w w' : World} {rows : List (List Int)} {n : Nat} (g cap : Nat) (rs : List RowRef) (hl : rs.length = n) (hc : contents rs = rows) (ho : OwnRows w' w.heap.size g cap rs) (hb : Below w.heap.size w w') : GotRows w rows (.returned (Value.slice (some ⟨g, 0, none⟩) n cap)) w' := by
  subst hl; subst hc
  exact ⟨g, cap, rs, by rw [contents_length], rfl, ho, hb⟩
/-- entries of a square matrix, by its rows -/
theorem sq_cell {w : World} {g o n : Nat} {c : List (List Int)} (h : SqN n c) (hr : Rows2 w g o c) {i j : Nat} (hi : i < n) (hj : j < n) :
    ∃ gi oi ci, w.cell? ⟨g, o + i, none⟩ = some (Value.slice (some ⟨gi, oi, none⟩) n ci) ∧ gi < w.heap.size ∧ w.cell? ⟨gi, oi + j, none⟩ = some (.int .i64 (ent c i j)) := by
  obtain ⟨gi, oi, ci, q1, q2, q3, q4⟩ := hr i (by rw [h.1]; exact hi)
  rw [h.2 i hi] at q1
  exact ⟨gi, oi, ci, q1, q3, q4 j (by rw [h.2 i hi]; exact hj)⟩
set_option maxHeartbeats 2000000 in
theorem impl_matches_ok (a b : List (List Int)) (n : Nat) (hn1 : 1 ≤ n) (hn4 : n ≤ 4) (ha : SqN n a) (hb : SqN n b) : ∀ (f ga oa ca gb ob cb : Nat) (A : Option Addr) (k c B : Nat) (o : List Nat) (M : Nat) (w : World), f + o.length = n → o.length = k → (∀ x ∈ o, x < n) → 1 ≤ M → M ≤ 1000 → ga < w.heap.size → gb < w.heap.size → Rows2 w ga oa a → Rows2 w gb ob b → OrdV w B (.slice A k c) (intsOf o) →
    Calls Tryz.prog 228 #[(Value.slice (some ⟨ga, oa, none⟩) n ca), (Value.slice (some ⟨gb, ob, none⟩) n cb), .slice A k c, .int .i64 M] w (GotRows w (((mtF a b f o).take M).map intsOf)) := by
  intro f
  induction f with
  | zero =>
    intro ga oa ca gb ob cb A k c B o M w hf hk hx hM1 hM2 hga hgb hra hrb hv
    obtain rfl : n = k := by omega
    have hC := slices_Clone_ord (.slice A n c) B (intsOf o) w (by rw [intsOf_length]; omega) hv
    have HC := Lib.hid hC
    have Hne : Hid (intsOf o ≠ []) := fun e => by have h := congrArg List.length e; rw [intsOf_length] at h; simp at h; subst h; simp at hk; omega
    have HL : Hid ((intsOf o).length = n) := Lib.hid (by rw [intsOf_length]; exact hk)
    have HR : Hid (((mtF a b 0 o).take M).map intsOf = [intsOf o]) := Lib.hid (by
      show (([o] : List (List Nat)).take M).map intsOf = _
      rw [List.take_of_length_le (by simpa using hM1)]; rfl)
    rw [HR.out]
    clear hC hv hk hf hra hrb hga hgb hx HR
    go_enter Tryz.func228, Tryz.ntmps228
    go_wp2_with fail
    refine HC.out.mono ?_
    rintro e w1 ⟨v', rfl, -, h2, hb1⟩
    obtain ⟨g1, c1, rfl, ho1⟩ := h2 Hne.out
    rw [HL.out]
    have hO := Lib.hid (own_row1 hb1.size HL.out ho1)
    have hB1 := Lib.hid (hb1.alloc hb1.size (.cells #[(Value.slice (some ⟨g1, 0, none⟩) n c1)] 25))
    clear HC h2 ho1 hb1
    go_wp2_with fail
    go_ret
    exact GotRows.mk' _ 1 _ rfl rfl hO.out hB1.out
  | succ f ih =>
    intro ga oa ca gb ob cb A k c B o M w hf hk hx hM1 hM2 hga hgb hra hrb hv
    have IH := Lib.hid ih
    clear ih
    have hkn : k < n := by omega
    have Hk := Lib.hid hk
    have Hra := Lib.hid hra; have Hrb := Lib.hid hrb; have Hv := Lib.hid hv; have Hx := Lib.hid hx
    have Hf : Hid (f + (o.length + 1) = n) := Lib.hid (by omega)
    have hknz : ((k : Int) == (n : Int)) = false := by rw [beq_eq_false_iff_ne]; omega
    have Han := Lib.hid ha.1
    clear hra hrb hv hx hf hk
    go_enter Tryz.func228, Tryz.ntmps228
    go_wp2_with fail
    go_loopw [10, 11, 12, 13, 14, 27] (fun ov _ _ _ _ kv wr => ∃ (i p gO cO : Nat) (rs : List RowRef), i ≤ n ∧ p < M ∧ kv = .int .i64 i ∧ ov = (Value.slice (some ⟨gO, 0, none⟩) p cO) ∧ Hid (rs.length = p) ∧ Hid (contents rs = (prefM a b f o i).map intsOf) ∧ OwnRows wr w.heap.size gO cO rs ∧ Below w.heap.size w wr) (fun _ _ _ _ _ kv _ => n - (intOf kv).toNat)
    case atStart => exact ⟨0, 0, w.heap.size, 0, [], Nat.zero_le _, hM1, rfl, rfl, rfl, rfl, OwnRows.empty (Nat.le_refl _), (Below.refl _ _).alloc (Nat.le_refl _) _⟩
    case round =>
      obtain ⟨i, p, gO, cO, rs, hi, hpM, rfl, rfl, hp, hcont, ho, hbw⟩ := hrel
      by_cases hlt : i < n
      · have hCt := slices_Contains_ord (.slice A k c) B (i : Int) (intsOf o) wr (by rw [intsOf_length, Hk.out]; omega) (Hv.out.below hbw)
        rw [mem_intsOf] at hCt
        cases hcn : o.contains i with
        | true =>
          rw [hcn] at hCt
          have HCt := Lib.hid hCt
          have Hsk := Lib.hid (prefM_skip (a := a) (b := b) (f := f) (o := o) (i := i) (by rw [hcn]; rfl))
          clear hCt hcn
          go_wp2_with fail
          refine HCt.out.mono ?_
          rintro e w1 ⟨rfl, hs1⟩
          have ho1 := ho.still hs1
          have hb1 := below_still hbw hs1
          clear HCt ho hbw hs1
          go_wp2_with fail
          go_roundw
          case rel => exact ⟨i + 1, p, gO, cO, rs, by omega, hpM, by go_num, rfl, hp, by rw [Hsk.out]; exact hcont, ho1, hb1⟩
          case measure => simp [intOf]; omega
        | false =>
          rw [hcn] at hCt
          have HCt := Lib.hid hCt
          have Hcn := Lib.hid hcn
          clear hCt hcn
          go_wp2_with fail
          refine HCt.out.mono ?_
          rintro e w1 ⟨rfl, hs1⟩
          have ho1 := ho.still hs1
          have hb1 := below_still hbw hs1
          clear HCt ho hbw hs1
          rename World => w1
          go_wp2_with fail
          go_loopw [12, 13, 14, 35] (fun fv _ _ jv wr => ∃ (j q : Nat), j ≤ k ∧ jv = .int .i64 j ∧ fv = .bool (fitTo a b o i j) ∧ wr = w1.drewN q) (fun _ _ _ jv _ => k - (intOf jv).toNat)
          case atStart => exact ⟨0, 0, Nat.zero_le _, rfl, rfl, rfl⟩
          case round =>
            obtain ⟨j, q, hj, rfl, rfl, rfl⟩ := hrel
            by_cases hlt2 : j < k
            · obtain ⟨g0, c0, hA, hv0⟩ : ∃ g0 c0, A = some ⟨g0, 0, none⟩ ∧ Own w B g0 c0 (intsOf o) := by
                rcases Hv.out with ⟨e, -⟩ | ⟨g0, c0, e, h⟩
                · simp only [Value.slice.injEq] at e; omega
                · simp only [Value.slice.injEq] at e; exact ⟨g0, c0, e.1, h⟩
              subst hA
              have hbq : Below w.heap.size w w1 := hb1
              have hlo : (intsOf o).length = k := by rw [intsOf_length]; exact Hk.out
              have q0 := (hv0.below hbq hv0.lt).cell j (by rw [hlo]; exact hlt2)
              rw [intsOf_getD o j (by rw [Hk.out]; exact hlt2)] at q0
              have hxn : o.getD j 0 < n := Hx.out _ (by have : j < o.length := by rw [Hk.out]; exact hlt2
                                                        simp [List.getD, this])
              have hjn : j < n := by omega
              have hfs := fitTo_succ a b o i j
              rw [Hk.out] at hfs
              generalize o.getD j 0 = x at *
              have hra := Hra.out.below hbq hga
              have hrb := Hrb.out.below hbq hgb
              obtain ⟨r1, o1, c1, p1, -, p2⟩ := sq_cell ha hra hlt hxn
              obtain ⟨r2, o2, c2, p3, -, p4⟩ := sq_cell hb hrb hkn hjn
              obtain ⟨r3, o3, c3, p5, -, p6⟩ := sq_cell ha hra hxn hlt
              obtain ⟨r4, o4, c4, p7, -, p8⟩ := sq_cell hb hrb hjn hkn
              have Hfs := Lib.hid hfs
              clear hfs hra hrb hbq hlo hv0
              generalize ent a i x = E1 at *
              generalize ent b k j = E2 at *
              generalize ent a x i = E3 at *
              generalize ent b j k = E4 at *
              generalize hF2 : fitTo a b o i (j + 1) = F2 at *
              have HF2 := Lib.hid hF2
              clear hF2
              generalize fitTo a b o i j = F at *
              cases F with
              | true =>
                by_cases h1 : E1 = E2
                · subst h1
                  by_cases h2 : E3 = E4
                  · subst h2
                    have HF : Hid (F2 = true) := Lib.hid (by rw [Hfs.out]; simp)
                    go_wp2_with fail
                    go_quiet (fail)
                    go_wp2_with fail
                    go_roundw
                    case rel => exact ⟨j + 1, _, by omega, by go_num, by rw [HF2.out, HF.out], by first | rfl | exact World.drewN_drewN _ _ _⟩
                    case measure => simp [intOf]; omega
                  · have hb2 : (E3 == E4) = false := by rw [beq_eq_false_iff_ne]; exact h2
                    have HF : Hid (F2 = false) := Lib.hid (by rw [Hfs.out]; simp [h2])
                    go_wp2_with fail
                    go_quiet (fail)
                    go_wp2_with fail
                    go_roundw
                    case rel => exact ⟨j + 1, _, by omega, by go_num, by rw [HF2.out, HF.out], by first | rfl | exact World.drewN_drewN _ _ _⟩
                    case measure => simp [intOf]; omega
                · have hb2 : (E1 == E2) = false := by rw [beq_eq_false_iff_ne]; exact h1
                  have HF : Hid (F2 = false) := Lib.hid (by rw [Hfs.out]; simp [h1])
                  go_wp2_with fail
                  go_quiet (fail)
                  go_wp2_with fail
                  go_roundw
                  case rel => exact ⟨j + 1, _, by omega, by go_num, by rw [HF2.out, HF.out], by first | rfl | exact World.drewN_drewN _ _ _⟩
                  case measure => simp [intOf]; omega
              | false =>
                have HF : Hid (F2 = false) := Lib.hid (by rw [Hfs.out]; rfl)
                go_wp2_with fail
                go_quiet (fail)
                go_wp2_with fail
                go_roundw
                case rel => exact ⟨j + 1, _, by omega, by go_num, by rw [HF2.out, HF.out], by first | rfl | exact World.drewN_drewN _ _ _⟩
                case measure => simp [intOf]; omega
            · obtain rfl : j = k := by omega
              have hfe : fitTo a b o i j = fit a b o i := by unfold fit fitTo; rw [Hk.out]
              rw [hfe]
              clear hfe
              have ho2 := ho1.still ⟨q, rfl⟩
              have hb2 : Below w.heap.size w (w1.drewN q) := below_drewN hb1 q
              generalize w1.drewN q = w2 at *
              clear ho1 hb1
              cases hfit : fit a b o i with
              | false =>
                have Hsk := Lib.hid (prefM_skip (a := a) (b := b) (f := f) (o := o) (i := i) (by rw [hfit]; simp))
                clear hfit
                go_wp2_with fail
                go_roundw
                case rel => exact ⟨i + 1, p, gO, cO, rs, by omega, hpM, by go_num, rfl, hp, by rw [Hsk.out]; exact hcont, ho2, hb2⟩
                case measure => simp [intOf]; omega
              | true =>
                have Htk := Lib.hid (prefM_take (a := a) (b := b) (f := f) (o := o) (i := i) (by rw [hfit, Hcn.out]; rfl))
                have HC := Lib.hid (slices_Clone_ord (.slice A j c) B (intsOf o) w2 (by rw [intsOf_length, Hk.out]; omega) (Hv.out.below hb2))
                have Hlo : Hid ((intsOf o).length = j) := Lib.hid (by rw [intsOf_length]; exact Hk.out)
                have hpl : (prefM a b f o i).length = p := by
                  have h1 := congrArg List.length hcont.out
                  rw [contents_length, hp.out, List.length_map] at h1
                  exact h1.symm
                have HTk : Hid (prefM a b f o i ++ (mtF a b f (o ++ [i])).take (M - p) = (prefM a b f o (i + 1)).take M) := Lib.hid (by
                  rw [Htk.out, List.take_append, hpl, List.take_of_length_le (show (prefM a b f o i).length ≤ M by omega)])
                have HBr := Lib.hid (fun h => prefM_break (a := a) (b := b) (f := f) (o := o) (i := i + 1) (M := M) (by rw [Han.out]; omega) h)
                have Hpl := Lib.hid hpl
                have IH2 := Lib.hid (fun g5 c5 W (hW : Below w.heap.size w W) B5 (h5 : Own W B5 g5 c5 (intsOf (o ++ [i]))) => IH.out ga oa ca gb ob cb (some ⟨g5, 0, none⟩) (j + 1) c5 B5 (o ++ [i]) (M - p) W (by rw [List.length_append]; have := Hf.out; simp; omega) (by rw [List.length_append, Hk.out]; rfl)
                  (fun x hx => by rcases List.mem_append.1 hx with h | h; exact Hx.out x h; simp at h; subst h; exact hlt) (by omega) (by omega) (Nat.lt_of_lt_of_le hga hW.size) (Nat.lt_of_lt_of_le hgb hW.size) (Hra.out.below hW hga) (Hrb.out.below hW hgb)
                  (.inr ⟨g5, c5, by rw [intsOf_length, List.length_append, Hk.out]; rfl, h5⟩))
                clear hfit hpl Htk
                generalize hT : (mtF a b f (o ++ [i])).take (M - p) = T at *
                have HT := Lib.hid hT
                clear hT
                have hTl : Hid (T.length ≤ M - p) := Lib.hid (by rw [← HT.out, List.length_take]; omega)
                have hwm : IntKind.i64.wrap ((M : Int) - (p : Int)) = ((M - p : Nat) : Int) := by rw [IntWalk.i64_in _ ⟨by omega, by omega⟩]; omega
                go_wp2_with fail
                refine HC.out.mono ?_
                rintro e w3 ⟨v', rfl, hv3, -, hb3⟩
                clear HC
                go_wp2_with (at_builtin; refine wpList_append_ord (w := w3) rfl _ _ rfl w2.heap.size j v' (intsOf o) (i : Int) Hlo.out hv3 hb3.size rfl rfl (by omega) ?_)
                intro g5 c5 w5 ho5 hb5
                rw [← intsOf_push] at ho5
                have hb25 : Below w2.heap.size w2 w5 := hb3.trans hb5
                have hbw5 := hb2.trans (hb25.mono hb2.size)
                have HI := Lib.hid (IH2.out g5 c5 w5 hbw5 _ ho5)
                clear hv3 hb3 ho5 hb5 IH2
                go_wp2_with fail
                refine HI.out.mono ?_
                rintro e w6 ⟨g6, c6, rs6, rfl, hc6, ho6, hb6⟩
                have hlT : (T.map intsOf).length = T.length := List.length_map _
                rw [hlT]
                have hb26 := hb25.trans (hb6.mono hb25.size)
                have hbw6 := hbw5.trans (hb6.mono hbw5.size)
                have ho26 := ho2.below hb26
                have ho66 := ho6.mono hbw5.size
                have hne6 : ∀ r ∈ rs, ∀ s ∈ rs6, r.1 ≠ s.1 := fun r hr s hs e => by
                  have h1 := (ho2.2.1 r hr).lt
                  have h2 := (ho6.2.1 s hs).base
                  have h3 := hb25.size
                  omega
                have HL6 : Hid (rs6.length = T.length) := Lib.hid (by rw [← contents_length, hc6, hlT])
                have HC6 := Lib.hid hc6
                have hTl2 := hTl.out
                clear HI hlT hc6 ho6 hb6 hb26 hb25 hbw5 ho2 hb2
                generalize hu : T.length = u at *
                have Hu := Lib.hid hu
                clear hu
                go_wp2_with (at_builtin; refine wpList_append_rows rfl _ _ rfl w.heap.size gO cO p g6 c6 u rs rs6 w6 hp.out HL6.out ho26 ho66 hne6 rfl rfl (by omega) ?_)
                intro g9 c9 w9 ho9 hg9 hor9
                have hb9 := hbw6.grown hg9 hbw6.size (by intro q hq; cases hq; exact ho26.base)
                have HC9 : Hid (contents (rs ++ rs6) = ((prefM a b f o (i + 1)).take M).map intsOf) := Lib.hid (by
                  rw [← HTk.out, List.map_append, ← hcont.out, ← HC6.out]
                  simp [contents])
                have HL9 : Hid ((rs ++ rs6).length = p + u) := Lib.hid (by rw [List.length_append, hp.out, HL6.out])
                have HP9 : Hid (((prefM a b f o (i + 1)).take M).length = p + u) := Lib.hid (by rw [← HTk.out, List.length_append, Hpl.out, Hu.out])
                clear ho26 ho66 hne6 hg9 hor9 hbw6
                by_cases hbr : M ≤ p + u
                · have hz : (M : Int) ≤ ((p + u : Nat) : Int) := by omega
                  have hz2 : (M : Int) ≤ (p : Int) + (u : Int) := by omega
                  have HRes : Hid (contents (rs ++ rs6) = ((mtF a b (f + 1) o).take M).map intsOf) := Lib.hid (by
                    rw [HC9.out, HBr.out (by have := HP9.out; rw [List.length_take] at this; omega)])
                  go_wp2_with fail
                  go_ret
                  exact GotRows.mk' g9 c9 _ HL9.out HRes.out ho9 hb9
                · have hz : ¬ (M : Int) ≤ ((p + u : Nat) : Int) := by omega
                  have hz2 : ¬ (M : Int) ≤ (p : Int) + (u : Int) := by omega
                  have HRes : Hid (contents (rs ++ rs6) = (prefM a b f o (i + 1)).map intsOf) := Lib.hid (by
                    rw [HC9.out]
                    have := HP9.out
                    rw [List.length_take] at this
                    rw [List.take_of_length_le (by omega)])
                  go_wp2_with fail
                  go_roundw
                  case rel => exact ⟨i + 1, p + u, g9, c9, _, by omega, by omega, by go_num, rfl, HL9.out, HRes.out, ho9, hb9⟩
                  case measure => simp [intOf]; omega
      · obtain rfl : i = n := by omega
        have hfin : Hid ((mtF a b (f + 1) o).take M = prefM a b f o i) := Lib.hid (by
          rw [prefM_all, Han.out]
          exact List.take_of_length_le (by
            have h1 := congrArg List.length hcont.out
            rw [contents_length, hp.out, List.length_map] at h1
            omega))
        go_wp2_with fail
        go_ret
        rw [hfin.out]
        exact GotRows.mk' gO cO rs hp.out hcont.out ho hbw
end Go.Proofs.YtdedkfbiookofaaGreatDoor
