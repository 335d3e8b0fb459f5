/- Vectors of four numbers as keys: vectorOf, list. Sets of vectors that a call keeps in a map: words and laws. append of elements of any number of cells to a slice of the call's own; slices of vectors; append of rows to rows. -/
import Derived.Test.YtldcmhgpppeooaaGreatDoorG04
import Derived.Laws.CopyOwn
import Derived.Maps.Own
import Derived.Maps.OwnOps
import Derived.Maps.Views
import Derived.WideKeyArr2
import Derived.DeepKeys4
import Derived.Test.YtldcmhgpppeooaaGreatDoorG02
namespace Go.Proofs.YtldcmhgpppeooaaGreatDoor
set_option maxRecDepth 100000
open Go.RowKit Game

def vecVal (v : List Int) : Value := .agg #[.int .i64 (v.getD 0 0), .int .i64 (v.getD 1 0), .int .i64 (v.getD 2 0), .int .i64 (v.getD 3 0)]

theorem splice4 (v : List Int) (h : v.length ≤ 4) : splice [Value.int .i64 0, .int .i64 0, .int .i64 0, .int .i64 0] 0 (v.map (Value.int .i64)) = [.int .i64 (v.getD 0 0), .int .i64 (v.getD 1 0), .int .i64 (v.getD 2 0), .int .i64 (v.getD 3 0)] := by
  match v, h with
  | [], _ => rfl
  | [a], _ => rfl
  | [a, b], _ => rfl
  | [a, b, c], _ => rfl
  | [a, b, c, d], _ => rfl
theorem cell4 {w : World} {B : Nat} {a b c d : Value} {t : TypeId} (h : w.heap[B]? = some (.cells #[a, b, c, d] t (0, 0))) :
    (w.cell? ⟨B, 0, none⟩ = some a ∧ w.cell? ⟨B, 1, none⟩ = some b ∧ w.cell? ⟨B, 2, none⟩ = some c ∧ w.cell? ⟨B, 3, none⟩ = some d) ∧ ∀ j, w.frozen? ⟨B, j, none⟩ = false := by
  refine ⟨⟨?_, ?_, ?_, ?_⟩, fun j => ?_⟩ <;> simp [World.cell?, World.frozen?, h]

set_option maxRecDepth 100000 in
set_option maxHeartbeats 1000000 in
theorem impl_vectorOf_any (g o n cp : Nat) (v : List Int) (w : World) (hn : v.length = n) (h4 : v.length ≤ 4) (hg : g < w.heap.size) (hc : Cells w g o v) :
    Calls Tryz.prog 114 #[(Value.slice (some ⟨g, o, none⟩) n cp)] w (Gives w (vecVal v)) := by
  subst hn
  obtain ⟨w1, hw1⟩ : ∃ w1, w1 = w.alloc (.cells #[.int .i64 0, .int .i64 0, .int .i64 0, .int .i64 0] 90) := ⟨_, rfl⟩
  have hs1 : w1.heap.size = w.heap.size + 1 := by rw [hw1]; simp
  have hb1 : Below w.heap.size w w1 := by rw [hw1]; exact (Below.refl _ _).alloc (Nat.le_refl _) _
  have hh1 : w1.heap[w.heap.size]? = some (.cells #[.int .i64 0, .int .i64 0, .int .i64 0, .int .i64 0] 90 (0, 0)) := by rw [hw1]; exact heap_alloc_new _ _
  have hh2 : (w1.alloc (.cells #[.int .i64 0, .int .i64 0, .int .i64 0, .int .i64 0] 90)).heap[w.heap.size + 1]? = some (.cells #[.int .i64 0, .int .i64 0, .int .i64 0, .int .i64 0] 90 (0, 0)) := by rw [← hs1]; exact heap_alloc_new _ _
  have hb2 : Below (w.heap.size + 1) w1 (w1.alloc (.cells #[.int .i64 0, .int .i64 0, .int .i64 0, .int .i64 0] 90)) := by rw [← hs1]; exact (Below.refl _ _).alloc (Nat.le_refl _) _
  rw [hw1] at hh2
  have Hh2 := Lib.hid hh2; have Hb2 := Lib.hid hb2; have Hh1 := Lib.hid hh1; have Hs1 := Lib.hid hs1
  clear hh2 hb2 hh1 hs1
  have hc1 := hc.below hb1 hg
  have Hw1 := Lib.hid hw1
  go_enter Tryz.func114, Tryz.ntmps114
  go_wp2_with (refine wpList_copy_splice (o := ⟨some 7, _, _, _, _, _⟩) rfl (.tmp 5) (.tmp 6) 27 27 rfl 3 Tryz.underlying27 (by kernel_rfl) (some ⟨w.heap.size + 1, 0, none⟩) (some ⟨g, o, none⟩) 4 4 v.length cp rfl rfl (w.heap.size + 1) 0 [.int .i64 0, .int .i64 0, .int .i64 0, .int .i64 0] 90 Hh2.out (v.map (Value.int .i64)) (by rw [List.length_map]; exact (Nat.min_eq_left h4).symm) (fun _ => ⟨rfl, ⟨g, o, none⟩, rfl, ?_⟩) (by simp; omega) (ints_oneCell _ _) (w.heap.size + 1) w1 ?_ (Nat.le_refl _) ?_)
  · intro j u hu
    have hj : j < v.length := by have := (List.getElem?_eq_some_iff.1 hu).1; simpa using this
    rw [Addr.add_lit, ← Hw1.out]
    have h1 : Cells (w1.alloc (.cells #[.int .i64 0, .int .i64 0, .int .i64 0, .int .i64 0] 90)) g o v := hc1.below Hb2.out (by omega)
    rw [h1 j hj, ← hu]
    simp [List.getD, hj]
  · rw [← Hw1.out]; exact Hb2.out
  · intro w2 HG2 hB2
    have hG2 := HG2.out
    rw [splice4 v h4] at hG2
    have hb20 : w2.heap[w.heap.size]? = some (.cells #[.int .i64 0, .int .i64 0, .int .i64 0, .int .i64 0] 90 (0, 0)) := by rw [hB2.block _ (by omega), ← Hw1.out]; exact Hh1.out
    rw [← Hw1.out] at hB2
    have hbw : Below w.heap.size w w2 := hb1.trans (hB2.mono (Nat.le_succ _))
    obtain ⟨⟨a0, a1, a2, a3⟩, af⟩ := cell4 hG2
    obtain ⟨⟨b0, b1, b2, b3⟩, bf⟩ := cell4 hb20
    have f0 := bf 0
    have f1 := bf 1
    have f2 := bf 2
    have f3 := bf 3
    clear bf af hG2 HG2 hb20 hB2 hb1 hc1 Hw1 hw1 hc
    have hvv : vecVal v = .agg #[.int .i64 (v.getD 0 0), .int .i64 (v.getD 1 0), .int .i64 (v.getD 2 0), .int .i64 (v.getD 3 0)] := rfl
    generalize v.getD 0 0 = x0 at *
    generalize v.getD 1 0 = x1 at *
    generalize v.getD 2 0 = x2 at *
    generalize v.getD 3 0 = x3 at *
    have Hvv := Lib.hid hvv; clear hvv
    go_wp2
    have hB : Below w.heap.size w ((((w2.setCell ⟨w.heap.size, 0, none⟩ (.int .i64 x0)).setCell ⟨w.heap.size, 1, none⟩ (.int .i64 x1)).setCell ⟨w.heap.size, 2, none⟩ (.int .i64 x2)).setCell ⟨w.heap.size, 3, none⟩ (.int .i64 x3)) := (by repeat (first | with_reducible exact Below.refl _ _ | with_reducible assumption | with_reducible refine below_drewN ?_ _ | with_reducible refine Below.drew ?_ | (with_reducible refine Below.alloc ?_ ?_ _; rotate_left; · first | (simp; done) | (simp; omega) | exact Below.size (by assumption) | (have hsz := Below.size (by assumption : Below _ _ _); simp at hsz ⊢; omega)) | (with_reducible refine Below.setCell ?_ ?_ _; rotate_left; · first | (simp; done) | (simp; omega))))
    exact bodyPost_ret (v := .agg #[.int .i64 x0, .int .i64 x1, .int .i64 x2, .int .i64 x3]) (by simp [results, Tryz.results114, go_sem, b0, b1, b2, b3]) rfl ⟨by rw [Hvv.out], hB⟩

/-- 'append([]int{}, l...)', the worlds under names -/
theorem wpList_clone_n {w : World} {ops : Array Oper} {rest : List Oper} {o : Oper} {a : Act} {Q : Exit → Act → World → Prop} (hgd : o.guard = none) (s x : Operand)
    (ho : o.op = .call { callee := .builtin .append, args := #[s, x], argTypes := #[27, 27] })
    (w1 W : World) (H g2 o2 n2 c2 : Nat) (ys : List Int) (hn : ys.length = n2) (hW : W = w1.alloc (.cells #[] 3)) (hH : w1.heap.size = H) (hb : Below w.heap.size w w1) (hg : g2 < w1.heap.size) (hc : Cells w1 g2 o2 ys)
    (hs : a.eval s = (Value.slice (some ⟨H, 0, none⟩) 0 0)) (hx : a.eval x = (Value.slice (some ⟨g2, o2, none⟩) n2 c2)) (hlen : ys.length ≤ 1099511627776)
    (h : ∀ g' cap' w', Own w' w.heap.size g' cap' ys → Below w.heap.size w w' → wpList Tryz.prog ops Q rest (a.put o.dst (Value.slice (some ⟨g', 0, none⟩) n2 cap')) w') :
    wpList Tryz.prog ops Q (o :: rest) a W := by
  subst hW; subst hH
  exact wpList_clone hgd s x ho g2 o2 n2 c2 ys hn hg hc hs hx hlen fun g' cap' w' h1 h2 => h g' cap' w' (h1.mono hb.size) (hb.trans (h2.mono hb.size))

theorem cells_of4 {w : World} {B : Nat} {v : List Int} {t : TypeId} (h4 : v.length ≤ 4) (h : w.heap[B]? = some (.cells #[.int .i64 (v.getD 0 0), .int .i64 (v.getD 1 0), .int .i64 (v.getD 2 0), .int .i64 (v.getD 3 0)] t (0, 0))) : Cells w B 0 v := by
  obtain ⟨⟨a0, a1, a2, a3⟩, -⟩ := cell4 h
  intro j hj
  have : j = 0 ∨ j = 1 ∨ j = 2 ∨ j = 3 := by omega
  rcases this with rfl | rfl | rfl | rfl
  · exact a0
  · exact a1
  · exact a2
  · exact a3
end Go.Proofs.YtldcmhgpppeooaaGreatDoor
namespace Go.Proofs.YtldcmhgpppeooaaGreatDoor
set_option maxRecDepth 100000
open Go.RowKit Game
open Go.Maps (Keyed IsMap)

theorem vecLaidOut : laidOutB Tryz.prog = true := by kernel_rfl
theorem vecRow : (90 : TypeId) < Tryz.prog.types.size := of_decide_eq_true (by kernel_rfl)
theorem vecLaw : WideMaps.KeyLaw Tryz.prog 90 := deep_law_laid vecLaidOut (m := 2) (by omega) vecRow (by kernel_rfl) (by rw [Tryz.underlying90])
theorem vecKeyed : Keyed Tryz.prog 90 := Keyed.of_law vecLaw
theorem vecArr : WideMaps.ArrKey Tryz.prog 90 3 4 := ⟨Tryz.underlying90, by kernel_rfl, by kernel_rfl, by kernel_rfl⟩
theorem boolZero (w : World) : (zeroValue 4).run Tryz.prog w = .ok (.bool false) w := by kernel_rfl
theorem typesPos : ∃ m, Tryz.prog.types.size = m + 1 := by
  have h : 0 < Tryz.prog.types.size := Nat.lt_of_le_of_lt (Nat.zero_le _) vecRow
  generalize Tryz.prog.types.size = k at h
  exact ⟨k - 1, by omega⟩

def WfV (v : List Int) : Prop := ∀ j, j < 4 → (Lit.int .i64 (v.getD j 0)).wf = true
def keyL (v : List Int) : Lit := .string (keyBytes [.int .i64 (v.getD 0 0), .int .i64 (v.getD 1 0), .int .i64 (v.getD 2 0), .int .i64 (v.getD 3 0)])
theorem keyOf_vec {v : List Int} (h : WfV v) : keyOf Tryz.prog 90 (vecVal v) = some (keyL v) := by
  have hkt := vecArr.keyType typesPos
  obtain ⟨m, hm⟩ := typesPos
  have h0 := h 0 (by omega)
  have h1 := h 1 (by omega)
  have h2 := h 2 (by omega)
  have h3 := h 3 (by omega)
  unfold vecVal keyL
  generalize v.getD 0 0 = x0 at *
  generalize v.getD 1 0 = x1 at *
  generalize v.getD 2 0 = x2 at *
  generalize v.getD 3 0 = x3 at *
  unfold keyOf
  simp only [vecArr.hu]
  rw [if_pos (by simp [hkt, Value.formed, vecArr.hu, vecArr.size]), hm]
  unfold Program.keyLits
  simp only [vecArr.hu, Value.cells]
  rw [if_pos (by rw [vecArr.size]; rfl), show List.range 4 = [0, 1, 2, 3] from rfl, List.mapM_cons, List.mapM_cons, List.mapM_cons, List.mapM_cons, List.mapM_nil]
  simp [vecArr.one, Program.keyLits, Tryz.underlying3, h0, h1, h2, h3]
theorem vecVal_inj {v u : List Int} (hl : v.length = u.length) (h4 : v.length ≤ 4) (h : vecVal v = vecVal u) : v = u := by
  unfold vecVal at h
  simp at h
  obtain ⟨h0, h1, h2, h3⟩ := h
  apply List.ext_getElem hl
  intro i hi hi'
  have : i = 0 ∨ i = 1 ∨ i = 2 ∨ i = 3 := by omega
  rcases this with rfl | rfl | rfl | rfl <;> simp_all
theorem keyL_inj {v u : List Int} (hv : WfV v) (hu : WfV u) (hl : v.length = u.length) (h4 : v.length ≤ 4) (h : keyL v = keyL u) : v = u :=
  vecVal_inj hl h4 (vecKeyed.inj (keyOf_vec hv) (by rw [h]; exact keyOf_vec hu))

/-- block b is a map that holds just these vectors of m numbers -/
def SeenM (w : World) (b n m : Nat) (ks : List (List Int)) : Prop :=
  ∃ D : DataW Unit, w.ownsMap Tryz.prog 90 (plainElem Tryz.prog 4) b n D ∧ IsMap D ∧ ∀ v : List Int, v.length = m → WfV v → D.atKey (keyL v) (.lit (.bool false)) = .lit (.bool (decide (v ∈ ks)))
section
variable {w w' : World} {b n m : Nat} {ks : List (List Int)}
theorem SeenM.start (w : World) (m : Nat) : SeenM (w.alloc (.map #[] 0)) w.heap.size 0 m [] :=
  ⟨.map [], World.ownsMap_made _ _ _ _, ⟨[], rfl⟩, fun v _ _ => by simp [DataW.atKey]⟩
theorem SeenM.lt (h : SeenM w b n m ks) : b < w.heap.size := by obtain ⟨D, h, -⟩ := h; exact h.lt
theorem SeenM.grown {row : Option Nat} (h : SeenM w b n m ks) (hg : w.grownBy w' row) (hne : some b ≠ row) : SeenM w' b n m ks := by
  obtain ⟨D, h, h2⟩ := h; exact ⟨D, h.kept hg hne, h2⟩
theorem SeenM.below {B : Nat} (h : SeenM w b n m ks) (hb : Below B w w') (hB : b < B) : SeenM w' b n m ks := by
  obtain ⟨D, ⟨es, clock, hh, r⟩, h2⟩ := h
  exact ⟨D, ⟨es, clock, (hb.block b hB).trans hh, r⟩, h2⟩
theorem SeenM.still (h : SeenM w b n m ks) (hs : ∃ k, w' = w.drewN k) : SeenM w' b n m ks := by obtain ⟨k, rfl⟩ := hs; exact h
theorem plainElem_bool_inv {P : Program} {e : TypeId} (he : P.underlying e = some .bool) {v : Value} {z : DataW Unit × List MemPlace} (h : plainElem P e v = some z) : ∃ x, v = .bool x ∧ z = (.lit (.bool x), []) := by
  unfold plainElem at h
  rw [he] at h
  cases v <;> simp at h
  subst h
  exact ⟨_, rfl, rfl⟩
/-- 'seen[key]' -/
theorem wpList_seen_lookup {ops : Array Oper} {rest : List Oper} {o : Oper} {a : Act} {Q : Exit → Act → World → Prop}
    (hg : o.guard = none) (x y : Operand) (hop : o.op = Op.lookup 94 x y false) (b n m : Nat) (ks : List (List Int)) (v : List Int) (hv : v.length = m) (hw : WfV v)
    (hown : SeenM w b n m ks) (hx : a.eval x = .map (some b)) (hy : a.eval y = vecVal v) (r : Bool) (hr : decide (v ∈ ks) = r)
    (hK : wpList Tryz.prog ops Q rest (a.put o.dst (.bool r)) w) :
    wpList Tryz.prog ops Q (o :: rest) a w := by
  refine wpList_plain hg fun K' hK' => ?_
  obtain ⟨D, hD, -, hat⟩ := hown
  obtain ⟨u, ps, hrun, hu⟩ := hD.lookup vecKeyed Tryz.underlying94 (boolZero w) (plainElem_bool (H := Unit) Tryz.underlying4 false) (keyOf_vec hw)
  obtain ⟨z, rfl, hz⟩ := plainElem_bool_inv Tryz.underlying4 hu
  rw [hat v hv hw] at hz
  simp at hz
  unfold Oper.wp
  simp [execOp, hop, hx, hy, hrun, Result.andThen]
  rw [← hz.1, hr]
  exact hK' _ _ hK
/-- 'seen[key] = true' -/
theorem wpList_seen_put {ops : Array Oper} {rest : List Oper} {o : Oper} {a : Act} {Q : Exit → Act → World → Prop}
    (hg : o.guard = none) (x y z : Operand) (hop : o.op = Op.mapUpdate 94 x y z) (b n m : Nat) (ks : List (List Int)) (v : List Int) (hv : v.length = m) (h4 : m ≤ 4) (hw : WfV v)
    (hown : SeenM w b n m ks) (hn : n < 1048576) (hx : a.eval x = .map (some b)) (hy : a.eval y = vecVal v) (hz : a.eval z = .bool true)
    (hK : ∀ w', SeenM w' b (n + 1) m (ks ++ [v]) → w.grownBy w' (some b) → wpList Tryz.prog ops Q rest (a.put o.dst undef) w') :
    wpList Tryz.prog ops Q (o :: rest) a w := by
  obtain ⟨D, hD, hmap, hat⟩ := hown
  refine wpList_mapUpdate_own w hg x y z _ hop _ _ vecKeyed Tryz.underlying94 _ b n D hx hD (by unfold maxLen; omega) _ _ (keyL v) hy hz (keyOf_vec hw) _ [] (plainElem_bool (H := Unit) Tryz.underlying4 true) ?_
  intro w' hown' hgr
  refine hK w' ⟨_, hown', ?_, fun u hu hwu => ?_⟩ hgr
  · obtain ⟨es, rfl⟩ := hmap
    exact ⟨_, rfl⟩
  · by_cases e : u = v
    · subst e
      rw [Maps.atKey_put_same hmap (vecKeyed.key (keyOf_vec hw))]
      simp
    · have hne : keyL u ≠ keyL v := fun h => e (keyL_inj hwu hw (by omega) (by omega) h)
      rw [Maps.atKey_put_other hne, hat u hu hwu]
      simp [e]
end
end Go.Proofs.YtldcmhgpppeooaaGreatDoor
namespace Go.Proofs.YtldcmhgpppeooaaGreatDoor
set_option maxRecDepth 100000
open Go.RowKit Game

/-! ### vectors -/
theorem infoVec : (Tryz.prog.info? 90).map (fun i => (i.zero, i.size, i.bytes)) = some (some (.agg #[.int .i64 0, .int .i64 0, .int .i64 0, .int .i64 0]), 4, 32) := by kernel_rfl
def vec4 (v : List Int) : List Value := [.int .i64 (v.getD 0 0), .int .i64 (v.getD 1 0), .int .i64 (v.getD 2 0), .int .i64 (v.getD 3 0)]
def flatV (vs : List (List Int)) : List Value := vs.flatMap vec4
def OwnVecs (w : World) (B g cap : Nat) (vs : List (List Int)) : Prop := OwnK w B 90 4 g cap vs.length (flatV vs)
theorem flatV_length (vs : List (List Int)) : (flatV vs).length = vs.length * 4 := by
  induction vs with
  | nil => rfl
  | cons v vs ih => unfold flatV at *; simp only [List.flatMap_cons, List.length_append, ih, List.length_cons]; simp [vec4]; omega
theorem flatV_append (a b : List (List Int)) : flatV (a ++ b) = flatV a ++ flatV b := by simp [flatV]
theorem flatV_at {vs : List (List Int)} {j i : Nat} (hj : j < vs.length) (hi : i < 4) : (flatV vs)[j * 4 + i]? = some (.int .i64 ((vs.getD j []).getD i 0)) := by
  induction vs generalizing j with
  | nil => simp at hj
  | cons v vs ih =>
    unfold flatV at *
    simp only [List.flatMap_cons]
    cases j with
    | zero =>
      rw [List.getElem?_append_left (by simp [vec4]; omega)]
      have : i = 0 ∨ i = 1 ∨ i = 2 ∨ i = 3 := by omega
      rcases this with rfl | rfl | rfl | rfl <;> rfl
    | succ j =>
      have := ih (j := j) (by simpa using hj)
      rw [List.getElem?_append_right (by simp [vec4]; omega)]
      have e : (j + 1) * 4 + i - (vec4 v).length = j * 4 + i := by simp [vec4]; omega
      rw [e, this]
      simp [List.getD]
section
variable {w w' : World} {B g cap : Nat} {vs : List (List Int)}
theorem OwnVecs.lt (h : OwnVecs w B g cap vs) : g < w.heap.size := OwnK.lt h
theorem OwnVecs.base (h : OwnVecs w B g cap vs) : B ≤ g := OwnK.base h
theorem OwnVecs.below {B' : Nat} (h : OwnVecs w B g cap vs) (hb : Below B' w w') (hg : g < B') : OwnVecs w' B g cap vs := OwnK.below h hb hg
theorem OwnVecs.mono {B' : Nat} (h : OwnVecs w B g cap vs) (hB : B' ≤ B) : OwnVecs w B' g cap vs := OwnK.mono h hB
theorem OwnVecs.grown {row : Option Nat} (h : OwnVecs w B g cap vs) (hg : w.grownBy w' row) (hne : some g ≠ row) : OwnVecs w' B g cap vs := OwnK.grown h hg hne
theorem OwnVecs.still (h : OwnVecs w B g cap vs) (hs : ∃ n, w' = w.drewN n) : OwnVecs w' B g cap vs := by obtain ⟨n, rfl⟩ := hs; exact h
theorem OwnVecs.cell (h : OwnVecs w B g cap vs) {j i : Nat} (hj : j < vs.length) (hi : i < 4) : w.cell? ⟨g, j * 4 + i, none⟩ = some (.int .i64 ((vs.getD j []).getD i 0)) := by
  have hl : j * 4 + i < (flatV vs).length := by rw [flatV_length]; omega
  rw [OwnK.cell h _ hl, ← flatV_at hj hi, List.getElem?_eq_getElem hl]
theorem OwnVecs.empty (hB : B ≤ w.heap.size) : OwnVecs (w.alloc (.cells #[] 90)) B w.heap.size 0 [] :=
  World.ownsRow_lit w #[] 0 hB (by decide) rfl
theorem OwnVecs.one (v : List Int) (hB : B ≤ w.heap.size) : OwnVecs (w.alloc (.cells #[.int .i64 (v.getD 0 0), .int .i64 (v.getD 1 0), .int .i64 (v.getD 2 0), .int .i64 (v.getD 3 0)] 90)) B w.heap.size 1 [v] :=
  World.ownsRow_lit w #[.int .i64 (v.getD 0 0), .int .i64 (v.getD 1 0), .int .i64 (v.getD 2 0), .int .i64 (v.getD 3 0)] 1 hB (by decide) rfl
theorem wpList_append_vec {ops : Array Oper} {rest : List Oper} {o : Oper} {a : Act} {Q : Exit → Act → World → Prop} (hgd : o.guard = none) (s x : Operand)
    (ho : o.op = .call { callee := .builtin .append, args := #[s, x], argTypes := #[93, 93] })
    (B g cap n H : Nat) (vs : List (List Int)) (v : List Int) (w W : World) (hn : vs.length = n) (hW : W = w.alloc (.cells #[.int .i64 (v.getD 0 0), .int .i64 (v.getD 1 0), .int .i64 (v.getD 2 0), .int .i64 (v.getD 3 0)] 90)) (hH : w.heap.size = H) (hown : OwnVecs w B g cap vs)
    (hs : a.eval s = (Value.slice (some ⟨g, 0, none⟩) n cap)) (hx : a.eval x = (Value.slice (some ⟨H, 0, none⟩) 1 1)) (hlen : n + 1 ≤ 1048576)
    (h : ∀ g' cap' w', OwnVecs w' B g' cap' (vs ++ [v]) → w.grownBy w' (some g) → (g' = g ∨ w.heap.size < g') → wpList Tryz.prog ops Q rest (a.put o.dst (Value.slice (some ⟨g', 0, none⟩) (n + 1) cap')) w') :
    wpList Tryz.prog ops Q (o :: rest) a W := by
  subst hn; subst hW; subst hH
  have hnew := OwnVecs.one (w := w) (B := w.heap.size) v (Nat.le_refl _)
  refine wpList_append_K infoVec Tryz.underlying93 rfl (by decide) (by decide) hgd s x ho B g cap vs.length (flatV vs) (OwnK.alloc hown _) w.heap.size 0 1 1 (vec4 v) rfl ?_ ?_ hs hx hlen ?_
  · intro j u hu
    have hj : j < 4 := by have := (List.getElem?_eq_some_iff.1 hu).1; simpa [vec4] using this
    have h1 := hnew.cell (j := 0) (i := j) (by simp) hj
    rw [Nat.zero_mul] at h1
    rw [h1, ← hu]
    have : j = 0 ∨ j = 1 ∨ j = 2 ∨ j = 3 := by omega
    rcases this with rfl | rfl | rfl | rfl <;> rfl
  · intro u hu
    simp [vec4] at hu
    rcases hu with rfl | rfl | rfl | rfl <;> rfl
  · intro g' cap' w' h2 h3 h4
    refine h g' cap' w' ?_ ⟨h3.os, h3.tape, h3.output, Nat.le_trans (by simp) h3.size, fun k hk hne => (h3.block k (by simp; omega) hne).trans (Below.heap_alloc _ _ _ hk)⟩ (h4.imp id (by simp; omega))
    unfold OwnVecs
    rw [flatV_append, List.length_append]
    have e : flatV [v] = vec4 v := by simp [flatV]
    rw [e]
    exact h2
/-- 'append(out, rows...)' -/
theorem wpList_append_rows {ops : Array Oper} {rest : List Oper} {o : Oper} {a : Act} {Q : Exit → Act → World → Prop} (hgd : o.guard = none) (s x : Operand)
    (ho : o.op = .call { callee := .builtin .append, args := #[s, x], argTypes := #[24, 24] })
    (B g cap n g2 c2 m : Nat) (rs rs2 : List RowRef) (w : World) (hn : rs.length = n) (hm : rs2.length = m) (hown : OwnRows w B g cap rs) (hown2 : OwnRows w B g2 c2 rs2) (hne : ∀ r ∈ rs, ∀ s ∈ rs2, r.1 ≠ s.1)
    (hs : a.eval s = (Value.slice (some ⟨g, 0, none⟩) n cap)) (hx : a.eval x = (Value.slice (some ⟨g2, 0, none⟩) m c2)) (hlen : n + m ≤ 1048576)
    (h : ∀ g' cap' w', OwnRows w' B g' cap' (rs ++ rs2) → w.grownBy w' (some g) → (g' = g ∨ g' = w.heap.size) → wpList Tryz.prog ops Q rest (a.put o.dst (Value.slice (some ⟨g', 0, none⟩) (n + m) cap')) w') :
    wpList Tryz.prog ops Q (o :: rest) a w := by
  subst hn; subst hm
  have ho1 : OwnK w B 27 1 g cap rs.length (rs.map rowVal) := by have := hown.1; unfold OwnV at this; rw [List.length_map] at this; exact this
  refine wpList_append_K infoRow Tryz.underlying24 rfl (by decide) (by decide) hgd s x ho B g cap rs.length (rs.map rowVal) ho1 g2 0 rs2.length c2 (rs2.map rowVal) (by simp) ?_ ?_ hs hx hlen ?_
  · intro j u hu
    have hj : j < (rs2.map rowVal).length := (List.getElem?_eq_some_iff.1 hu).1
    rw [Nat.zero_add, hown2.1.cell j hj, ← hu, List.getElem?_eq_getElem hj]
  · intro u hu
    obtain ⟨r, -, rfl⟩ := List.mem_map.1 hu
    rfl
  · intro g' cap' w' h2 h3 h4
    refine h g' cap' w' ⟨?_, fun r hr => ?_, ?_⟩ h3 h4
    · unfold OwnV
      rw [List.map_append, List.length_append, List.length_map, List.length_map]
      exact h2
    · rcases List.mem_append.1 hr with hr | hr
      · exact (hown.2.1 r hr).grown h3 (fun e => hown.1.ne (hown.2.1 r hr).toV (by decide) (Option.some.inj e).symm)
      · exact (hown2.2.1 r hr).grown h3 (fun e => hown.1.ne (hown2.2.1 r hr).toV (by decide) (Option.some.inj e).symm)
    · rw [List.map_append, List.nodup_append]
      refine ⟨hown.2.2, hown2.2.2, fun x hx y hy => ?_⟩
      obtain ⟨r, hr, rfl⟩ := List.mem_map.1 hx
      obtain ⟨s, hs, rfl⟩ := List.mem_map.1 hy
      exact hne r hr s hs
end
end Go.Proofs.YtldcmhgpppeooaaGreatDoor
