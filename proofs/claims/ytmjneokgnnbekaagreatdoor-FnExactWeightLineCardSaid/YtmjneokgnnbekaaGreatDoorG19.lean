/- Vectors of four numbers as keys: vectorOf, list. Sets of vectors that a call keeps in a map: words and laws. New rows and a bool; small laws of sets of vectors. slices.Reverse, ReverseWord: contracts. -/
import Derived.Test.YtmjneokgnnbekaaGreatDoorG16
import Derived.Laws.CopyOwn
import Derived.Maps.Own
import Derived.Maps.OwnOps
import Derived.Maps.Views
import Derived.WideKeyArr2
import Derived.DeepKeys4
import Derived.Test.YtmjneokgnnbekaaGreatDoorG04
import Derived.Test.YtmjneokgnnbekaaGreatDoorBase
namespace Go.Proofs.YtmjneokgnnbekaaGreatDoor
set_option maxRecDepth 100000
open Go.RowKit Game

def vecVal (v : List Int) : Value := .agg #[.int .i64 (v.getD 0 0), .int .i64 (v.getD 1 0), .int .i64 (v.getD 2 0), .int .i64 (v.getD 3 0)]

theorem splice4 (v : List Int) (h : v.length ≤ 4) : splice [Value.int .i64 0, .int .i64 0, .int .i64 0, .int .i64 0] 0 (v.map (Value.int .i64)) = [.int .i64 (v.getD 0 0), .int .i64 (v.getD 1 0), .int .i64 (v.getD 2 0), .int .i64 (v.getD 3 0)] := by
  match v, h with
  | [], _ => rfl
  | [a], _ => rfl
  | [a, b], _ => rfl
  | [a, b, c], _ => rfl
  | [a, b, c, d], _ => rfl
theorem cell4 {w : World} {B : Nat} {a b c d : Value} {t : TypeId} (h : w.heap[B]? = some (.cells #[a, b, c, d] t (0, 0))) :
    (w.cell? ⟨B, 0, none⟩ = some a ∧ w.cell? ⟨B, 1, none⟩ = some b ∧ w.cell? ⟨B, 2, none⟩ = some c ∧ w.cell? ⟨B, 3, none⟩ = some d) ∧ ∀ j, w.frozen? ⟨B, j, none⟩ = false := by
  refine ⟨⟨?_, ?_, ?_, ?_⟩, fun j => ?_⟩ <;> simp [World.cell?, World.frozen?, h]

set_option maxRecDepth 100000 in
set_option maxHeartbeats 1000000 in
theorem impl_vectorOf_any (g o n cp : Nat) (v : List Int) (w : World) (hn : v.length = n) (h4 : v.length ≤ 4) (hg : g < w.heap.size) (hc : Cells w g o v) :
    Calls Tryz.prog 66 #[(Value.slice (some ⟨g, o, none⟩) n cp)] w (Gives w (vecVal v)) := by
  subst hn
  obtain ⟨w1, hw1⟩ : ∃ w1, w1 = w.alloc (.cells #[.int .i64 0, .int .i64 0, .int .i64 0, .int .i64 0] 64) := ⟨_, rfl⟩
  have hs1 : w1.heap.size = w.heap.size + 1 := by rw [hw1]; simp
  have hb1 : Below w.heap.size w w1 := by rw [hw1]; exact (Below.refl _ _).alloc (Nat.le_refl _) _
  have hh1 : w1.heap[w.heap.size]? = some (.cells #[.int .i64 0, .int .i64 0, .int .i64 0, .int .i64 0] 64 (0, 0)) := by rw [hw1]; exact heap_alloc_new _ _
  have hh2 : (w1.alloc (.cells #[.int .i64 0, .int .i64 0, .int .i64 0, .int .i64 0] 64)).heap[w.heap.size + 1]? = some (.cells #[.int .i64 0, .int .i64 0, .int .i64 0, .int .i64 0] 64 (0, 0)) := by rw [← hs1]; exact heap_alloc_new _ _
  have hb2 : Below (w.heap.size + 1) w1 (w1.alloc (.cells #[.int .i64 0, .int .i64 0, .int .i64 0, .int .i64 0] 64)) := by rw [← hs1]; exact (Below.refl _ _).alloc (Nat.le_refl _) _
  rw [hw1] at hh2
  have Hh2 := Lib.hid hh2; have Hb2 := Lib.hid hb2; have Hh1 := Lib.hid hh1; have Hs1 := Lib.hid hs1
  clear hh2 hb2 hh1 hs1
  have hc1 := hc.below hb1 hg
  have Hw1 := Lib.hid hw1
  go_enter Tryz.func66, Tryz.ntmps66
  go_wp2_with (refine wpList_copy_splice (o := ⟨some 7, _, _, _, _, _⟩) rfl (.tmp 5) (.tmp 6) 23 23 rfl 3 Tryz.underlying23 (by kernel_rfl) (some ⟨w.heap.size + 1, 0, none⟩) (some ⟨g, o, none⟩) 4 4 v.length cp rfl rfl (w.heap.size + 1) 0 [.int .i64 0, .int .i64 0, .int .i64 0, .int .i64 0] 64 Hh2.out (v.map (Value.int .i64)) (by rw [List.length_map]; exact (Nat.min_eq_left h4).symm) (fun _ => ⟨rfl, ⟨g, o, none⟩, rfl, ?_⟩) (by simp; omega) (ints_oneCell _ _) (w.heap.size + 1) w1 ?_ (Nat.le_refl _) ?_)
  · intro j u hu
    have hj : j < v.length := by have := (List.getElem?_eq_some_iff.1 hu).1; simpa using this
    rw [Addr.add_lit, ← Hw1.out]
    have h1 : Cells (w1.alloc (.cells #[.int .i64 0, .int .i64 0, .int .i64 0, .int .i64 0] 64)) g o v := hc1.below Hb2.out (by omega)
    rw [h1 j hj, ← hu]
    simp [List.getD, hj]
  · rw [← Hw1.out]; exact Hb2.out
  · intro w2 HG2 hB2
    have hG2 := HG2.out
    rw [splice4 v h4] at hG2
    have hb20 : w2.heap[w.heap.size]? = some (.cells #[.int .i64 0, .int .i64 0, .int .i64 0, .int .i64 0] 64 (0, 0)) := by rw [hB2.block _ (by omega), ← Hw1.out]; exact Hh1.out
    rw [← Hw1.out] at hB2
    have hbw : Below w.heap.size w w2 := hb1.trans (hB2.mono (Nat.le_succ _))
    obtain ⟨⟨a0, a1, a2, a3⟩, af⟩ := cell4 hG2
    obtain ⟨⟨b0, b1, b2, b3⟩, bf⟩ := cell4 hb20
    have f0 := bf 0
    have f1 := bf 1
    have f2 := bf 2
    have f3 := bf 3
    clear bf af hG2 HG2 hb20 hB2 hb1 hc1 Hw1 hw1 hc
    have hvv : vecVal v = .agg #[.int .i64 (v.getD 0 0), .int .i64 (v.getD 1 0), .int .i64 (v.getD 2 0), .int .i64 (v.getD 3 0)] := rfl
    generalize v.getD 0 0 = x0 at *
    generalize v.getD 1 0 = x1 at *
    generalize v.getD 2 0 = x2 at *
    generalize v.getD 3 0 = x3 at *
    have Hvv := Lib.hid hvv; clear hvv
    go_wp2
    have hB : Below w.heap.size w ((((w2.setCell ⟨w.heap.size, 0, none⟩ (.int .i64 x0)).setCell ⟨w.heap.size, 1, none⟩ (.int .i64 x1)).setCell ⟨w.heap.size, 2, none⟩ (.int .i64 x2)).setCell ⟨w.heap.size, 3, none⟩ (.int .i64 x3)) := (by repeat (first | with_reducible exact Below.refl _ _ | with_reducible assumption | with_reducible refine below_drewN ?_ _ | with_reducible refine Below.drew ?_ | (with_reducible refine Below.alloc ?_ ?_ _; rotate_left; · first | (simp; done) | (simp; omega) | exact Below.size (by assumption) | (have hsz := Below.size (by assumption : Below _ _ _); simp at hsz ⊢; omega)) | (with_reducible refine Below.setCell ?_ ?_ _; rotate_left; · first | (simp; done) | (simp; omega))))
    exact bodyPost_ret (v := .agg #[.int .i64 x0, .int .i64 x1, .int .i64 x2, .int .i64 x3]) (by simp [results, Tryz.results66, go_sem, b0, b1, b2, b3]) rfl ⟨by rw [Hvv.out], hB⟩

/-- 'append([]int{}, l...)', the worlds under names -/
theorem wpList_clone_n {w : World} {ops : Array Oper} {rest : List Oper} {o : Oper} {a : Act} {Q : Exit → Act → World → Prop} (hgd : o.guard = none) (s x : Operand)
    (ho : o.op = .call { callee := .builtin .append, args := #[s, x], argTypes := #[23, 23] })
    (w1 W : World) (H g2 o2 n2 c2 : Nat) (ys : List Int) (hn : ys.length = n2) (hW : W = w1.alloc (.cells #[] 3)) (hH : w1.heap.size = H) (hb : Below w.heap.size w w1) (hg : g2 < w1.heap.size) (hc : Cells w1 g2 o2 ys)
    (hs : a.eval s = (Value.slice (some ⟨H, 0, none⟩) 0 0)) (hx : a.eval x = (Value.slice (some ⟨g2, o2, none⟩) n2 c2)) (hlen : ys.length ≤ 1099511627776)
    (h : ∀ g' cap' w', Own w' w.heap.size g' cap' ys → Below w.heap.size w w' → wpList Tryz.prog ops Q rest (a.put o.dst (Value.slice (some ⟨g', 0, none⟩) n2 cap')) w') :
    wpList Tryz.prog ops Q (o :: rest) a W := by
  subst hW; subst hH
  exact wpList_clone hgd s x ho g2 o2 n2 c2 ys hn hg hc hs hx hlen fun g' cap' w' h1 h2 => h g' cap' w' (h1.mono hb.size) (hb.trans (h2.mono hb.size))

theorem cells_of4 {w : World} {B : Nat} {v : List Int} {t : TypeId} (h4 : v.length ≤ 4) (h : w.heap[B]? = some (.cells #[.int .i64 (v.getD 0 0), .int .i64 (v.getD 1 0), .int .i64 (v.getD 2 0), .int .i64 (v.getD 3 0)] t (0, 0))) : Cells w B 0 v := by
  obtain ⟨⟨a0, a1, a2, a3⟩, -⟩ := cell4 h
  intro j hj
  have : j = 0 ∨ j = 1 ∨ j = 2 ∨ j = 3 := by omega
  rcases this with rfl | rfl | rfl | rfl
  · exact a0
  · exact a1
  · exact a2
  · exact a3
end Go.Proofs.YtmjneokgnnbekaaGreatDoor
namespace Go.Proofs.YtmjneokgnnbekaaGreatDoor
set_option maxRecDepth 100000
open Go.RowKit Game
open Go.Maps (Keyed IsMap)

theorem vecLaidOut : laidOutB Tryz.prog = true := by kernel_rfl
theorem vecRow : (64 : TypeId) < Tryz.prog.types.size := of_decide_eq_true (by kernel_rfl)
theorem vecLaw : WideMaps.KeyLaw Tryz.prog 64 := deep_law_laid vecLaidOut (m := 2) (by omega) vecRow (by kernel_rfl) (by rw [Tryz.underlying64])
theorem vecKeyed : Keyed Tryz.prog 64 := Keyed.of_law vecLaw
theorem vecArr : WideMaps.ArrKey Tryz.prog 64 3 4 := ⟨Tryz.underlying64, by kernel_rfl, by kernel_rfl, by kernel_rfl⟩
theorem boolZero (w : World) : (zeroValue 4).run Tryz.prog w = .ok (.bool false) w := by kernel_rfl
theorem typesPos : ∃ m, Tryz.prog.types.size = m + 1 := by
  have h : 0 < Tryz.prog.types.size := Nat.lt_of_le_of_lt (Nat.zero_le _) vecRow
  generalize Tryz.prog.types.size = k at h
  exact ⟨k - 1, by omega⟩

def WfV (v : List Int) : Prop := ∀ j, j < 4 → (Lit.int .i64 (v.getD j 0)).wf = true
def keyL (v : List Int) : Lit := .string (keyBytes [.int .i64 (v.getD 0 0), .int .i64 (v.getD 1 0), .int .i64 (v.getD 2 0), .int .i64 (v.getD 3 0)])
theorem keyOf_vec {v : List Int} (h : WfV v) : keyOf Tryz.prog 64 (vecVal v) = some (keyL v) := by
  have hkt := vecArr.keyType typesPos
  obtain ⟨m, hm⟩ := typesPos
  have h0 := h 0 (by omega)
  have h1 := h 1 (by omega)
  have h2 := h 2 (by omega)
  have h3 := h 3 (by omega)
  unfold vecVal keyL
  generalize v.getD 0 0 = x0 at *
  generalize v.getD 1 0 = x1 at *
  generalize v.getD 2 0 = x2 at *
  generalize v.getD 3 0 = x3 at *
  unfold keyOf
  simp only [vecArr.hu]
  rw [if_pos (by simp [hkt, Value.formed, vecArr.hu, vecArr.size]), hm]
  unfold Program.keyLits
  simp only [vecArr.hu, Value.cells]
  rw [if_pos (by rw [vecArr.size]; rfl), show List.range 4 = [0, 1, 2, 3] from rfl, List.mapM_cons, List.mapM_cons, List.mapM_cons, List.mapM_cons, List.mapM_nil]
  simp [vecArr.one, Program.keyLits, Tryz.underlying3, h0, h1, h2, h3]
theorem vecVal_inj {v u : List Int} (hl : v.length = u.length) (h4 : v.length ≤ 4) (h : vecVal v = vecVal u) : v = u := by
  unfold vecVal at h
  simp at h
  obtain ⟨h0, h1, h2, h3⟩ := h
  apply List.ext_getElem hl
  intro i hi hi'
  have : i = 0 ∨ i = 1 ∨ i = 2 ∨ i = 3 := by omega
  rcases this with rfl | rfl | rfl | rfl <;> simp_all
theorem keyL_inj {v u : List Int} (hv : WfV v) (hu : WfV u) (hl : v.length = u.length) (h4 : v.length ≤ 4) (h : keyL v = keyL u) : v = u :=
  vecVal_inj hl h4 (vecKeyed.inj (keyOf_vec hv) (by rw [h]; exact keyOf_vec hu))

/-- block b is a map that holds just these vectors of m numbers -/
def SeenM (w : World) (b n m : Nat) (ks : List (List Int)) : Prop :=
  ∃ D : DataW Unit, w.ownsMap Tryz.prog 64 (plainElem Tryz.prog 4) b n D ∧ IsMap D ∧ ∀ v : List Int, v.length = m → WfV v → D.atKey (keyL v) (.lit (.bool false)) = .lit (.bool (decide (v ∈ ks)))
section
variable {w w' : World} {b n m : Nat} {ks : List (List Int)}
theorem SeenM.start (w : World) (m : Nat) : SeenM (w.alloc (.map #[] 0)) w.heap.size 0 m [] :=
  ⟨.map [], World.ownsMap_made _ _ _ _, ⟨[], rfl⟩, fun v _ _ => by simp [DataW.atKey]⟩
theorem SeenM.lt (h : SeenM w b n m ks) : b < w.heap.size := by obtain ⟨D, h, -⟩ := h; exact h.lt
theorem SeenM.grown {row : Option Nat} (h : SeenM w b n m ks) (hg : w.grownBy w' row) (hne : some b ≠ row) : SeenM w' b n m ks := by
  obtain ⟨D, h, h2⟩ := h; exact ⟨D, h.kept hg hne, h2⟩
theorem SeenM.below {B : Nat} (h : SeenM w b n m ks) (hb : Below B w w') (hB : b < B) : SeenM w' b n m ks := by
  obtain ⟨D, ⟨es, clock, hh, r⟩, h2⟩ := h
  exact ⟨D, ⟨es, clock, (hb.block b hB).trans hh, r⟩, h2⟩
theorem SeenM.still (h : SeenM w b n m ks) (hs : ∃ k, w' = w.drewN k) : SeenM w' b n m ks := by obtain ⟨k, rfl⟩ := hs; exact h
theorem plainElem_bool_inv {P : Program} {e : TypeId} (he : P.underlying e = some .bool) {v : Value} {z : DataW Unit × List MemPlace} (h : plainElem P e v = some z) : ∃ x, v = .bool x ∧ z = (.lit (.bool x), []) := by
  unfold plainElem at h
  rw [he] at h
  cases v <;> simp at h
  subst h
  exact ⟨_, rfl, rfl⟩
/-- 'seen[key]' -/
theorem wpList_seen_lookup {ops : Array Oper} {rest : List Oper} {o : Oper} {a : Act} {Q : Exit → Act → World → Prop}
    (hg : o.guard = none) (x y : Operand) (hop : o.op = Op.lookup 66 x y false) (b n m : Nat) (ks : List (List Int)) (v : List Int) (hv : v.length = m) (hw : WfV v)
    (hown : SeenM w b n m ks) (hx : a.eval x = .map (some b)) (hy : a.eval y = vecVal v) (r : Bool) (hr : decide (v ∈ ks) = r)
    (hK : wpList Tryz.prog ops Q rest (a.put o.dst (.bool r)) w) :
    wpList Tryz.prog ops Q (o :: rest) a w := by
  refine wpList_plain hg fun K' hK' => ?_
  obtain ⟨D, hD, -, hat⟩ := hown
  obtain ⟨u, ps, hrun, hu⟩ := hD.lookup vecKeyed Tryz.underlying66 (boolZero w) (plainElem_bool (H := Unit) Tryz.underlying4 false) (keyOf_vec hw)
  obtain ⟨z, rfl, hz⟩ := plainElem_bool_inv Tryz.underlying4 hu
  rw [hat v hv hw] at hz
  simp at hz
  unfold Oper.wp
  simp [execOp, hop, hx, hy, hrun, Result.andThen]
  rw [← hz.1, hr]
  exact hK' _ _ hK
/-- 'seen[key] = true' -/
theorem wpList_seen_put {ops : Array Oper} {rest : List Oper} {o : Oper} {a : Act} {Q : Exit → Act → World → Prop}
    (hg : o.guard = none) (x y z : Operand) (hop : o.op = Op.mapUpdate 66 x y z) (b n m : Nat) (ks : List (List Int)) (v : List Int) (hv : v.length = m) (h4 : m ≤ 4) (hw : WfV v)
    (hown : SeenM w b n m ks) (hn : n < 1048576) (hx : a.eval x = .map (some b)) (hy : a.eval y = vecVal v) (hz : a.eval z = .bool true)
    (hK : ∀ w', SeenM w' b (n + 1) m (ks ++ [v]) → w.grownBy w' (some b) → wpList Tryz.prog ops Q rest (a.put o.dst undef) w') :
    wpList Tryz.prog ops Q (o :: rest) a w := by
  obtain ⟨D, hD, hmap, hat⟩ := hown
  refine wpList_mapUpdate_own w hg x y z _ hop _ _ vecKeyed Tryz.underlying66 _ b n D hx hD (by unfold maxLen; omega) _ _ (keyL v) hy hz (keyOf_vec hw) _ [] (plainElem_bool (H := Unit) Tryz.underlying4 true) ?_
  intro w' hown' hgr
  refine hK w' ⟨_, hown', ?_, fun u hu hwu => ?_⟩ hgr
  · obtain ⟨es, rfl⟩ := hmap
    exact ⟨_, rfl⟩
  · by_cases e : u = v
    · subst e
      rw [Maps.atKey_put_same hmap (vecKeyed.key (keyOf_vec hw))]
      simp
    · have hne : keyL u ≠ keyL v := fun h => e (keyL_inj hwu hw (by omega) (by omega) h)
      rw [Maps.atKey_put_other hne, hat u hu hwu]
      simp [e]
end
end Go.Proofs.YtmjneokgnnbekaaGreatDoor
namespace Go.Proofs.YtmjneokgnnbekaaGreatDoor
set_option maxRecDepth 100000
open Go.RowKit Game

theorem SeenM.neOwn {w : World} {b n m g cap B : Nat} {ks : List (List Int)} {xs : List Int} (h : SeenM w b n m ks) (ho : Own w B g cap xs) : b ≠ g := by
  rintro rfl
  obtain ⟨D, ⟨es, clock, hh, -⟩, -⟩ := h
  obtain ⟨cur, h2, -⟩ := ho.toV.row
  rw [hh] at h2
  simp at h2
theorem wfV_refl (c : List (List Int)) (i : Nat) (v : List Int) : WfV (refl c i v) := by
  intro j _
  by_cases h : j < v.length
  · have e : (refl c i v).getD j 0 = reflAt c i v j := by simp [refl, List.getD, h]
    rw [e]; exact wrap64_wf _
  · have e : (refl c i v).getD j 0 = 0 := by simp [refl, List.getD, h]
    rw [e]; decide
/-- new rows and a bool -/
def GotRowsB (w : World) (rows : List (List Int)) (b : Bool) (e : Ending) (w' : World) : Prop :=
  ∃ g cap rs, e = .returned (.tuple #[(Value.slice (some ⟨g, 0, none⟩) rows.length cap), .bool b]) ∧ contents rs = rows ∧ OwnRows w' w.heap.size g cap rs ∧ Below w.heap.size w w'
theorem GotRowsB.mk' {w w' : World} {rows : List (List Int)} {b : Bool} {n : Nat} (g cap : Nat) (rs : List RowRef) (hl : rs.length = n) (hc : contents rs = rows) (ho : OwnRows w' w.heap.size g cap rs) (hb : Below w.heap.size w w') :
    GotRowsB w rows b (.returned (.tuple #[(Value.slice (some ⟨g, 0, none⟩) n cap), .bool b])) w' := by
  subst hl; subst hc
  exact ⟨g, cap, rs, by rw [contents_length], rfl, ho, hb⟩
theorem start_rows (w : World) : OwnRows ((w.alloc (.cells #[] 3)).alloc (.cells #[(Value.slice (some ⟨w.heap.size, 0, none⟩) 0 0)] 23)) w.heap.size (w.heap.size + 1) 1 [(w.heap.size, 0, [])] := by
  have h1 : Own (w.alloc (.cells #[] 3)) w.heap.size w.heap.size 0 [] := Own.empty (w := w) (Nat.le_refl _)
  have h2 : OwnV ((w.alloc (.cells #[] 3)).alloc (.cells #[(Value.slice (some ⟨w.heap.size, 0, none⟩) 0 0)] 23)) w.heap.size 23 (w.heap.size + 1) 1 [(Value.slice (some ⟨w.heap.size, 0, none⟩) 0 0)] := by
    have := OwnV.new (w := w.alloc (.cells #[] 3)) (B := w.heap.size) (E := 23) (Value.slice (some ⟨w.heap.size, 0, none⟩) 0 0) rfl (by simp)
    simpa using this
  exact ⟨h2, ⟨fun r hr => by rw [List.mem_singleton] at hr; subst hr; exact h1.alloc _, by simp⟩⟩
theorem GotRowsB.held {w w' : World} {rows : List (List Int)} {b : Bool} {e : Ending} (h : GotRowsB w rows b e w') :
    ∃ g cap, e = .returned (.tuple #[(Value.slice (some ⟨g, 0, none⟩) rows.length cap), .bool b]) ∧ HeldR w' w.heap.size w'.heap.size g cap rows ∧ Below w.heap.size w w' := by
  obtain ⟨g, cap, rs, he, hc, ho, hb⟩ := h
  exact ⟨g, cap, he, ⟨rs, hc, ho, ho.lt, fun r hr => (ho.2.1 r hr).lt⟩, hb⟩
theorem rowsFew_of {rows : List (List Int)} (h1 : rows.length ≤ 200) (h2 : ∀ x ∈ rows, x.length ≤ 15) : rowsFew rows := by
  have h3 : ∀ j, j < rows.length → (rows.getD j []).length ≤ 15 := fun j hj => h2 _ (by simp [List.getD, hj])
  refine ⟨by omega, fun j hj => by have := h3 j hj; omega, ?_⟩
  have : ∀ k, k ≤ rows.length → sumLen rows k ≤ 15 * k := by
    intro k
    induction k with
    | zero => intro _; simp [sumLen]
    | succ k ih =>
      intro hk
      rw [sumLen_succ _ _ (by omega)]
      have := h3 k (by omega)
      have := ih (by omega)
      omega
  have := this rows.length (Nat.le_refl _)
  omega
end Go.Proofs.YtmjneokgnnbekaaGreatDoor
namespace Go.Proofs.YtmjneokgnnbekaaGreatDoor
set_option maxRecDepth 100000
open Go.RowKit

/-- the first k and the last k exchanged -/
def revAt (xs : List Int) (k : Nat) : List Int := (List.range xs.length).map fun t => if t < k ∨ xs.length - k ≤ t then xs.getD (xs.length - 1 - t) 0 else xs.getD t 0
theorem revAt_length (xs : List Int) (k : Nat) : (revAt xs k).length = xs.length := by simp [revAt]
theorem revAt_getD (xs : List Int) (k t : Nat) (ht : t < xs.length) : (revAt xs k).getD t 0 = if t < k ∨ xs.length - k ≤ t then xs.getD (xs.length - 1 - t) 0 else xs.getD t 0 := by
  simp [revAt, List.getD, ht]
theorem revAt_zero (xs : List Int) : revAt xs 0 = xs := by
  apply List.ext_getElem (revAt_length _ _)
  intro t h1 h2
  have := revAt_getD xs 0 t h2
  rw [if_neg (by omega)] at this
  simpa [List.getD, h1, h2] using this
theorem revAt_done (xs : List Int) (k : Nat) (h : xs.length ≤ 2 * k + 1) : revAt xs k = xs.reverse := by
  apply List.ext_getElem (by simp [revAt_length])
  intro t h1 h2
  have ht : t < xs.length := by rw [revAt_length] at h1; exact h1
  have e := revAt_getD xs k t ht
  have h3 : (revAt xs k)[t] = (revAt xs k).getD t 0 := by simp [List.getD, h1]
  rw [h3, e, List.getElem_reverse]
  split
  · simp [List.getD, show xs.length - 1 - t < xs.length by omega]
  · have : xs.length - 1 - t = t := by omega
    simp [List.getD, ht, this]
theorem revAt_succ (xs : List Int) (k : Nat) (h : 2 * k + 1 < xs.length) :
    ((revAt xs k).set k ((revAt xs k).getD (xs.length - 1 - k) 0)).set (xs.length - 1 - k) ((revAt xs k).getD k 0) = revAt xs (k + 1) := by
  rw [revAt_getD _ _ _ (by omega), revAt_getD _ _ _ (by omega)]
  apply List.ext_getElem (by simp [revAt_length])
  intro t h1 h2
  have ht : t < xs.length := by rw [revAt_length] at h2; exact h2
  have h3 : (revAt xs (k + 1))[t] = (revAt xs (k + 1)).getD t 0 := by simp [List.getD, h2]
  rw [h3, revAt_getD _ _ _ ht, List.getElem_set, List.getElem_set]
  have h4 : t < (revAt xs k).length := by rw [revAt_length]; exact ht
  have h5 : (revAt xs k)[t] = (revAt xs k).getD t 0 := by simp [List.getD, h4]
  rw [h5, revAt_getD _ _ _ ht]
  by_cases a : xs.length - 1 - k = t
  · rw [if_pos a, if_neg (by omega), if_pos (by omega), show xs.length - 1 - t = k by omega]
  · rw [if_neg a]
    by_cases b : k = t
    · subst b
      rw [if_pos rfl, if_neg (by omega), if_pos (by omega)]
    · rw [if_neg b]
      by_cases c : t < k ∨ xs.length - k ≤ t
      · rw [if_pos c, if_pos (by omega)]
      · rw [if_neg c, if_neg (by omega)]

theorem rev_set {xs : List Int} {k : Nat} (h : 2 * k + 1 < xs.length) :
    ((revAt xs k).set k ((revAt xs k)[xs.length - 1 - k]'(by rw [revAt_length]; omega))).set (xs.length - 1 - k) ((revAt xs k)[k]'(by rw [revAt_length]; omega)) = revAt xs (k + 1) := by
  rw [← revAt_succ xs k h]
  have l1 : k < (revAt xs k).length := by rw [revAt_length]; omega
  have l2 : xs.length - 1 - k < (revAt xs k).length := by rw [revAt_length]; omega
  have e1 : (revAt xs k).getD k 0 = (revAt xs k)[k] := by simp [List.getD, l1]
  have e2 : (revAt xs k).getD (xs.length - 1 - k) 0 = (revAt xs k)[xs.length - 1 - k] := by simp [List.getD, l2]
  rw [e1, e2]

set_option maxHeartbeats 400000 in
theorem slices_Reverse_any (B g n c : Nat) (xs : List Int) (w : World) (hn : xs.length = n) (hx : xs.length ≤ 1099511627776) (hown : Own w B g c xs) :
    Calls Tryz.prog 82 #[(Value.slice (some ⟨g, 0, none⟩) n c)] w fun e w' => e = .returned (.tuple #[]) ∧ Own w' B g c xs.reverse ∧ w.grownBy w' (some g) := by
  subst hn
  have e0 : IntKind.i64.wrap ((xs.length : Int) - 1) = (xs.length : Int) - 1 := IntWalk.i64_in _ (by omega)
  go_enter Tryz.func82, Tryz.ntmps82
  go_wp2
  go_loopw [2, 3] (fun i j wr => ∃ k : Nat, 2 * k ≤ xs.length ∧ i = .int .i64 k ∧ j = .int .i64 ((xs.length : Int) - 1 - k) ∧ Own wr B g c (revAt xs k) ∧ w.grownBy wr (some g)) (fun i _ _ => xs.length - (intOf i).toNat)
  case atStart => exact ⟨0, Nat.zero_le _, rfl, by simp, by rw [revAt_zero]; exact hown, World.grownBy.refl _ _⟩
  case round =>
    obtain ⟨k, hk, rfl, rfl, ho, hg⟩ := hrel
    by_cases hlt : 2 * k + 1 < xs.length
    · have l1 : k < (revAt xs k).length := by rw [revAt_length]; omega
      have l2 : xs.length - 1 - k < (revAt xs k).length := by rw [revAt_length]; omega
      have h1 := ho.cell k l1
      have h2 := ho.cell (xs.length - 1 - k) l2
      have f1 := ho.frozen k
      have f2 := ho.frozen (xs.length - 1 - k)
      have i1 : ((xs.length : Int) - 1 - k).toNat = xs.length - 1 - k := by omega
      have i2 : (0 : Int) ≤ (xs.length : Int) - 1 - k := by omega
      have hne : k ≠ xs.length - 1 - k := by omega
      go_wp2
      go_region
      all_goals go_wp2
      all_goals
        go_roundw
        case rel =>
          have hs := ho.set2 k (xs.length - 1 - k) ((revAt xs k)[xs.length - 1 - k]) ((revAt xs k)[k])
          rw [rev_set hlt] at hs
          exact ⟨k + 1, by omega, by go_num, by go_num, hs.1.drew, grown_drew (World.grownBy.trans' hg hs.2)⟩
        case measure => simp [intOf]; omega
    · go_wp2
      go_end0
      rw [revAt_done xs k (by omega)] at ho
      exact ⟨rfl, ho, hg⟩

set_option maxHeartbeats 400000 in
theorem impl_ReverseWord_any (g o n c : Nat) (xs : List Int) (w : World) (hn : xs.length = n) (hx : xs.length ≤ 1099511627776) (hg : g < w.heap.size) (hc : Cells w g o xs) :
    Calls Tryz.prog 62 #[(Value.slice (some ⟨g, o, none⟩) n c)] w (GotInts w xs.reverse) := by
  subst hn
  go_enter Tryz.func62, Tryz.ntmps62
  go_wp2_with (at_builtin; refine wpList_clone rfl _ _ rfl g o _ c xs rfl hg hc rfl rfl hx ?_)
  intro g1 c1 w1 ho hb
  go_wp2_with fail
  refine (slices_Reverse_any _ g1 _ c1 xs _ rfl hx ho).mono ?_
  rintro e w2 ⟨rfl, ho2, hg2⟩
  go_wp2
  go_ret
  exact GotInts.mk' g1 c1 (by simp) ho2 (hb.grown hg2 hb.size (by intro k hk; cases hk; exact ho.base))
end Go.Proofs.YtmjneokgnnbekaaGreatDoor
