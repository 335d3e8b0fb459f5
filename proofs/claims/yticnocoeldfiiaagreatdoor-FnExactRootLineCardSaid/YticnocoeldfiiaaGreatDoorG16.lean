/- Sets of vectors that a call keeps in a map: words and laws. New rows and a bool; small laws of sets of vectors. -/
import Derived.Test.YticnocoeldfiiaaGreatDoorG15
import Derived.Maps.Own
import Derived.Maps.OwnOps
import Derived.Maps.Views
import Derived.WideKeyArr2
import Derived.DeepKeys4
import Derived.Test.YticnocoeldfiiaaGreatDoorG08
import Derived.Test.YticnocoeldfiiaaGreatDoorG07
namespace Go.Proofs.YticnocoeldfiiaaGreatDoor
open Go.RowKit Game
open Go.Maps (Keyed IsMap)

theorem vecLaidOut : laidOutB Tryz.prog = true := by kernel_rfl
theorem vecRow : (73 : TypeId) < Tryz.prog.types.size := of_decide_eq_true (by kernel_rfl)
theorem vecLaw : WideMaps.KeyLaw Tryz.prog 73 := deep_law_laid vecLaidOut (m := 2) (by omega) vecRow (by kernel_rfl) (by rw [Tryz.underlying73])
theorem vecKeyed : Keyed Tryz.prog 73 := Keyed.of_law vecLaw
theorem vecArr : WideMaps.ArrKey Tryz.prog 73 3 4 := ⟨Tryz.underlying73, by kernel_rfl, by kernel_rfl, by kernel_rfl⟩
theorem boolZero (w : World) : (zeroValue 4).run Tryz.prog w = .ok (.bool false) w := by kernel_rfl
theorem typesPos : ∃ m, Tryz.prog.types.size = m + 1 := by
  have h : 0 < Tryz.prog.types.size := Nat.lt_of_le_of_lt (Nat.zero_le _) vecRow
  generalize Tryz.prog.types.size = k at h
  exact ⟨k - 1, by omega⟩

def WfV (v : List Int) : Prop := ∀ j, j < 4 → (Lit.int .i64 (v.getD j 0)).wf = true
def keyL (v : List Int) : Lit := .string (keyBytes [.int .i64 (v.getD 0 0), .int .i64 (v.getD 1 0), .int .i64 (v.getD 2 0), .int .i64 (v.getD 3 0)])
theorem keyOf_vec {v : List Int} (h : WfV v) : keyOf Tryz.prog 73 (vecVal v) = some (keyL v) := by
  have hkt := vecArr.keyType typesPos
  obtain ⟨m, hm⟩ := typesPos
  have h0 := h 0 (by omega)
  have h1 := h 1 (by omega)
  have h2 := h 2 (by omega)
  have h3 := h 3 (by omega)
  unfold vecVal keyL
  generalize v.getD 0 0 = x0 at *
  generalize v.getD 1 0 = x1 at *
  generalize v.getD 2 0 = x2 at *
  generalize v.getD 3 0 = x3 at *
  unfold keyOf
  simp only [vecArr.hu]
  rw [if_pos (by simp [hkt, Value.formed, vecArr.hu, vecArr.size]), hm]
  unfold Program.keyLits
  simp only [vecArr.hu, Value.cells]
  rw [if_pos (by rw [vecArr.size]; rfl), show List.range 4 = [0, 1, 2, 3] from rfl, List.mapM_cons, List.mapM_cons, List.mapM_cons, List.mapM_cons, List.mapM_nil]
  simp [vecArr.one, Program.keyLits, Tryz.underlying3, h0, h1, h2, h3]
theorem vecVal_inj {v u : List Int} (hl : v.length = u.length) (h4 : v.length ≤ 4) (h : vecVal v = vecVal u) : v = u := by
  unfold vecVal at h
  simp at h
  obtain ⟨h0, h1, h2, h3⟩ := h
  apply List.ext_getElem hl
  intro i hi hi'
  have : i = 0 ∨ i = 1 ∨ i = 2 ∨ i = 3 := by omega
  rcases this with rfl | rfl | rfl | rfl <;> simp_all
theorem keyL_inj {v u : List Int} (hv : WfV v) (hu : WfV u) (hl : v.length = u.length) (h4 : v.length ≤ 4) (h : keyL v = keyL u) : v = u :=
  vecVal_inj hl h4 (vecKeyed.inj (keyOf_vec hv) (by rw [h]; exact keyOf_vec hu))

/-- block b is a map that holds just these vectors of m numbers -/
def SeenM (w : World) (b n m : Nat) (ks : List (List Int)) : Prop :=
  ∃ D : DataW Unit, w.ownsMap Tryz.prog 73 (plainElem Tryz.prog 4) b n D ∧ IsMap D ∧ ∀ v : List Int, v.length = m → WfV v → D.atKey (keyL v) (.lit (.bool false)) = .lit (.bool (decide (v ∈ ks)))
section
variable {w w' : World} {b n m : Nat} {ks : List (List Int)}
theorem SeenM.start (w : World) (m : Nat) : SeenM (w.alloc (.map #[] 0)) w.heap.size 0 m [] :=
  ⟨.map [], World.ownsMap_made _ _ _ _, ⟨[], rfl⟩, fun v _ _ => by simp [DataW.atKey]⟩
theorem SeenM.lt (h : SeenM w b n m ks) : b < w.heap.size := by obtain ⟨D, h, -⟩ := h; exact h.lt
theorem SeenM.grown {row : Option Nat} (h : SeenM w b n m ks) (hg : w.grownBy w' row) (hne : some b ≠ row) : SeenM w' b n m ks := by
  obtain ⟨D, h, h2⟩ := h; exact ⟨D, h.kept hg hne, h2⟩
theorem SeenM.below {B : Nat} (h : SeenM w b n m ks) (hb : Below B w w') (hB : b < B) : SeenM w' b n m ks := by
  obtain ⟨D, ⟨es, clock, hh, r⟩, h2⟩ := h
  exact ⟨D, ⟨es, clock, (hb.block b hB).trans hh, r⟩, h2⟩
theorem SeenM.still (h : SeenM w b n m ks) (hs : ∃ k, w' = w.drewN k) : SeenM w' b n m ks := by obtain ⟨k, rfl⟩ := hs; exact h
theorem plainElem_bool_inv {P : Program} {e : TypeId} (he : P.underlying e = some .bool) {v : Value} {z : DataW Unit × List MemPlace} (h : plainElem P e v = some z) : ∃ x, v = .bool x ∧ z = (.lit (.bool x), []) := by
  unfold plainElem at h
  rw [he] at h
  cases v <;> simp at h
  subst h
  exact ⟨_, rfl, rfl⟩
/-- 'seen[key]' -/
theorem wpList_seen_lookup {ops : Array Oper} {rest : List Oper} {o : Oper} {a : Act} {Q : Exit → Act → World → Prop}
    (hg : o.guard = none) (x y : Operand) (hop : o.op = Op.lookup 71 x y false) (b n m : Nat) (ks : List (List Int)) (v : List Int) (hv : v.length = m) (hw : WfV v)
    (hown : SeenM w b n m ks) (hx : a.eval x = .map (some b)) (hy : a.eval y = vecVal v) (r : Bool) (hr : decide (v ∈ ks) = r)
    (hK : wpList Tryz.prog ops Q rest (a.put o.dst (.bool r)) w) :
    wpList Tryz.prog ops Q (o :: rest) a w := by
  refine wpList_plain hg fun K' hK' => ?_
  obtain ⟨D, hD, -, hat⟩ := hown
  obtain ⟨u, ps, hrun, hu⟩ := hD.lookup vecKeyed Tryz.underlying71 (boolZero w) (plainElem_bool (H := Unit) Tryz.underlying4 false) (keyOf_vec hw)
  obtain ⟨z, rfl, hz⟩ := plainElem_bool_inv Tryz.underlying4 hu
  rw [hat v hv hw] at hz
  simp at hz
  unfold Oper.wp
  simp [execOp, hop, hx, hy, hrun, Result.andThen]
  rw [← hz.1, hr]
  exact hK' _ _ hK
/-- 'seen[key] = true' -/
theorem wpList_seen_put {ops : Array Oper} {rest : List Oper} {o : Oper} {a : Act} {Q : Exit → Act → World → Prop}
    (hg : o.guard = none) (x y z : Operand) (hop : o.op = Op.mapUpdate 71 x y z) (b n m : Nat) (ks : List (List Int)) (v : List Int) (hv : v.length = m) (h4 : m ≤ 4) (hw : WfV v)
    (hown : SeenM w b n m ks) (hn : n < 1048576) (hx : a.eval x = .map (some b)) (hy : a.eval y = vecVal v) (hz : a.eval z = .bool true)
    (hK : ∀ w', SeenM w' b (n + 1) m (ks ++ [v]) → w.grownBy w' (some b) → wpList Tryz.prog ops Q rest (a.put o.dst undef) w') :
    wpList Tryz.prog ops Q (o :: rest) a w := by
  obtain ⟨D, hD, hmap, hat⟩ := hown
  refine wpList_mapUpdate_own w hg x y z _ hop _ _ vecKeyed Tryz.underlying71 _ b n D hx hD (by unfold maxLen; omega) _ _ (keyL v) hy hz (keyOf_vec hw) _ [] (plainElem_bool (H := Unit) Tryz.underlying4 true) ?_
  intro w' hown' hgr
  refine hK w' ⟨_, hown', ?_, fun u hu hwu => ?_⟩ hgr
  · obtain ⟨es, rfl⟩ := hmap
    exact ⟨_, rfl⟩
  · by_cases e : u = v
    · subst e
      rw [Maps.atKey_put_same hmap (vecKeyed.key (keyOf_vec hw))]
      simp
    · have hne : keyL u ≠ keyL v := fun h => e (keyL_inj hwu hw (by omega) (by omega) h)
      rw [Maps.atKey_put_other hne, hat u hu hwu]
      simp [e]
end
end Go.Proofs.YticnocoeldfiiaaGreatDoor
namespace Go.Proofs.YticnocoeldfiiaaGreatDoor
open Go.RowKit Game

theorem SeenM.neOwn {w : World} {b n m g cap B : Nat} {ks : List (List Int)} {xs : List Int} (h : SeenM w b n m ks) (ho : Own w B g cap xs) : b ≠ g := by
  rintro rfl
  obtain ⟨D, ⟨es, clock, hh, -⟩, -⟩ := h
  obtain ⟨cur, h2, -⟩ := ho.toV.row
  rw [hh] at h2
  simp at h2
theorem wfV_refl (c : List (List Int)) (i : Nat) (v : List Int) : WfV (refl c i v) := by
  intro j _
  by_cases h : j < v.length
  · have e : (refl c i v).getD j 0 = reflAt c i v j := by simp [refl, List.getD, h]
    rw [e]; exact wrap64_wf _
  · have e : (refl c i v).getD j 0 = 0 := by simp [refl, List.getD, h]
    rw [e]; decide
/-- new rows and a bool -/
def GotRowsB (w : World) (rows : List (List Int)) (b : Bool) (e : Ending) (w' : World) : Prop :=
  ∃ g cap rs, e = .returned (.tuple #[(Value.slice (some ⟨g, 0, none⟩) rows.length cap), .bool b]) ∧ contents rs = rows ∧ OwnRows w' w.heap.size g cap rs ∧ Below w.heap.size w w'
theorem GotRowsB.mk' {w w' : World} {rows : List (List Int)} {b : Bool} {n : Nat} (g cap : Nat) (rs : List RowRef) (hl : rs.length = n) (hc : contents rs = rows) (ho : OwnRows w' w.heap.size g cap rs) (hb : Below w.heap.size w w') :
    GotRowsB w rows b (.returned (.tuple #[(Value.slice (some ⟨g, 0, none⟩) n cap), .bool b])) w' := by
  subst hl; subst hc
  exact ⟨g, cap, rs, by rw [contents_length], rfl, ho, hb⟩
theorem start_rows (w : World) : OwnRows ((w.alloc (.cells #[] 3)).alloc (.cells #[(Value.slice (some ⟨w.heap.size, 0, none⟩) 0 0)] 28)) w.heap.size (w.heap.size + 1) 1 [(w.heap.size, 0, [])] := by
  have h1 : Own (w.alloc (.cells #[] 3)) w.heap.size w.heap.size 0 [] := Own.empty (w := w) (Nat.le_refl _)
  have h2 : OwnV ((w.alloc (.cells #[] 3)).alloc (.cells #[(Value.slice (some ⟨w.heap.size, 0, none⟩) 0 0)] 28)) w.heap.size 28 (w.heap.size + 1) 1 [(Value.slice (some ⟨w.heap.size, 0, none⟩) 0 0)] := by
    have := OwnV.new (w := w.alloc (.cells #[] 3)) (B := w.heap.size) (E := 28) (Value.slice (some ⟨w.heap.size, 0, none⟩) 0 0) rfl (by simp)
    simpa using this
  exact ⟨h2, ⟨fun r hr => by rw [List.mem_singleton] at hr; subst hr; exact h1.alloc _, by simp⟩⟩
theorem GotRowsB.held {w w' : World} {rows : List (List Int)} {b : Bool} {e : Ending} (h : GotRowsB w rows b e w') :
    ∃ g cap, e = .returned (.tuple #[(Value.slice (some ⟨g, 0, none⟩) rows.length cap), .bool b]) ∧ HeldR w' w.heap.size w'.heap.size g cap rows ∧ Below w.heap.size w w' := by
  obtain ⟨g, cap, rs, he, hc, ho, hb⟩ := h
  exact ⟨g, cap, he, ⟨rs, hc, ho, ho.lt, fun r hr => (ho.2.1 r hr).lt⟩, hb⟩
theorem rowsFew_of {rows : List (List Int)} (h1 : rows.length ≤ 200) (h2 : ∀ x ∈ rows, x.length ≤ 15) : rowsFew rows := by
  have h3 : ∀ j, j < rows.length → (rows.getD j []).length ≤ 15 := fun j hj => h2 _ (by simp [List.getD, hj])
  refine ⟨by omega, fun j hj => by have := h3 j hj; omega, ?_⟩
  have : ∀ k, k ≤ rows.length → sumLen rows k ≤ 15 * k := by
    intro k
    induction k with
    | zero => intro _; simp [sumLen]
    | succ k ih =>
      intro hk
      rw [sumLen_succ _ _ (by omega)]
      have := h3 k (by omega)
      have := ih (by omega)
      omega
  have := this rows.length (Nat.le_refl _)
  omega
end Go.Proofs.YticnocoeldfiiaaGreatDoor
