/- Vectors of four numbers as keys: vectorOf, list. Sets of vectors that a call keeps in a map: words and laws. A map from written words to bool: the words that a search has met. -/
import Derived.Test.YtjhoimdfmcjkbaaGreatG19
import Derived.Laws.CopyOwn
import Derived.Maps.Own
import Derived.Maps.OwnOps
import Derived.Maps.Views
import Derived.WideKeyArr2
import Derived.DeepKeys4
import Derived.Test.YtjhoimdfmcjkbaaGreatG39
namespace Go.Proofs.YtjhoimdfmcjkbaaGreat
set_option maxRecDepth 100000
open Go.RowKit Game

def vecVal (v : List Int) : Value := .agg #[.int .i64 (v.getD 0 0), .int .i64 (v.getD 1 0), .int .i64 (v.getD 2 0), .int .i64 (v.getD 3 0)]

theorem splice4 (v : List Int) (h : v.length ≤ 4) : splice [Value.int .i64 0, .int .i64 0, .int .i64 0, .int .i64 0] 0 (v.map (Value.int .i64)) = [.int .i64 (v.getD 0 0), .int .i64 (v.getD 1 0), .int .i64 (v.getD 2 0), .int .i64 (v.getD 3 0)] := by
  match v, h with
  | [], _ => rfl
  | [a], _ => rfl
  | [a, b], _ => rfl
  | [a, b, c], _ => rfl
  | [a, b, c, d], _ => rfl
theorem cell4 {w : World} {B : Nat} {a b c d : Value} {t : TypeId} (h : w.heap[B]? = some (.cells #[a, b, c, d] t (0, 0))) :
    (w.cell? ⟨B, 0, none⟩ = some a ∧ w.cell? ⟨B, 1, none⟩ = some b ∧ w.cell? ⟨B, 2, none⟩ = some c ∧ w.cell? ⟨B, 3, none⟩ = some d) ∧ ∀ j, w.frozen? ⟨B, j, none⟩ = false := by
  refine ⟨⟨?_, ?_, ?_, ?_⟩, fun j => ?_⟩ <;> simp [World.cell?, World.frozen?, h]

/-- 'append([]int{}, l...)', the worlds under names -/
theorem wpList_clone_n {w : World} {ops : Array Oper} {rest : List Oper} {o : Oper} {a : Act} {Q : Exit → Act → World → Prop} (hgd : o.guard = none) (s x : Operand)
    (ho : o.op = .call { callee := .builtin .append, args := #[s, x], argTypes := #[23, 23] })
    (w1 W : World) (H g2 o2 n2 c2 : Nat) (ys : List Int) (hn : ys.length = n2) (hW : W = w1.alloc (.cells #[] 3)) (hH : w1.heap.size = H) (hb : Below w.heap.size w w1) (hg : g2 < w1.heap.size) (hc : Cells w1 g2 o2 ys)
    (hs : a.eval s = (Value.slice (some ⟨H, 0, none⟩) 0 0)) (hx : a.eval x = (Value.slice (some ⟨g2, o2, none⟩) n2 c2)) (hlen : ys.length ≤ 1099511627776)
    (h : ∀ g' cap' w', Own w' w.heap.size g' cap' ys → Below w.heap.size w w' → wpList Tryz.prog ops Q rest (a.put o.dst (Value.slice (some ⟨g', 0, none⟩) n2 cap')) w') :
    wpList Tryz.prog ops Q (o :: rest) a W := by
  subst hW; subst hH
  exact wpList_clone hgd s x ho g2 o2 n2 c2 ys hn hg hc hs hx hlen fun g' cap' w' h1 h2 => h g' cap' w' (h1.mono hb.size) (hb.trans (h2.mono hb.size))

theorem cells_of4 {w : World} {B : Nat} {v : List Int} {t : TypeId} (h4 : v.length ≤ 4) (h : w.heap[B]? = some (.cells #[.int .i64 (v.getD 0 0), .int .i64 (v.getD 1 0), .int .i64 (v.getD 2 0), .int .i64 (v.getD 3 0)] t (0, 0))) : Cells w B 0 v := by
  obtain ⟨⟨a0, a1, a2, a3⟩, -⟩ := cell4 h
  intro j hj
  have : j = 0 ∨ j = 1 ∨ j = 2 ∨ j = 3 := by omega
  rcases this with rfl | rfl | rfl | rfl
  · exact a0
  · exact a1
  · exact a2
  · exact a3
end Go.Proofs.YtjhoimdfmcjkbaaGreat
namespace Go.Proofs.YtjhoimdfmcjkbaaGreat
set_option maxRecDepth 100000
open Go.RowKit Game
open Go.Maps (Keyed IsMap)

theorem vecLaidOut : laidOutB Tryz.prog = true := by kernel_rfl
theorem boolZero (w : World) : (zeroValue 4).run Tryz.prog w = .ok (.bool false) w := by kernel_rfl
def WfV (v : List Int) : Prop := ∀ j, j < 4 → (Lit.int .i64 (v.getD j 0)).wf = true
def keyL (v : List Int) : Lit := .string (keyBytes [.int .i64 (v.getD 0 0), .int .i64 (v.getD 1 0), .int .i64 (v.getD 2 0), .int .i64 (v.getD 3 0)])
theorem vecVal_inj {v u : List Int} (hl : v.length = u.length) (h4 : v.length ≤ 4) (h : vecVal v = vecVal u) : v = u := by
  unfold vecVal at h
  simp at h
  obtain ⟨h0, h1, h2, h3⟩ := h
  apply List.ext_getElem hl
  intro i hi hi'
  have : i = 0 ∨ i = 1 ∨ i = 2 ∨ i = 3 := by omega
  rcases this with rfl | rfl | rfl | rfl <;> simp_all
section
variable {w w' : World} {b n m : Nat} {ks : List (List Int)}
theorem plainElem_bool_inv {P : Program} {e : TypeId} (he : P.underlying e = some .bool) {v : Value} {z : DataW Unit × List MemPlace} (h : plainElem P e v = some z) : ∃ x, v = .bool x ∧ z = (.lit (.bool x), []) := by
  unfold plainElem at h
  rw [he] at h
  cases v <;> simp at h
  subst h
  exact ⟨_, rfl, rfl⟩
end
end Go.Proofs.YtjhoimdfmcjkbaaGreat
namespace Go.Proofs.YtjhoimdfmcjkbaaGreat
set_option maxRecDepth 100000
open Go.RowKit
open Go.Maps (Keyed IsMap has)

structure FewW (v : List Int) : Prop where
  inw : InW v
  few : v.length ≤ 15
theorem wordL_len {v : List Int} (h : FewW v) : (wordL v).length ≤ 15 := by
  have := h.few
  unfold wordL
  split
  · simp
  · split
    · unfold digs; simp; omega
    · simp
theorem digs_inj : ∀ {a b : List Int}, InW a → InW b → digs a = digs b → a = b
  | [], [], _, _, _ => rfl
  | [], _ :: _, _, _, h => by simp [digs] at h
  | _ :: _, [], _, _, h => by simp [digs] at h
  | x :: a, y :: b, ha, hb, h => by
    have hx := ha x (by simp)
    have hy := hb y (by simp)
    simp only [digs, List.map_cons, List.cons.injEq] at h
    obtain ⟨h1, h2⟩ := h
    have e1 := u8_int (49 + (x.toNat : Int)) (by omega) (by omega)
    have e2 := u8_int (49 + (y.toNat : Int)) (by omega) (by omega)
    rw [show (49 + (x.toNat : Int)).toNat = 49 + x.toNat by omega] at e1
    rw [show (49 + (y.toNat : Int)).toNat = 49 + y.toNat by omega] at e2
    rw [h1] at e1
    have e3 : x = y := by omega
    subst e3
    rw [digs_inj (fun z hz => ha z (by simp [hz])) (fun z hz => hb z (by simp [hz])) h2]
theorem wordL_inj {a b : List Int} (ha : InW a) (hb : InW b) (h : wordL a = wordL b) : a = b := by
  have key : ∀ {x : List Int}, InW x → x ≠ [] → wordL x ≠ [101] := by
    intro x hx hne e
    unfold wordL at e
    rw [if_neg (by cases x with | nil => exact absurd rfl hne | cons _ _ => simp), if_pos hx] at e
    cases x with
    | nil => exact hne rfl
    | cons y x =>
      have hy := hx y (by simp)
      simp only [digs, List.map_cons, List.cons.injEq] at e
      have e1 := u8_int (49 + (y.toNat : Int)) (by omega) (by omega)
      rw [show (49 + (y.toNat : Int)).toNat = 49 + y.toNat by omega, e.1] at e1
      have : ((101 : UInt8).toNat : Int) = 101 := rfl
      omega
  cases a with
  | nil =>
    cases b with
    | nil => rfl
    | cons y b => exact absurd h.symm (key hb (by simp))
  | cons x a =>
    cases b with
    | nil => exact absurd h (key ha (by simp))
    | cons y b =>
      have e1 : wordL (x :: a) = digs (x :: a) := by unfold wordL; rw [if_neg (by rw [List.length_cons]; omega), if_pos ha]
      have e2 : wordL (y :: b) = digs (y :: b) := by unfold wordL; rw [if_neg (by rw [List.length_cons]; omega), if_pos hb]
      rw [e1, e2] at h
      exact digs_inj ha hb h

theorem strLawW : WideMaps.KeyLaw Tryz.prog 9 := WideMaps.string_law Tryz.underlying9
theorem strKeyedW : Keyed Tryz.prog 9 := Keyed.of_law strLawW
theorem keyOf_word {v : List Int} (h : FewW v) : keyOf Tryz.prog 9 (.string ⟨(wordL v).toArray⟩) = some (.string (wordL v)) := by
  have := WideMaps.keyOf_string_mk (P := Tryz.prog) (s := ⟨(wordL v).toArray⟩) Tryz.underlying9 (by have := wordL_len h; simp [ByteArray.size]; unfold maxLen; omega)
  simpa using this
def SeenW (w : World) (b n : Nat) (L : List (List Int)) : Prop :=
  ∃ D : DataW Unit, w.ownsMap Tryz.prog 9 (plainElem Tryz.prog 4) b n D ∧ IsMap D ∧ ∀ v : List Int, FewW v → D.atKey (.string (wordL v)) (.lit (.bool false)) = .lit (.bool (decide (v ∈ L)))
section
variable {w w' : World} {b n : Nat} {L : List (List Int)}
theorem SeenW.start (w : World) : SeenW (w.alloc (.map #[] 0)) w.heap.size 0 [] :=
  ⟨.map [], World.ownsMap_made _ _ _ _, ⟨[], rfl⟩, fun v _ => by simp [DataW.atKey]⟩
theorem SeenW.lt (h : SeenW w b n L) : b < w.heap.size := by obtain ⟨D, h, -⟩ := h; exact h.lt
theorem SeenW.same (h : SeenW w b n L) (hs : w'.heap[b]? = w.heap[b]?) : SeenW w' b n L := by
  obtain ⟨D, ⟨es, clock, hh, r⟩, h2⟩ := h
  exact ⟨D, ⟨es, clock, hs.trans hh, r⟩, h2⟩
theorem SeenW.below {B : Nat} (h : SeenW w b n L) (hb : Below B w w') (hB : b < B) : SeenW w' b n L := h.same (hb.block b hB)
theorem SeenW.still (h : SeenW w b n L) (hs : ∃ k, w' = w.drewN k) : SeenW w' b n L := by obtain ⟨k, rfl⟩ := hs; exact h
theorem SeenW.block (h : SeenW w b n L) : ∃ es clock, w.heap[b]? = some (.map es clock) := by
  obtain ⟨D, ⟨es, clock, hh, r⟩, h2⟩ := h
  exact ⟨es, clock, hh⟩
theorem SeenW.neCells {g : Nat} {cur : Array Value} {E : TypeId} {q : Nat × Nat} (h : SeenW w b n L) (ho : w.heap[g]? = some (.cells cur E q)) : b ≠ g := by
  rintro rfl
  obtain ⟨es, clock, hh⟩ := h.block
  rw [hh] at ho
  simp at ho
theorem seenW_put {D : DataW Unit} {v : List Int} (hv : FewW v) (hmap : IsMap D) (hat : ∀ v : List Int, FewW v → D.atKey (.string (wordL v)) (.lit (.bool false)) = .lit (.bool (decide (v ∈ L)))) :
    ∀ u : List Int, FewW u → (D.put (.string (wordL v)) (.lit (.bool true))).atKey (.string (wordL u)) (.lit (.bool false)) = .lit (.bool (decide (u ∈ L ++ [v]))) := by
  intro u hu
  by_cases e : u = v
  · subst e
    rw [Maps.atKey_put_same hmap (strKeyedW.key (keyOf_word hv))]
    simp
  · have hne : Lit.string (wordL u) ≠ .string (wordL v) := fun h => e (wordL_inj hu.inw hv.inw (by injection h))
    rw [Maps.atKey_put_other hne, hat u hu]
    simp [e]
/-- 'seen[s]' -/
theorem wpList_seenW_look {ops : Array Oper} {rest : List Oper} {o : Oper} {a : Act} {Q : Exit → Act → World → Prop}
    (hg : o.guard = none) (x y : Operand) (hop : o.op = Op.lookup 51 x y false) (b n : Nat) (L : List (List Int)) (v : List Int) (hv : FewW v)
    (hown : SeenW w b n L) (hx : a.eval x = .map (some b)) (hy : a.eval y = .string ⟨(wordL v).toArray⟩) (r : Bool) (hr : decide (v ∈ L) = r)
    (hK : wpList Tryz.prog ops Q rest (a.put o.dst (.bool r)) w) :
    wpList Tryz.prog ops Q (o :: rest) a w := by
  refine wpList_plain hg fun K' hK' => ?_
  obtain ⟨D, hD, -, hat⟩ := hown
  obtain ⟨u, ps, hrun, hu⟩ := hD.lookup strKeyedW Tryz.underlying51 (boolZero w) (plainElem_bool (H := Unit) Tryz.underlying4 false) (keyOf_word hv)
  obtain ⟨z, rfl, hz⟩ := plainElem_bool_inv Tryz.underlying4 hu
  rw [hat v hv] at hz
  simp at hz
  unfold Oper.wp
  simp [execOp, hop, hx, hy, hrun, Result.andThen]
  rw [← hz.1, hr]
  exact hK' _ _ hK
/-- 'seen[s] = true' -/
theorem wpList_seenW_put {ops : Array Oper} {rest : List Oper} {o : Oper} {a : Act} {Q : Exit → Act → World → Prop}
    (hg : o.guard = none) (x y z : Operand) (hop : o.op = Op.mapUpdate 51 x y z) (b n : Nat) (L : List (List Int)) (v : List Int) (hv : FewW v)
    (hown : SeenW w b n L) (hn : n < 1048576) (hx : a.eval x = .map (some b)) (hy : a.eval y = .string ⟨(wordL v).toArray⟩) (hz : a.eval z = .bool true)
    (hK : ∀ w', SeenW w' b (n + 1) (L ++ [v]) → w.grownBy w' (some b) → wpList Tryz.prog ops Q rest (a.put o.dst undef) w') :
    wpList Tryz.prog ops Q (o :: rest) a w := by
  obtain ⟨D, hD, hmap, hat⟩ := hown
  refine wpList_mapUpdate_own w hg x y z _ hop _ _ strKeyedW Tryz.underlying51 _ b n D hx hD (by unfold maxLen; omega) _ _ (.string (wordL v)) hy hz (keyOf_word hv) _ [] (plainElem_bool (H := Unit) Tryz.underlying4 true) ?_
  intro w' hown' hgr
  refine hK w' ⟨_, hown', ?_, seenW_put hv hmap hat⟩ hgr
  obtain ⟨es, rfl⟩ := hmap
  exact ⟨_, rfl⟩
/-- 'map[string]bool{s: true}' -/
theorem wpList_seenW_insert {ops : Array Oper} {rest : List Oper} {o : Oper} {a : Act} {Q : Exit → Act → World → Prop}
    (hg : o.guard = none) (x y z : Operand) (hop : o.op = Op.insert 51 x y z) (b n : Nat) (L : List (List Int)) (v : List Int) (hv : FewW v)
    (hown : SeenW w b n L) (hn : n < 1048576) (hx : a.eval x = .map (some b)) (hy : a.eval y = .string ⟨(wordL v).toArray⟩) (hz : a.eval z = .bool true)
    (hK : ∀ w', SeenW w' b (n + 1) (L ++ [v]) → w.grownBy w' (some b) → wpList Tryz.prog ops Q rest (a.put o.dst undef) w') :
    wpList Tryz.prog ops Q (o :: rest) a w := by
  obtain ⟨D, hD, hmap, hat⟩ := hown
  refine wpList_plain hg fun K' hK' => ?_
  obtain ⟨w', hrun, r1, r2⟩ := hD.update strKeyedW Tryz.underlying51 (by unfold maxLen; omega) (keyOf_word hv) (plainElem_bool (H := Unit) Tryz.underlying4 true)
  unfold Oper.wp
  simp [execOp, hop, hx, hy, hz, hrun, Result.andThen]
  refine hK' _ _ (hK w' ⟨_, r1, ?_, seenW_put hv hmap hat⟩ r2)
  obtain ⟨es, rfl⟩ := hmap
  exact ⟨_, rfl⟩
end
end Go.Proofs.YtjhoimdfmcjkbaaGreat
