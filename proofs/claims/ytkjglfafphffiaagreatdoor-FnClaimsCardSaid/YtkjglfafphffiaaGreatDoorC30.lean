/- StepK SeenS Rev -/
import Derived.Test.YtkjglfafphffiaaGreatDoorC02
import Derived.Test.YtkjglfafphffiaaGreatDoorC24
import Derived.Test.YtkjglfafphffiaaGreatDoorC03
import Derived.Test.YtkjglfafphffiaaGreatDoorC07
import Derived.Test.YtkjglfafphffiaaGreatDoorC00
namespace Go.Proofs.YtkjglfafphffiaaGreatDoor
set_option maxRecDepth 100000
open Go.RowKit
abbrev StRef := RowRef × Int × Int
def step3 (s : StRef) : List Value := [rowVal s.1, .int .i64 s.2.1, .int .i64 s.2.2]
def flatT (ss : List StRef) : List Value := ss.flatMap step3
def stD : StRef := ((0, 0, []), 0, 0)
theorem infoStep : (Tryz.prog.info? 73).map (fun i => (i.zero, i.size, i.bytes)) = some (some (.agg #[.slice none 0 0, .int .i64 0, .int .i64 0]), 3, 40) := by kernel_rfl
theorem flatT_length (ss : List StRef) : (flatT ss).length = ss.length * 3 := by
  induction ss with
  | nil => rfl
  | cons v vs ih => unfold flatT at *; simp only [List.flatMap_cons, List.length_append, ih, List.length_cons]; simp [step3]; omega
theorem flatT_append (a b : List StRef) : flatT (a ++ b) = flatT a ++ flatT b := by simp [flatT]
theorem flatT_at {ss : List StRef} {j : Nat} (hj : j < ss.length) : (flatT ss)[j * 3]? = some (rowVal (ss.getD j stD).1) ∧ (flatT ss)[j * 3 + 1]? = some (.int .i64 (ss.getD j stD).2.1) ∧ (flatT ss)[j * 3 + 2]? = some (.int .i64 (ss.getD j stD).2.2) := by
  induction ss generalizing j with
  | nil => simp at hj
  | cons v vs ih =>
    unfold flatT at *
    simp only [List.flatMap_cons]
    cases j with
    | zero => exact ⟨rfl, rfl, rfl⟩
    | succ j =>
      have := ih (j := j) (by simpa using hj)
      rw [List.getElem?_append_right (by simp [step3]; omega), List.getElem?_append_right (by simp [step3]; omega), List.getElem?_append_right (by simp [step3]; omega)]
      have e1 : (j + 1) * 3 - (step3 v).length = j * 3 := by simp [step3]; omega
      have e2 : (j + 1) * 3 + 1 - (step3 v).length = j * 3 + 1 := by simp [step3]; omega
      have e3 : (j + 1) * 3 + 2 - (step3 v).length = j * 3 + 2 := by simp [step3]; omega
      have e4 : (v :: vs).getD (j + 1) stD = vs.getD j stD := by simp [List.getD]
      rw [e1, e2, e3, e4]
      exact this
def OwnT (w : World) (B g cap : Nat) (ss : List StRef) : Prop := OwnK w B 73 3 g cap ss.length (flatT ss) ∧ ∀ s ∈ ss, Own w B s.1.1 s.1.2.1 s.1.2.2
section
variable {w w' : World} {B g cap : Nat} {ss : List StRef}
theorem OwnT.lt (h : OwnT w B g cap ss) : g < w.heap.size := OwnK.lt h.1
theorem OwnT.base (h : OwnT w B g cap ss) : B ≤ g := OwnK.base h.1
theorem OwnT.below (h : OwnT w B g cap ss) (hb : Below w.heap.size w w') : OwnT w' B g cap ss := ⟨OwnK.below h.1 hb h.lt, fun s hs => (h.2 s hs).below hb (h.2 s hs).lt⟩
theorem OwnT.still (h : OwnT w B g cap ss) (hs : ∃ n, w' = w.drewN n) : OwnT w' B g cap ss := by obtain ⟨n, rfl⟩ := hs; exact h
theorem OwnT.grown {k : Nat} (h : OwnT w B g cap ss) (hg : w.grownBy w' (some k)) (h1 : g ≠ k) (h2 : ∀ s ∈ ss, s.1.1 ≠ k) : OwnT w' B g cap ss :=
  ⟨OwnK.grown h.1 hg (fun e => h1 (Option.some.inj e)), fun s hs => (h.2 s hs).grown hg (fun e => h2 s hs (Option.some.inj e))⟩
theorem OwnT.row (h : OwnT w B g cap ss) : ∃ cur, w.heap[g]? = some (.cells cur 73 (0, 0)) := by obtain ⟨cur, h1, -⟩ := OwnK.row h.1; exact ⟨cur, h1⟩
theorem OwnT.ne (h : OwnT w B g cap ss) {B2 g2 c2 : Nat} {xs : List Int} (ho : Own w B2 g2 c2 xs) : g ≠ g2 := OwnK.neV h.1 ho.toV (by decide)
theorem OwnT.cell (h : OwnT w B g cap ss) {j : Nat} (hj : j < ss.length) : w.cell? ⟨g, j * 3, none⟩ = some (rowVal (ss.getD j stD).1) ∧ w.cell? ⟨g, j * 3 + 1, none⟩ = some (.int .i64 (ss.getD j stD).2.1) ∧ w.cell? ⟨g, j * 3 + 2, none⟩ = some (.int .i64 (ss.getD j stD).2.2) := by
  have hl1 : j * 3 < (flatT ss).length := by rw [flatT_length]; omega
  have hl2 : j * 3 + 1 < (flatT ss).length := by rw [flatT_length]; omega
  have hl3 : j * 3 + 2 < (flatT ss).length := by rw [flatT_length]; omega
  obtain ⟨h1, h2, h3⟩ := flatT_at hj
  rw [OwnK.cell h.1 _ hl1, OwnK.cell h.1 _ hl2, OwnK.cell h.1 _ hl3, ← h1, ← h2, ← h3, List.getElem?_eq_getElem hl1, List.getElem?_eq_getElem hl2, List.getElem?_eq_getElem hl3]
  exact ⟨rfl, rfl, rfl⟩
theorem OwnT.mem {j : Nat} (hj : j < ss.length) : ss.getD j stD ∈ ss := by simp [List.getD, hj]
theorem OwnT.one (s : StRef) (hB : B ≤ w.heap.size) (hs : Own w B s.1.1 s.1.2.1 s.1.2.2) : OwnT (w.alloc (.cells #[rowVal s.1, .int .i64 s.2.1, .int .i64 s.2.2] 73)) B w.heap.size 1 [s] :=
  ⟨World.ownsRow_lit w #[rowVal s.1, .int .i64 s.2.1, .int .i64 s.2.2] 1 hB (by decide) rfl, fun t ht => by rw [List.mem_singleton] at ht; subst ht; exact hs.alloc _⟩
theorem wpList_append_step {ops : Array Oper} {rest : List Oper} {o : Oper} {a : Act} {Q : Exit → Act → World → Prop} (hgd : o.guard = none) (s x : Operand)
    (ho : o.op = .call { callee := .builtin .append, args := #[s, x], argTypes := #[74, 74] })
    (B g cap n H gy ly cy : Nat) (ss : List StRef) (y : List Int) (fr pl : Int) (w W : World) (hn : ss.length = n) (hly : y.length = ly) (hW : W = w.alloc (.cells #[(Value.slice (some ⟨gy, 0, none⟩) ly cy), .int .i64 fr, .int .i64 pl] 73)) (hH : w.heap.size = H) (hown : OwnT w B g cap ss) (hy : Own w B gy cy y)
    (hs : a.eval s = (Value.slice (some ⟨g, 0, none⟩) n cap)) (hx : a.eval x = (Value.slice (some ⟨H, 0, none⟩) 1 1)) (hlen : n + 1 ≤ 1048576)
    (h : ∀ g' cap' w', OwnT w' B g' cap' (ss ++ [((gy, cy, y), fr, pl)]) → w.grownBy w' (some g) → (g' = g ∨ w.heap.size < g') → wpList Tryz.prog ops Q rest (a.put o.dst (Value.slice (some ⟨g', 0, none⟩) (n + 1) cap')) w') :
    wpList Tryz.prog ops Q (o :: rest) a W := by
  subst hn; subst hW; subst hH; subst hly
  have hnew := OwnT.one (w := w) (B := B) ((gy, cy, y), fr, pl) (by have := hown.base; have := hown.lt; omega) hy
  refine wpList_append_K infoStep Tryz.underlying74 rfl (by decide) (by decide) hgd s x ho B g cap ss.length (flatT ss) (OwnK.alloc hown.1 _) w.heap.size 0 1 1 (step3 ((gy, cy, y), fr, pl)) rfl ?_ ?_ hs hx hlen ?_
  · intro j u hu
    have hj : j < 3 := by have := (List.getElem?_eq_some_iff.1 hu).1; simpa [step3] using this
    obtain ⟨h1, h2, h3⟩ := hnew.cell (j := 0) (by simp)
    rw [Nat.zero_mul] at h1 h2 h3
    have : j = 0 ∨ j = 1 ∨ j = 2 := by omega
    rcases this with rfl | rfl | rfl
    · rw [Nat.zero_add]; exact h1.trans hu
    · exact h2.trans hu
    · exact h3.trans hu
  · intro u hu
    simp [step3] at hu
    rcases hu with rfl | rfl | rfl <;> rfl
  · intro g' cap' w' h2 h3 h4
    have hg : w.grownBy w' (some g) := ⟨h3.os, h3.tape, h3.output, Nat.le_trans (by simp) h3.size, fun k hk hne => (h3.block k (by simp; omega) hne).trans (Below.heap_alloc _ _ _ hk)⟩
    refine h g' cap' w' ⟨?_, fun t ht => ?_⟩ hg (h4.imp id (by simp; omega))
    · rw [flatT_append, List.length_append]
      have e : flatT [((gy, cy, y), fr, pl)] = step3 ((gy, cy, y), fr, pl) := by simp [flatT]
      rw [e]
      exact h2
    · rcases List.mem_append.1 ht with q | q
      · exact (hown.2 t q).grown hg (fun e => hown.ne (hown.2 t q) (Option.some.inj e).symm)
      · rw [List.mem_singleton] at q
        subst q
        exact hy.grown hg (fun e => hown.ne hy (Option.some.inj e).symm)
end
structure StRel (ss : List StRef) (Q : List BNode) : Prop where
  len : ss.length = Q.length
  word : ∀ j, j < Q.length → (ss.getD j stD).1.2.2 = (Q.getD j ([], [])).1
  chain : ∀ j, j < Q.length → ((ss.getD j stD).2.1 < 0 ∧ (Q.getD j ([], [])).2 = []) ∨ (∃ i : Nat, (ss.getD j stD).2.1 = (i : Int) ∧ i < j ∧ (Q.getD j ([], [])).2 = (Q.getD i ([], [])).2 ++ [(ss.getD j stD).2.2])
theorem StRel.start (r : RowRef) : StRel [(r, -1, 0)] [(r.2.2, [])] :=
  ⟨rfl, fun j hj => by have : j = 0 := by simp at hj; exact hj
                       subst this; rfl, fun j hj => by have : j = 0 := by simp at hj; exact hj
                                                       subst this; exact .inl ⟨by show (-1 : Int) < 0; omega, rfl⟩⟩
theorem StRel.push {ss : List StRef} {Q : List BNode} (h : StRel ss Q) {k : Nat} (hk : k < Q.length) {r : RowRef} {x : Int} {u p : List Int} (hN : Q.getD k ([], []) = (u, p)) : StRel (ss ++ [(r, (k : Int), x)]) (Q ++ [(r.2.2, p ++ [x])]) := by
  have e : ∀ j, j < Q.length → (ss ++ [(r, (k : Int), x)]).getD j stD = ss.getD j stD ∧ (Q ++ [(r.2.2, p ++ [x])]).getD j ([], []) = Q.getD j ([], []) := fun j hj => by
    constructor
    · simp [List.getD, List.getElem?_append_left (show j < ss.length by rw [h.len]; exact hj)]
    · simp [List.getD, List.getElem?_append_left hj]
  have e2 : (ss ++ [(r, (k : Int), x)]).getD Q.length stD = (r, (k : Int), x) ∧ (Q ++ [(r.2.2, p ++ [x])]).getD Q.length ([], []) = (r.2.2, p ++ [x]) := by
    constructor
    · rw [← h.len]; simp [List.getD]
    · simp [List.getD]
  refine ⟨by simp [h.len], fun j hj => ?_, fun j hj => ?_⟩
  · by_cases hq : j < Q.length
    · rw [(e j hq).1, (e j hq).2]; exact h.word j hq
    · obtain rfl : j = Q.length := by simp at hj; omega
      rw [e2.1, e2.2]
  · by_cases hq : j < Q.length
    · rw [(e j hq).1, (e j hq).2]
      rcases h.chain j hq with g | ⟨i, g1, g2, g3⟩
      · exact .inl g
      · exact .inr ⟨i, g1, g2, by rw [(e i (by omega)).2]; exact g3⟩
    · obtain rfl : j = Q.length := by simp at hj; omega
      rw [e2.1, e2.2]
      exact .inr ⟨k, rfl, hk, by rw [(e k hk).2, hN]⟩
end Go.Proofs.YtkjglfafphffiaaGreatDoor
namespace Go.Proofs.YtkjglfafphffiaaGreatDoor
set_option maxRecDepth 100000
open Go.RowKit
open Go.Maps (Keyed IsMap has)
structure FewW (v : List Int) : Prop where
  inw : InW v
  few : v.length ≤ 15
theorem wordL_len {v : List Int} (h : FewW v) : (wordL v).length ≤ 15 := by
  have := h.few
  unfold wordL
  split
  · simp
  · split
    · unfold digs; simp; omega
    · simp
theorem digs_inj : ∀ {a b : List Int}, InW a → InW b → digs a = digs b → a = b
  | [], [], _, _, _ => rfl
  | [], _ :: _, _, _, h => by simp [digs] at h
  | _ :: _, [], _, _, h => by simp [digs] at h
  | x :: a, y :: b, ha, hb, h => by
    have hx := ha x (by simp)
    have hy := hb y (by simp)
    simp only [digs, List.map_cons, List.cons.injEq] at h
    obtain ⟨h1, h2⟩ := h
    have e1 := u8_int (49 + (x.toNat : Int)) (by omega) (by omega)
    have e2 := u8_int (49 + (y.toNat : Int)) (by omega) (by omega)
    rw [show (49 + (x.toNat : Int)).toNat = 49 + x.toNat by omega] at e1
    rw [show (49 + (y.toNat : Int)).toNat = 49 + y.toNat by omega] at e2
    rw [h1] at e1
    have e3 : x = y := by omega
    subst e3
    rw [digs_inj (fun z hz => ha z (by simp [hz])) (fun z hz => hb z (by simp [hz])) h2]
theorem wordL_inj {a b : List Int} (ha : InW a) (hb : InW b) (h : wordL a = wordL b) : a = b := by
  have key : ∀ {x : List Int}, InW x → x ≠ [] → wordL x ≠ [101] := by
    intro x hx hne e
    unfold wordL at e
    rw [if_neg (by cases x with | nil => exact absurd rfl hne | cons _ _ => simp), if_pos hx] at e
    cases x with
    | nil => exact hne rfl
    | cons y x =>
      have hy := hx y (by simp)
      simp only [digs, List.map_cons, List.cons.injEq] at e
      have e1 := u8_int (49 + (y.toNat : Int)) (by omega) (by omega)
      rw [show (49 + (y.toNat : Int)).toNat = 49 + y.toNat by omega, e.1] at e1
      have : ((101 : UInt8).toNat : Int) = 101 := rfl
      omega
  cases a with
  | nil =>
    cases b with
    | nil => rfl
    | cons y b => exact absurd h.symm (key hb (by simp))
  | cons x a =>
    cases b with
    | nil => exact absurd h (key ha (by simp))
    | cons y b =>
      have e1 : wordL (x :: a) = digs (x :: a) := by unfold wordL; rw [if_neg (by rw [List.length_cons]; omega), if_pos ha]
      have e2 : wordL (y :: b) = digs (y :: b) := by unfold wordL; rw [if_neg (by rw [List.length_cons]; omega), if_pos hb]
      rw [e1, e2] at h
      exact digs_inj ha hb h
theorem strLawW : WideMaps.KeyLaw Tryz.prog 9 := WideMaps.string_law Tryz.underlying9
theorem strKeyedW : Keyed Tryz.prog 9 := Keyed.of_law strLawW
theorem keyOf_word {v : List Int} (h : FewW v) : keyOf Tryz.prog 9 (.string ⟨(wordL v).toArray⟩) = some (.string (wordL v)) := by
  have := WideMaps.keyOf_string_mk (P := Tryz.prog) (s := ⟨(wordL v).toArray⟩) Tryz.underlying9 (by have := wordL_len h; simp [ByteArray.size]; unfold maxLen; omega)
  simpa using this
def SeenW (w : World) (b n : Nat) (L : List (List Int)) : Prop :=
  ∃ D : DataW Unit, w.ownsMap Tryz.prog 9 (plainElem Tryz.prog 4) b n D ∧ IsMap D ∧ ∀ v : List Int, FewW v → D.atKey (.string (wordL v)) (.lit (.bool false)) = .lit (.bool (decide (v ∈ L)))
section
variable {w w' : World} {b n : Nat} {L : List (List Int)}
theorem SeenW.start (w : World) : SeenW (w.alloc (.map #[] 0)) w.heap.size 0 [] :=
  ⟨.map [], World.ownsMap_made _ _ _ _, ⟨[], rfl⟩, fun v _ => by simp [DataW.atKey]⟩
theorem SeenW.lt (h : SeenW w b n L) : b < w.heap.size := by obtain ⟨D, h, -⟩ := h; exact h.lt
theorem SeenW.same (h : SeenW w b n L) (hs : w'.heap[b]? = w.heap[b]?) : SeenW w' b n L := by
  obtain ⟨D, ⟨es, clock, hh, r⟩, h2⟩ := h
  exact ⟨D, ⟨es, clock, hs.trans hh, r⟩, h2⟩
theorem SeenW.below {B : Nat} (h : SeenW w b n L) (hb : Below B w w') (hB : b < B) : SeenW w' b n L := h.same (hb.block b hB)
theorem SeenW.still (h : SeenW w b n L) (hs : ∃ k, w' = w.drewN k) : SeenW w' b n L := by obtain ⟨k, rfl⟩ := hs; exact h
theorem SeenW.block (h : SeenW w b n L) : ∃ es clock, w.heap[b]? = some (.map es clock) := by
  obtain ⟨D, ⟨es, clock, hh, r⟩, h2⟩ := h
  exact ⟨es, clock, hh⟩
theorem SeenW.neCells {g : Nat} {cur : Array Value} {E : TypeId} {q : Nat × Nat} (h : SeenW w b n L) (ho : w.heap[g]? = some (.cells cur E q)) : b ≠ g := by
  rintro rfl
  obtain ⟨es, clock, hh⟩ := h.block
  rw [hh] at ho
  simp at ho
theorem seenW_put {D : DataW Unit} {v : List Int} (hv : FewW v) (hmap : IsMap D) (hat : ∀ v : List Int, FewW v → D.atKey (.string (wordL v)) (.lit (.bool false)) = .lit (.bool (decide (v ∈ L)))) :
    ∀ u : List Int, FewW u → (D.put (.string (wordL v)) (.lit (.bool true))).atKey (.string (wordL u)) (.lit (.bool false)) = .lit (.bool (decide (u ∈ L ++ [v]))) := by
  intro u hu
  by_cases e : u = v
  · subst e
    rw [Maps.atKey_put_same hmap (strKeyedW.key (keyOf_word hv))]
    simp
  · have hne : Lit.string (wordL u) ≠ .string (wordL v) := fun h => e (wordL_inj hu.inw hv.inw (by injection h))
    rw [Maps.atKey_put_other hne, hat u hu]
    simp [e]
theorem wpList_seenW_look {ops : Array Oper} {rest : List Oper} {o : Oper} {a : Act} {Q : Exit → Act → World → Prop}
    (hg : o.guard = none) (x y : Operand) (hop : o.op = Op.lookup 75 x y false) (b n : Nat) (L : List (List Int)) (v : List Int) (hv : FewW v)
    (hown : SeenW w b n L) (hx : a.eval x = .map (some b)) (hy : a.eval y = .string ⟨(wordL v).toArray⟩) (r : Bool) (hr : decide (v ∈ L) = r)
    (hK : wpList Tryz.prog ops Q rest (a.put o.dst (.bool r)) w) :
    wpList Tryz.prog ops Q (o :: rest) a w := by
  refine wpList_plain hg fun K' hK' => ?_
  obtain ⟨D, hD, -, hat⟩ := hown
  obtain ⟨u, ps, hrun, hu⟩ := hD.lookup strKeyedW Tryz.underlying75 (boolZero w) (plainElem_bool (H := Unit) Tryz.underlying4 false) (keyOf_word hv)
  obtain ⟨z, rfl, hz⟩ := plainElem_bool_inv Tryz.underlying4 hu
  rw [hat v hv] at hz
  simp at hz
  unfold Oper.wp
  simp [execOp, hop, hx, hy, hrun, Result.andThen]
  rw [← hz.1, hr]
  exact hK' _ _ hK
theorem wpList_seenW_put {ops : Array Oper} {rest : List Oper} {o : Oper} {a : Act} {Q : Exit → Act → World → Prop}
    (hg : o.guard = none) (x y z : Operand) (hop : o.op = Op.mapUpdate 75 x y z) (b n : Nat) (L : List (List Int)) (v : List Int) (hv : FewW v)
    (hown : SeenW w b n L) (hn : n < 1048576) (hx : a.eval x = .map (some b)) (hy : a.eval y = .string ⟨(wordL v).toArray⟩) (hz : a.eval z = .bool true)
    (hK : ∀ w', SeenW w' b (n + 1) (L ++ [v]) → w.grownBy w' (some b) → wpList Tryz.prog ops Q rest (a.put o.dst undef) w') :
    wpList Tryz.prog ops Q (o :: rest) a w := by
  obtain ⟨D, hD, hmap, hat⟩ := hown
  refine wpList_mapUpdate_own w hg x y z _ hop _ _ strKeyedW Tryz.underlying75 _ b n D hx hD (by unfold maxLen; omega) _ _ (.string (wordL v)) hy hz (keyOf_word hv) _ [] (plainElem_bool (H := Unit) Tryz.underlying4 true) ?_
  intro w' hown' hgr
  refine hK w' ⟨_, hown', ?_, seenW_put hv hmap hat⟩ hgr
  obtain ⟨es, rfl⟩ := hmap
  exact ⟨_, rfl⟩
theorem wpList_seenW_insert {ops : Array Oper} {rest : List Oper} {o : Oper} {a : Act} {Q : Exit → Act → World → Prop}
    (hg : o.guard = none) (x y z : Operand) (hop : o.op = Op.insert 75 x y z) (b n : Nat) (L : List (List Int)) (v : List Int) (hv : FewW v)
    (hown : SeenW w b n L) (hn : n < 1048576) (hx : a.eval x = .map (some b)) (hy : a.eval y = .string ⟨(wordL v).toArray⟩) (hz : a.eval z = .bool true)
    (hK : ∀ w', SeenW w' b (n + 1) (L ++ [v]) → w.grownBy w' (some b) → wpList Tryz.prog ops Q rest (a.put o.dst undef) w') :
    wpList Tryz.prog ops Q (o :: rest) a w := by
  obtain ⟨D, hD, hmap, hat⟩ := hown
  refine wpList_plain hg fun K' hK' => ?_
  obtain ⟨w', hrun, r1, r2⟩ := hD.update strKeyedW Tryz.underlying75 (by unfold maxLen; omega) (keyOf_word hv) (plainElem_bool (H := Unit) Tryz.underlying4 true)
  unfold Oper.wp
  simp [execOp, hop, hx, hy, hz, hrun, Result.andThen]
  refine hK' _ _ (hK w' ⟨_, r1, ?_, seenW_put hv hmap hat⟩ r2)
  obtain ⟨es, rfl⟩ := hmap
  exact ⟨_, rfl⟩
end
end Go.Proofs.YtkjglfafphffiaaGreatDoor
namespace Go.Proofs.YtkjglfafphffiaaGreatDoor
set_option maxRecDepth 100000
open Go.RowKit
def revAt (xs : List Int) (k : Nat) : List Int := (List.range xs.length).map fun t => if t < k ∨ xs.length - k ≤ t then xs.getD (xs.length - 1 - t) 0 else xs.getD t 0
theorem revAt_length (xs : List Int) (k : Nat) : (revAt xs k).length = xs.length := by simp [revAt]
theorem revAt_getD (xs : List Int) (k t : Nat) (ht : t < xs.length) : (revAt xs k).getD t 0 = if t < k ∨ xs.length - k ≤ t then xs.getD (xs.length - 1 - t) 0 else xs.getD t 0 := by
  simp [revAt, List.getD, ht]
theorem revAt_zero (xs : List Int) : revAt xs 0 = xs := by
  apply List.ext_getElem (revAt_length _ _)
  intro t h1 h2
  have := revAt_getD xs 0 t h2
  rw [if_neg (by omega)] at this
  simpa [List.getD, h1, h2] using this
theorem revAt_done (xs : List Int) (k : Nat) (h : xs.length ≤ 2 * k + 1) : revAt xs k = xs.reverse := by
  apply List.ext_getElem (by simp [revAt_length])
  intro t h1 h2
  have ht : t < xs.length := by rw [revAt_length] at h1; exact h1
  have e := revAt_getD xs k t ht
  have h3 : (revAt xs k)[t] = (revAt xs k).getD t 0 := by simp [List.getD, h1]
  rw [h3, e, List.getElem_reverse]
  split
  · simp [List.getD, show xs.length - 1 - t < xs.length by omega]
  · have : xs.length - 1 - t = t := by omega
    simp [List.getD, ht, this]
theorem revAt_succ (xs : List Int) (k : Nat) (h : 2 * k + 1 < xs.length) :
    ((revAt xs k).set k ((revAt xs k).getD (xs.length - 1 - k) 0)).set (xs.length - 1 - k) ((revAt xs k).getD k 0) = revAt xs (k + 1) := by
  rw [revAt_getD _ _ _ (by omega), revAt_getD _ _ _ (by omega)]
  apply List.ext_getElem (by simp [revAt_length])
  intro t h1 h2
  have ht : t < xs.length := by rw [revAt_length] at h2; exact h2
  have h3 : (revAt xs (k + 1))[t] = (revAt xs (k + 1)).getD t 0 := by simp [List.getD, h2]
  rw [h3, revAt_getD _ _ _ ht, List.getElem_set, List.getElem_set]
  have h4 : t < (revAt xs k).length := by rw [revAt_length]; exact ht
  have h5 : (revAt xs k)[t] = (revAt xs k).getD t 0 := by simp [List.getD, h4]
  rw [h5, revAt_getD _ _ _ ht]
  by_cases a : xs.length - 1 - k = t
  · rw [if_pos a, if_neg (by omega), if_pos (by omega), show xs.length - 1 - t = k by omega]
  · rw [if_neg a]
    by_cases b : k = t
    · subst b
      rw [if_pos rfl, if_neg (by omega), if_pos (by omega)]
    · rw [if_neg b]
      by_cases c : t < k ∨ xs.length - k ≤ t
      · rw [if_pos c, if_pos (by omega)]
      · rw [if_neg c, if_neg (by omega)]
theorem rev_set {xs : List Int} {k : Nat} (h : 2 * k + 1 < xs.length) :
    ((revAt xs k).set k ((revAt xs k)[xs.length - 1 - k]'(by rw [revAt_length]; omega))).set (xs.length - 1 - k) ((revAt xs k)[k]'(by rw [revAt_length]; omega)) = revAt xs (k + 1) := by
  rw [← revAt_succ xs k h]
  have l1 : k < (revAt xs k).length := by rw [revAt_length]; omega
  have l2 : xs.length - 1 - k < (revAt xs k).length := by rw [revAt_length]; omega
  have e1 : (revAt xs k).getD k 0 = (revAt xs k)[k] := by simp [List.getD, l1]
  have e2 : (revAt xs k).getD (xs.length - 1 - k) 0 = (revAt xs k)[xs.length - 1 - k] := by simp [List.getD, l2]
  rw [e1, e2]
set_option maxHeartbeats 400000 in
theorem slices_Reverse_any (B g n c : Nat) (xs : List Int) (w : World) (hn : xs.length = n) (hx : xs.length ≤ 1099511627776) (hown : Own w B g c xs) :
    Calls Tryz.prog 86 #[(Value.slice (some ⟨g, 0, none⟩) n c)] w fun e w' => e = .returned (.tuple #[]) ∧ Own w' B g c xs.reverse ∧ w.grownBy w' (some g) := by
  subst hn
  have e0 : IntKind.i64.wrap ((xs.length : Int) - 1) = (xs.length : Int) - 1 := IntWalk.i64_in _ (by omega)
  go_enter Tryz.func86, Tryz.ntmps86
  go_wp2
  go_loopw [2, 3] (fun i j wr => ∃ k : Nat, 2 * k ≤ xs.length ∧ i = .int .i64 k ∧ j = .int .i64 ((xs.length : Int) - 1 - k) ∧ Own wr B g c (revAt xs k) ∧ w.grownBy wr (some g)) (fun i _ _ => xs.length - (intOf i).toNat)
  case atStart => exact ⟨0, Nat.zero_le _, rfl, by simp, by rw [revAt_zero]; exact hown, World.grownBy.refl _ _⟩
  case round =>
    obtain ⟨k, hk, rfl, rfl, ho, hg⟩ := hrel
    by_cases hlt : 2 * k + 1 < xs.length
    · have l1 : k < (revAt xs k).length := by rw [revAt_length]; omega
      have l2 : xs.length - 1 - k < (revAt xs k).length := by rw [revAt_length]; omega
      have h1 := ho.cell k l1
      have h2 := ho.cell (xs.length - 1 - k) l2
      have f1 := ho.frozen k
      have f2 := ho.frozen (xs.length - 1 - k)
      have i1 : ((xs.length : Int) - 1 - k).toNat = xs.length - 1 - k := by omega
      have i2 : (0 : Int) ≤ (xs.length : Int) - 1 - k := by omega
      have hne : k ≠ xs.length - 1 - k := by omega
      go_wp2
      go_region
      all_goals go_wp2
      all_goals
        go_roundw
        case rel =>
          have hs := ho.set2 k (xs.length - 1 - k) ((revAt xs k)[xs.length - 1 - k]) ((revAt xs k)[k])
          rw [rev_set hlt] at hs
          exact ⟨k + 1, by omega, by go_num, by go_num, hs.1.drew, grown_drew (World.grownBy.trans' hg hs.2)⟩
        case measure => simp [intOf]; omega
    · go_wp2
      go_end0
      rw [revAt_done xs k (by omega)] at ho
      exact ⟨rfl, ho, hg⟩
end Go.Proofs.YtkjglfafphffiaaGreatDoor
