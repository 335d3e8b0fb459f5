/- Pairs of roots and coroots of the call's own; 'add', that puts one into the list unless it is there: contract. 'add', that puts a pair into the list unless its root is there: contract. Sets of vectors that a call keeps in a map: words and laws. Pairs of roots and coroots of the call's own; 'add', that puts one into the list unless it is there: contract. 'add', that puts a pair into the list unless its root is there: contract. -/
import Derived.Test.YtmjneokgnnbekaaG23
import Derived.Test.YtmjneokgnnbekaaG20
import Derived.Maps.Own
import Derived.Maps.OwnOps
import Derived.Maps.Views
import Derived.WideKeyArr2
import Derived.DeepKeys4
import Derived.Test.YtmjneokgnnbekaaG18
namespace Go.Proofs.Ytmjneokgnnbekaa
set_option maxRecDepth 100000
open Go.RowKit Game

abbrev PairRef := RowRef × RowRef
def pair2 (p : PairRef) : List Value := [rowVal p.1, rowVal p.2]
def flatQ (ps : List PairRef) : List Value := ps.flatMap pair2
def OwnPairs (w : World) (B g cap : Nat) (ps : List PairRef) : Prop := OwnK w B 94 2 g cap ps.length (flatQ ps)
theorem infoPair : (Try.prog.info? 94).map (fun i => (i.zero, i.size, i.bytes)) = some (some (.agg #[.slice none 0 0, .slice none 0 0]), 2, 48) := by kernel_rfl
theorem flatQ_length (ps : List PairRef) : (flatQ ps).length = ps.length * 2 := by
  induction ps with
  | nil => rfl
  | cons v vs ih => unfold flatQ at *; simp only [List.flatMap_cons, List.length_append, ih, List.length_cons]; simp [pair2]; omega
theorem flatQ_append (a b : List PairRef) : flatQ (a ++ b) = flatQ a ++ flatQ b := by simp [flatQ]
theorem flatQ_at {ps : List PairRef} {j : Nat} (hj : j < ps.length) : (flatQ ps)[j * 2]? = some (rowVal ps[j].1) ∧ (flatQ ps)[j * 2 + 1]? = some (rowVal ps[j].2) := by
  induction ps generalizing j with
  | nil => simp at hj
  | cons v vs ih =>
    unfold flatQ at *
    simp only [List.flatMap_cons]
    cases j with
    | zero => exact ⟨rfl, rfl⟩
    | succ j =>
      have := ih (j := j) (by simpa using hj)
      rw [List.getElem?_append_right (by simp [pair2]; omega), List.getElem?_append_right (by simp [pair2]; omega)]
      have e1 : (j + 1) * 2 - (pair2 v).length = j * 2 := by simp [pair2]; omega
      have e2 : (j + 1) * 2 + 1 - (pair2 v).length = j * 2 + 1 := by simp [pair2]; omega
      rw [e1, e2]
      exact this
section
variable {w w' : World} {B g cap : Nat} {ps : List PairRef}
theorem OwnPairs.lt (h : OwnPairs w B g cap ps) : g < w.heap.size := OwnK.lt h
theorem OwnPairs.base (h : OwnPairs w B g cap ps) : B ≤ g := OwnK.base h
theorem OwnPairs.mono {B' : Nat} (h : OwnPairs w B g cap ps) (hB : B' ≤ B) : OwnPairs w B' g cap ps := OwnK.mono h hB
theorem OwnPairs.below (h : OwnPairs w B g cap ps) (hb : Below w.heap.size w w') : OwnPairs w' B g cap ps := OwnK.below h hb (OwnK.lt h)
theorem OwnPairs.grown {row : Option Nat} (h : OwnPairs w B g cap ps) (hg : w.grownBy w' row) (hne : some g ≠ row) : OwnPairs w' B g cap ps := OwnK.grown h hg hne
theorem OwnPairs.still (h : OwnPairs w B g cap ps) (hs : ∃ n, w' = w.drewN n) : OwnPairs w' B g cap ps := by obtain ⟨n, rfl⟩ := hs; exact h
theorem OwnPairs.cell (h : OwnPairs w B g cap ps) {j : Nat} (hj : j < ps.length) : w.cell? ⟨g, j * 2, none⟩ = some (rowVal ps[j].1) ∧ w.cell? ⟨g, j * 2 + 1, none⟩ = some (rowVal ps[j].2) := by
  have hl1 : j * 2 < (flatQ ps).length := by rw [flatQ_length]; omega
  have hl2 : j * 2 + 1 < (flatQ ps).length := by rw [flatQ_length]; omega
  obtain ⟨h1, h2⟩ := flatQ_at hj
  rw [OwnK.cell h _ hl1, OwnK.cell h _ hl2, ← h1, ← h2, List.getElem?_eq_getElem hl1, List.getElem?_eq_getElem hl2]
  exact ⟨rfl, rfl⟩
theorem OwnPairs.empty (hB : B ≤ w.heap.size) : OwnPairs (w.alloc (.cells #[] 94)) B w.heap.size 0 [] :=
  World.ownsRow_lit w #[] 0 hB (by decide) rfl
theorem OwnPairs.one (p : PairRef) (hB : B ≤ w.heap.size) : OwnPairs (w.alloc (.cells #[rowVal p.1, rowVal p.2] 94)) B w.heap.size 1 [p] :=
  World.ownsRow_lit w #[rowVal p.1, rowVal p.2] 1 hB (by decide) rfl
theorem wpList_append_pair {ops : Array Oper} {rest : List Oper} {o : Oper} {a : Act} {Q : Exit → Act → World → Prop} (hgd : o.guard = none) (s x : Operand)
    (ho : o.op = .call { callee := .builtin .append, args := #[s, x], argTypes := #[90, 90] })
    (B g cap n H : Nat) (ps : List PairRef) (p : PairRef) (w W : World) (hn : ps.length = n) (hW : W = w.alloc (.cells #[rowVal p.1, rowVal p.2] 94)) (hH : w.heap.size = H) (hown : OwnPairs w B g cap ps)
    (hs : a.eval s = (Value.slice (some ⟨g, 0, none⟩) n cap)) (hx : a.eval x = (Value.slice (some ⟨H, 0, none⟩) 1 1)) (hlen : n + 1 ≤ 1048576)
    (h : ∀ g' cap' w', OwnPairs w' B g' cap' (ps ++ [p]) → w.grownBy w' (some g) → (g' = g ∨ w.heap.size < g') → wpList Try.prog ops Q rest (a.put o.dst (Value.slice (some ⟨g', 0, none⟩) (n + 1) cap')) w') :
    wpList Try.prog ops Q (o :: rest) a W := by
  subst hn; subst hW; subst hH
  have hnew := OwnPairs.one (w := w) (B := w.heap.size) p (Nat.le_refl _)
  refine wpList_append_K infoPair Try.underlying90 rfl (by decide) (by decide) hgd s x ho B g cap ps.length (flatQ ps) (OwnK.alloc hown _) w.heap.size 0 1 1 (pair2 p) rfl ?_ ?_ hs hx hlen ?_
  · intro j u hu
    have hj : j < 2 := by have := (List.getElem?_eq_some_iff.1 hu).1; simpa [pair2] using this
    have h1 := hnew.cell (j := 0) (by simp)
    rw [Nat.zero_mul] at h1
    have : j = 0 ∨ j = 1 := by omega
    rcases this with rfl | rfl
    · rw [Nat.zero_add, h1.1, ← hu]; rfl
    · rw [h1.2, ← hu]; rfl
  · intro u hu
    simp [pair2] at hu
    rcases hu with rfl | rfl <;> rfl
  · intro g' cap' w' h2 h3 h4
    refine h g' cap' w' ?_ ⟨h3.os, h3.tape, h3.output, Nat.le_trans (by simp) h3.size, fun k hk hne => (h3.block k (by simp; omega) hne).trans (Below.heap_alloc _ _ _ hk)⟩ (h4.imp id (by simp; omega))
    unfold OwnPairs
    rw [flatQ_append, List.length_append]
    have e : flatQ [p] = pair2 p := by simp [flatQ]
    rw [e]
    exact h2
end

/-- what 'add' leaves as it was -/
structure SmFr (w w' : World) (bL gP bM : Nat) : Prop where
  os : w'.os = w.os
  tape : w'.tape = w.tape
  output : w'.output = w.output
  size : w.heap.size ≤ w'.heap.size
  block : ∀ k, k < w.heap.size → k ≠ bL → k ≠ gP → k ≠ bM → w'.heap[k]? = w.heap[k]?
theorem box_cell {w : World} {b : Nat} {v : Value} {t : TypeId} (h : w.heap[b]? = some (.cells #[v] t (0, 0))) : w.cell? ⟨b, 0, none⟩ = some v ∧ w.frozen? ⟨b, 0, none⟩ = false := by
  constructor <;> simp [World.cell?, World.frozen?, h]
theorem box_lt {w : World} {b : Nat} {o : Obj} (h : w.heap[b]? = some o) : b < w.heap.size := (Array.getElem?_eq_some_iff.1 h).1
section
variable {w w' : World} {B bS bL bM gP cP nP nM m : Nat} {ps : List PairRef}
theorem SmFr.below (h : SmFr w w' bL gP bM) {b : Nat} (h1 : b ≤ bL) (h2 : b ≤ gP) (h3 : b ≤ bM) (hb : b ≤ w.heap.size) : Below b w w' :=
  ⟨h.os, h.tape, h.output, h.size, fun k hk => h.block k (by omega) (by omega) (by omega) (by omega)⟩
end
end Go.Proofs.Ytmjneokgnnbekaa
namespace Go.Proofs.Ytmjneokgnnbekaa
set_option maxRecDepth 100000
open Go.RowKit Game

theorem heap_setCell_ne {w : World} {b k : Nat} {v : Value} (h : k ≠ b) : (w.setCell ⟨b, 0, none⟩ v).heap[k]? = w.heap[k]? := by
  show (w.heap.modify b _)[k]? = _
  rw [Array.getElem?_modify]
  simp [Ne.symm h]
theorem heap_setCell_size {w : World} {b : Nat} {v : Value} : (w.setCell ⟨b, 0, none⟩ v).heap.size = w.heap.size := by
  show (w.heap.modify b _).size = _
  simp
/-- the roots of pairs -/
def rootsQ (ps : List PairRef) : List (List Int) := ps.map fun p => p.1.2.2
/-- the list behind 'add' -/
def addQ (ps : List PairRef) (p : PairRef) : List PairRef := if p.1.2.2 ∈ rootsQ ps then ps else ps ++ [p]
end Go.Proofs.Ytmjneokgnnbekaa
namespace Go.Proofs.Ytmjneokgnnbekaa
set_option maxRecDepth 100000
open Go.RowKit Game
open Go.Maps (Keyed IsMap)

theorem vecLaidOutP : laidOutB Try.prog = true := by kernel_rfl
theorem vecRowP : (92 : TypeId) < Try.prog.types.size := of_decide_eq_true (by kernel_rfl)
theorem vecLawP : WideMaps.KeyLaw Try.prog 92 := deep_law_laid vecLaidOutP (m := 2) (by omega) vecRowP (by kernel_rfl) (by rw [Try.underlying92])
theorem vecKeyedP : Keyed Try.prog 92 := Keyed.of_law vecLawP
theorem vecArrP : WideMaps.ArrKey Try.prog 92 3 4 := ⟨Try.underlying92, by kernel_rfl, by kernel_rfl, by kernel_rfl⟩
theorem boolZeroP (w : World) : (zeroValue 4).run Try.prog w = .ok (.bool false) w := by kernel_rfl
theorem typesPosP : ∃ m, Try.prog.types.size = m + 1 := by
  have h : 0 < Try.prog.types.size := Nat.lt_of_le_of_lt (Nat.zero_le _) vecRowP
  generalize Try.prog.types.size = k at h
  exact ⟨k - 1, by omega⟩

def WfVP (v : List Int) : Prop := ∀ j, j < 4 → (Lit.int .i64 (v.getD j 0)).wf = true
def keyLP (v : List Int) : Lit := .string (keyBytes [.int .i64 (v.getD 0 0), .int .i64 (v.getD 1 0), .int .i64 (v.getD 2 0), .int .i64 (v.getD 3 0)])
theorem keyOf_vecP {v : List Int} (h : WfVP v) : keyOf Try.prog 92 (vecVal v) = some (keyLP v) := by
  have hkt := vecArrP.keyType typesPosP
  obtain ⟨m, hm⟩ := typesPosP
  have h0 := h 0 (by omega)
  have h1 := h 1 (by omega)
  have h2 := h 2 (by omega)
  have h3 := h 3 (by omega)
  unfold vecVal keyLP
  generalize v.getD 0 0 = x0 at *
  generalize v.getD 1 0 = x1 at *
  generalize v.getD 2 0 = x2 at *
  generalize v.getD 3 0 = x3 at *
  unfold keyOf
  simp only [vecArrP.hu]
  rw [if_pos (by simp [hkt, Value.formed, vecArrP.hu, vecArrP.size]), hm]
  unfold Program.keyLits
  simp only [vecArrP.hu, Value.cells]
  rw [if_pos (by rw [vecArrP.size]; rfl), show List.range 4 = [0, 1, 2, 3] from rfl, List.mapM_cons, List.mapM_cons, List.mapM_cons, List.mapM_cons, List.mapM_nil]
  simp [vecArrP.one, Program.keyLits, Try.underlying3, h0, h1, h2, h3]
theorem vecVal_injP {v u : List Int} (hl : v.length = u.length) (h4 : v.length ≤ 4) (h : vecVal v = vecVal u) : v = u := by
  unfold vecVal at h
  simp at h
  obtain ⟨h0, h1, h2, h3⟩ := h
  apply List.ext_getElem hl
  intro i hi hi'
  have : i = 0 ∨ i = 1 ∨ i = 2 ∨ i = 3 := by omega
  rcases this with rfl | rfl | rfl | rfl <;> simp_all
theorem keyL_injP {v u : List Int} (hv : WfVP v) (hu : WfVP u) (hl : v.length = u.length) (h4 : v.length ≤ 4) (h : keyLP v = keyLP u) : v = u :=
  vecVal_injP hl h4 (vecKeyedP.inj (keyOf_vecP hv) (by rw [h]; exact keyOf_vecP hu))

/-- block b is a map that holds just these vectors of m numbers -/
def SeenMP (w : World) (b n m : Nat) (ks : List (List Int)) : Prop :=
  ∃ D : DataW Unit, w.ownsMap Try.prog 92 (plainElem Try.prog 4) b n D ∧ IsMap D ∧ ∀ v : List Int, v.length = m → WfVP v → D.atKey (keyLP v) (.lit (.bool false)) = .lit (.bool (decide (v ∈ ks)))
section
variable {w w' : World} {b n m : Nat} {ks : List (List Int)}
theorem SeenMP.start (w : World) (m : Nat) : SeenMP (w.alloc (.map #[] 0)) w.heap.size 0 m [] :=
  ⟨.map [], World.ownsMap_made _ _ _ _, ⟨[], rfl⟩, fun v _ _ => by simp [DataW.atKey]⟩
theorem SeenMP.lt (h : SeenMP w b n m ks) : b < w.heap.size := by obtain ⟨D, h, -⟩ := h; exact h.lt
theorem SeenMP.grown {row : Option Nat} (h : SeenMP w b n m ks) (hg : w.grownBy w' row) (hne : some b ≠ row) : SeenMP w' b n m ks := by
  obtain ⟨D, h, h2⟩ := h; exact ⟨D, h.kept hg hne, h2⟩
theorem SeenMP.below {B : Nat} (h : SeenMP w b n m ks) (hb : Below B w w') (hB : b < B) : SeenMP w' b n m ks := by
  obtain ⟨D, ⟨es, clock, hh, r⟩, h2⟩ := h
  exact ⟨D, ⟨es, clock, (hb.block b hB).trans hh, r⟩, h2⟩
theorem SeenMP.still (h : SeenMP w b n m ks) (hs : ∃ k, w' = w.drewN k) : SeenMP w' b n m ks := by obtain ⟨k, rfl⟩ := hs; exact h
theorem plainElem_bool_invP {P : Program} {e : TypeId} (he : P.underlying e = some .bool) {v : Value} {z : DataW Unit × List MemPlace} (h : plainElem P e v = some z) : ∃ x, v = .bool x ∧ z = (.lit (.bool x), []) := by
  unfold plainElem at h
  rw [he] at h
  cases v <;> simp at h
  subst h
  exact ⟨_, rfl, rfl⟩
/-- 'seen[key]' -/
theorem wpList_seen_lookupP {ops : Array Oper} {rest : List Oper} {o : Oper} {a : Act} {Q : Exit → Act → World → Prop}
    (hg : o.guard = none) (x y : Operand) (hop : o.op = Op.lookup 91 x y false) (b n m : Nat) (ks : List (List Int)) (v : List Int) (hv : v.length = m) (hw : WfVP v)
    (hown : SeenMP w b n m ks) (hx : a.eval x = .map (some b)) (hy : a.eval y = vecVal v) (r : Bool) (hr : decide (v ∈ ks) = r)
    (hK : wpList Try.prog ops Q rest (a.put o.dst (.bool r)) w) :
    wpList Try.prog ops Q (o :: rest) a w := by
  refine wpList_plain hg fun K' hK' => ?_
  obtain ⟨D, hD, -, hat⟩ := hown
  obtain ⟨u, ps, hrun, hu⟩ := hD.lookup vecKeyedP Try.underlying91 (boolZeroP w) (plainElem_bool (H := Unit) Try.underlying4 false) (keyOf_vecP hw)
  obtain ⟨z, rfl, hz⟩ := plainElem_bool_invP Try.underlying4 hu
  rw [hat v hv hw] at hz
  simp at hz
  unfold Oper.wp
  simp [execOp, hop, hx, hy, hrun, Result.andThen]
  rw [← hz.1, hr]
  exact hK' _ _ hK
/-- 'seen[key] = true' -/
theorem wpList_seen_putP {ops : Array Oper} {rest : List Oper} {o : Oper} {a : Act} {Q : Exit → Act → World → Prop}
    (hg : o.guard = none) (x y z : Operand) (hop : o.op = Op.mapUpdate 91 x y z) (b n m : Nat) (ks : List (List Int)) (v : List Int) (hv : v.length = m) (h4 : m ≤ 4) (hw : WfVP v)
    (hown : SeenMP w b n m ks) (hn : n < 1048576) (hx : a.eval x = .map (some b)) (hy : a.eval y = vecVal v) (hz : a.eval z = .bool true)
    (hK : ∀ w', SeenMP w' b (n + 1) m (ks ++ [v]) → w.grownBy w' (some b) → wpList Try.prog ops Q rest (a.put o.dst undef) w') :
    wpList Try.prog ops Q (o :: rest) a w := by
  obtain ⟨D, hD, hmap, hat⟩ := hown
  refine wpList_mapUpdate_own w hg x y z _ hop _ _ vecKeyedP Try.underlying91 _ b n D hx hD (by unfold maxLen; omega) _ _ (keyLP v) hy hz (keyOf_vecP hw) _ [] (plainElem_bool (H := Unit) Try.underlying4 true) ?_
  intro w' hown' hgr
  refine hK w' ⟨_, hown', ?_, fun u hu hwu => ?_⟩ hgr
  · obtain ⟨es, rfl⟩ := hmap
    exact ⟨_, rfl⟩
  · by_cases e : u = v
    · subst e
      rw [Maps.atKey_put_same hmap (vecKeyedP.key (keyOf_vecP hw))]
      simp
    · have hne : keyLP u ≠ keyLP v := fun h => e (keyL_injP hwu hw (by omega) (by omega) h)
      rw [Maps.atKey_put_other hne, hat u hu hwu]
      simp [e]
end
end Go.Proofs.Ytmjneokgnnbekaa
namespace Go.Proofs.Ytmjneokgnnbekaa
set_option maxRecDepth 100000
open Go.RowKit Game

def OwnPairsP (w : World) (B g cap : Nat) (ps : List PairRef) : Prop := OwnK w B 94 2 g cap ps.length (flatQ ps)
theorem infoPairP : (Try.prog.info? 94).map (fun i => (i.zero, i.size, i.bytes)) = some (some (.agg #[.slice none 0 0, .slice none 0 0]), 2, 48) := by kernel_rfl
section
variable {w w' : World} {B g cap : Nat} {ps : List PairRef}
theorem OwnPairsP.lt (h : OwnPairsP w B g cap ps) : g < w.heap.size := OwnK.lt h
theorem OwnPairsP.base (h : OwnPairsP w B g cap ps) : B ≤ g := OwnK.base h
theorem OwnPairsP.mono {B' : Nat} (h : OwnPairsP w B g cap ps) (hB : B' ≤ B) : OwnPairsP w B' g cap ps := OwnK.mono h hB
theorem OwnPairsP.below (h : OwnPairsP w B g cap ps) (hb : Below w.heap.size w w') : OwnPairsP w' B g cap ps := OwnK.below h hb (OwnK.lt h)
theorem OwnPairsP.grown {row : Option Nat} (h : OwnPairsP w B g cap ps) (hg : w.grownBy w' row) (hne : some g ≠ row) : OwnPairsP w' B g cap ps := OwnK.grown h hg hne
theorem OwnPairsP.still (h : OwnPairsP w B g cap ps) (hs : ∃ n, w' = w.drewN n) : OwnPairsP w' B g cap ps := by obtain ⟨n, rfl⟩ := hs; exact h
theorem OwnPairsP.cell (h : OwnPairsP w B g cap ps) {j : Nat} (hj : j < ps.length) : w.cell? ⟨g, j * 2, none⟩ = some (rowVal ps[j].1) ∧ w.cell? ⟨g, j * 2 + 1, none⟩ = some (rowVal ps[j].2) := by
  have hl1 : j * 2 < (flatQ ps).length := by rw [flatQ_length]; omega
  have hl2 : j * 2 + 1 < (flatQ ps).length := by rw [flatQ_length]; omega
  obtain ⟨h1, h2⟩ := flatQ_at hj
  rw [OwnK.cell h _ hl1, OwnK.cell h _ hl2, ← h1, ← h2, List.getElem?_eq_getElem hl1, List.getElem?_eq_getElem hl2]
  exact ⟨rfl, rfl⟩
theorem OwnPairsP.empty (hB : B ≤ w.heap.size) : OwnPairsP (w.alloc (.cells #[] 94)) B w.heap.size 0 [] :=
  World.ownsRow_lit w #[] 0 hB (by decide) rfl
theorem OwnPairsP.one (p : PairRef) (hB : B ≤ w.heap.size) : OwnPairsP (w.alloc (.cells #[rowVal p.1, rowVal p.2] 94)) B w.heap.size 1 [p] :=
  World.ownsRow_lit w #[rowVal p.1, rowVal p.2] 1 hB (by decide) rfl
theorem wpList_append_pairP {ops : Array Oper} {rest : List Oper} {o : Oper} {a : Act} {Q : Exit → Act → World → Prop} (hgd : o.guard = none) (s x : Operand)
    (ho : o.op = .call { callee := .builtin .append, args := #[s, x], argTypes := #[90, 90] })
    (B g cap n H : Nat) (ps : List PairRef) (p : PairRef) (w W : World) (hn : ps.length = n) (hW : W = w.alloc (.cells #[rowVal p.1, rowVal p.2] 94)) (hH : w.heap.size = H) (hown : OwnPairsP w B g cap ps)
    (hs : a.eval s = (Value.slice (some ⟨g, 0, none⟩) n cap)) (hx : a.eval x = (Value.slice (some ⟨H, 0, none⟩) 1 1)) (hlen : n + 1 ≤ 1048576)
    (h : ∀ g' cap' w', OwnPairsP w' B g' cap' (ps ++ [p]) → w.grownBy w' (some g) → (g' = g ∨ w.heap.size < g') → wpList Try.prog ops Q rest (a.put o.dst (Value.slice (some ⟨g', 0, none⟩) (n + 1) cap')) w') :
    wpList Try.prog ops Q (o :: rest) a W := by
  subst hn; subst hW; subst hH
  have hnew := OwnPairsP.one (w := w) (B := w.heap.size) p (Nat.le_refl _)
  refine wpList_append_K infoPairP Try.underlying90 rfl (by decide) (by decide) hgd s x ho B g cap ps.length (flatQ ps) (OwnK.alloc hown _) w.heap.size 0 1 1 (pair2 p) rfl ?_ ?_ hs hx hlen ?_
  · intro j u hu
    have hj : j < 2 := by have := (List.getElem?_eq_some_iff.1 hu).1; simpa [pair2] using this
    have h1 := hnew.cell (j := 0) (by simp)
    rw [Nat.zero_mul] at h1
    have : j = 0 ∨ j = 1 := by omega
    rcases this with rfl | rfl
    · rw [Nat.zero_add, h1.1, ← hu]; rfl
    · rw [h1.2, ← hu]; rfl
  · intro u hu
    simp [pair2] at hu
    rcases hu with rfl | rfl <;> rfl
  · intro g' cap' w' h2 h3 h4
    refine h g' cap' w' ?_ ⟨h3.os, h3.tape, h3.output, Nat.le_trans (by simp) h3.size, fun k hk hne => (h3.block k (by simp; omega) hne).trans (Below.heap_alloc _ _ _ hk)⟩ (h4.imp id (by simp; omega))
    unfold OwnPairsP
    rw [flatQ_append, List.length_append]
    have e : flatQ [p] = pair2 p := by simp [flatQ]
    rw [e]
    exact h2
end

/-- what 'add' works on: the set of the roots and the list of pairs, in two boxes -/
structure SmStP (w : World) (B bS bL bM gP cP nP nM m : Nat) (ps : List PairRef) : Prop where
  hS : w.heap[bS]? = some (.cells #[.map (some bM)] 91 (0, 0))
  hL : w.heap[bL]? = some (.cells #[(Value.slice (some ⟨gP, 0, none⟩) nP cP)] 90 (0, 0))
  hP : OwnPairsP w B gP cP ps
  hn : ps.length = nP
  hM : SeenMP w bM nM m (ps.map fun p => p.1.2.2)
  hnM : nM ≤ nP
  rows : ∀ p ∈ ps, Own w B p.1.1 p.1.2.1 p.1.2.2 ∧ Own w B p.2.1 p.2.2.1 p.2.2.2
  nodup : (ps.map fun p => p.1.1).Nodup
  bL_ge : B ≤ bL
  bM_ge : B ≤ bM
section
variable {w w' : World} {B bS bL bM gP cP nP nM m : Nat} {ps : List PairRef}
theorem SeenMP.same {ks : List (List Int)} (h : SeenMP w bM nM m ks) (hs : w'.heap[bM]? = w.heap[bM]?) : SeenMP w' bM nM m ks := by
  obtain ⟨D, ⟨es, clock, hh, r⟩, h2⟩ := h
  exact ⟨D, ⟨es, clock, hs.trans hh, r⟩, h2⟩
theorem SmStP.keep (h : SmStP w B bS bL bM gP cP nP nM m ps) (hk : ∀ k, k < w.heap.size → w'.heap[k]? = w.heap[k]?) : SmStP w' B bS bL bM gP cP nP nM m ps :=
  ⟨(hk _ (box_lt h.hS)).trans h.hS, (hk _ (box_lt h.hL)).trans h.hL, OwnK.same h.hP (hk _ h.hP.lt), h.hn, h.hM.same (hk _ h.hM.lt), h.hnM, fun p hp => ⟨(h.rows p hp).1.same (hk _ (h.rows p hp).1.lt), (h.rows p hp).2.same (hk _ (h.rows p hp).2.lt)⟩, h.nodup, h.bL_ge, h.bM_ge⟩
theorem SmStP.below (h : SmStP w B bS bL bM gP cP nP nM m ps) (hb : Below w.heap.size w w') : SmStP w' B bS bL bM gP cP nP nM m ps := h.keep hb.block
theorem SmStP.still (h : SmStP w B bS bL bM gP cP nP nM m ps) (hs : ∃ n, w' = w.drewN n) : SmStP w' B bS bL bM gP cP nP nM m ps := by obtain ⟨n, rfl⟩ := hs; exact h.keep fun _ _ => rfl
/-- the blocks are different -/
theorem SmStP.ne (h : SmStP w B bS bL bM gP cP nP nM m ps) : bS ≠ bM ∧ bL ≠ bM ∧ gP ≠ bM ∧ bS ≠ gP ∧ bL ≠ gP ∧ bS ≠ bL := by
  obtain ⟨D, ⟨es, clock, hh, -⟩, -⟩ := h.hM
  obtain ⟨cur, h2, -⟩ := OwnK.row h.hP
  have h3 := h.hS
  have h4 := h.hL
  refine ⟨?_, ?_, ?_, ?_, ?_, ?_⟩ <;> intro e <;> subst e <;> simp_all
theorem SmStP.neOwn (h : SmStP w B bS bL bM gP cP nP nM m ps) {B2 g cap : Nat} {xs : List Int} (ho : Own w B2 g cap xs) : g ≠ bS ∧ g ≠ bL ∧ g ≠ bM ∧ g ≠ gP := by
  obtain ⟨D, ⟨es, clock, hh, -⟩, -⟩ := h.hM
  obtain ⟨cur, h2, -⟩ := OwnK.row h.hP
  obtain ⟨cur2, h5, -⟩ := ho.toV.row
  have h3 := h.hS
  have h4 := h.hL
  refine ⟨?_, ?_, ?_, ?_⟩ <;> intro e <;> subst e <;> simp_all
theorem SmStP.neRows (h : SmStP w B bS bL bM gP cP nP nM m ps) {B2 g cap : Nat} {rs : List RowRef} (ho : OwnRows w B2 g cap rs) : g ≠ bS ∧ g ≠ bL ∧ g ≠ bM ∧ g ≠ gP := by
  obtain ⟨D, ⟨es, clock, hh, -⟩, -⟩ := h.hM
  obtain ⟨cur, h2, -⟩ := OwnK.row h.hP
  obtain ⟨cur2, h5, -⟩ := ho.1.row
  have h3 := h.hS
  have h4 := h.hL
  refine ⟨?_, ?_, ?_, ?_⟩ <;> intro e <;> subst e <;> simp_all
/-- a list of rows besides stays as it was -/
theorem SmFr.rowsP (h : SmFr w w' bL gP bM) (st : SmStP w B bS bL bM gP cP nP nM m ps) {B2 g cap : Nat} {rs : List RowRef} (ho : OwnRows w B2 g cap rs) : OwnRows w' B2 g cap rs := by
  have h1 := st.neRows ho
  exact ⟨ho.1.same (h.block _ ho.lt h1.2.1 h1.2.2.2 h1.2.2.1), fun r hr => by
    have h2 := st.neOwn (ho.2.1 r hr)
    exact (ho.2.1 r hr).same (h.block _ (ho.2.1 r hr).lt h2.2.1 h2.2.2.2 h2.2.2.1), ho.2.2⟩
end
end Go.Proofs.Ytmjneokgnnbekaa
namespace Go.Proofs.Ytmjneokgnnbekaa
set_option maxRecDepth 100000
open Go.RowKit Game

/-- the list behind 'add' -/
def addQP (ps : List PairRef) (p : PairRef) : List PairRef := if posB p.1.2.2 = true ∧ heightL p.1.2.2 ≤ 12 ∧ p.1.2.2 ∉ rootsQ ps then ps ++ [p] else ps
def AddPostP (B bS bL bM gP m : Nat) (w : World) (ps' : List PairRef) (e : Ending) (w' : World) : Prop :=
  e = .returned (.tuple #[]) ∧ SmFr w w' bL gP bM ∧ ∃ gP' cP' nP' nM', SmStP w' B bS bL bM gP' cP' nP' nM' m ps' ∧ (gP' = gP ∨ w.heap.size ≤ gP')
end Go.Proofs.Ytmjneokgnnbekaa
