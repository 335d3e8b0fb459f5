/- Sets of vectors that a call keeps in a map: words and laws. Pairs of roots and coroots of the call's own; 'add', that puts one into the list unless it is there: contract. 'add', that puts a pair into the list unless its root is there: contract. pairedRoots' closure 'add': contract. The program's search for positive roots, as lists of roots: what holds on the way. Plain law. -/
import Derived.Test.YtnpechcnmchneaaGreatDoorG07
import Derived.Maps.Own
import Derived.Maps.OwnOps
import Derived.Maps.Views
import Derived.WideKeyArr2
import Derived.DeepKeys4
import Derived.Test.YtnpechcnmchneaaGreatDoorG35
import Derived.Test.YtnpechcnmchneaaGreatDoorG32
import Derived.Deep.RegionHeld3
namespace Go.Proofs.YtnpechcnmchneaaGreatDoor
set_option maxRecDepth 100000
open Go.RowKit Game
open Go.Maps (Keyed IsMap)

theorem vecLaidOutP : laidOutB Tryz.prog = true := by kernel_rfl
theorem vecRowP : (127 : TypeId) < Tryz.prog.types.size := of_decide_eq_true (by kernel_rfl)
theorem vecLawP : WideMaps.KeyLaw Tryz.prog 127 := deep_law_laid vecLaidOutP (m := 2) (by omega) vecRowP (by kernel_rfl) (by rw [Tryz.underlying127])
theorem vecKeyedP : Keyed Tryz.prog 127 := Keyed.of_law vecLawP
theorem vecArrP : WideMaps.ArrKey Tryz.prog 127 3 4 := ⟨Tryz.underlying127, by kernel_rfl, by kernel_rfl, by kernel_rfl⟩
theorem boolZeroP (w : World) : (zeroValue 4).run Tryz.prog w = .ok (.bool false) w := by kernel_rfl
theorem typesPosP : ∃ m, Tryz.prog.types.size = m + 1 := by
  have h : 0 < Tryz.prog.types.size := Nat.lt_of_le_of_lt (Nat.zero_le _) vecRowP
  generalize Tryz.prog.types.size = k at h
  exact ⟨k - 1, by omega⟩

def WfVP (v : List Int) : Prop := ∀ j, j < 4 → (Lit.int .i64 (v.getD j 0)).wf = true
def keyLP (v : List Int) : Lit := .string (keyBytes [.int .i64 (v.getD 0 0), .int .i64 (v.getD 1 0), .int .i64 (v.getD 2 0), .int .i64 (v.getD 3 0)])
theorem keyOf_vecP {v : List Int} (h : WfVP v) : keyOf Tryz.prog 127 (vecVal v) = some (keyLP v) := by
  have hkt := vecArrP.keyType typesPosP
  obtain ⟨m, hm⟩ := typesPosP
  have h0 := h 0 (by omega)
  have h1 := h 1 (by omega)
  have h2 := h 2 (by omega)
  have h3 := h 3 (by omega)
  unfold vecVal keyLP
  generalize v.getD 0 0 = x0 at *
  generalize v.getD 1 0 = x1 at *
  generalize v.getD 2 0 = x2 at *
  generalize v.getD 3 0 = x3 at *
  unfold keyOf
  simp only [vecArrP.hu]
  rw [if_pos (by simp [hkt, Value.formed, vecArrP.hu, vecArrP.size]), hm]
  unfold Program.keyLits
  simp only [vecArrP.hu, Value.cells]
  rw [if_pos (by rw [vecArrP.size]; rfl), show List.range 4 = [0, 1, 2, 3] from rfl, List.mapM_cons, List.mapM_cons, List.mapM_cons, List.mapM_cons, List.mapM_nil]
  simp [vecArrP.one, Program.keyLits, Tryz.underlying3, h0, h1, h2, h3]
theorem vecVal_injP {v u : List Int} (hl : v.length = u.length) (h4 : v.length ≤ 4) (h : vecVal v = vecVal u) : v = u := by
  unfold vecVal at h
  simp at h
  obtain ⟨h0, h1, h2, h3⟩ := h
  apply List.ext_getElem hl
  intro i hi hi'
  have : i = 0 ∨ i = 1 ∨ i = 2 ∨ i = 3 := by omega
  rcases this with rfl | rfl | rfl | rfl <;> simp_all
theorem keyL_injP {v u : List Int} (hv : WfVP v) (hu : WfVP u) (hl : v.length = u.length) (h4 : v.length ≤ 4) (h : keyLP v = keyLP u) : v = u :=
  vecVal_injP hl h4 (vecKeyedP.inj (keyOf_vecP hv) (by rw [h]; exact keyOf_vecP hu))

/-- block b is a map that holds just these vectors of m numbers -/
def SeenMP (w : World) (b n m : Nat) (ks : List (List Int)) : Prop :=
  ∃ D : DataW Unit, w.ownsMap Tryz.prog 127 (plainElem Tryz.prog 4) b n D ∧ IsMap D ∧ ∀ v : List Int, v.length = m → WfVP v → D.atKey (keyLP v) (.lit (.bool false)) = .lit (.bool (decide (v ∈ ks)))
section
variable {w w' : World} {b n m : Nat} {ks : List (List Int)}
theorem SeenMP.start (w : World) (m : Nat) : SeenMP (w.alloc (.map #[] 0)) w.heap.size 0 m [] :=
  ⟨.map [], World.ownsMap_made _ _ _ _, ⟨[], rfl⟩, fun v _ _ => by simp [DataW.atKey]⟩
theorem SeenMP.lt (h : SeenMP w b n m ks) : b < w.heap.size := by obtain ⟨D, h, -⟩ := h; exact h.lt
theorem SeenMP.grown {row : Option Nat} (h : SeenMP w b n m ks) (hg : w.grownBy w' row) (hne : some b ≠ row) : SeenMP w' b n m ks := by
  obtain ⟨D, h, h2⟩ := h; exact ⟨D, h.kept hg hne, h2⟩
theorem SeenMP.below {B : Nat} (h : SeenMP w b n m ks) (hb : Below B w w') (hB : b < B) : SeenMP w' b n m ks := by
  obtain ⟨D, ⟨es, clock, hh, r⟩, h2⟩ := h
  exact ⟨D, ⟨es, clock, (hb.block b hB).trans hh, r⟩, h2⟩
theorem SeenMP.still (h : SeenMP w b n m ks) (hs : ∃ k, w' = w.drewN k) : SeenMP w' b n m ks := by obtain ⟨k, rfl⟩ := hs; exact h
theorem plainElem_bool_invP {P : Program} {e : TypeId} (he : P.underlying e = some .bool) {v : Value} {z : DataW Unit × List MemPlace} (h : plainElem P e v = some z) : ∃ x, v = .bool x ∧ z = (.lit (.bool x), []) := by
  unfold plainElem at h
  rw [he] at h
  cases v <;> simp at h
  subst h
  exact ⟨_, rfl, rfl⟩
/-- 'seen[key]' -/
theorem wpList_seen_lookupP {ops : Array Oper} {rest : List Oper} {o : Oper} {a : Act} {Q : Exit → Act → World → Prop}
    (hg : o.guard = none) (x y : Operand) (hop : o.op = Op.lookup 134 x y false) (b n m : Nat) (ks : List (List Int)) (v : List Int) (hv : v.length = m) (hw : WfVP v)
    (hown : SeenMP w b n m ks) (hx : a.eval x = .map (some b)) (hy : a.eval y = vecVal v) (r : Bool) (hr : decide (v ∈ ks) = r)
    (hK : wpList Tryz.prog ops Q rest (a.put o.dst (.bool r)) w) :
    wpList Tryz.prog ops Q (o :: rest) a w := by
  refine wpList_plain hg fun K' hK' => ?_
  obtain ⟨D, hD, -, hat⟩ := hown
  obtain ⟨u, ps, hrun, hu⟩ := hD.lookup vecKeyedP Tryz.underlying134 (boolZeroP w) (plainElem_bool (H := Unit) Tryz.underlying4 false) (keyOf_vecP hw)
  obtain ⟨z, rfl, hz⟩ := plainElem_bool_invP Tryz.underlying4 hu
  rw [hat v hv hw] at hz
  simp at hz
  unfold Oper.wp
  simp [execOp, hop, hx, hy, hrun, Result.andThen]
  rw [← hz.1, hr]
  exact hK' _ _ hK
/-- 'seen[key] = true' -/
theorem wpList_seen_putP {ops : Array Oper} {rest : List Oper} {o : Oper} {a : Act} {Q : Exit → Act → World → Prop}
    (hg : o.guard = none) (x y z : Operand) (hop : o.op = Op.mapUpdate 134 x y z) (b n m : Nat) (ks : List (List Int)) (v : List Int) (hv : v.length = m) (h4 : m ≤ 4) (hw : WfVP v)
    (hown : SeenMP w b n m ks) (hn : n < 1048576) (hx : a.eval x = .map (some b)) (hy : a.eval y = vecVal v) (hz : a.eval z = .bool true)
    (hK : ∀ w', SeenMP w' b (n + 1) m (ks ++ [v]) → w.grownBy w' (some b) → wpList Tryz.prog ops Q rest (a.put o.dst undef) w') :
    wpList Tryz.prog ops Q (o :: rest) a w := by
  obtain ⟨D, hD, hmap, hat⟩ := hown
  refine wpList_mapUpdate_own w hg x y z _ hop _ _ vecKeyedP Tryz.underlying134 _ b n D hx hD (by unfold maxLen; omega) _ _ (keyLP v) hy hz (keyOf_vecP hw) _ [] (plainElem_bool (H := Unit) Tryz.underlying4 true) ?_
  intro w' hown' hgr
  refine hK w' ⟨_, hown', ?_, fun u hu hwu => ?_⟩ hgr
  · obtain ⟨es, rfl⟩ := hmap
    exact ⟨_, rfl⟩
  · by_cases e : u = v
    · subst e
      rw [Maps.atKey_put_same hmap (vecKeyedP.key (keyOf_vecP hw))]
      simp
    · have hne : keyLP u ≠ keyLP v := fun h => e (keyL_injP hwu hw (by omega) (by omega) h)
      rw [Maps.atKey_put_other hne, hat u hu hwu]
      simp [e]
end
end Go.Proofs.YtnpechcnmchneaaGreatDoor
namespace Go.Proofs.YtnpechcnmchneaaGreatDoor
set_option maxRecDepth 100000
open Go.RowKit Game

def OwnPairsP (w : World) (B g cap : Nat) (ps : List PairRef) : Prop := OwnK w B 136 2 g cap ps.length (flatQ ps)
theorem infoPairP : (Tryz.prog.info? 136).map (fun i => (i.zero, i.size, i.bytes)) = some (some (.agg #[.slice none 0 0, .slice none 0 0]), 2, 48) := by kernel_rfl
section
variable {w w' : World} {B g cap : Nat} {ps : List PairRef}
theorem OwnPairsP.lt (h : OwnPairsP w B g cap ps) : g < w.heap.size := OwnK.lt h
theorem OwnPairsP.base (h : OwnPairsP w B g cap ps) : B ≤ g := OwnK.base h
theorem OwnPairsP.mono {B' : Nat} (h : OwnPairsP w B g cap ps) (hB : B' ≤ B) : OwnPairsP w B' g cap ps := OwnK.mono h hB
theorem OwnPairsP.below (h : OwnPairsP w B g cap ps) (hb : Below w.heap.size w w') : OwnPairsP w' B g cap ps := OwnK.below h hb (OwnK.lt h)
theorem OwnPairsP.grown {row : Option Nat} (h : OwnPairsP w B g cap ps) (hg : w.grownBy w' row) (hne : some g ≠ row) : OwnPairsP w' B g cap ps := OwnK.grown h hg hne
theorem OwnPairsP.still (h : OwnPairsP w B g cap ps) (hs : ∃ n, w' = w.drewN n) : OwnPairsP w' B g cap ps := by obtain ⟨n, rfl⟩ := hs; exact h
theorem OwnPairsP.cell (h : OwnPairsP w B g cap ps) {j : Nat} (hj : j < ps.length) : w.cell? ⟨g, j * 2, none⟩ = some (rowVal ps[j].1) ∧ w.cell? ⟨g, j * 2 + 1, none⟩ = some (rowVal ps[j].2) := by
  have hl1 : j * 2 < (flatQ ps).length := by rw [flatQ_length]; omega
  have hl2 : j * 2 + 1 < (flatQ ps).length := by rw [flatQ_length]; omega
  obtain ⟨h1, h2⟩ := flatQ_at hj
  rw [OwnK.cell h _ hl1, OwnK.cell h _ hl2, ← h1, ← h2, List.getElem?_eq_getElem hl1, List.getElem?_eq_getElem hl2]
  exact ⟨rfl, rfl⟩
theorem OwnPairsP.empty (hB : B ≤ w.heap.size) : OwnPairsP (w.alloc (.cells #[] 136)) B w.heap.size 0 [] :=
  World.ownsRow_lit w #[] 0 hB (by decide) rfl
theorem OwnPairsP.one (p : PairRef) (hB : B ≤ w.heap.size) : OwnPairsP (w.alloc (.cells #[rowVal p.1, rowVal p.2] 136)) B w.heap.size 1 [p] :=
  World.ownsRow_lit w #[rowVal p.1, rowVal p.2] 1 hB (by decide) rfl
theorem wpList_append_pairP {ops : Array Oper} {rest : List Oper} {o : Oper} {a : Act} {Q : Exit → Act → World → Prop} (hgd : o.guard = none) (s x : Operand)
    (ho : o.op = .call { callee := .builtin .append, args := #[s, x], argTypes := #[133, 133] })
    (B g cap n H : Nat) (ps : List PairRef) (p : PairRef) (w W : World) (hn : ps.length = n) (hW : W = w.alloc (.cells #[rowVal p.1, rowVal p.2] 136)) (hH : w.heap.size = H) (hown : OwnPairsP w B g cap ps)
    (hs : a.eval s = (Value.slice (some ⟨g, 0, none⟩) n cap)) (hx : a.eval x = (Value.slice (some ⟨H, 0, none⟩) 1 1)) (hlen : n + 1 ≤ 1048576)
    (h : ∀ g' cap' w', OwnPairsP w' B g' cap' (ps ++ [p]) → w.grownBy w' (some g) → (g' = g ∨ w.heap.size < g') → wpList Tryz.prog ops Q rest (a.put o.dst (Value.slice (some ⟨g', 0, none⟩) (n + 1) cap')) w') :
    wpList Tryz.prog ops Q (o :: rest) a W := by
  subst hn; subst hW; subst hH
  have hnew := OwnPairsP.one (w := w) (B := w.heap.size) p (Nat.le_refl _)
  refine wpList_append_K infoPairP Tryz.underlying133 rfl (by decide) (by decide) hgd s x ho B g cap ps.length (flatQ ps) (OwnK.alloc hown _) w.heap.size 0 1 1 (pair2 p) rfl ?_ ?_ hs hx hlen ?_
  · intro j u hu
    have hj : j < 2 := by have := (List.getElem?_eq_some_iff.1 hu).1; simpa [pair2] using this
    have h1 := hnew.cell (j := 0) (by simp)
    rw [Nat.zero_mul] at h1
    have : j = 0 ∨ j = 1 := by omega
    rcases this with rfl | rfl
    · rw [Nat.zero_add, h1.1, ← hu]; rfl
    · rw [h1.2, ← hu]; rfl
  · intro u hu
    simp [pair2] at hu
    rcases hu with rfl | rfl <;> rfl
  · intro g' cap' w' h2 h3 h4
    refine h g' cap' w' ?_ ⟨h3.os, h3.tape, h3.output, Nat.le_trans (by simp) h3.size, fun k hk hne => (h3.block k (by simp; omega) hne).trans (Below.heap_alloc _ _ _ hk)⟩ (h4.imp id (by simp; omega))
    unfold OwnPairsP
    rw [flatQ_append, List.length_append]
    have e : flatQ [p] = pair2 p := by simp [flatQ]
    rw [e]
    exact h2
end

/-- what 'add' works on: the set of the roots and the list of pairs, in two boxes -/
structure SmStP (w : World) (B bS bL bM gP cP nP nM m : Nat) (ps : List PairRef) : Prop where
  hS : w.heap[bS]? = some (.cells #[.map (some bM)] 134 (0, 0))
  hL : w.heap[bL]? = some (.cells #[(Value.slice (some ⟨gP, 0, none⟩) nP cP)] 133 (0, 0))
  hP : OwnPairsP w B gP cP ps
  hn : ps.length = nP
  hM : SeenMP w bM nM m (ps.map fun p => p.1.2.2)
  hnM : nM ≤ nP
  rows : ∀ p ∈ ps, Own w B p.1.1 p.1.2.1 p.1.2.2 ∧ Own w B p.2.1 p.2.2.1 p.2.2.2
  nodup : (ps.map fun p => p.1.1).Nodup
  bL_ge : B ≤ bL
  bM_ge : B ≤ bM
section
variable {w w' : World} {B bS bL bM gP cP nP nM m : Nat} {ps : List PairRef}
theorem SeenMP.same {ks : List (List Int)} (h : SeenMP w bM nM m ks) (hs : w'.heap[bM]? = w.heap[bM]?) : SeenMP w' bM nM m ks := by
  obtain ⟨D, ⟨es, clock, hh, r⟩, h2⟩ := h
  exact ⟨D, ⟨es, clock, hs.trans hh, r⟩, h2⟩
theorem SmStP.keep (h : SmStP w B bS bL bM gP cP nP nM m ps) (hk : ∀ k, k < w.heap.size → w'.heap[k]? = w.heap[k]?) : SmStP w' B bS bL bM gP cP nP nM m ps :=
  ⟨(hk _ (box_lt h.hS)).trans h.hS, (hk _ (box_lt h.hL)).trans h.hL, OwnK.same h.hP (hk _ h.hP.lt), h.hn, h.hM.same (hk _ h.hM.lt), h.hnM, fun p hp => ⟨(h.rows p hp).1.same (hk _ (h.rows p hp).1.lt), (h.rows p hp).2.same (hk _ (h.rows p hp).2.lt)⟩, h.nodup, h.bL_ge, h.bM_ge⟩
theorem SmStP.below (h : SmStP w B bS bL bM gP cP nP nM m ps) (hb : Below w.heap.size w w') : SmStP w' B bS bL bM gP cP nP nM m ps := h.keep hb.block
theorem SmStP.still (h : SmStP w B bS bL bM gP cP nP nM m ps) (hs : ∃ n, w' = w.drewN n) : SmStP w' B bS bL bM gP cP nP nM m ps := by obtain ⟨n, rfl⟩ := hs; exact h.keep fun _ _ => rfl
/-- the blocks are different -/
theorem SmStP.ne (h : SmStP w B bS bL bM gP cP nP nM m ps) : bS ≠ bM ∧ bL ≠ bM ∧ gP ≠ bM ∧ bS ≠ gP ∧ bL ≠ gP ∧ bS ≠ bL := by
  obtain ⟨D, ⟨es, clock, hh, -⟩, -⟩ := h.hM
  obtain ⟨cur, h2, -⟩ := OwnK.row h.hP
  have h3 := h.hS
  have h4 := h.hL
  refine ⟨?_, ?_, ?_, ?_, ?_, ?_⟩ <;> intro e <;> subst e <;> simp_all
theorem SmStP.neOwn (h : SmStP w B bS bL bM gP cP nP nM m ps) {B2 g cap : Nat} {xs : List Int} (ho : Own w B2 g cap xs) : g ≠ bS ∧ g ≠ bL ∧ g ≠ bM ∧ g ≠ gP := by
  obtain ⟨D, ⟨es, clock, hh, -⟩, -⟩ := h.hM
  obtain ⟨cur, h2, -⟩ := OwnK.row h.hP
  obtain ⟨cur2, h5, -⟩ := ho.toV.row
  have h3 := h.hS
  have h4 := h.hL
  refine ⟨?_, ?_, ?_, ?_⟩ <;> intro e <;> subst e <;> simp_all
theorem SmStP.neRows (h : SmStP w B bS bL bM gP cP nP nM m ps) {B2 g cap : Nat} {rs : List RowRef} (ho : OwnRows w B2 g cap rs) : g ≠ bS ∧ g ≠ bL ∧ g ≠ bM ∧ g ≠ gP := by
  obtain ⟨D, ⟨es, clock, hh, -⟩, -⟩ := h.hM
  obtain ⟨cur, h2, -⟩ := OwnK.row h.hP
  obtain ⟨cur2, h5, -⟩ := ho.1.row
  have h3 := h.hS
  have h4 := h.hL
  refine ⟨?_, ?_, ?_, ?_⟩ <;> intro e <;> subst e <;> simp_all
/-- a list of rows besides stays as it was -/
theorem SmFr.rowsP (h : SmFr w w' bL gP bM) (st : SmStP w B bS bL bM gP cP nP nM m ps) {B2 g cap : Nat} {rs : List RowRef} (ho : OwnRows w B2 g cap rs) : OwnRows w' B2 g cap rs := by
  have h1 := st.neRows ho
  exact ⟨ho.1.same (h.block _ ho.lt h1.2.1 h1.2.2.2 h1.2.2.1), fun r hr => by
    have h2 := st.neOwn (ho.2.1 r hr)
    exact (ho.2.1 r hr).same (h.block _ (ho.2.1 r hr).lt h2.2.1 h2.2.2.2 h2.2.2.1), ho.2.2⟩
end
end Go.Proofs.YtnpechcnmchneaaGreatDoor
namespace Go.Proofs.YtnpechcnmchneaaGreatDoor
set_option maxRecDepth 100000
open Go.RowKit Game

/-- the list behind 'add' -/
def addQP (ps : List PairRef) (p : PairRef) : List PairRef := if posB p.1.2.2 = true ∧ heightL p.1.2.2 ≤ 12 ∧ p.1.2.2 ∉ rootsQ ps then ps ++ [p] else ps
def AddPostP (B bS bL bM gP m : Nat) (w : World) (ps' : List PairRef) (e : Ending) (w' : World) : Prop :=
  e = .returned (.tuple #[]) ∧ SmFr w w' bL gP bM ∧ ∃ gP' cP' nP' nM', SmStP w' B bS bL bM gP' cP' nP' nM' m ps' ∧ (gP' = gP ∨ w.heap.size ≤ gP')
end Go.Proofs.YtnpechcnmchneaaGreatDoor
namespace Go.Proofs.YtnpechcnmchneaaGreatDoor
set_option maxRecDepth 100000
open Go.RowKit Game
open Go.Maps (Keyed IsMap)

/-- 'seen[key]', run -/
theorem SeenMP.run {w : World} {b n m : Nat} {ks : List (List Int)} {v : List Int} (hown : SeenMP w b n m ks) (hv : v.length = m) (hw : WfVP v) :
    (Instr.lookup 134 (.map (some b)) (vecVal v) false).run Tryz.prog w = .ok (.bool (decide (v ∈ ks))) w := by
  obtain ⟨D, hD, -, hat⟩ := hown
  obtain ⟨u, ps, hrun, hu⟩ := hD.lookup vecKeyedP Tryz.underlying134 (boolZeroP w) (plainElem_bool (H := Unit) Tryz.underlying4 false) (keyOf_vecP hw)
  obtain ⟨z, rfl, hz⟩ := plainElem_bool_invP Tryz.underlying4 hu
  rw [hat v hv hw] at hz
  simp at hz
  rw [hrun, hz.1]

theorem frame_still {w w2 w3 : World} {bL gP bM : Nat} (h : Below w.heap.size w w2) (hs : ∃ k, w3 = w2.drewN k) : SmFr w w3 bL gP bM := by
  have hb := below_still h hs
  exact ⟨hb.os, hb.tape, hb.output, hb.size, fun k hk _ _ _ => hb.block k hk⟩

set_option maxRecDepth 100000 in
set_option maxHeartbeats 4000000 in
theorem impl_addP_any (B bS bL bM bH gP cP nP nM gr cr gs cs n n2 : Nat) (ps : List PairRef) (r s : List Int) (w : World) (hn : r.length = n) (hn2 : s.length = n2) (h4 : r.length ≤ 4) (hw : WfVP r) (hnP : nP ≤ 1000) (st : SmStP w B bS bL bM gP cP nP nM r.length ps)
    (hH : w.heap[bH]? = some (.cells #[.int .i64 12] 3 (0, 0))) (hor : Own w B gr cr r) (hos : Own w B gs cs s) (hne : ∀ p ∈ ps, p.1.1 ≠ gr) :
    Calls Tryz.prog 194 #[(Value.slice (some ⟨gr, 0, none⟩) n cr), (Value.slice (some ⟨gs, 0, none⟩) n2 cs), .pointer (some ⟨bS, 0, none⟩), .pointer (some ⟨bH, 0, none⟩), .pointer (some ⟨bL, 0, none⟩)] w (AddPostP B bS bL bM gP r.length w (addQP ps ((gr, cr, r), (gs, cs, s)))) := by
  subst hn; subst hn2
  have hvy : vecVal r = .agg #[.int .i64 (r.getD 0 0), .int .i64 (r.getD 1 0), .int .i64 (r.getD 2 0), .int .i64 (r.getD 3 0)] := rfl
  have hh1 : (w.alloc (.cells #[.int .i64 0, .int .i64 0, .int .i64 0, .int .i64 0] 127)).heap[w.heap.size]? = some (.cells #[.int .i64 0, .int .i64 0, .int .i64 0, .int .i64 0] 127 (0, 0)) := heap_alloc_new _ _
  have hb1 : Below w.heap.size w (w.alloc (.cells #[.int .i64 0, .int .i64 0, .int .i64 0, .int .i64 0] 127)) := (Below.refl _ _).alloc (Nat.le_refl _) _
  have Hh1 := Lib.hid hh1; have Hb1 := Lib.hid hb1
  have Hor := Lib.hid hor
  clear hh1 hb1
  go_enter Tryz.func194, Tryz.ntmps194
  go_wp2_with (refine wpList_copy_splice (o := ⟨some 11, _, _, _, _, _⟩) rfl (.tmp 9) (.tmp 10) 28 28 rfl 3 Tryz.underlying28 (by kernel_rfl) (some ⟨w.heap.size, 0, none⟩) (some ⟨gr, 0, none⟩) 4 4 r.length cr rfl rfl w.heap.size 0 [.int .i64 0, .int .i64 0, .int .i64 0, .int .i64 0] 127 Hh1.out (r.map (Value.int .i64)) (by rw [List.length_map]; exact (Nat.min_eq_left h4).symm) (fun _ => ⟨rfl, ⟨gr, 0, none⟩, rfl, ?_⟩) (by simp; omega) (ints_oneCell _ _) w.heap.size w ?_ (Nat.le_refl _) ?_)
  · intro j u hu
    have hj : j < r.length := by have := (List.getElem?_eq_some_iff.1 hu).1; simpa using this
    rw [Addr.add_lit]
    have h1 : Cells (w.alloc (.cells #[.int .i64 0, .int .i64 0, .int .i64 0, .int .i64 0] 127)) gr 0 r := Hor.out.cells.below Hb1.out Hor.out.lt
    rw [h1 j hj, ← hu]
    simp [List.getD, hj]
  · exact Hb1.out
  · intro w2 HG2 hB2
    have hG2 := HG2.out
    rw [splice4 r h4] at hG2
    have st2 := st.below hB2
    have hor2 := hor.below hB2 hor.lt
    have hos2 := hos.below hB2 hos.lt
    have hH2 := (hB2.block bH (box_lt hH)).trans hH
    have Hvy := Lib.hid hvy
    obtain ⟨⟨a0, a1, a2, a3⟩, af⟩ := cell4 hG2
    have qS := (box_cell st2.hS).1
    have qH := (box_cell hH2).1
    clear hvy HG2 hG2 Hh1 Hb1 Hor hor hos hH st
    have Hs : Hid (∀ q, Calls Tryz.prog 195 #[(Value.slice (some ⟨gr, 0, none⟩) r.length cr)] (w2.drewN q) (Reads (w2.drewN q) (.int .i64 (signL r)))) := Lib.hid fun q => impl_RootSign_any gr 0 r.length cr r (w2.drewN q) rfl (by omega) (hor2.cells.still ⟨q, rfl⟩)
    have Hh : Hid (∀ q, Calls Tryz.prog 150 #[(Value.slice (some ⟨gr, 0, none⟩) r.length cr)] (w2.drewN q) (Reads (w2.drewN q) (.int .i64 (heightL r)))) := Lib.hid fun q => impl_HeightOf_any gr 0 r.length cr r (w2.drewN q) rfl (by omega) (hor2.cells.still ⟨q, rfl⟩)
    have hs1 := sign_one r
    have hrun := fun q => SeenMP.run (w := w2.drewN q) (b := bM) (ks := rootsQ ps) (v := r) (st2.hM.still ⟨q, rfl⟩) rfl hw
    rw [Hvy.out] at hrun
    generalize r.getD 0 0 = y0 at *
    generalize r.getD 1 0 = y1 at *
    generalize r.getD 2 0 = y2 at *
    generalize r.getD 3 0 = y3 at *
    clear af
    by_cases hmem : r ∈ rootsQ ps
    · rw [decide_eq_true hmem] at hrun
      have Hq : Hid (addQP ps ((gr, cr, r), (gs, cs, s)) = ps) := Lib.hid (by unfold addQP; rw [if_neg (fun h => h.2.2 hmem)])
      clear hs1
      go_wp2_with fail
      go_quiet (first | (go_at_call 195; first | with_reducible exact Calls.quiet_of (Hs.out _) | with_reducible exact Reads.quiet4 (Hs.out _)) | (go_at_call 150; first | with_reducible exact Calls.quiet_of (Hh.out _) | with_reducible exact Reads.quiet4 (Hh.out _)))
      go_wp2_with fail
      go_end0
      exact ⟨rfl, frame_still hB2 ⟨_, rfl⟩, gP, cP, nP, nM, by rw [Hq.out]; exact st2.still ⟨_, rfl⟩, .inl rfl⟩
    rw [decide_eq_false hmem] at hrun
    by_cases hp : posB r = true
    · have d1 : (signL r == 1) = true := by rw [hs1]; exact hp
      by_cases hh : heightL r ≤ 12
      · have d2 : decide (heightL r ≤ 12) = true := decide_eq_true hh
        have Hq : Hid (addQP ps ((gr, cr, r), (gs, cs, s)) = ps ++ [((gr, cr, r), (gs, cs, s))]) := Lib.hid (by unfold addQP; rw [if_pos ⟨hp, hh, hmem⟩])
        generalize signL r = sg at *
        generalize heightL r = hr at *
        clear hs1 hh hmem hp
        have hnM := st2.hnM
        go_wp2_with fail
        go_quiet (first | (go_at_call 195; first | with_reducible exact Calls.quiet_of (Hs.out _) | with_reducible exact Reads.quiet4 (Hs.out _)) | (go_at_call 150; first | with_reducible exact Calls.quiet_of (Hh.out _) | with_reducible exact Reads.quiet4 (Hh.out _)))
        go_wp2_with (at_mapUpdate; refine wpList_seen_putP rfl _ _ _ rfl bM nM r.length (rootsQ ps) r rfl h4 hw (st2.hM.still ⟨_, rfl⟩) (by omega) rfl (by rw [Hvy.out]; rfl) rfl ?_)
        intro w3 hM3 hg3'
        have hg3 : w2.grownBy w3 (some bM) := ⟨hg3'.os, hg3'.tape, hg3'.output, hg3'.size, hg3'.block⟩
        clear hg3'
        obtain ⟨n1, n2, n3, n4, n5, n6⟩ := st2.ne
        have hS3 := (hg3.block bS (box_lt st2.hS) (by intro e; exact n1 (Option.some.inj e))).trans st2.hS
        have hL3 := (hg3.block bL (box_lt st2.hL) (by intro e; exact n2 (Option.some.inj e))).trans st2.hL
        have hP3 := st2.hP.grown hg3 (by intro e; exact n3 (Option.some.inj e))
        have qL := (box_cell hL3).1
        go_wp2_with (at_builtin; refine wpList_append_pairP rfl _ _ rfl B gP cP nP w3.heap.size ps ((gr, cr, r), (gs, cs, s)) w3 _ st2.hn rfl rfl hP3 rfl rfl (by omega) ?_)
        intro g4 c4 w4 hP4 hg4 hor4
        have hS4 := (hg4.block bS (box_lt hS3) (by intro e; exact n4 (Option.some.inj e))).trans hS3
        have hL4 := (hg4.block bL (box_lt hL3) (by intro e; exact n5 (Option.some.inj e))).trans hL3
        have fL := (box_cell hL4).2
        have cL := (box_cell hL4).1
        go_wp2
        go_end0
        have hblk : ∀ k, k < w2.heap.size → k ≠ bL → k ≠ gP → k ≠ bM → (w4.setCell ⟨bL, 0, none⟩ (Value.slice (some ⟨g4, 0, none⟩) (nP + 1) c4)).heap[k]? = w2.heap[k]? := fun k hk h1 h2 h3 =>
          (heap_setCell_ne h1).trans ((hg4.block k (Nat.lt_of_lt_of_le hk hg3.size) (by intro e; exact h2 (Option.some.inj e))).trans (hg3.block k hk (by intro e; exact h3 (Option.some.inj e))))
        have hg4b : g4 ≠ bL := by
          have := box_lt hL3
          rcases hor4 with h | h
          · rw [h]; exact Ne.symm n5
          · omega
        refine ⟨rfl, ⟨hg4.os.trans (hg3.os.trans hB2.os), hg4.tape.trans (hg3.tape.trans hB2.tape), hg4.output.trans (hg3.output.trans hB2.output), ?_, fun k hk h1 h2 h3 => (hblk k (Nat.lt_of_lt_of_le hk hB2.size) h1 h2 h3).trans (hB2.block k hk)⟩, g4, c4, nP + 1, nM + 1, ?_, hor4.imp id (fun h => by have := hB2.size; have := hg3.size; omega)⟩
        · rw [heap_setCell_size]
          exact Nat.le_trans hB2.size (Nat.le_trans hg3.size hg4.size)
        · rw [Hq.out]
          refine ⟨(heap_setCell_ne n6).trans hS4, one_setCell hL4, OwnK.same hP4 (heap_setCell_ne hg4b), by rw [List.length_append, st2.hn]; rfl, ?_, by omega, ?_, ?_, st2.bL_ge, st2.bM_ge⟩
          · rw [List.map_append]
            exact hM3.same ((heap_setCell_ne (Ne.symm n2)).trans (hg4.block bM hM3.lt (by intro e; exact n3 (Option.some.inj e).symm)))
          · intro p hp
            rcases List.mem_append.1 hp with h | h
            · have h1 := st2.rows p h
              have a1 := st2.neOwn h1.1
              have a2 := st2.neOwn h1.2
              exact ⟨h1.1.same (hblk _ h1.1.lt a1.2.1 a1.2.2.2 a1.2.2.1), h1.2.same (hblk _ h1.2.lt a2.2.1 a2.2.2.2 a2.2.2.1)⟩
            · rw [List.mem_singleton] at h
              subst h
              have a1 := st2.neOwn hor2
              have a2 := st2.neOwn hos2
              exact ⟨hor2.same (hblk _ hor2.lt a1.2.1 a1.2.2.2 a1.2.2.1), hos2.same (hblk _ hos2.lt a2.2.1 a2.2.2.2 a2.2.2.1)⟩
          · rw [List.map_append, List.nodup_append]
            refine ⟨st2.nodup, by simp, ?_⟩
            intro a ha b hb e
            obtain ⟨p, hp, rfl⟩ := List.mem_map.1 ha
            rw [List.map_cons, List.map_nil, List.mem_singleton] at hb
            exact hne p hp (e.trans hb)
      · have d2 : decide (heightL r ≤ 12) = false := decide_eq_false hh
        have hneg : ¬ (posB r = true ∧ heightL r ≤ 12 ∧ r ∉ rootsQ ps) := fun h => hh h.2.1
        have Hq : Hid (addQP ps ((gr, cr, r), (gs, cs, s)) = ps) := Lib.hid (by unfold addQP; rw [if_neg hneg])
        generalize signL r = sg at *
        generalize heightL r = hr at *
        clear hs1 hneg hh
        go_wp2_with fail
        go_quiet (first | (go_at_call 195; first | with_reducible exact Calls.quiet_of (Hs.out _) | with_reducible exact Reads.quiet4 (Hs.out _)) | (go_at_call 150; first | with_reducible exact Calls.quiet_of (Hh.out _) | with_reducible exact Reads.quiet4 (Hh.out _)))
        go_wp2_with fail
        go_end0
        exact ⟨rfl, frame_still hB2 ⟨_, rfl⟩, gP, cP, nP, nM, by rw [Hq.out]; exact st2.still ⟨_, rfl⟩, .inl rfl⟩
    · have d1 : (signL r == 1) = false := by rw [hs1]; simpa using hp
      have Hq : Hid (addQP ps ((gr, cr, r), (gs, cs, s)) = ps) := Lib.hid (by unfold addQP; rw [if_neg (fun h => hp h.1)])
      generalize signL r = sg at *
      clear hs1
      go_wp2_with fail
      go_quiet (first | (go_at_call 195; first | with_reducible exact Calls.quiet_of (Hs.out _) | with_reducible exact Reads.quiet4 (Hs.out _)) | (go_at_call 150; first | with_reducible exact Calls.quiet_of (Hh.out _) | with_reducible exact Reads.quiet4 (Hh.out _)))
      go_wp2_with fail
      go_end0
      exact ⟨rfl, frame_still hB2 ⟨_, rfl⟩, gP, cP, nP, nM, by rw [Hq.out]; exact st2.still ⟨_, rfl⟩, .inl rfl⟩
end Go.Proofs.YtnpechcnmchneaaGreatDoor
namespace Go.Proofs.YtnpechcnmchneaaGreatDoor
set_option maxRecDepth 100000
open Go.RowKit

def addR (Q : List (List Int)) (r : List Int) : List (List Int) := if posB r = true ∧ heightL r ≤ 12 ∧ r ∉ Q then Q ++ [r] else Q
theorem rootsQ_addQP (ps : List PairRef) (p : PairRef) : rootsQ (addQP ps p) = addR (rootsQ ps) p.1.2.2 := by
  unfold addQP addR
  split
  · simp [rootsQ]
  · rfl
structure PrSt (c Q : List (List Int)) (k i : Nat) : Prop where
  nodup : Q.Nodup
  sub : ∀ x ∈ Q, x ∈ posL c
  simp : ∀ j, j < c.length → simpL c.length j ∈ Q
  done : ∀ j t, (j < k ∧ t < c.length ∨ j = k ∧ t < i) → j < Q.length → posB (mirL c t (Q.getD j [])) = true → heightL (mirL c t (Q.getD j [])) ≤ 12 → mirL c t (Q.getD j []) ∈ Q
theorem addR_sub {Q : List (List Int)} {r : List Int} : ∀ x ∈ Q, x ∈ addR Q r := fun x hx => by
  unfold addR; split
  · exact List.mem_append_left _ hx
  · exact hx
theorem addR_getD {Q : List (List Int)} {r : List Int} {j : Nat} (hj : j < Q.length) : (addR Q r).getD j [] = Q.getD j [] := by
  unfold addR; split
  · simp [List.getD, hj, List.getElem?_append_left hj]
  · rfl
theorem addR_len {Q : List (List Int)} {r : List Int} : Q.length ≤ (addR Q r).length ∧ (addR Q r).length ≤ Q.length + 1 := by
  unfold addR; split <;> simp
theorem PrSt.step {c Q : List (List Int)} {k i : Nat} (hP : PosOk c) (h : PrSt c Q k i) (hk : k < Q.length) (hi : i < c.length) : PrSt c (addR Q (mirL c i (Q.getD k []))) k (i + 1) := by
  have hx : Q.getD k [] ∈ Q := by simp [List.getD, hk]
  refine ⟨?_, ?_, fun j hj => addR_sub _ (h.simp j hj), ?_⟩
  · unfold addR
    split
    · rename_i hc
      rw [List.nodup_append]
      refine ⟨h.nodup, by simp, ?_⟩
      intro a ha b hb e
      rw [List.mem_singleton] at hb
      subst hb; subst e
      exact hc.2.2 ha
    · exact h.nodup
  · intro x hx'
    unfold addR at hx'
    split at hx'
    · rename_i hc
      rcases List.mem_append.1 hx' with g | g
      · exact h.sub x g
      · rw [List.mem_singleton] at g
        subst g
        exact hP.closed.step _ (h.sub _ hx) i hi hc.1 hc.2.1
    · exact h.sub x hx'
  · intro j t hjt hj h1 h2
    have hjQ : j < Q.length := by
      rcases hjt with ⟨g, -⟩ | ⟨g, -⟩ <;> omega
    rw [addR_getD hjQ] at h1 h2 ⊢
    by_cases e : j = k ∧ t = i
    · obtain ⟨rfl, rfl⟩ := e
      by_cases hm : mirL c t (Q.getD j []) ∈ Q
      · exact addR_sub _ hm
      · unfold addR
        rw [if_pos ⟨h1, h2, hm⟩]
        simp
    · refine addR_sub _ (h.done j t ?_ hjQ h1 h2)
      rcases hjt with g | ⟨g1, g2⟩
      · exact .inl g
      · exact .inr ⟨g1, by omega⟩
theorem PrSt.next {c Q : List (List Int)} {k : Nat} (h : PrSt c Q k c.length) : PrSt c Q (k + 1) 0 :=
  ⟨h.nodup, h.sub, h.simp, fun j t hjt => h.done j t (by rcases hjt with ⟨g1, g2⟩ | ⟨-, g2⟩ <;> omega)⟩
theorem PrSt.few {c Q : List (List Int)} {k i : Nat} (hP : PosOk c) (h : PrSt c Q k i) : Q.length ≤ 24 := by
  exact Nat.le_trans (h.nodup.length_le_of_subset h.sub) hP.few
theorem PrSt.fin {c Q : List (List Int)} {k : Nat} (h : PrSt c Q k 0) (hk : Q.length ≤ k) : putsR Q = posL c := by
  refine posL_eq h.nodup h.sub ⟨h.simp, fun r hr i hi h1 h2 => ?_⟩
  obtain ⟨j, hj, rfl⟩ := List.mem_iff_getElem.1 hr
  have e : Q.getD j [] = Q[j] := by simp [List.getD, hj]
  have := h.done j i (.inl ⟨by omega, hi⟩) hj
  rw [e] at this
  exact this h1 h2
theorem PrSt.start {c : List (List Int)} (h : ∀ j, j < c.length → simpL c.length j ∈ (smStart c).map (·.1)) (hn : ((smStart c).map (·.1)).Nodup) (hP : PosOk c) : PrSt c ((smStart c).map (·.1)) 0 0 :=
  ⟨hn, fun x hx => by
    obtain ⟨p, hp, rfl⟩ := List.mem_map.1 hx
    unfold smStart at hp
    obtain ⟨i, hi, rfl⟩ := List.mem_map.1 hp
    exact hP.closed.simp i (List.mem_range.1 hi), h, fun j t hjt => by omega⟩
end Go.Proofs.YtnpechcnmchneaaGreatDoor
