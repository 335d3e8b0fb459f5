/- A map of known counts, keyed by vectors of five numbers: words and laws. The program's count of partitions, with a map of known counts: contracts. -/
import Derived.Test.YtnpechcnmchneaaGreatDoorG44
import Derived.Test.YtnpechcnmchneaaGreatDoorG07
import Derived.Maps.Own
import Derived.Maps.OwnOps
import Derived.Maps.OwnSet
import Derived.Maps.Views
import Derived.WideKeyArr2
import Derived.DeepKeys4
namespace Go.Proofs.YtnpechcnmchneaaGreatDoor
set_option maxRecDepth 100000
open Go.RowKit Game
open Go.Maps (Keyed IsMap has)

def kvVal (r : List Int) (k : Nat) : Value := .agg #[.int .i64 (r.getD 0 0), .int .i64 (r.getD 1 0), .int .i64 (r.getD 2 0), .int .i64 (r.getD 3 0), .int .i64 (k : Int)]
theorem splice5 (v : List Int) (k : Nat) (h : v.length ≤ 4) : splice [Value.int .i64 0, .int .i64 0, .int .i64 0, .int .i64 0, .int .i64 (k : Int)] 0 (v.map (Value.int .i64)) = [.int .i64 (v.getD 0 0), .int .i64 (v.getD 1 0), .int .i64 (v.getD 2 0), .int .i64 (v.getD 3 0), .int .i64 (k : Int)] := by
  match v, h with
  | [], _ => rfl
  | [a], _ => rfl
  | [a, b], _ => rfl
  | [a, b, c], _ => rfl
  | [a, b, c, d], _ => rfl
theorem cell5 {w : World} {B : Nat} {a b c d f : Value} {t : TypeId} (h : w.heap[B]? = some (.cells #[a, b, c, d, f] t (0, 0))) :
    (w.cell? ⟨B, 0, none⟩ = some a ∧ w.cell? ⟨B, 1, none⟩ = some b ∧ w.cell? ⟨B, 2, none⟩ = some c ∧ w.cell? ⟨B, 3, none⟩ = some d ∧ w.cell? ⟨B, 4, none⟩ = some f) ∧ ∀ j, w.frozen? ⟨B, j, none⟩ = false := by
  refine ⟨⟨?_, ?_, ?_, ?_, ?_⟩, fun j => ?_⟩ <;> simp [World.cell?, World.frozen?, h]
theorem kvLaidOut : laidOutB Tryz.prog = true := by kernel_rfl
theorem kvRow : (92 : TypeId) < Tryz.prog.types.size := of_decide_eq_true (by kernel_rfl)
theorem kvLaw : WideMaps.KeyLaw Tryz.prog 92 := deep_law_laid kvLaidOut (m := 2) (by omega) kvRow (by kernel_rfl) (by rw [Tryz.underlying92])
theorem kvKeyed : Keyed Tryz.prog 92 := Keyed.of_law kvLaw
theorem kvArr : WideMaps.ArrKey Tryz.prog 92 3 5 := ⟨Tryz.underlying92, by kernel_rfl, by kernel_rfl, by kernel_rfl⟩
theorem intZeroK (w : World) : (zeroValue 3).run Tryz.prog w = .ok (.int .i64 0) w := by kernel_rfl
theorem kvTypesPos : ∃ m, Tryz.prog.types.size = m + 1 := by
  have h : 0 < Tryz.prog.types.size := Nat.lt_of_le_of_lt (Nat.zero_le _) kvRow
  generalize Tryz.prog.types.size = k at h
  exact ⟨k - 1, by omega⟩
def kvL (r : List Int) (k : Nat) : Lit := .string (keyBytes [.int .i64 (r.getD 0 0), .int .i64 (r.getD 1 0), .int .i64 (r.getD 2 0), .int .i64 (r.getD 3 0), .int .i64 (k : Int)])
/-- numbers that fit -/
def WfK (v : List Int) : Prop := ∀ j, j < 4 → (Lit.int .i64 (v.getD j 0)).wf = true
theorem wf_smK {x : Int} (h : -1000000 ≤ x ∧ x ≤ 1000000) : (Lit.int .i64 x).wf = true := by
  simp [Lit.wf, IntKind.min, IntKind.max, IntKind.signed, IntKind.bits]; omega
theorem Sm12.wfK {n : Nat} {r : List Int} (h : Sm12 n r) : WfK r := fun j _ => by
  by_cases hj : j < n
  · exact wf_smK (by have := h.2 j hj; omega)
  · have : r.getD j 0 = 0 := by simp [List.getD, List.getElem?_eq_none (show r.length ≤ j by rw [h.1]; omega)]
    rw [this]; exact wf_smK (by omega)
theorem keyOf_kv {v : List Int} {k : Nat} (h : WfK v) (hk : k ≤ 1000) : keyOf Tryz.prog 92 (kvVal v k) = some (kvL v k) := by
  have hkt := kvArr.keyType kvTypesPos
  obtain ⟨m, hm⟩ := kvTypesPos
  have h0 := h 0 (by omega)
  have h1 := h 1 (by omega)
  have h2 := h 2 (by omega)
  have h3 := h 3 (by omega)
  have h4 : (Lit.int .i64 (k : Int)).wf = true := wf_smK (by omega)
  unfold kvVal kvL
  generalize v.getD 0 0 = x0 at *
  generalize v.getD 1 0 = x1 at *
  generalize v.getD 2 0 = x2 at *
  generalize v.getD 3 0 = x3 at *
  generalize (k : Int) = x4 at *
  unfold keyOf
  simp only [kvArr.hu]
  rw [if_pos (by simp [hkt, Value.formed, kvArr.hu, kvArr.size]), hm]
  unfold Program.keyLits
  simp only [kvArr.hu, Value.cells]
  rw [if_pos (by rw [kvArr.size]; rfl), show List.range 5 = [0, 1, 2, 3, 4] from rfl, List.mapM_cons, List.mapM_cons, List.mapM_cons, List.mapM_cons, List.mapM_cons, List.mapM_nil]
  simp [kvArr.one, Program.keyLits, Tryz.underlying3, h0, h1, h2, h3, h4]
theorem kvVal_inj {n : Nat} {v u : List Int} {k l : Nat} (hv : Sm12 n v) (hu : Sm12 n u) (h4 : n ≤ 4) (h : kvVal v k = kvVal u l) : v = u ∧ k = l := by
  unfold kvVal at h
  simp at h
  obtain ⟨h0, h1, h2, h3, h5⟩ := h
  refine ⟨?_, by omega⟩
  apply List.ext_getElem (by rw [hv.1, hu.1])
  intro i hi hi'
  have hl1 := hv.1
  have : i = 0 ∨ i = 1 ∨ i = 2 ∨ i = 3 := by omega
  rcases this with rfl | rfl | rfl | rfl
  · simpa [List.getElem?_eq_getElem hi, List.getElem?_eq_getElem hi'] using h0
  · simpa [List.getElem?_eq_getElem hi, List.getElem?_eq_getElem hi'] using h1
  · simpa [List.getElem?_eq_getElem hi, List.getElem?_eq_getElem hi'] using h2
  · simpa [List.getElem?_eq_getElem hi, List.getElem?_eq_getElem hi'] using h3
theorem wLoop_wf {F : List Int → Int} {p : List Int} : ∀ (f : Nat) (x : List Int) (acc : Int), (Lit.int .i64 acc).wf = true → (Lit.int .i64 (wLoop F p f x acc)).wf = true
  | 0, _, _, h => h
  | f + 1, x, acc, h => by
    unfold wLoop
    split
    · exact h
    · exact wLoop_wf f _ _ (wrap64_wf _)
theorem ways_wf (ps : List (List Int)) (r : List Int) : (Lit.int .i64 (ways ps r)).wf = true := by
  cases ps with
  | nil => unfold ways; split <;> decide
  | cons p ps => exact wLoop_wf _ _ _ (by decide)
theorem kvL_inj {n : Nat} {v u : List Int} {k l : Nat} (hv : Sm12 n v) (hu : Sm12 n u) (h4 : n ≤ 4) (hk : k ≤ 1000) (hl : l ≤ 1000) (h : kvL v k = kvL u l) : v = u ∧ k = l :=
  kvVal_inj hv hu h4 (kvKeyed.inj (keyOf_kv hv.wfK hk) (by rw [h]; exact keyOf_kv hu.wfK hl))

/-- block b is a map that knows some counts, and all that it knows is right -/
def KnM (w : World) (b N n : Nat) (L : List (List Int)) : Prop :=
  ∃ D : DataW Unit, w.ownsMap Tryz.prog 92 (plainElem Tryz.prog 3) b N D ∧ IsMap D ∧ ∀ (v : List Int) (k : Nat), Sm12 n v → k ≤ 1000 → has D (kvL v k) = true → D.atKey (kvL v k) (.lit (.int .i64 0)) = .lit (.int .i64 (ways (L.drop k) v))
section
variable {w w' : World} {b N n : Nat} {L : List (List Int)}
theorem KnM.start (w : World) (n : Nat) (L : List (List Int)) : KnM (w.alloc (.map #[] 0)) w.heap.size 0 n L :=
  ⟨.map [], World.ownsMap_made _ _ _ _, ⟨[], rfl⟩, fun v k _ _ h => by simp [has] at h⟩
theorem KnM.lt (h : KnM w b N n L) : b < w.heap.size := by obtain ⟨D, h, -⟩ := h; exact h.lt
theorem KnM.same (h : KnM w b N n L) (hs : w'.heap[b]? = w.heap[b]?) : KnM w' b N n L := by
  obtain ⟨D, ⟨es, clock, hh, r⟩, h2⟩ := h
  exact ⟨D, ⟨es, clock, hs.trans hh, r⟩, h2⟩
theorem KnM.below {B : Nat} (h : KnM w b N n L) (hb : Below B w w') (hB : b < B) : KnM w' b N n L := h.same (hb.block b hB)
theorem KnM.still (h : KnM w b N n L) (hs : ∃ k, w' = w.drewN k) : KnM w' b N n L := by obtain ⟨k, rfl⟩ := hs; exact h
theorem KnM.block (h : KnM w b N n L) : ∃ es clock, w.heap[b]? = some (.map es clock) := by
  obtain ⟨D, ⟨es, clock, hh, r⟩, h2⟩ := h
  exact ⟨es, clock, hh⟩
theorem KnM.neOwn {g cap B : Nat} {xs : List Int} (h : KnM w b N n L) (ho : Own w B g cap xs) : b ≠ g := by
  rintro rfl
  obtain ⟨es, clock, hh⟩ := h.block
  obtain ⟨cur, h2, -⟩ := ho.toV.row
  rw [hh] at h2
  simp at h2
theorem KnM.neRows {g cap B : Nat} {rs : List RowRef} (h : KnM w b N n L) (ho : OwnRows w B g cap rs) : b ≠ g := by
  rintro rfl
  obtain ⟨es, clock, hh⟩ := h.block
  obtain ⟨cur, h2, -⟩ := ho.1.row
  rw [hh] at h2
  simp at h2
theorem KnM.rows {g cap B : Nat} {rs : List RowRef} (h : KnM w b N n L) (ho : OwnRows w B g cap rs) (hg : w.grownBy w' (some b)) : OwnRows w' B g cap rs :=
  ⟨ho.1.grown hg (fun e => h.neRows ho (Option.some.inj e).symm), fun r hr => (ho.2.1 r hr).grown hg (fun e => h.neOwn (ho.2.1 r hr) (Option.some.inj e).symm), ho.2.2⟩
/-- 'known[key] = sum' -/
theorem wpList_kn_put {ops : Array Oper} {rest : List Oper} {o : Oper} {a : Act} {Q : Exit → Act → World → Prop}
    (hg : o.guard = none) (x y z : Operand) (hop : o.op = Op.mapUpdate 69 x y z) (b N n : Nat) (L : List (List Int)) (v : List Int) (k : Nat) (hv : Sm12 n v) (h4 : n ≤ 4) (hk : k ≤ 1000)
    (hown : KnM w b N n L) (hN : N < 9000000000000000000) (hx : a.eval x = .map (some b)) (hy : a.eval y = kvVal v k) (hz : a.eval z = .int .i64 (ways (L.drop k) v)) (hwf : (Lit.int .i64 (ways (L.drop k) v)).wf = true)
    (hK : ∀ w', KnM w' b (N + 1) n L → w.grownBy w' (some b) → wpList Tryz.prog ops Q rest (a.put o.dst undef) w') :
    wpList Tryz.prog ops Q (o :: rest) a w := by
  obtain ⟨D, hD, hmap, hat⟩ := hown
  refine wpList_mapUpdate_own w hg x y z _ hop _ _ kvKeyed Tryz.underlying69 _ b N D hx hD (by unfold maxLen; omega) _ _ (kvL v k) hy hz (keyOf_kv hv.wfK hk) _ [] (plainElem_int (H := Unit) Tryz.underlying3 hwf) ?_
  intro w' hown' hgr
  refine hK w' ⟨_, hown', ?_, fun u l hu hl => ?_⟩ hgr
  · obtain ⟨es, rfl⟩ := hmap
    exact ⟨_, rfl⟩
  · by_cases e : u = v ∧ l = k
    · obtain ⟨rfl, rfl⟩ := e
      rw [Maps.atKey_put_same hmap (kvKeyed.key (keyOf_kv hu.wfK hl))]
      intro _
      rfl
    · have hne : kvL u l ≠ kvL v k := fun h => e (kvL_inj hu hv h4 hl hk h)
      rw [Maps.has_put_other hne, Maps.atKey_put_other hne]
      exact hat u l hu hl
/-- what the map says of a key -/
structure KnAns (L : List (List Int)) (k : Nat) (v : List Int) where
  z : Int
  r : Bool
  h : r = true → z = ways (L.drop k) v
/-- 'n, ok := known[key]' -/
theorem wpList_kn_look {ops : Array Oper} {rest : List Oper} {o : Oper} {a : Act} {Q : Exit → Act → World → Prop}
    (hg : o.guard = none) (x y : Operand) (hop : o.op = Op.lookup 69 x y true) (b N n : Nat) (L : List (List Int)) (v : List Int) (k : Nat) (hv : Sm12 n v) (hk : k ≤ 1000)
    (hown : KnM w b N n L) (hx : a.eval x = .map (some b)) (hy : a.eval y = kvVal v k)
    (hK : ∀ q : KnAns L k v, wpList Tryz.prog ops Q rest (a.put o.dst (.tuple #[.int .i64 q.z, .bool q.r])) w) :
    wpList Tryz.prog ops Q (o :: rest) a w := by
  obtain ⟨D, hD, -, hat⟩ := hown
  refine wpList_lookup_own_ok_int w hg x y _ hop _ _ .i64 kvKeyed Tryz.underlying69 Tryz.underlying3 (intZeroK w) b N D hx hD (kvVal v k) (kvL v k) hy (keyOf_kv hv.wfK hk) ?_
  intro z hz _
  refine hK ⟨z, _, fun h => ?_⟩
  have := hat v k hv hk h
  rw [hz] at this
  simpa using this
end
end Go.Proofs.YtnpechcnmchneaaGreatDoor
namespace Go.Proofs.YtnpechcnmchneaaGreatDoor
set_option maxRecDepth 100000
open Go.RowKit Game

theorem OwnRows.grownE {w w' : World} {B g cap k H : Nat} {rs : List RowRef} (h : OwnRows w B g cap rs) (hg : w.grownBy w' (some k)) (h1 : g < H ∧ ∀ r ∈ rs, r.1 < H) (hk : H ≤ k) : OwnRows w' B g cap rs :=
  ⟨h.1.grown hg (fun e => by have := Option.some.inj e; omega), fun r hr => (h.2.1 r hr).grown hg (fun e => by have := Option.some.inj e; have := h1.2 r hr; omega), h.2.2⟩
def cnt : Nat → Nat
  | 0 => 0
  | m + 1 => 14 * cnt m + 1
theorem cnt_le : ∀ m, cnt m + 1 ≤ 15 ^ m
  | 0 => by simp [cnt]
  | m + 1 => by
    have := cnt_le m
    have h1 : 1 ≤ 15 ^ m := Nat.one_le_pow _ _ (by decide)
    show 14 * cnt m + 1 + 1 ≤ 15 ^ (m + 1)
    rw [Nat.pow_succ]
    omega
theorem cnt9 {m : Nat} (h : m ≤ 9) : cnt m < 38443359375 := by
  have h1 := cnt_le m
  have h2 : 15 ^ m ≤ 15 ^ 9 := Nat.pow_le_pow_right (by decide) h
  have h3 : (15 : Nat) ^ 9 = 38443359375 := by decide
  omega
def WPost (w : World) (b N m n : Nat) (L : List (List Int)) (z : Int) (e : Ending) (w' : World) : Prop :=
  e = .returned (.int .i64 z) ∧ ∃ N', N' ≤ N + cnt m ∧ KnM w' b N' n L ∧ w.grownBy w' (some b)
theorem grown_below {w w' : World} {b : Nat} (h : Below w.heap.size w w') : w.grownBy w' (some b) := ⟨h.os, h.tape, h.output, h.size, fun k hk _ => h.block k hk⟩
theorem grown_still {w w1 w2 : World} {b : Nat} (h : w.grownBy w1 (some b)) (hs : ∃ k, w2 = w1.drewN k) : w.grownBy w2 (some b) := by obtain ⟨k, rfl⟩ := hs; exact grown_drewN h k
theorem grown_new {w w1 w2 : World} {b g : Nat} (h : w.grownBy w1 (some b)) (hg : w1.grownBy w2 (some g)) (hB : w.heap.size ≤ g) : w.grownBy w2 (some b) :=
  ⟨hg.os.trans h.os, hg.tape.trans h.tape, hg.output.trans h.output, Nat.le_trans h.size hg.size, fun k hk hne => (hg.block k (Nat.lt_of_lt_of_le hk h.size) (by intro e; have := Option.some.inj e; omega)).trans (h.block k hk hne)⟩
def subTo (x p : List Int) (i : Nat) : List Int := (List.range x.length).map fun j => if j < i then x.getD j 0 - p.getD j 0 else x.getD j 0
theorem subTo_length (x p : List Int) (i : Nat) : (subTo x p i).length = x.length := by simp [subTo]
theorem subTo_zero (x p : List Int) : subTo x p 0 = x := by
  apply List.ext_getElem (by simp [subTo])
  intro j h1 h2
  simp [subTo, List.getD, h2]
theorem subTo_all (x p : List Int) : subTo x p x.length = subV x p := by
  apply List.ext_getElem (by simp [subTo, subV])
  intro j h1 h2
  have : j < x.length := by simpa [subTo] using h1
  simp [subTo, subV, this]
theorem subTo_getD {x p : List Int} {i : Nat} (hi : i < x.length) : (subTo x p i).getD i 0 = x.getD i 0 := by simp [subTo, List.getD, hi]
theorem subTo_set {x p : List Int} {i : Nat} (_hi : i < x.length) : (subTo x p i).set i (x.getD i 0 - p.getD i 0) = subTo x p (i + 1) := by
  apply List.ext_getElem (by simp [subTo])
  intro j h1 h2
  have hj : j < x.length := by simpa [subTo] using h2
  rw [List.getElem_set]
  by_cases e : i = j
  · subst e; simp [subTo, List.getD, hj]
  · rw [if_neg e]
    have e2 : (j < i + 1) = (j < i) := by apply propext; omega
    simp [subTo, e2]

set_option maxRecDepth 100000 in
set_option maxHeartbeats 1000000 in
theorem impl_partitions_ok (B gL cL n : Nat) (L : List (List Int)) (rs : List RowRef) (hL : RtsOk n L) (hcon : contents rs = L) : ∀ (m k g o cp b N : Nat) (r : List Int) (w : World), k + m = L.length → Sm12 n r → OwnRows w B gL cL rs → g < w.heap.size → g ≠ b → Cells w g o r → KnM w b N n L → N + cnt m < 8000000000000000000 →
    Calls Tryz.prog 106 #[(Value.slice (some ⟨gL, 0, none⟩) L.length cL), .int .i64 k, (Value.slice (some ⟨g, o, none⟩) n cp), .map (some b)] w (WPost w b N m n L (ways (L.drop k) r)) := by
  intro m
  have hn4 := hL.n4
  have hfew := hL.few
  induction m with
  | zero =>
    intro k g o cp b N r w hkm hr hO hg hgb hc hK hN
    obtain rfl : k = L.length := by omega
    have hh := impl_HeightOf_any g o n cp r w hr.1 (by rw [hr.1]; omega) hc
    have Hh := Lib.hid hh
    have hz := ways_end (L := L) r
    have HK := Lib.hid hK
    clear hh hO hc hK hcon
    by_cases h0 : heightL r = 0
    · have h0' : (heightL r == 0) = true := by simp [h0]
      rw [if_pos h0] at hz
      have Hz := Lib.hid hz; clear hz
      generalize heightL r = h at *
      go_enter Tryz.func106, Tryz.ntmps106
      go_wp2_with fail
      refine Hh.out.mono ?_
      rintro e w1 ⟨rfl, hs1⟩
      go_wp2_with fail
      go_ret
      exact ⟨congrArg (fun t => Ending.returned (.int .i64 t)) Hz.out.symm, N, Nat.le_add_right _ _, HK.out.still hs1, grown_still (World.grownBy.refl _ _) hs1⟩
    · have h0' : (heightL r == 0) = false := by simp [h0]
      rw [if_neg h0] at hz
      have Hz := Lib.hid hz; clear hz
      generalize heightL r = h at *
      go_enter Tryz.func106, Tryz.ntmps106
      go_wp2_with fail
      refine Hh.out.mono ?_
      rintro e w1 ⟨rfl, hs1⟩
      go_wp2_with fail
      go_ret
      exact ⟨congrArg (fun t => Ending.returned (.int .i64 t)) Hz.out.symm, N, Nat.le_add_right _ _, HK.out.still hs1, grown_still (World.grownBy.refl _ _) hs1⟩
  | succ m ih =>
    intro k g o cp b N r w hkm hr hO hg hgb hc hK hN
    have hk : k < L.length := by omega
    have hkL : ((k : Int) == (L.length : Int)) = false := by rw [beq_eq_false_iff_ne]; omega
    have hvy : kvVal r k = .agg #[.int .i64 (r.getD 0 0), .int .i64 (r.getD 1 0), .int .i64 (r.getD 2 0), .int .i64 (r.getD 3 0), .int .i64 (k : Int)] := rfl
    have hh1 : (w.alloc (.cells #[.int .i64 0, .int .i64 0, .int .i64 0, .int .i64 0, .int .i64 (k : Int)] 92)).heap[w.heap.size]? = some (.cells #[.int .i64 0, .int .i64 0, .int .i64 0, .int .i64 0, .int .i64 (k : Int)] 92 (0, 0)) := heap_alloc_new _ _
    have hb1 : Below w.heap.size w (w.alloc (.cells #[.int .i64 0, .int .i64 0, .int .i64 0, .int .i64 0, .int .i64 (k : Int)] 92)) := (Below.refl _ _).alloc (Nat.le_refl _) _
    have Hh1 := Lib.hid hh1; have Hb1 := Lib.hid hb1; have Hc := Lib.hid hc
    have hr4 : r.length ≤ 4 := by rw [hr.1]; exact hn4
    have Hr := Lib.hid hr
    have hrn := hr.1
    have HO := Lib.hid hO; have HK := Lib.hid hK; have Hcon := Lib.hid hcon
    have hw := ways_drop hk r
    have hp := hL.at hk
    have hkr : k < rs.length := by rw [← contents_length, hcon]; exact hk
    have hrow : L.getD k [] = rs[k].2.2 := by rw [← hcon]; simp [contents, List.getD, hkr]
    have hrowc : Hid (∀ W, OwnRows W B gL cL rs → W.cell? ⟨gL, k, none⟩ = some (rowVal rs[k]) ∧ Own W B rs[k].1 rs[k].2.1 rs[k].2.2) := Lib.hid (fun W h => ⟨by rw [h.1.cell k (by simpa using hkr)]; simp, h.2.1 _ (List.getElem_mem hkr)⟩)
    rw [hrow] at hw hp
    have Hwf := Lib.hid (ways_wf (L.drop k) r)
    have hih := fun g o cp b N x W => ih (k + 1) g o cp b N x W (by omega)
    have HF := Lib.hid hih
    have Hvy := Lib.hid hvy
    have Hsp := Lib.hid (splice5 r k hr4)
    generalize hFe : ways (L.drop (k + 1)) = F at *
    have HWe := Lib.hid (rfl : ways (L.drop k) r = ways (L.drop k) r)
    generalize rs[k] = ro at *
    obtain ⟨bo, co, p⟩ := ro
    have hp' : Rt12 n p := hp
    have hw' : ways (L.drop k) r = wLoop F p 14 r 0 := hw
    have Hp := Lib.hid hp'; have Hw := Lib.hid hw'
    have HRc : Hid (∀ W, OwnRows W B gL cL rs → W.cell? ⟨gL, k, none⟩ = some (Value.slice (some ⟨bo, 0, none⟩) n co) ∧ Own W B bo co p) := Lib.hid (fun W h => by have h2 := hrowc.out W h; refine ⟨?_, h2.2⟩; rw [h2.1]; show some (Value.slice (some ⟨bo, 0, none⟩) p.length co) = _; rw [hp'.1.1])
    have hbo := (HRc.out w hO).2.lt
    have HRB := Lib.hid (show gL < w.heap.size ∧ ∀ r ∈ rs, r.1 < w.heap.size from ⟨hO.lt, fun r hr => (hO.2.1 r hr).lt⟩)
    clear hvy hh1 hb1 hc hr hO hK hcon hw hp hrow hrowc hih ih hFe hp' hw' HWe
    generalize hR : ways (L.drop k) r = R at *
    have HR := Lib.hid hR; clear hR
    go_enter Tryz.func106, Tryz.ntmps106
    go_wp2_with (refine wpList_copy_splice (o := ⟨some 27, _, _, _, _, _⟩) rfl (.tmp 25) (.tmp 26) 28 28 rfl 3 Tryz.underlying28 (by kernel_rfl) (some ⟨w.heap.size, 0, none⟩) (some ⟨g, o, none⟩) 4 5 n cp rfl rfl w.heap.size 0 [.int .i64 0, .int .i64 0, .int .i64 0, .int .i64 0, .int .i64 (k : Int)] 92 Hh1.out (r.map (Value.int .i64)) (by rw [List.length_map, hrn]; exact (Nat.min_eq_left hn4).symm) (fun _ => ⟨rfl, ⟨g, o, none⟩, rfl, ?_⟩) (by simp; omega) (ints_oneCell _ _) w.heap.size w ?_ (Nat.le_refl _) ?_)
    · intro j u hu
      have hj : j < r.length := by have := (List.getElem?_eq_some_iff.1 hu).1; simpa using this
      rw [Addr.add_lit]
      have h1 : Cells (w.alloc (.cells #[.int .i64 0, .int .i64 0, .int .i64 0, .int .i64 0, .int .i64 (k : Int)] 92)) g o r := Hc.out.below Hb1.out hg
      rw [h1 j hj, ← hu]
      simp [List.getD, hj]
    · exact Hb1.out
    · intro w2 HG2 hB2
      have hG2 := HG2.out
      rw [Hsp.out] at hG2
      obtain ⟨⟨a0, a1, a2, a3, a4⟩, af⟩ := cell5 hG2
      have HG3 := Lib.hid hG2
      have HK2 := Lib.hid (HK.out.below hB2 HK.out.lt)
      have HO2 := Lib.hid (HO.out.below hB2)
      have Hc2 := Lib.hid (Hc.out.below hB2 hg)
      have HB2 := Lib.hid hB2
      have hszw : w.heap.size < w2.heap.size := by
        have := (Array.getElem?_eq_some_iff.1 hG2).1
        exact this
      have hbw : b < w.heap.size := HK.out.lt
      clear Hsp HG2 hG2 Hh1 Hb1 Hc HO HK af hB2
      generalize hy0 : r.getD 0 0 = y0 at *
      generalize hy1 : r.getD 1 0 = y1 at *
      generalize hy2 : r.getD 2 0 = y2 at *
      generalize hy3 : r.getD 3 0 = y3 at *
      clear hy0 hy1 hy2 hy3
      go_wp2_with (at_lookup; refine wpList_kn_look rfl _ _ rfl b N n L r k Hr.out (by omega) HK2.out rfl (by rw [Hvy.out]; rfl) ?_)
      intro q
      have hz := q.h
      generalize q.z = z at *
      generalize q.r = rb at *
      clear q
      have Hz := Lib.hid hz
      clear hz
      cases rb with
      | true =>
        have hz := Hz.out rfl
        rw [HR.out] at hz
        subst hz
        go_wp2_with fail
        go_ret
        exact ⟨rfl, N, Nat.le_add_right _ _, HK2.out, grown_below HB2.out⟩
      | false =>
        clear Hz
        obtain ⟨wo, rfl⟩ : ∃ wo : World, wo = w2 := ⟨_, rfl⟩
        have hgw := Nat.lt_of_lt_of_le hg HB2.out.size
        go_wp2_with (at_builtin; refine wpList_clone (w := wo) rfl _ _ rfl g o n cp r Hr.out.1 hgw Hc2.out rfl rfl (by rw [Hr.out.1]; omega) ?_)
        intro gx cx w3 hox3 hb3
        have hB3 := Lib.hid (HB2.out.trans (hb3.mono HB2.out.size))
        have hG3 := (hb3.block _ hszw).trans HG3.out
        have HG4 := Lib.hid hG3
        have hK3 := Lib.hid (HK2.out.below hb3 HK2.out.lt)
        have hO3 := Lib.hid (HO2.out.below hb3)
        have hgr3 := Lib.hid (grown_below (b := b) hB3.out)
        have hnk : gx ≠ w.heap.size := by have := hox3.base; omega
        have hsz3 := Nat.lt_of_lt_of_le hszw hb3.size
        have hox3' := hox3.mono HB2.out.size
        clear hG3 hb3 HG3 HK2 HO2 Hc2 hgw hox3 hB3 a0 a1 a2 a3 a4 hszw
        go_wp2_with fail
        go_loopg [12] 14 (fun gk sv wr => ∃ (t N' : Nat) (x : List Int) (acc : Int), gk + t = 14 ∧ sv = .int .i64 acc ∧ N' ≤ N + t * cnt m ∧ w.heap.size < wr.heap.size ∧ Hid (WSt n p r x t) ∧ Hid (wLoop F p (14 - t) x acc = R) ∧ Own wr w.heap.size gx cx x ∧ Hid (KnM wr b N' n L) ∧ Hid (OwnRows wr B gL cL rs) ∧ Hid (w.grownBy wr (some b)) ∧ Hid (wr.heap[w.heap.size]? = some (.cells #[.int .i64 y0, .int .i64 y1, .int .i64 y2, .int .i64 y3, .int .i64 (k : Int)] 92 (0, 0))))
        case atStart => exact ⟨0, N, r, 0, rfl, rfl, by omega, hsz3, WSt.start Hr.out.1, Hw.out.symm, hox3', hK3, hO3, hgr3, HG4⟩
        case round =>
          clear hox3' hK3 hO3 hgr3 HG4 hsz3
          obtain ⟨t, N', x, acc, hgk, rfl, hN', hszk, hst, hwl, ho, hK, hO, hgr, hG⟩ := hrel
          have hxl := hst.out.len
          have hbx : b ≠ gx := hK.out.neOwn ho
          have Hid1 := Lib.hid (impl_IsDominant_any gx 0 n cx x wr hxl (by rw [hxl]; omega) ho.cells)
          rw [neg_first] at Hid1
          cases hneg : negB x with
          | true =>
            have hR := hwl.out
            rw [wLoop_end hneg] at hR
            rw [hneg] at Hid1
            subst hR
            have hNb : N' < 9000000000000000000 := by
              have ht : t ≤ 14 := by omega
              have h1 := Nat.mul_le_mul_right (cnt m) ht
              have h2 : cnt (m + 1) = 14 * cnt m + 1 := rfl
              omega
            have hNe : N' + 1 ≤ N + cnt (m + 1) := by
              have ht : t ≤ 14 := by omega
              have h1 := Nat.mul_le_mul_right (cnt m) ht
              have h2 : cnt (m + 1) = 14 * cnt m + 1 := rfl
              omega
            have HNe := Lib.hid hNe; have HNb := Lib.hid hNb
            clear hneg hwl hN' hNe hNb
            have Hxl := Lib.hid hxl; clear hxl
            go_wp2_with fail
            refine Hid1.out.mono ?_
            rintro e w4 ⟨rfl, hs4⟩
            have hK4 := Lib.hid (hK.out.still hs4)
            have hgr4 := Lib.hid (grown_still hgr.out hs4)
            have hG4 : w4.heap[w.heap.size]? = some (.cells #[.int .i64 y0, .int .i64 y1, .int .i64 y2, .int .i64 y3, .int .i64 (k : Int)] 92 (0, 0)) := by obtain ⟨q, rfl⟩ := hs4; exact hG.out
            obtain ⟨⟨a0, a1, a2, a3, a4⟩, af⟩ := cell5 hG4
            clear hK hgr hO ho hG Hid1 hs4 af hG4
            go_wp2_with (at_mapUpdate; refine wpList_kn_put rfl _ _ _ rfl b N' n L r k Hr.out hn4 (by omega) hK4.out HNb.out rfl (by rw [Hvy.out]; rfl) (by rw [HR.out]; rfl) (by rw [HR.out]; exact Hwf.out) ?_)
            intro w5 hK5 hg5
            go_wp2_with fail
            go_ret
            exact ⟨rfl, N' + 1, HNe.out, hK5, World.grownBy.trans' hgr4.out hg5⟩
          | false =>
            have ht := hst.out.lt Hr.out Hp.out hneg
            have hsm := hst.out.sm Hr.out Hp.out hneg
            have hR := hwl.out
            rw [show 14 - t = 13 - t + 1 by omega, wLoop_go hneg] at hR
            have Hst := Lib.hid (hst.out.next)
            rw [hneg] at Hid1
            have hNr : N' + cnt m < 8000000000000000000 := by
              have h1 := Nat.mul_le_mul_right (cnt m) (show t ≤ 13 by omega)
              have h2 : cnt (m + 1) = 14 * cnt m + 1 := rfl
              omega
            have Hrec : Hid (∀ W, OwnRows W B gL cL rs → gx < W.heap.size → Cells W gx 0 x → KnM W b N' n L → Calls Tryz.prog 106 #[(Value.slice (some ⟨gL, 0, none⟩) L.length cL), .int .i64 ((k : Int) + 1), (Value.slice (some ⟨gx, 0, none⟩) n cx), .map (some b)] W (WPost W b N' m n L (F x))) := Lib.hid (fun W h1 h2 h3 h4 => by
              rw [show ((k : Int) + 1) = ((k + 1 : Nat) : Int) by omega]
              exact HF.out gx 0 cx b N' x W hsm h1 h2 (Ne.symm hbx) h3 h4 hNr)
            have Hsub := Lib.hid (subTo_all x p)
            have Hz0 := Lib.hid (subTo_zero x p)
            have hrng : ∀ j, j < n → -12 ≤ x.getD j 0 - p.getD j 0 ∧ x.getD j 0 - p.getD j 0 ≤ 12 := fun j hj => by
              have h1 := hsm.2 j hj
              have h2 := Hp.out.1.2 j hj
              omega
            have Hrng := Lib.hid hrng
            have HR2 := Lib.hid hR
            have HNt : Hid (∀ N'', N'' ≤ N' + cnt m → N'' ≤ N + (t + 1) * cnt m) := Lib.hid (fun N'' h => by rw [Nat.add_mul, Nat.one_mul]; omega)
            have Hxl := Lib.hid hxl
            clear hR hneg hwl hst hsm hNr hrng hN' hxl
            go_wp2_with fail
            refine Hid1.out.mono ?_
            rintro e w4 ⟨rfl, hs4⟩
            have ho4 := ho.still hs4
            have hK4 := Lib.hid (hK.out.still hs4)
            have hO4 := Lib.hid (hO.out.still hs4)
            have hgr4 := Lib.hid (grown_still hgr.out hs4)
            have hG4 : Hid (w4.heap[w.heap.size]? = some (.cells #[.int .i64 y0, .int .i64 y1, .int .i64 y2, .int .i64 y3, .int .i64 (k : Int)] 92 (0, 0))) := Lib.hid (by obtain ⟨q, rfl⟩ := hs4; exact hG.out)
            have hsz4 : w.heap.size < w4.heap.size := by rw [size_still hs4]; exact hszk
            have Hr4 := Lib.hid (Hrec.out w4 hO4.out ho4.lt ho4.cells hK4.out)
            clear Hid1 hs4 ho hK hO hgr hG Hrec hszk
            go_wp2_with fail
            refine Hr4.out.mono ?_
            rintro e w5 ⟨rfl, N'', hN'', hK5, hg5⟩
            have ho5 := ho4.grown hg5 (by intro e; cases e; exact hbx rfl)
            have hO5 := Lib.hid (hK4.out.rows hO4.out hg5)
            have hgr5 := Lib.hid (World.grownBy.trans' hgr4.out hg5)
            have hG5 := Lib.hid ((hg5.block _ hsz4 (by intro e; cases e; omega)).trans hG4.out)
            have hsz5 := Nat.lt_of_lt_of_le hsz4 hg5.size
            have HNN := Lib.hid (HNt.out N'' hN'')
            have HK5 := Lib.hid hK5
            obtain ⟨k5, hop5⟩ := HRc.out w5 hO5.out
            have hxb := ho5.base
            have hnp : bo ≠ gx := by omega
            clear Hr4 hN'' hK5 hg5 hK4 hO4 hgr4 hG4 ho4 HNt hsz4
            rw [← Hz0.out] at ho5
            go_wp2_with fail
            go_loopw [54] (fun iv wi => ∃ i : Nat, i ≤ n ∧ iv = .int .i64 i ∧ w.heap.size < wi.heap.size ∧ Own wi w.heap.size gx cx (subTo x p i) ∧ Hid (KnM wi b N'' n L) ∧ Hid (OwnRows wi B gL cL rs) ∧ Hid (w.grownBy wi (some b)) ∧ Hid (wi.heap[w.heap.size]? = some (.cells #[.int .i64 y0, .int .i64 y1, .int .i64 y2, .int .i64 y3, .int .i64 (k : Int)] 92 (0, 0)))) (fun iv _ => n - (intOf iv).toNat)
            case atStart => exact ⟨0, Nat.zero_le _, rfl, hsz5, ho5, HK5, hO5, hgr5, hG5⟩
            case round =>
              clear ho5 HK5 hO5 hgr5 hG5 hsz5 hop5
              obtain ⟨i, hi, rfl, hszi, ho, hK, hO, hgr, hG⟩ := hrel
              by_cases hil : i < n
              · have hix : i < x.length := by rw [Hxl.out]; exact hil
                have c1 := ho.cell i (by rw [subTo_length]; exact hix)
                rw [subTo_getD hix] at c1
                have hf := ho.frozen i
                have c2 := (HRc.out wr hO.out).2.cells i (by rw [Hp.out.1.1]; exact hil)
                rw [Nat.zero_add] at c2
                obtain ⟨u1, u2⟩ := Hrng.out i hil
                have hset := ho.set i (x.getD i 0 - p.getD i 0)
                rw [subTo_set hix] at hset
                generalize x.getD i 0 = xx at *
                generalize p.getD i 0 = yy at *
                have hwr : wrap64 (xx - yy) = xx - yy := IntWalk.wrap64_in _ ⟨by omega, by omega⟩
                have HoS := Lib.hid hset.1
                have HKS := Lib.hid (hK.out.same (hset.2.block b hK.out.lt (by intro e; cases e; exact hbx rfl)))
                have HOS := Lib.hid (hO.out.grownE hset.2 HRB.out ho.base)
                have HgS := Lib.hid (grown_new hgr.out hset.2 ho.base)
                have HGS := Lib.hid ((hset.2.block _ hszi (by intro e; cases e; exact hnk rfl)).trans hG.out)
                have hszS : w.heap.size < (wr.setCell ⟨gx, i, none⟩ (.int .i64 (xx - yy))).heap.size := Nat.lt_of_lt_of_le hszi hset.2.size
                have HszS := Lib.hid hszS
                have Hwr := Lib.hid hwr
                clear hset ho hK hO hgr hG hszS hwr
                go_wp2_with fail
                go_roundw
                case rel =>
                  exact ⟨i + 1, by omega, by go_num, HszS.out, HoS.out, HKS.out, HOS.out, HgS.out, HGS.out⟩
                case measure => simp [intOf]; omega
              · obtain rfl : i = n := by omega
                have hfin := Hsub.out
                rw [Hxl.out] at hfin
                rw [hfin] at ho
                go_wp2_with fail
                go_roundg (13 - t)
                case measure => omega
                case rel => exact ⟨t + 1, N'', _, _, by omega, rfl, HNN.out, hszi, Hst.out, by rw [show 14 - (t + 1) = 13 - t by omega]; exact HR2.out, ho, hK.out, hO.out, hgr.out, hG.out⟩
end Go.Proofs.YtnpechcnmchneaaGreatDoor
