/- A map of known polynomials, keyed by pairs of vectors: words and laws. copy(dst, src) of ints to a list of the call's own. Sums, differences and shifts of polynomials by the program: contracts. -/
import Derived.Test.YtdedkfbiookofaaGreatDoorM31
import Derived.Test.YtdedkfbiookofaaGreatDoorM22
import Derived.Maps.OwnSet
import Derived.Test.YtdedkfbiookofaaGreatDoorM00
import Derived.Laws.CopyOwn
import Derived.Test.YtdedkfbiookofaaGreatDoorM30
import Derived.Test.YtdedkfbiookofaaGreatDoorM29
import Derived.Test.YtdedkfbiookofaaGreatDoorM06
namespace Go.Proofs.YtdedkfbiookofaaGreatDoor
set_option maxRecDepth 100000
open Go.RowKit Game
open Go.Maps (Keyed IsMap has)
def vvVal (x y : List Int) : Value := .agg #[.int .i64 (x.getD 0 0), .int .i64 (x.getD 1 0), .int .i64 (x.getD 2 0), .int .i64 (x.getD 3 0), .int .i64 (y.getD 0 0), .int .i64 (y.getD 1 0), .int .i64 (y.getD 2 0), .int .i64 (y.getD 3 0)]
theorem vvRow : (119 : TypeId) < Tryz.prog.types.size := of_decide_eq_true (by kernel_rfl)
theorem vvLaw : WideMaps.KeyLaw Tryz.prog 119 := deep_law_laid vecLaidOut (m := 3) (by omega) vvRow (by kernel_rfl) (by rw [Tryz.underlying119])
theorem vvKeyed : Keyed Tryz.prog 119 := Keyed.of_law vvLaw
theorem typesPos2 : ∃ m, Tryz.prog.types.size = m + 2 := by
  have h : 2 ≤ Tryz.prog.types.size := of_decide_eq_true (by kernel_rfl)
  exact ⟨Tryz.prog.types.size - 2, by omega⟩
theorem vvCells : Tryz.prog.cellsOf 119 = 8 ∧ Tryz.prog.cellsOf 117 = 4 := by constructor <;> kernel_rfl
theorem vvKeyType : Tryz.prog.keyType 119 = true := by kernel_rfl
theorem vecLits (m : Nat) {a b c d : Int} (ha : (Lit.int .i64 a).wf = true) (hb : (Lit.int .i64 b).wf = true) (hc : (Lit.int .i64 c).wf = true) (hd : (Lit.int .i64 d).wf = true) : Tryz.prog.keyLits (m + 2) 117 [.int .i64 a, .int .i64 b, .int .i64 c, .int .i64 d] = some [.int .i64 a, .int .i64 b, .int .i64 c, .int .i64 d] := by
  unfold Program.keyLits
  simp only [vecArr.hu]
  rw [if_pos (by rw [vecArr.size]; rfl), show List.range 4 = [0, 1, 2, 3] from rfl, List.mapM_cons, List.mapM_cons, List.mapM_cons, List.mapM_cons, List.mapM_nil]
  simp [vecArr.one, Program.keyLits, Tryz.underlying3, ha, hb, hc, hd]
theorem keyOf_vv {x y : List Int} (hx : WfV x) (hy : WfV y) : ∃ kl, keyOf Tryz.prog 119 (vvVal x y) = some kl := by
  obtain ⟨m, hm⟩ := typesPos2
  have hl1 := vecLits m (hx 0 (by omega)) (hx 1 (by omega)) (hx 2 (by omega)) (hx 3 (by omega))
  have hl2 := vecLits m (hy 0 (by omega)) (hy 1 (by omega)) (hy 2 (by omega)) (hy 3 (by omega))
  unfold vvVal
  generalize x.getD 0 0 = x0 at *
  generalize x.getD 1 0 = x1 at *
  generalize x.getD 2 0 = x2 at *
  generalize x.getD 3 0 = x3 at *
  generalize y.getD 0 0 = y0 at *
  generalize y.getD 1 0 = y1 at *
  generalize y.getD 2 0 = y2 at *
  generalize y.getD 3 0 = y3 at *
  refine ⟨.string (keyBytes [.int .i64 x0, .int .i64 x1, .int .i64 x2, .int .i64 x3, .int .i64 y0, .int .i64 y1, .int .i64 y2, .int .i64 y3]), ?_⟩
  unfold keyOf
  simp only [Tryz.underlying119]
  rw [if_pos (by simp [vvKeyType, Value.formed, Tryz.underlying119, vvCells.1]), hm]
  unfold Program.keyLits
  simp only [Tryz.underlying119, Value.cells]
  rw [if_pos (by rw [vvCells.1]; rfl), show List.range 2 = [0, 1] from rfl, List.mapM_cons, List.mapM_cons, List.mapM_nil, vvCells.2]
  have e1 : List.take 4 (List.drop (0 * 4) [Value.int .i64 x0, .int .i64 x1, .int .i64 x2, .int .i64 x3, .int .i64 y0, .int .i64 y1, .int .i64 y2, .int .i64 y3]) = [.int .i64 x0, .int .i64 x1, .int .i64 x2, .int .i64 x3] := rfl
  have e2 : List.take 4 (List.drop (1 * 4) [Value.int .i64 x0, .int .i64 x1, .int .i64 x2, .int .i64 x3, .int .i64 y0, .int .i64 y1, .int .i64 y2, .int .i64 y3]) = [.int .i64 y0, .int .i64 y1, .int .i64 y2, .int .i64 y3] := rfl
  rw [e1, e2, hl1, hl2]
  rfl
theorem vvVal_inj {x y x' y' : List Int} (h1 : x.length = x'.length) (h2 : y.length = y'.length) (h4 : x.length ≤ 4) (h5 : y.length ≤ 4) (h : vvVal x y = vvVal x' y') : x = x' ∧ y = y' := by
  unfold vvVal at h
  simp at h
  obtain ⟨a0, a1, a2, a3, b0, b1, b2, b3⟩ := h
  exact ⟨vecVal_inj h1 h4 (by unfold vecVal; simp [a0, a1, a2, a3]), vecVal_inj h2 h5 (by unfold vecVal; simp [b0, b1, b2, b3])⟩
theorem Nw.inj {c : List (List Int)} {V V' : List Int} (h : Nw c V) (h' : Nw c V') (e : imI c V = imI c V') : V = V' := by
  rw [← h.self, ← h'.self]; exact nfI_img e
theorem wfV_img {c : List (List Int)} (V : List Int) (h : Nw c V) : WfV (imI c V) := by
  cases V with
  | nil =>
    intro j _
    by_cases hj : j < c.length
    · rw [show (imI c []).getD j 0 = 1 from toV_ones c.length j hj]; decide
    · have : (imI c []).getD j 0 = 0 := by
        have hl : (imI c []).length ≤ j := by rw [imI_length]; omega
        simp [List.getD, List.getElem?_eq_none hl]
      rw [this]; decide
  | cons t V =>
    obtain ⟨k, rfl, hk, -⟩ := head_tail h.lets
    rw [imI_cons]; exact wfV_refl _ _ _
/-- an element of the map is told as it lies there -/
def rpR (v : Value) : Option (DataW Value × List MemPlace) := some (.held v, [])
/-- block b is a map that knows some polynomials of pairs, and all that it knows is right -/
def RpM (w : World) (b N B : Nat) (c : List (List Int)) : Prop :=
  ∃ D : DataW Value, w.ownsMap Tryz.prog 119 rpR b N D ∧ IsMap D ∧ ∀ (x V : List Int) (kl : Lit), x.length = c.length → Nw c V → keyOf Tryz.prog 119 (vvVal x (imI c V)) = some kl → has D kl = true →
    ∃ g n cap, D.atKey kl (.held (.slice none 0 0)) = .held (Value.slice (some ⟨g, 0, none⟩) n cap) ∧ (rI c V x).length = n ∧ Own w B g cap (rI c V x)
section
variable {w w' : World} {b N B : Nat} {c : List (List Int)}
theorem RpM.start (w : World) (B : Nat) (c : List (List Int)) : RpM (w.alloc (.map #[] 0)) w.heap.size 0 B c :=
  ⟨.map [], World.ownsMap_made _ _ _ _, ⟨[], rfl⟩, fun _ _ _ _ _ _ h => by simp [has] at h⟩
theorem RpM.lt (h : RpM w b N B c) : b < w.heap.size := by obtain ⟨D, h, -⟩ := h; exact h.lt
theorem RpM.below (h : RpM w b N B c) (hb : Below w.heap.size w w') : RpM w' b N B c := by
  have hlt := h.lt
  obtain ⟨D, ⟨es, clock, hh, r⟩, h2, h3⟩ := h
  refine ⟨D, ⟨es, clock, (hb.block b hlt).trans hh, r⟩, h2, fun x V kl h4 h5 h6 h7 => ?_⟩
  obtain ⟨g, n, cap, q1, q2, q3⟩ := h3 x V kl h4 h5 h6 h7
  exact ⟨g, n, cap, q1, q2, q3.below hb q3.lt⟩
theorem RpM.block (h : RpM w b N B c) : ∃ es clock, w.heap[b]? = some (.map es clock) := by
  obtain ⟨D, ⟨es, clock, hh, r⟩, h2⟩ := h
  exact ⟨es, clock, hh⟩
theorem RpM.neOwn {g cap B2 : Nat} {xs : List Int} (h : RpM w b N B c) (ho : Own w B2 g cap xs) : b ≠ g := by
  rintro rfl
  obtain ⟨es, clock, hh⟩ := h.block
  obtain ⟨cur, h2, -⟩ := ho.toV.row
  rw [hh] at h2
  simp at h2
theorem RpM.own {g cap B2 : Nat} {xs : List Int} (h : RpM w b N B c) (ho : Own w B2 g cap xs) (hg : w.grownBy w' (some b)) : Own w' B2 g cap xs :=
  ho.grown hg fun e => h.neOwn ho (Option.some.inj e).symm
theorem sliceZero (w : World) : (zeroValue 25).run Tryz.prog w = .ok (.slice none 0 0) w := by kernel_rfl
/-- 'known[key] = p' -/
theorem wpList_rp_put {ops : Array Oper} {rest : List Oper} {o : Oper} {a : Act} {Q : Exit → Act → World → Prop}
    (hg : o.guard = none) (x y z : Operand) (hop : o.op = Op.mapUpdate 95 x y z) (b N B : Nat) (c : List (List Int)) (h4 : c.length ≤ 4) (u V : List Int) (hu : u.length = c.length) (huw : WfV u) (hV : Nw c V)
    (hown : RpM w b N B c) (hN : N < 1000000) (g n cap : Nat) (hn : (rI c V u).length = n) (ho : Own w B g cap (rI c V u)) (hx : a.eval x = .map (some b)) (hy : a.eval y = vvVal u (imI c V)) (hz : a.eval z = (Value.slice (some ⟨g, 0, none⟩) n cap))
    (hK : ∀ w', RpM w' b (N + 1) B c → w.grownBy w' (some b) → wpList Tryz.prog ops Q rest (a.put o.dst undef) w') :
    wpList Tryz.prog ops Q (o :: rest) a w := by
  have hall := hown
  obtain ⟨D, hD, hmap, hat⟩ := hown
  obtain ⟨kl, hkl⟩ := keyOf_vv huw (wfV_img V hV)
  refine wpList_mapUpdate_own w hg x y z _ hop _ _ vvKeyed Tryz.underlying95 rpR b N D hx hD (by unfold maxLen; omega) _ _ kl hy hz hkl _ [] rfl ?_
  intro w' hown' hgr
  refine hK w' ⟨_, hown', ?_, fun u' V' kl' hu' hV' hkl' hhas => ?_⟩ hgr
  · obtain ⟨es, rfl⟩ := hmap
    exact ⟨_, rfl⟩
  · by_cases e : kl' = kl
    · subst e
      have hv := vvKeyed.inj hkl' hkl
      obtain ⟨rfl, e2⟩ := vvVal_inj (by rw [hu', hu]) (by rw [imI_length, imI_length]) (by omega) (by rw [imI_length]; omega) hv
      obtain rfl := hV'.inj hV e2
      rw [Maps.atKey_put_same hmap (vvKeyed.key hkl)]
      exact ⟨g, n, cap, rfl, hn, hall.own ho hgr⟩
    · rw [Maps.has_put_other e] at hhas
      rw [Maps.atKey_put_other e]
      obtain ⟨g', n', cap', q1, q2, q3⟩ := hat u' V' kl' hu' hV' hkl' hhas
      exact ⟨g', n', cap', q1, q2, hall.own q3 hgr⟩
/-- what the map says of a key -/
structure RpAns (w : World) (B : Nat) (R : List Int) where
  v : Value
  r : Bool
  h : r = true → ∃ g n cap, v = (Value.slice (some ⟨g, 0, none⟩) n cap) ∧ R.length = n ∧ Own w B g cap R
/-- 'p, ok := known[key]' -/
theorem wpList_rp_look {ops : Array Oper} {rest : List Oper} {o : Oper} {a : Act} {Q : Exit → Act → World → Prop}
    (hg : o.guard = none) (x y : Operand) (hop : o.op = Op.lookup 95 x y true) (b N B : Nat) (c : List (List Int)) (u V : List Int) (hu : u.length = c.length) (huw : WfV u) (hV : Nw c V)
    (hown : RpM w b N B c) (hx : a.eval x = .map (some b)) (hy : a.eval y = vvVal u (imI c V))
    (hK : ∀ q : RpAns w B (rI c V u), wpList Tryz.prog ops Q rest (a.put o.dst (.tuple #[q.v, .bool q.r])) w) :
    wpList Tryz.prog ops Q (o :: rest) a w := by
  obtain ⟨D, hD, -, hat⟩ := hown
  obtain ⟨kl, hkl⟩ := keyOf_vv huw (wfV_img V hV)
  refine wpList_lookup_own_ok w hg x y _ hop _ _ vvKeyed Tryz.underlying95 rpR (sliceZero w) (.held (.slice none 0 0)) [] rfl b N D hx hD _ kl hy hkl ?_
  intro v ps hv
  refine hK ⟨v, _, fun h => ?_⟩
  obtain ⟨g, n, cap, q1, q2, q3⟩ := hat u V kl hu hV hkl h
  rw [q1] at hv
  refine ⟨g, n, cap, ?_, q2, q3⟩
  have h2 := congrArg Prod.fst (Option.some.inj hv)
  simpa [rpR] using h2
end
end Go.Proofs.YtdedkfbiookofaaGreatDoor
namespace Go.Proofs.YtdedkfbiookofaaGreatDoor
set_option maxRecDepth 100000
open Go.RowKit
theorem wpList_copy_ints {w : World} {ops : Array Oper} {rest : List Oper} {o : Oper} {a : Act} {Q : Exit → Act → World → Prop} (hgd : o.guard = none) (d s : Operand)
    (ho : o.op = .call { callee := .builtin .copy, args := #[d, s], argTypes := #[25, 25] })
    (B g n : Nat) (xs : List Int) (hxn : xs.length = n) (hown : Own w B g n xs) (g2 o2 n2 c2 : Nat) (ys : List Int) (hn2 : ys.length = n2) (hle : n2 ≤ n) (hc : Cells w g2 o2 ys)
    (hd : a.eval d = (Value.slice (some ⟨g, 0, none⟩) n n)) (hs : a.eval s = (Value.slice (some ⟨g2, o2, none⟩) n2 c2))
    (h : ∀ w', Own w' B g n (ys ++ xs.drop n2) → w.grownBy w' (some g) → wpList Tryz.prog ops Q rest (a.put o.dst (.int .i64 (n2 : Int))) w') :
    wpList Tryz.prog ops Q (o :: rest) a w := by
  subst hxn; subst hn2
  rcases hown.2 with ⟨h', _⟩ | ⟨g1, cap1, cur, hv, hb, hh, hn, hm, hs1, htk⟩
  · simp at h'
  simp only [Value.slice.injEq, Option.some.injEq, Addr.mk.injEq, and_true, true_and] at hv
  obtain ⟨rfl, rfl⟩ := hv
  rw [Nat.mul_one] at hs1 htk
  have hcl : cur.toList = xs.map (Value.int .i64) := by rw [← htk, ← hs1, ← Array.length_toList, List.take_length]
  refine wpList_copy_own hgd d s 25 25 ho 3 Tryz.underlying25 (by kernel_rfl) g 0 xs.length xs.length ⟨g2, o2, none⟩ ys.length c2 hd hs cur 3 hh (ys.map (Value.int .i64)) (by rw [List.length_map]; exact (Nat.min_eq_left hle).symm) ?_ (by rw [List.length_map, hs1]; omega) (ints_oneCell _ _) ?_
  · intro j v hj
    have hj' : j < ys.length := by have := (List.getElem?_eq_some_iff.1 hj).1; simpa using this
    have := hc j hj'
    rw [Addr.add_lit, this]
    simp [hj'] at hj
    rw [← hj]
    simp [List.getD, hj']
  · have e : goInt (ys.map (Value.int .i64)).length = .int .i64 (ys.length : Int) := by rw [List.length_map]; rfl
    rw [e, hcl]
    refine h _ ?_ ⟨rfl, rfl, rfl, by simp, fun k _ hk => setRow_other w g k _ (fun e => hk (by rw [e]))⟩
    have hlen : (ys ++ xs.drop ys.length).length = xs.length := by rw [List.length_append, List.length_drop]; omega
    have hcs : (List.take 0 (xs.map (Value.int .i64)) ++ (ys.map (Value.int .i64) ++ List.drop (0 + (ys.map (Value.int .i64)).length) (xs.map (Value.int .i64)))) = (ys ++ xs.drop ys.length).map (Value.int .i64) := by
      rw [List.take_zero, List.nil_append, Nat.zero_add, List.length_map, List.map_append, List.map_drop]
    rw [hcs]
    unfold Own
    rw [hlen]
    refine ⟨by rw [List.length_map, hlen, Nat.mul_one], .inr ⟨g, _, _, rfl, hb, setRow_heap w g cur _ _ _ hh, Nat.le_refl _, hm, by simp; omega, ?_⟩⟩
    show List.take (xs.length * 1) ((ys ++ xs.drop ys.length).map (Value.int .i64)) = _
    rw [Nat.mul_one]
    exact List.take_of_length_le (by rw [List.length_map, hlen]; exact Nat.le_refl _)
end Go.Proofs.YtdedkfbiookofaaGreatDoor
namespace Go.Proofs.YtdedkfbiookofaaGreatDoor
set_option maxRecDepth 100000
open Go.RowKit
/-- a polynomial with t places of another one added, in n places -/
def addN (f : Int → Int → Int) (a b : List Int) (n t : Nat) : List Int := (List.range n).map fun i => if i < t ∧ i < b.length then f (a.getD i 0) (b.getD i 0) else a.getD i 0
theorem addN_length (f : Int → Int → Int) (a b : List Int) (n t : Nat) : (addN f a b n t).length = n := by simp [addN]
theorem addN_zero {f : Int → Int → Int} {a b : List Int} {n : Nat} (h : a.length ≤ n) : addN f a b n 0 = a ++ (List.replicate n (0 : Int)).drop a.length := by
  refine List.ext_getElem (by simp [addN]; omega) fun i h1 h2 => ?_
  simp only [addN, Nat.not_lt_zero, false_and, ↓reduceIte, List.getElem_map, List.getElem_range]
  by_cases hi : i < a.length
  · rw [List.getElem_append_left hi]; simp [List.getD, hi]
  · rw [List.getElem_append_right (by omega)]; simp [List.getD, Nat.not_lt.1 hi]
theorem addN_get {f : Int → Int → Int} {a b : List Int} {n t : Nat} (h : t < n) : (addN f a b n t).getD t 0 = a.getD t 0 := by
  simp [addN, List.getD, h]
theorem addN_succ {f : Int → Int → Int} {a b : List Int} {n t : Nat} (hb : t < b.length) : addN f a b n (t + 1) = (addN f a b n t).set t (f (a.getD t 0) (b.getD t 0)) := by
  refine List.ext_getElem (by simp [addN]) fun i h1 h2 => ?_
  rw [List.getElem_set]
  simp only [addN, List.getElem_map, List.getElem_range]
  by_cases e : t = i
  · subst e
    rw [if_pos rfl, if_pos ⟨by omega, hb⟩]
  · rw [if_neg e]
    by_cases h : i < t ∧ i < b.length
    · rw [if_pos ⟨by omega, h.2⟩, if_pos h]
    · rw [if_neg (by omega), if_neg h]
theorem addN_full (f : Int → Int → Int) (a b : List Int) (n : Nat) : addN f a b n b.length = (List.range n).map fun i => if i < b.length then f (a.getD i 0) (b.getD i 0) else a.getD i 0 := by
  unfold addN
  congr 1
  funext i
  by_cases h : i < b.length
  · rw [if_pos ⟨h, h⟩, if_pos h]
  · rw [if_neg (fun e => h e.2), if_neg h]
set_option maxHeartbeats 2000000 in
theorem impl_AddPoly_any (g1 o1 n1 c1 g2 o2 n2 c2 : Nat) (a b : List Int) (w : World) (hn1 : a.length = n1) (hn2 : b.length = n2) (hx : a.length ≤ 100000) (hy : b.length ≤ 100000)
    (hg1 : g1 < w.heap.size) (hg2 : g2 < w.heap.size) (hc1 : Cells w g1 o1 a) (hc2 : Cells w g2 o2 b) :
    Calls Tryz.prog 63 #[(Value.slice (some ⟨g1, o1, none⟩) n1 c1), (Value.slice (some ⟨g2, o2, none⟩) n2 c2)] w (GotInts w (addP a b)) := by
  have Hn1 := Lib.hid hn1; have Hn2 := Lib.hid hn2
  rw [hn1] at hx
  rw [hn2] at hy
  obtain ⟨M, hM⟩ : ∃ M, max n1 n2 = M := ⟨_, rfl⟩
  have hMI : max (n1 : Int) (n2 : Int) = (M : Int) := by omega
  have hM1 : M ≤ 100000 := by omega
  have hM2 : n1 ≤ M := by omega
  have hM3 : n2 ≤ M := by omega
  have hP : addP a b = trim (addN (fun x y => wrap64 (x + y)) a b M n2) := by
    rw [← Hn2.out, addN_full, ← hM, ← Hn1.out, ← Hn2.out]; rfl
  rw [hP]
  have hz0 := addN_zero (f := fun x y => wrap64 (x + y)) (a := a) (b := b) (n := M) (by rw [Hn1.out]; exact hM2)
  rw [hn1, List.drop_replicate] at hz0
  have Hz0 := Lib.hid hz0
  clear hn1 hn2 hM hP hz0
  go_enter Tryz.func63, Tryz.ntmps63
  go_wp2_with (at_make; refine wpList_make_ints rfl _ _ rfl w.heap.size M _ rfl rfl rfl (by omega) (Nat.le_refl _) ?_)
  intro w1 ho1 hg1'
  have hb1 := (Below.refl w.heap.size w).grown hg1' (Nat.le_refl _) (by intro t ht; cases ht)
  have hc1' := hc1.below hb1 hg1
  go_wp2_with (refine wpList_copy_ints (o := ⟨some 16, _, _, _, _, _⟩) rfl (.tmp 14) (.tmp 15) rfl w.heap.size w.heap.size M (List.replicate M 0) (by simp) ho1 g1 o1 n1 c1 a Hn1.out hM2 hc1' rfl rfl ?_)
  intro w2 ho2 hg2'
  rw [← Hz0.out] at ho2
  have hb2 := hb1.grown hg2' hb1.size (by intro t ht; cases ht; exact Nat.le_refl _)
  clear ho1 hg1' hc1' hb1 hg2'
  go_wp2_with fail
  go_loopw [19] (fun iv wr => ∃ i : Nat, i ≤ n2 ∧ iv = .int .i64 (i : Nat) ∧ Own wr w.heap.size w.heap.size M (addN (fun x y => wrap64 (x + y)) a b M i) ∧ Below w.heap.size w wr) (fun iv _ => n2 - (intOf iv).toNat)
  case atStart => exact ⟨0, Nat.zero_le _, rfl, ho2, hb2⟩
  case round =>
    clear ho2 hb2
    obtain ⟨i, hi, rfl, ho, hb⟩ := hrel
    have Hl := Lib.hid (addN_length (fun x y => wrap64 (x + y)) a b M i)
    by_cases hlt : i < n2
    · have q2 := hc2.below hb hg2 i (by rw [Hn2.out]; exact hlt)
      have Hs := Lib.hid (addN_succ (f := fun x y => wrap64 (x + y)) (a := a) (b := b) (n := M) (t := i) (by rw [Hn2.out]; exact hlt))
      have q1 := ho.cell i (by rw [Hl.out]; omega)
      rw [addN_get (by omega)] at q1
      have f1 := ho.frozen i
      have hlI : (i : Int) < (M : Int) := by omega
      generalize a.getD i 0 = x at *
      generalize b.getD i 0 = y at *
      have hset := ho.set i (wrap64 (x + y))
      rw [← Hs.out] at hset
      have Hset := Lib.hid hset.1
      have hb3 := hb.grown hset.2 hb.size (by intro t ht; cases ht; exact Nat.le_refl _)
      clear hset
      go_wp2_with fail
      go_roundw
      case rel => exact ⟨i + 1, by omega, by go_num, Hset.out, hb3⟩
      case measure => simp [intOf]; omega
    · obtain rfl : i = n2 := by omega
      have T1 := Lib.hid (impl_TrimPoly_any w.heap.size 0 M M _ wr Hl.out (by rw [Hl.out]; omega) (Nat.le_refl _) ho.lt ho.cells)
      clear ho
      go_wp2_with fail
      refine T1.out.mono ?_
      rintro e w3 ⟨g3, c3, rfl, ho3, hb3⟩
      go_wp2_with fail
      go_ret
      exact ⟨g3, c3, rfl, ho3.mono hb.size, hb.trans (hb3.mono hb.size)⟩
 
set_option maxHeartbeats 2000000 in
theorem impl_SubPoly_any (g1 o1 n1 c1 g2 o2 n2 c2 : Nat) (a b : List Int) (w : World) (hn1 : a.length = n1) (hn2 : b.length = n2) (hx : a.length ≤ 100000) (hy : b.length ≤ 100000)
    (hg1 : g1 < w.heap.size) (hg2 : g2 < w.heap.size) (hc1 : Cells w g1 o1 a) (hc2 : Cells w g2 o2 b) :
    Calls Tryz.prog 128 #[(Value.slice (some ⟨g1, o1, none⟩) n1 c1), (Value.slice (some ⟨g2, o2, none⟩) n2 c2)] w (GotInts w (subP' a b)) := by
  have Hn1 := Lib.hid hn1; have Hn2 := Lib.hid hn2
  rw [hn1] at hx
  rw [hn2] at hy
  obtain ⟨M, hM⟩ : ∃ M, max n1 n2 = M := ⟨_, rfl⟩
  have hMI : max (n1 : Int) (n2 : Int) = (M : Int) := by omega
  have hM1 : M ≤ 100000 := by omega
  have hM2 : n1 ≤ M := by omega
  have hM3 : n2 ≤ M := by omega
  have hP : subP' a b = trim (addN (fun x y => wrap64 (x - y)) a b M n2) := by
    rw [← Hn2.out, addN_full, ← hM, ← Hn1.out, ← Hn2.out]; rfl
  rw [hP]
  have hz0 := addN_zero (f := fun x y => wrap64 (x - y)) (a := a) (b := b) (n := M) (by rw [Hn1.out]; exact hM2)
  rw [hn1, List.drop_replicate] at hz0
  have Hz0 := Lib.hid hz0
  clear hn1 hn2 hM hP hz0
  go_enter Tryz.func128, Tryz.ntmps128
  go_wp2_with (at_make; refine wpList_make_ints rfl _ _ rfl w.heap.size M _ rfl rfl rfl (by omega) (Nat.le_refl _) ?_)
  intro w1 ho1 hg1'
  have hb1 := (Below.refl w.heap.size w).grown hg1' (Nat.le_refl _) (by intro t ht; cases ht)
  have hc1' := hc1.below hb1 hg1
  go_wp2_with (refine wpList_copy_ints (o := ⟨some 16, _, _, _, _, _⟩) rfl (.tmp 14) (.tmp 15) rfl w.heap.size w.heap.size M (List.replicate M 0) (by simp) ho1 g1 o1 n1 c1 a Hn1.out hM2 hc1' rfl rfl ?_)
  intro w2 ho2 hg2'
  rw [← Hz0.out] at ho2
  have hb2 := hb1.grown hg2' hb1.size (by intro t ht; cases ht; exact Nat.le_refl _)
  clear ho1 hg1' hc1' hb1 hg2'
  go_wp2_with fail
  go_loopw [19] (fun iv wr => ∃ i : Nat, i ≤ n2 ∧ iv = .int .i64 (i : Nat) ∧ Own wr w.heap.size w.heap.size M (addN (fun x y => wrap64 (x - y)) a b M i) ∧ Below w.heap.size w wr) (fun iv _ => n2 - (intOf iv).toNat)
  case atStart => exact ⟨0, Nat.zero_le _, rfl, ho2, hb2⟩
  case round =>
    clear ho2 hb2
    obtain ⟨i, hi, rfl, ho, hb⟩ := hrel
    have Hl := Lib.hid (addN_length (fun x y => wrap64 (x - y)) a b M i)
    by_cases hlt : i < n2
    · have q2 := hc2.below hb hg2 i (by rw [Hn2.out]; exact hlt)
      have Hs := Lib.hid (addN_succ (f := fun x y => wrap64 (x - y)) (a := a) (b := b) (n := M) (t := i) (by rw [Hn2.out]; exact hlt))
      have q1 := ho.cell i (by rw [Hl.out]; omega)
      rw [addN_get (by omega)] at q1
      have f1 := ho.frozen i
      have hlI : (i : Int) < (M : Int) := by omega
      generalize a.getD i 0 = x at *
      generalize b.getD i 0 = y at *
      have hset := ho.set i (wrap64 (x - y))
      rw [← Hs.out] at hset
      have Hset := Lib.hid hset.1
      have hb3 := hb.grown hset.2 hb.size (by intro t ht; cases ht; exact Nat.le_refl _)
      clear hset
      go_wp2_with fail
      go_roundw
      case rel => exact ⟨i + 1, by omega, by go_num, Hset.out, hb3⟩
      case measure => simp [intOf]; omega
    · obtain rfl : i = n2 := by omega
      have T1 := Lib.hid (impl_TrimPoly_any w.heap.size 0 M M _ wr Hl.out (by rw [Hl.out]; omega) (Nat.le_refl _) ho.lt ho.cells)
      clear ho
      go_wp2_with fail
      refine T1.out.mono ?_
      rintro e w3 ⟨g3, c3, rfl, ho3, hb3⟩
      go_wp2_with fail
      go_ret
      exact ⟨g3, c3, rfl, ho3.mono hb.size, hb.trans (hb3.mono hb.size)⟩
set_option maxHeartbeats 2000000 in
theorem impl_shifted_any (g o n c k : Nat) (p : List Int) (w : World) (hn : p.length = n) (hx : p.length ≤ 100000) (hcap : n ≤ c) (hk : k ≤ 100000) (hg : g < w.heap.size) (hc : Cells w g o p) :
    Calls Tryz.prog 64 #[(Value.slice (some ⟨g, o, none⟩) n c), .int .i64 (k : Int)] w (GotInts w (shI p k)) := by
  have T1 := Lib.hid (impl_TrimPoly_any g o n c p w hn (by omega) hcap hg hc)
  have htl := trim_le p
  have hsh : shI p k = if trim p = [] then [] else List.replicate k 0 ++ trim p := rfl
  rw [hn] at hx htl
  rw [hsh]
  clear hn hc hsh
  generalize trim p = t at *
  obtain ⟨l, hl⟩ : ∃ l, t.length = l := ⟨_, rfl⟩
  rw [hl] at htl
  have Hl := Lib.hid hl
  by_cases h0 : l = 0
  · have ht : t = [] := List.length_eq_zero_iff.1 (by rw [hl]; exact h0)
    subst h0
    rw [if_pos ht]
    subst ht
    clear hl Hl
    go_enter Tryz.func64, Tryz.ntmps64
    go_wp2_with fail
    refine T1.out.mono ?_
    rintro e w1 ⟨g1, c1, rfl, ho1, hb1⟩
    go_wp2_with fail
    go_ret
    exact ⟨g1, c1, rfl, ho1, hb1⟩
  · have ht : ¬ t = [] := fun e => h0 (by rw [← hl, e]; rfl)
    rw [if_neg ht]
    have hlI : ((l : Int) == 0) = false := by simpa using h0
    have hl2 : (List.replicate k (0 : Int) ++ t).length = k + l := by rw [List.length_append, List.length_replicate, hl]
    have Hl2 := Lib.hid hl2
    clear hl hl2 ht
    go_enter Tryz.func64, Tryz.ntmps64
    go_wp2_with fail
    refine T1.out.mono ?_
    rintro e w1 ⟨g1, c1, rfl, ho1, hb1⟩
    rw [Hl.out]
    clear T1
    go_wp2_with (at_make; refine wpList_make_ints rfl _ _ rfl w.heap.size k _ rfl rfl rfl (by omega) hb1.size ?_)
    intro w2 ho2 hg2
    have hb2 := hb1.grown hg2 hb1.size (by intro t ht; cases ht)
    have ho12 := ho1.grown hg2 (by intro e; cases e)
    have hlk : (List.replicate k (0 : Int)).length = k := by simp
    go_wp2_with (at_builtin; refine wpList_append_ints_n rfl _ _ rfl w.heap.size w1.heap.size k k (List.replicate k 0) hlk ho2 g1 0 l c1 t Hl.out ho12.cells rfl rfl (by omega) ?_)
    intro g3 c3 w3 ho3 hg3 _
    have hb3 := hb2.grown hg3 hb2.size (by intro t ht; cases ht; exact hb1.size)
    clear ho2 hg2 ho12 ho1 hg3
    go_wp2_with fail
    go_ret
    exact GotInts.mk' g3 c3 Hl2.out ho3 hb3
end Go.Proofs.YtdedkfbiookofaaGreatDoor
