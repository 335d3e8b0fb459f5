/- A map from written words to their places: words and laws. BondOf, AlternatingWord of both: contracts. Braid moves of both: contracts. Normal forms of words, equal elements, star products, the longest element covered: contracts of both. LeftTable of the program: contract. -/
import Derived.Test.YtobeigdjhepedaaGreatDoorG43
import Derived.Test.YtobeigdjhepedaaGreatDoorG30
import Derived.Maps.OwnSet
import Derived.Test.YtobeigdjhepedaaGreatDoorG03
import Derived.Test.YtobeigdjhepedaaGreatDoorG05
import Derived.BigQuiet
import Derived.Test.YtobeigdjhepedaaGreatDoorG34
import Derived.Test.YtobeigdjhepedaaGreatDoorG02
import Derived.Test.YtobeigdjhepedaaGreatDoorG32
import Derived.Test.YtobeigdjhepedaaGreatDoorG01
import Derived.Deep.RegionHeld3
import Derived.Test.YtobeigdjhepedaaGreatDoorG24
import Derived.Test.YtobeigdjhepedaaGreatDoorG27
import Derived.Test.YtobeigdjhepedaaGreatDoorG15
namespace Go.Proofs.YtobeigdjhepedaaGreatDoor
set_option maxRecDepth 100000
open Go.RowKit
open Go.Maps (Keyed IsMap has)

theorem idxFrom_in_w {v r : List Int} : ∀ {L : List (List Int)} {k : Nat}, v ∈ L → idxFrom (L ++ [r]) v k = idxFrom L v k
  | [], k, h => by simp at h
  | x :: L, k, h => by
    simp only [List.cons_append, idxFrom]
    by_cases e : x = v
    · rw [if_pos e, if_pos e]
    · rw [if_neg e, if_neg e]
      exact idxFrom_in_w ((List.mem_cons.1 h).resolve_left (fun g => e g.symm))
theorem idxFrom_out_w {r : List Int} : ∀ {L : List (List Int)} {k : Nat}, r ∉ L → idxFrom (L ++ [r]) r k = ((k + L.length : Nat) : Int)
  | [], k, _ => by simp [idxFrom]
  | x :: L, k, h => by
    simp only [List.cons_append, idxFrom]
    rw [if_neg (fun e => h (by rw [e]; simp)), idxFrom_out_w (fun g => h (List.mem_cons_of_mem _ g))]
    congr 1
    simp; omega
theorem intZeroW (w : World) : (zeroValue 3).run Tryz.prog w = .ok (.int .i64 0) w := by kernel_rfl
theorem natWfW {n : Nat} (hn : n < 1048576) : (Lit.int .i64 (n : Int)).wf = true := by
  simp [Lit.wf, IntKind.min, IntKind.max, IntKind.signed, IntKind.bits]; omega
structure LetW (v : List Int) : Prop where
  inw : InW v
  few : v.length ≤ 30
theorem wordL_len30 {v : List Int} (h : LetW v) : (wordL v).length ≤ 30 := by
  have := h.few
  unfold wordL
  split
  · simp
  · split
    · unfold digs; simp; omega
    · simp
theorem keyOf_let {v : List Int} (h : LetW v) : keyOf Tryz.prog 9 (.string ⟨(wordL v).toArray⟩) = some (.string (wordL v)) := by
  have := WideMaps.keyOf_string_mk (P := Tryz.prog) (s := ⟨(wordL v).toArray⟩) Tryz.underlying9 (by have := wordL_len30 h; simp [ByteArray.size]; unfold maxLen; omega)
  simpa using this

def AtW (w : World) (b n : Nat) (L : List (List Int)) : Prop :=
  ∃ D : DataW Unit, w.ownsMap Tryz.prog 9 (plainElem Tryz.prog 3) b n D ∧ IsMap D ∧ ∀ v : List Int, LetW v → v ∈ L → D.atKey (.string (wordL v)) (.lit (.int .i64 0)) = .lit (.int .i64 (idxL L v))
section
variable {w w' : World} {b n : Nat} {L : List (List Int)}
theorem AtW.start (w : World) : AtW (w.alloc (.map #[] 0)) w.heap.size 0 [] :=
  ⟨.map [], World.ownsMap_made _ _ _ _, ⟨[], rfl⟩, fun v _ h => by simp at h⟩
theorem AtW.lt (h : AtW w b n L) : b < w.heap.size := by obtain ⟨D, h, -⟩ := h; exact h.lt
theorem AtW.same (h : AtW w b n L) (hs : w'.heap[b]? = w.heap[b]?) : AtW w' b n L := by
  obtain ⟨D, ⟨es, clock, hh, r⟩, h2⟩ := h
  exact ⟨D, ⟨es, clock, hs.trans hh, r⟩, h2⟩
theorem AtW.below {B : Nat} (h : AtW w b n L) (hb : Below B w w') (hB : b < B) : AtW w' b n L := h.same (hb.block b hB)
theorem AtW.still (h : AtW w b n L) (hs : ∃ k, w' = w.drewN k) : AtW w' b n L := by obtain ⟨k, rfl⟩ := hs; exact h
theorem AtW.block (h : AtW w b n L) : ∃ es clock, w.heap[b]? = some (.map es clock) := by
  obtain ⟨D, ⟨es, clock, hh, r⟩, h2⟩ := h
  exact ⟨es, clock, hh⟩
theorem AtW.neOwn {g cap B : Nat} {xs : List Int} (h : AtW w b n L) (ho : Own w B g cap xs) : b ≠ g := by
  rintro rfl
  obtain ⟨es, clock, hh⟩ := h.block
  obtain ⟨cur, h2, -⟩ := ho.toV.row
  rw [hh] at h2
  simp at h2
theorem AtW.neRows {g cap B : Nat} {rs : List RowRef} (h : AtW w b n L) (ho : OwnRows w B g cap rs) : b ≠ g := by
  rintro rfl
  obtain ⟨es, clock, hh⟩ := h.block
  obtain ⟨cur, h2, -⟩ := ho.1.row
  rw [hh] at h2
  simp at h2
theorem AtW.rows {g cap B : Nat} {rs : List RowRef} (h : AtW w b n L) (ho : OwnRows w B g cap rs) (hg : w.grownBy w' (some b)) : OwnRows w' B g cap rs :=
  ⟨ho.1.grown hg (fun e => h.neRows ho (Option.some.inj e).symm), fun r hr => (ho.2.1 r hr).grown hg (fun e => h.neOwn (ho.2.1 r hr) (Option.some.inj e).symm), ho.2.2⟩
theorem wpList_atw_put {ops : Array Oper} {rest : List Oper} {o : Oper} {a : Act} {Q : Exit → Act → World → Prop}
    (hg : o.guard = none) (x y z : Operand) (hop : o.op = Op.mapUpdate 70 x y z) (b n : Nat) (L : List (List Int)) (v : List Int) (hv : LetW v) (hL : v ∉ L) (hLn : L.length = n)
    (hown : AtW w b n L) (hn : n < 1048576) (hx : a.eval x = .map (some b)) (hy : a.eval y = .string ⟨(wordL v).toArray⟩) (hz : a.eval z = .int .i64 (n : Int))
    (hK : ∀ w', AtW w' b (n + 1) (L ++ [v]) → w.grownBy w' (some b) → wpList Tryz.prog ops Q rest (a.put o.dst undef) w') :
    wpList Tryz.prog ops Q (o :: rest) a w := by
  obtain ⟨D, hD, hmap, hat⟩ := hown
  have hk := keyOf_let hv
  refine wpList_mapUpdate_own w hg x y z _ hop _ _ strKeyedW Tryz.underlying70 _ b n D hx hD (by unfold maxLen; omega) _ _ (.string (wordL v)) hy hz hk _ [] (plainElem_int (H := Unit) Tryz.underlying3 (natWfW hn)) ?_
  intro w' hown' hgr
  refine hK w' ⟨_, hown', ?_, fun u hu hm => ?_⟩ hgr
  · obtain ⟨es, rfl⟩ := hmap
    exact ⟨_, rfl⟩
  · by_cases e : u = v
    · subst e
      rw [Maps.atKey_put_same hmap (strKeyedW.key hk)]
      unfold idxL
      rw [idxFrom_out_w hL, hLn, Nat.zero_add]
    · have hne : Lit.string (wordL u) ≠ .string (wordL v) := fun h => e (wordL_inj hu.inw hv.inw (by injection h))
      have h' : u ∈ L := by
        rcases List.mem_append.1 hm with g | g
        · exact g
        · rw [List.mem_singleton] at g; exact absurd g e
      rw [Maps.atKey_put_other hne, hat u hu h']
      unfold idxL
      rw [idxFrom_in_w h']
theorem wpList_atw_get {ops : Array Oper} {rest : List Oper} {o : Oper} {a : Act} {Q : Exit → Act → World → Prop}
    (hg : o.guard = none) (x y : Operand) (hop : o.op = Op.lookup 70 x y false) (b n : Nat) (L : List (List Int)) (v : List Int) (hv : LetW v) (hL : v ∈ L)
    (hown : AtW w b n L) (hx : a.eval x = .map (some b)) (hy : a.eval y = .string ⟨(wordL v).toArray⟩)
    (hK : wpList Tryz.prog ops Q rest (a.put o.dst (.int .i64 (idxL L v))) w) :
    wpList Tryz.prog ops Q (o :: rest) a w := by
  obtain ⟨D, hD, -, hat⟩ := hown
  refine wpList_lookup_own_int w hg x y _ hop _ _ .i64 strKeyedW Tryz.underlying70 Tryz.underlying3 (intZeroW w) b n D hx hD _ _ hy (keyOf_let hv) ?_
  intro z hz _
  have h3 := hat v hv hL
  rw [hz] at h3
  have e : z = idxL L v := by simpa using h3
  rw [e]
  exact hK
end
end Go.Proofs.YtobeigdjhepedaaGreatDoor
namespace Go.Proofs.YtobeigdjhepedaaGreatDoor
set_option maxRecDepth 100000
open Go.RowKit

def bondP (p : Int) : Int := if p = 0 then 2 else if p = 1 then 3 else if p = 2 then 4 else if p = 3 then 6 else 0
def bondL (c : List (List Int)) (i j : Nat) : Int := if i = j then 1 else bondP (ent c i j * ent c j i)
theorem bondP_le (p : Int) : 0 ≤ bondP p ∧ bondP p ≤ 6 := by unfold bondP; (repeat' split) <;> omega
theorem bondL_le (c : List (List Int)) (i j : Nat) : 0 ≤ bondL c i j ∧ bondL c i j ≤ 6 := by
  unfold bondL; split
  · omega
  · exact bondP_le _
theorem ent_bd {c : List (List Int)} (hC : IsC c) {i j : Nat} (hi : i < c.length) (hj : j < c.length) : -3 ≤ ent c i j ∧ ent c i j ≤ 2 := by
  have := hC.2.2.2 i hi j hj
  unfold EntOk at this
  split at this <;> omega
theorem ent_mul {x y : Int} (hx : -3 ≤ x ∧ x ≤ 2) (hy : -3 ≤ y ∧ y ≤ 2) : -9223372036854775808 ≤ x * y ∧ x * y ≤ 9223372036854775807 := by
  have hx' : x = -3 ∨ x = -2 ∨ x = -1 ∨ x = 0 ∨ x = 1 ∨ x = 2 := by omega
  rcases hx' with rfl | rfl | rfl | rfl | rfl | rfl <;> omega

def altL (i j : Int) (n : Nat) : List Int := (List.range n).map fun k => if k % 2 = 0 then i else j
theorem altL_length (i j : Int) (n : Nat) : (altL i j n).length = n := by simp [altL]
theorem altL_succ (i j : Int) (n : Nat) : altL i j (n + 1) = altL i j n ++ [if n % 2 = 0 then i else j] := by simp [altL, List.range_succ]

end Go.Proofs.YtobeigdjhepedaaGreatDoor
namespace Go.Proofs.YtobeigdjhepedaaGreatDoor
set_option maxRecDepth 100000
open Go.RowKit

def braidK (c : List (List Int)) (v : List Int) (k : Nat) : Option (List Int) :=
  let x := v.getD k 0
  let y := v.getD (k + 1) 0
  let m := (bondL c x.toNat y.toNat).toNat
  if k + 1 < v.length ∧ x ≠ y ∧ 2 ≤ m ∧ k + m ≤ v.length ∧ (v.drop k).take m = altL x y m then some (v.take k ++ altL y x m ++ v.drop (k + m)) else none
def braidM (c : List (List Int)) (v : List Int) (a : Int) : Option (List Int) := if 0 ≤ a then braidK c v a.toNat else none
theorem threeCells {w : World} {B : Nat} {a b d : Value} {t : TypeId} (h : w.heap[B]? = some (.cells #[a, b, d] t (0, 0))) : w.cell? ⟨B, 0, none⟩ = some a ∧ w.cell? ⟨B, 1, none⟩ = some b ∧ w.cell? ⟨B, 2, none⟩ = some d := by
  refine ⟨?_, ?_, ?_⟩ <;> simp [World.cell?, h]
def MayInts (w : World) (r : Option (List Int)) (e : Ending) (w' : World) : Prop :=
  (r = none ∧ e = .returned (.tuple #[.slice none 0 0, .bool false]) ∧ Below w.heap.size w w') ∨ (∃ y, r = some y ∧ GotIntsB w y true e w')
end Go.Proofs.YtobeigdjhepedaaGreatDoor
namespace Go.Proofs.YtobeigdjhepedaaGreatDoor
set_option maxRecDepth 100000
open Go.RowKit Game

section
variable {w : World} {gc oc n cc : Nat} {c : List (List Int)}
set_option maxHeartbeats 1000000 in
theorem impl_reduced_any (gc oc n cc g o m cp : Nat) (c : List (List Int)) (v : List Int) (w : World) (hn : c.length = n) (hm : v.length = m) (hL : Lets c 30 v) (hgc : gc < w.heap.size) (hg : g < w.heap.size) (hr : Rows2 w gc oc c) (hv : Cells w g o v) :
    Calls Tryz.prog 71 #[(Value.slice (some ⟨gc, oc, none⟩) n cc), (Value.slice (some ⟨g, o, none⟩) m cp)] w (GotInts w (nfI c v)) := by
  have hl := hL.few
  have k1 := Lib.hid (impl_image_any gc oc n cc g o m cp c v w hn hm hL.isC (by omega) hL.inr hgc hg hr hv)
  have k2 := Lib.hid (fun (W : World) (B g2 c2 : Nat) (hb : Below w.heap.size w W) (ho : Own W B g2 c2 (imI c v)) => impl_normal_any gc oc n cc g2 0 c.length c2 30 c (imI c v) (nfI c v) W hn (imI_length c v) hL.isC (imI_length c v) (by omega) (nfI_ok hL).norm (Nat.lt_of_lt_of_le hgc hb.size) ho.lt (hr.below hb hgc) ho.cells)
  have Hl := Lib.hid (imI_length c v)
  clear hr hv hL hl hn hm
  generalize nfI c v = y at *
  go_enter Tryz.func71, Tryz.ntmps71
  go_wp2_with fail
  refine k1.out.mono ?_
  rintro e w1 ⟨g1, c1, rfl, ho1, hb1⟩
  rw [show (actW c v (onesL c.length)).length = c.length from Hl.out]
  go_wp2_with fail
  refine (k2.out w1 _ g1 c1 hb1 ho1).mono ?_
  rintro e w2 ⟨g2, c2, rfl, ho2, hb2⟩
  go_wp2_with fail
  go_ret
  exact ⟨g2, c2, rfl, ho2.mono hb1.size, hb1.trans (hb2.mono hb1.size)⟩

set_option maxHeartbeats 1000000 in
theorem impl_same_any (gc oc n cc g1 o1 n1 c1 g2 o2 n2 c2 : Nat) (c : List (List Int)) (a b : List Int) (w : World) (hn : c.length = n) (hn1 : a.length = n1) (hn2 : b.length = n2) (hA : Lets c 30 a) (hB : Lets c 30 b) (hgc : gc < w.heap.size) (hg1 : g1 < w.heap.size) (hg2 : g2 < w.heap.size) (hr : Rows2 w gc oc c) (h1 : Cells w g1 o1 a) (h2 : Cells w g2 o2 b) :
    Calls Tryz.prog 33 #[(Value.slice (some ⟨gc, oc, none⟩) n cc), (Value.slice (some ⟨g1, o1, none⟩) n1 c1), (Value.slice (some ⟨g2, o2, none⟩) n2 c2)] w (Gives w (.bool (decide (imI c a = imI c b)))) := by
  have hn4 := hA.isC.2.1
  have la := hA.few
  have lb := hB.few
  have k1 := Lib.hid (impl_image_any gc oc n cc g1 o1 n1 c1 c a w hn hn1 hA.isC (by omega) hA.inr hgc hg1 hr h1)
  have k2 := Lib.hid (fun (W : World) (hb : Below w.heap.size w W) => impl_image_any gc oc n cc g2 o2 n2 c2 c b W hn hn2 hB.isC (by omega) hB.inr (Nat.lt_of_lt_of_le hgc hb.size) (Nat.lt_of_lt_of_le hg2 hb.size) (hr.below hb hgc) (h2.below hb hg2))
  have Ha := Lib.hid (imI_length c a); have Hb := Lib.hid (imI_length c b)
  have k3 := Lib.hid (fun (W : World) (ga ca gb cb : Nat) (x1 : Cells W ga 0 (imI c a)) (x2 : Cells W gb 0 (imI c b)) => slices_Equal_any ga 0 c.length ca gb 0 c.length cb (imI c a) (imI c b) W (imI_length c a) (imI_length c b) (by rw [imI_length]; omega) (by rw [imI_length]; omega) x1 x2)
  clear hr h1 h2 hA hB la lb hn hn1 hn2
  generalize decide (imI c a = imI c b) = r at *
  go_enter Tryz.func33, Tryz.ntmps33
  go_wp2_with fail
  refine k1.out.mono ?_
  rintro e w1 ⟨ga, ca, rfl, ho1, hb1⟩
  rw [show (actW c a (onesL c.length)).length = c.length from Ha.out]
  go_wp2_with fail
  refine (k2.out w1 hb1).mono ?_
  rintro e w2 ⟨gb, cb, rfl, ho2, hb2⟩
  rw [show (actW c b (onesL c.length)).length = c.length from Hb.out]
  go_wp2_with fail
  refine (k3.out w2 ga ca gb cb (ho1.below hb2 ho1.lt).cells ho2.cells).mono ?_
  rintro e w3 ⟨rfl, hs3⟩
  go_wp2_with fail
  go_ret
  exact ⟨rfl, below_still (hb1.trans (hb2.mono hb1.size)) hs3⟩

def nfA (c : List (List Int)) (v : List Int) : List Int := if isWordB c v = true then nfI c v else []
set_option maxHeartbeats 1000000 in
theorem spec_NormalForm_any (gc oc n cc g o m cp : Nat) (c : List (List Int)) (v : List Int) (w : World) (hn : c.length = n) (hm : v.length = m) (hx : c.length ≤ 1048576) (hrl : ∀ j, j < c.length → (c.getD j []).length ≤ 1048576) (hl : v.length ≤ 1048576)
    (hgc : gc < w.heap.size) (hg : g < w.heap.size) (hr : Rows2 w gc oc c) (hv : Cells w g o v) :
    Calls Tryz.prog 99 #[(Value.slice (some ⟨gc, oc, none⟩) n cc), (Value.slice (some ⟨g, o, none⟩) m cp)] w (GotIntsB w (nfA c v) (isWordB c v)) := by
  have hIW := spec_IsWord_any gc oc n cc g o m cp c v w hn hm hx hrl hl hr hv
  cases hw : isWordB c v with
  | false =>
    rw [hw] at hIW
    rw [show nfA c v = [] from if_neg (by rw [hw]; decide)]
    have Hi := Lib.hid hIW
    clear hIW hw hr hv
    go_enter Tryz.func99, Tryz.ntmps99
    go_wp2_with fail
    refine Hi.out.mono ?_
    rintro e w1 ⟨rfl, hs1⟩
    have hb1 := below_still (Below.refl w.heap.size w) hs1
    go_wp2_with fail
    go_ret2
    exact ⟨_, 0, rfl, Own.empty hb1.size, hb1.alloc hb1.size _⟩
  | true =>
    rw [hw] at hIW
    have hW := wordOk_of hw
    have hL := hW.lets.mono (show 15 ≤ 30 by omega)
    rw [show nfA c v = nfI c v from if_pos hw]
    have Hi := Lib.hid hIW
    have Hn := Lib.hid (fun W (hs : ∃ q, W = w.drewN q) => spec_l8Normal_any gc oc n cc g o m cp c v (nfI c v) W hn hm hW.isC hl hW.inr (nfI_ok hL).norm (Nat.lt_of_lt_of_le hgc (below_still (Below.refl w.heap.size w) hs).size) (Nat.lt_of_lt_of_le hg (below_still (Below.refl w.heap.size w) hs).size) (hr.still hs) (hv.still hs))
    clear hIW hw hr hv hW hL
    generalize nfI c v = y at *
    go_enter Tryz.func99, Tryz.ntmps99
    go_wp2_with fail
    refine Hi.out.mono ?_
    rintro e w1 ⟨rfl, hs1⟩
    have hb1 := below_still (Below.refl w.heap.size w) hs1
    go_wp2_with fail
    refine (Hn.out w1 hs1).mono ?_
    rintro e w2 ⟨g2, c2, rfl, ho2, hb2⟩
    go_wp2_with fail
    go_ret2
    exact ⟨g2, c2, rfl, ho2.mono hb1.size, hb1.trans (hb2.mono hb1.size)⟩

set_option maxHeartbeats 1000000 in
theorem spec_AreSame_ok (gc oc n cc g1 o1 n1 c1 g2 o2 n2 c2 : Nat) (c : List (List Int)) (a b : List Int) (w : World) (hn : c.length = n) (hn1 : a.length = n1) (hn2 : b.length = n2) (hA : WordOk c a) (hB : WordOk c b) (hgc : gc < w.heap.size) (hg1 : g1 < w.heap.size) (hg2 : g2 < w.heap.size) (hr : Rows2 w gc oc c) (h1 : Cells w g1 o1 a) (h2 : Cells w g2 o2 b) :
    Calls Tryz.prog 25 #[(Value.slice (some ⟨gc, oc, none⟩) n cc), (Value.slice (some ⟨g1, o1, none⟩) n1 c1), (Value.slice (some ⟨g2, o2, none⟩) n2 c2)] w (Gives w (.bool (decide (imI c a = imI c b)))) := by
  have hn4 := hA.isC.2.1
  have hcl := hA.isC.2.2.1
  have la := hA.few
  have lb := hB.few
  have i1 := spec_IsWord_any gc oc n cc g1 o1 n1 c1 c a w hn hn1 (by omega) (fun j hj => by have := hcl j hj; omega) (by omega) hr h1
  have i2 := fun W (hb : Below w.heap.size w W) => spec_IsWord_any gc oc n cc g2 o2 n2 c2 c b W hn hn2 (by omega) (fun j hj => by have := hcl j hj; omega) (by omega) (hr.below hb hgc) (h2.below hb hg2)
  rw [hA.isWord] at i1
  rw [hB.isWord] at i2
  have I1 := Lib.hid i1; have I2 := Lib.hid i2
  have k1 := Lib.hid (fun (W : World) (hb : Below w.heap.size w W) => spec_l8Image_any gc oc n cc g1 o1 n1 c1 c a W hn hn1 hA.isC (by omega) hA.inr (Nat.lt_of_lt_of_le hgc hb.size) (Nat.lt_of_lt_of_le hg1 hb.size) (hr.below hb hgc) (h1.below hb hg1))
  have k2 := Lib.hid (fun (W : World) (hb : Below w.heap.size w W) => spec_l8Image_any gc oc n cc g2 o2 n2 c2 c b W hn hn2 hB.isC (by omega) hB.inr (Nat.lt_of_lt_of_le hgc hb.size) (Nat.lt_of_lt_of_le hg2 hb.size) (hr.below hb hgc) (h2.below hb hg2))
  have Ha := Lib.hid (imI_length c a); have Hb := Lib.hid (imI_length c b)
  have k3 := Lib.hid (fun (W : World) (ga ca gb cb : Nat) (x1 : Cells W ga 0 (imI c a)) (x2 : Cells W gb 0 (imI c b)) => spec_EqualWords_any ga 0 c.length ca gb 0 c.length cb (imI c a) (imI c b) W (imI_length c a) (imI_length c b) (by rw [imI_length]; omega) x1 x2)
  clear hr h1 h2 hA hB la lb hn hn1 hn2 i1 i2 hcl
  generalize decide (imI c a = imI c b) = r at *
  go_enter Tryz.func25, Tryz.ntmps25
  go_wp2_with fail
  refine I1.out.mono ?_
  rintro e v1 ⟨rfl, hs1⟩
  have hB1 := below_still (Below.refl w.heap.size w) hs1
  go_wp2_with fail
  refine (I2.out v1 hB1).mono ?_
  rintro e v2 ⟨rfl, hs2⟩
  have hB2 := below_still hB1 hs2
  go_wp2_with fail
  refine (k1.out v2 hB2).mono ?_
  rintro e w1 ⟨ga, ca, rfl, ho1, hb1⟩
  have hB3 := hB2.trans (hb1.mono hB2.size)
  rw [show (actW c a (onesL c.length)).length = c.length from Ha.out]
  go_wp2_with fail
  refine (k2.out w1 hB3).mono ?_
  rintro e w2 ⟨gb, cb, rfl, ho2, hb2⟩
  rw [show (actW c b (onesL c.length)).length = c.length from Hb.out]
  go_wp2_with fail
  refine (k3.out w2 ga ca gb cb (ho1.below hb2 ho1.lt).cells ho2.cells).mono ?_
  rintro e w3 ⟨rfl, hs3⟩
  go_wp2_with fail
  go_ret
  exact ⟨rfl, below_still (hB3.trans (hb2.mono hB3.size)) hs3⟩

def GotOwn (w : World) (B : Nat) (y : List Int) (e : Ending) (w' : World) : Prop := ∃ g cap, e = .returned (Value.slice (some ⟨g, 0, none⟩) y.length cap) ∧ Own w' B g cap y ∧ Below w.heap.size w w'
end
end Go.Proofs.YtobeigdjhepedaaGreatDoor
namespace Go.Proofs.YtobeigdjhepedaaGreatDoor
set_option maxRecDepth 100000
open Go.RowKit Game

theorem AtW.only {w w' : World} {b n B E : Nat} {L : List (List Int)} (h : AtW w b n L) (hb : Only B E w w') (hd : b < B ∨ E ≤ b) : AtW w' b n L := h.same (hb.block b h.lt hd)
theorem elem_let {c : List (List Int)} (hG : Grp c) {x : List Int} (hx : x ∈ elemL c) : LetW x := by
  have h := elem_lets hG hx
  refine ⟨fun i hi => ?_, by have := h.few; omega⟩
  have h1 := h.mem i hi
  have := hG.hC.2.1
  omega

set_option maxHeartbeats 2000000 in
theorem impl_places_ok (g cp N : Nat) (L : List (List Int)) (w : World) (hn : L.length = N) (hN : N ≤ 200) (hd : L.Nodup) (hW : ∀ j, j < N → LetW (L.getD j [])) (hg : g < w.heap.size) (hr : Rows2 w g 0 L) :
    Calls Tryz.prog 117 #[(Value.slice (some ⟨g, 0, none⟩) N cp)] w (fun e w' => ∃ b, e = .returned (.map (some b)) ∧ w.heap.size ≤ b ∧ AtW w' b N L ∧ Below w.heap.size w w') := by
  have Hn := Lib.hid hn; have Hd := Lib.hid hd; have HW := Lib.hid hW
  clear hn hd hW
  have hmm := @run_makeMap Tryz.prog
  go_enter Tryz.func117, Tryz.ntmps117
  go_wp2_with fail
  have hA : AtW (w.alloc (.map #[] 0)) w.heap.size 0 (L.take 0) := AtW.start w
  have hb0 : Below w.heap.size w (w.alloc (.map #[] 0)) := (Below.refl _ _).alloc (Nat.le_refl _) _
  go_loopw [9] (fun iv wr => ∃ k : Nat, k ≤ N ∧ iv = .int .i64 k ∧ AtW wr w.heap.size k (L.take k) ∧ Below w.heap.size w wr) (fun iv _ => N - (intOf iv).toNat)
  case atStart => exact ⟨0, Nat.zero_le _, rfl, hA, hb0⟩
  case round =>
    clear hA hb0
    obtain ⟨k, hk, rfl, hA, hb⟩ := hrel
    by_cases hlt : k < N
    · have hkL : k < L.length := by rw [Hn.out]; exact hlt
      obtain ⟨gj, oj, cj, q1, q2, q3, q4⟩ := (hr.below hb hg) k hkL
      have hlw := HW.out k hlt
      have hnot : L.getD k [] ∉ L.take k := by
        intro hm
        obtain ⟨j, hj, he⟩ := List.mem_iff_getElem.1 hm
        have hjk : j < k := by rw [List.length_take] at hj; omega
        have e1 : L[j]'(by omega) = L[k] := by
          rw [List.getElem_take] at he
          rw [he]; simp [List.getD, hkL]
        have := (List.getElem_inj Hd.out).1 e1
        omega
      have hsucc : L.take (k + 1) = L.take k ++ [L.getD k []] := by rw [List.take_succ_eq_append_getElem hkL]; simp [List.getD, hkL]
      have htl : (L.take k).length = k := by rw [List.length_take]; omega
      generalize L.getD k [] = x at *
      obtain ⟨nx, hnx⟩ : ∃ nx, x.length = nx := ⟨_, rfl⟩
      rw [hnx] at q1
      rw [Nat.zero_add] at q1
      have hF := impl_FormatWord_any gj oj nx cj x wr hnx (by have := hlw.few; omega) q3 q4
      have HF := Lib.hid hF; have Hlw := Lib.hid hlw; have Hnot := Lib.hid hnot; have Hsucc := Lib.hid hsucc; have Htl := Lib.hid htl
      have hgw := Nat.lt_of_lt_of_le hg hb.size
      clear hF hlw hnot hsucc htl hnx q4 q2
      go_wp2_with fail
      refine HF.out.mono ?_
      rintro e v2 ⟨rfl, hb2⟩
      have hB2 := hb.trans (hb2.mono hb.size)
      have hA2 := hA.below hb2 hA.lt
      clear hb hb2 hA HF
      go_wp2_with (at_mapUpdate; refine wpList_atw_put rfl _ _ _ rfl w.heap.size k (L.take k) x Hlw.out Hnot.out Htl.out hA2 (by omega) rfl rfl rfl ?_)
      intro v3 hA3 hg3
      have hB3 := hB2.grown hg3 hB2.size (by intro t ht; cases ht; exact Nat.le_refl _)
      rw [← Hsucc.out] at hA3
      clear hB2 hA2 hg3
      go_wp2_with fail
      go_roundw
      case rel => exact ⟨k + 1, by omega, by go_num, hA3, hB3⟩
      case measure => simp [intOf]; omega
    · obtain rfl : k = N := by omega
      go_wp2
      go_ret
      refine ⟨w.heap.size, rfl, Nat.le_refl _, ?_, hb⟩
      rw [← Hn.out, List.take_length] at hA
      rw [← Hn.out]; exact hA

set_option maxRecDepth 100000 in
set_option maxHeartbeats 4000000 in
theorem impl_LeftTable_yes (gc oc n cc : Nat) (c : List (List Int)) (w : World) (hn : c.length = n) (hgr : grpB c = true) (hgc : gc < w.heap.size) (hr : Rows2 w gc oc c) (hm : MaxL w) :
    Calls Tryz.prog 116 #[(Value.slice (some ⟨gc, oc, none⟩) n cc)] w (GotRows w (leftT c)) := by
  subst hn
  have hG := grp_B hgr
  obtain ⟨w2, hw2⟩ : ∃ w2, w2 = w.alloc (.cells #[] 28) := ⟨_, rfl⟩
  have hb2 : Below w.heap.size w w2 := by rw [hw2]; exact (by repeat (first | with_reducible exact Below.refl _ _ | with_reducible assumption | with_reducible refine below_drewN ?_ _ | with_reducible refine Below.drew ?_ | (with_reducible refine Below.alloc ?_ ?_ _; rotate_left; · first | (simp; done) | (simp; omega) | exact Below.size (by assumption) | (have hsz := Below.size (by assumption : Below _ _ _); simp at hsz ⊢; omega)) | (with_reducible refine Below.setCell ?_ ?_ _; rotate_left; · first | (simp; done) | (simp; omega))))
  have ho2 : OwnRows w2 w.heap.size w.heap.size 0 [] := by rw [hw2]; exact OwnRows.empty (w := w) (Nat.le_refl _)
  have hcall := impl_elements_ok gc oc c.length cc c w2 rfl hG (Nat.lt_of_lt_of_le hgc hb2.size) (hr.below hb2 hgc) (hm.below hb2)
  rw [hw2] at hcall
  have Hcall := Lib.hid hcall; have Hw2 := Lib.hid hw2
  unfold leftT
  rw [show elA c = elemL c from if_pos hgr]
  have hfew := hG.few
  have hc4 : c.length ≤ 4 := hG.hC.2.1
  have hN : ∀ j i, j < (elemL c).length → i < c.length → Lets c 30 ([(i : Int)] ++ (elemL c).getD j []) ∧ nfI c ([(i : Int)] ++ (elemL c).getD j []) ∈ elemL c ∧ LetW (nfI c ([(i : Int)] ++ (elemL c).getD j [])) ∧ ((elemL c).getD j []).length ≤ 24 := by
    intro j i hj hi
    have hx : (elemL c).getD j [] ∈ elemL c := by simp [List.getD, hj]
    have hm := left_mem hG hx hi
    exact ⟨left_lets hG hx hi, hm, elem_let hG hm, (elem_lets hG hx).few⟩
  have hlw : ∀ j, j < (elemL c).length → LetW ((elemL c).getD j []) := fun j hj => elem_let hG (by simp [List.getD, hj])
  have hnd := hG.asc.nodup
  clear hcall hw2 hG hm hgr
  generalize elemL c = L at *
  obtain ⟨N, hNL⟩ : ∃ N, L.length = N := ⟨_, rfl⟩
  have HNL := Lib.hid hNL
  rw [hNL] at hfew hN hlw ⊢
  have HN := Lib.hid hN; have Hr := Lib.hid hr; have Hlw := Lib.hid hlw; have Hnd := Lib.hid hnd
  clear hNL hN hr hlw hnd
  go_enter Tryz.func116, Tryz.ntmps116
  go_wp2_with fail
  refine Hcall.out.mono ?_
  rintro e w3 ⟨g3, c3, rs, rfl, hcr, hO3, hb3⟩
  rw [← Hw2.out] at hb3 hO3
  have hb3' := hb2.trans (hb3.mono hb2.size)
  have ho3 := ho2.below hb3
  have hH3 : HeldR w3 w2.heap.size w3.heap.size g3 c3 L := ⟨rs, hcr, hO3, hO3.lt, fun r hr => (hO3.2.1 r hr).lt⟩
  have hw2s : w.heap.size < w2.heap.size := ho2.lt
  have hPl := impl_places_ok g3 c3 N L w3 HNL.out hfew Hnd.out Hlw.out hH3.lt hH3.rows2
  have HPl := Lib.hid hPl
  rw [HNL.out]
  clear hb3 hb2 ho2 hcr hO3 Hcall Hw2 hPl
  go_wp2_with fail
  refine HPl.out.mono ?_
  rintro e w4 ⟨bM, rfl, hbM, hA4, hb4⟩
  have hE : w3.heap.size ≤ w4.heap.size := hb4.size
  have hB4 := hb3'.trans (hb4.mono hb3'.size)
  have ho4 := ho3.below hb4
  have hH4 := hH3.below hb4 (Nat.le_refl _)
  clear hb4 hb3' ho3 hH3 HPl
  go_wp2_with fail
  go_loopw [3, 8, 17] (fun ov _ kv wr => ∃ (k gO cO : Nat) (rs : List RowRef), k ≤ N ∧ kv = .int .i64 k ∧ ov = (Value.slice (some ⟨gO, 0, none⟩) k cO) ∧ Hid (rs.length = k) ∧ Hid (contents rs = ltab c L k) ∧ OwnRows wr w.heap.size gO cO rs ∧ HeldR wr w2.heap.size w3.heap.size g3 c3 L ∧ w3.heap.size ≤ wr.heap.size ∧ (gO < w2.heap.size ∨ w3.heap.size ≤ gO) ∧ AtW wr bM N L ∧ Below w.heap.size w wr) (fun _ _ kv _ => N - (intOf kv).toNat)
  case atStart => exact ⟨0, _, 0, [], Nat.zero_le _, rfl, rfl, rfl, rfl, ho4, hH4, hE, .inl hw2s, hA4, hB4⟩
  case round =>
    clear ho4 hH4 hB4 hA4
    obtain ⟨k, gO, cO, rs, hk, rfl, rfl, hrs, hcont, hO, hH, hEs, hdj, hA, hb⟩ := hrel
    by_cases hlt : k < N
    · have hkL : k < L.length := by rw [HNL.out]; exact hlt
      have Hsucc := Lib.hid (ltab_succ (c := c) hkL)
      have hR := hH.rows2
      have hg := hH.lt
      obtain ⟨gj, oj, cj, q1, q2, q3, q4⟩ := hR k hkL
      have hNk := fun i hi => HN.out k i hlt hi
      generalize L.getD k [] = x at *
      have HNk := Lib.hid hNk
      obtain ⟨nx, hnx⟩ : ∃ nx, x.length = nx := ⟨_, rfl⟩
      rw [hnx] at q1
      have Hnx := Lib.hid hnx
      obtain ⟨wr1, hwr1⟩ : ∃ wr1, wr1 = wr.alloc (.cells #[] 3) := ⟨_, rfl⟩
      have hbr : Below wr.heap.size wr wr1 := by rw [hwr1]; exact (Below.refl _ _).alloc (Nat.le_refl _) _
      have hor : Own wr1 wr.heap.size wr.heap.size 0 [] := by rw [hwr1]; exact Own.empty (w := wr) (Nat.le_refl _)
      clear hNk hnx
      rw [Nat.zero_add] at q1
      go_wp2_with fail
      rw [← hwr1]
      generalize wr = wo at *
      go_loopw [8, 24] (fun rv iv wj => ∃ i gR cR : Nat, i ≤ c.length ∧ iv = .int .i64 i ∧ rv = (Value.slice (some ⟨gR, 0, none⟩) i cR) ∧ Own wj wo.heap.size gR cR (lrow c L x i) ∧ Below wo.heap.size wo wj) (fun _ iv _ => c.length - (intOf iv).toNat)
      case atStart => exact ⟨0, wo.heap.size, 0, Nat.zero_le _, rfl, rfl, hor, hbr⟩
      case round =>
        clear hor hbr hwr1
        obtain ⟨i, gR, cR, hi, rfl, rfl, hoR, hbj⟩ := hrel
        by_cases hil : i < c.length
        · obtain ⟨hLt, hmem, hlet, h24⟩ := HNk.out i hil
          rw [Hnx.out] at h24
          have hsr := lrow_succ c L x i
          have hll := lrow_length c L x i
          have hB0 := hb.trans (hbj.mono hb.size)
          have q5 := q4.below hbj q3
          have hgj := Nat.lt_of_lt_of_le q3 hbj.size
          obtain ⟨wk, hwk⟩ : ∃ wk, wk = wr.alloc (.cells #[.int .i64 (i : Int)] 3) := ⟨_, rfl⟩
          have hbk : Below wr.heap.size wr wk := by rw [hwk]; exact (Below.refl _ _).alloc (Nat.le_refl _) _
          have hok : Own wk wr.heap.size wr.heap.size 1 [(i : Int)] := by rw [hwk]; exact Own.new _ (Nat.le_refl _)
          have hxk := q5.below hbk hgj
          have hl2 : ([(i : Int)] ++ x).length = 1 + nx := by rw [List.length_append, Hnx.out]; rfl
          have Hl2 := Lib.hid hl2
          have hRd := fun (W : World) (g4 c4 : Nat) (hb : Below w.heap.size w W) (h4 : g4 < W.heap.size) (hc : Cells W g4 0 ([(i : Int)] ++ x)) => impl_reduced_any gc oc _ cc g4 0 (1 + nx) c4 c ([(i : Int)] ++ x) W rfl Hl2.out hLt (Nat.lt_of_lt_of_le hgc hb.size) h4 (Hr.out.below hb hgc) hc
          generalize nfI c ([(i : Int)] ++ x) = X at *
          obtain ⟨nX, hnX⟩ : ∃ nX, X.length = nX := ⟨_, rfl⟩
          have HnX := Lib.hid hnX
          have HRd := Lib.hid hRd
          have HFm := Lib.hid (fun (W : World) (g5 c5 : Nat) (h5 : g5 < W.heap.size) (hc : Cells W g5 0 X) => impl_FormatWord_any g5 0 nX c5 X W HnX.out (by have := hlet.few; omega) h5 hc)
          have Hlet := Lib.hid hlet; have Hmem := Lib.hid hmem; have Hsr := Lib.hid hsr; have Hll := Lib.hid hll
          have hgw : g3 < wr.heap.size := Nat.lt_of_lt_of_le hg hbj.size
          subst hwk
          clear hRd hnX hlet hmem hsr hll hLt hl2 q5
          go_wp2_with (at_builtin; refine wpList_append_ints_n rfl _ _ rfl wr.heap.size wr.heap.size 1 1 [(i : Int)] rfl hok gj oj nx cj x Hnx.out hxk rfl rfl (by omega) ?_)
          intro g4 c4 v2 ho4 hg4 _
          have hb4' := hbk.grown hg4 hbk.size (by intro t ht; cases ht; exact Nat.le_refl _)
          have hB4 := hB0.trans (hb4'.mono hB0.size)
          have ho4 := ho4.mono hB0.size
          clear hbk hok hxk hg4
          go_wp2_with fail
          refine (HRd.out v2 g4 c4 hB4 ho4.lt ho4.cells).mono ?_
          rintro e v3 ⟨g5, c5, rfl, ho5, hb5⟩
          rw [HnX.out]
          have hb5' := hb4'.trans (hb5.mono hb4'.size)
          clear hb5 hb4' hB4 ho4 HRd
          go_wp2_with fail
          refine (HFm.out v3 g5 c5 ho5.lt ho5.cells).mono ?_
          rintro e v4 ⟨rfl, hb6⟩
          have hb6' := hb5'.trans (hb6.mono hb5'.size)
          have hb7 := hbj.trans (hb6'.mono hbj.size)
          have hoR7 := hoR.below hb6' hoR.lt
          have hA7 := hA.below hb7 hA.lt
          clear hb6 hb5' hb6' hbj hoR ho5 HFm
          go_wp2_with (first | (at_lookup; refine wpList_atw_get rfl _ _ rfl bM N L X Hlet.out Hmem.out hA7 rfl rfl ?_) | (at_builtin; refine wpList_append_int_n (w := v4) rfl _ _ rfl wo.heap.size gR cR i (lrow c L x i) (idxL L X) Hll.out hoR7 rfl rfl (by omega) ?_))
          intro g6 c6 v5 ho6 hg6 _
          have hb8 := hb7.grown hg6 hb7.size (by intro t ht; cases ht; exact hoR7.base)
          rw [← Hsr.out] at ho6
          clear hb7 hoR7 hg6 hA7
          go_wp2_with fail
          go_roundw
          case rel => exact ⟨i + 1, g6, c6, by omega, by go_num, rfl, ho6, hb8⟩
          case measure => simp [intOf]; omega
        · obtain rfl : i = c.length := by omega
          have hO1 := hO.below hbj
          have hH1 := hH.below hbj hEs
          have hE1 := Nat.le_trans hEs hbj.size
          have hB1 := hb.trans (hbj.mono hb.size)
          have hA1 := hA.below hbj hA.lt
          have hne : ∀ s ∈ rs, s.1 ≠ gR := fun s hs e => by have := (hO.2.1 s hs).lt; have := hoR.base; omega
          have hneM : bM ≠ gO := hA.neRows hO
          have Hll := Lib.hid (lrow_length c L x c.length)
          have hoR1 := hoR.mono hb.size
          clear hO hR hH hA hb hbj hg hoR q1 q4 hEs
          go_wp2_with (at_builtin; refine wpList_append_row (w := wr) rfl _ _ rfl w.heap.size gO cO k wr.heap.size rs (gR, cR, lrow c L x c.length) _ hrs.out (by unfold rowVal; rw [Hll.out]) rfl hO1 hoR1 hne rfl rfl (by omega) ?_)
          intro g6 c6 v5 ho6 hg6 hor6
          have hB2 := hB1.grown hg6 hB1.size (by intro t ht; cases ht; exact hO1.base)
          have hl4 : Hid ((rs ++ [(gR, cR, lrow c L x c.length)]).length = k + 1) := Lib.hid (by rw [List.length_append, hrs.out]; rfl)
          have hcn4 : Hid (contents (rs ++ [(gR, cR, lrow c L x c.length)]) = ltab c L (k + 1)) := Lib.hid (by rw [Hsucc.out, ← hcont.out]; simp [contents])
          have hOn := Only.of_grown (B := gO) (E := gO + 1) hg6 (Nat.le_refl _) (Nat.lt_succ_self _)
          have hH2 := hH1.only hOn (by omega)
          have hA2 := hA1.only hOn (by omega)
          have hE2 := Nat.le_trans hE1 hg6.size
          have hd2 : g6 < w2.heap.size ∨ w3.heap.size ≤ g6 := by omega
          clear hO1 hoR1 hB1 hg6 hne hH1 hE1 hdj hor6 hA1 hOn
          go_wp2_with fail
          go_roundw
          case rel => exact ⟨k + 1, g6, c6, _, by omega, by go_num, rfl, hl4.out, hcn4.out, ho6, hH2, hE2, hd2, hA2, hB2⟩
          case measure => simp [intOf]; omega
    · obtain rfl : k = N := by omega
      go_wp2_with fail
      go_ret
      exact ⟨gO, cO, rs, by rw [ltab_length (by rw [HNL.out]; exact Nat.le_refl _)]; rfl, hcont.out, hO, hb⟩

theorem impl_places_nil (w : World) : Calls Tryz.prog 117 #[.slice none 0 0] w (fun e w' => ∃ b, e = .returned (.map (some b)) ∧ Below w.heap.size w w') := by
  have hmm := @run_makeMap Tryz.prog
  go_enter Tryz.func117, Tryz.ntmps117
  go_wp2_with fail
  have hb0 : Below w.heap.size w (w.alloc (.map #[] 0)) := (Below.refl _ _).alloc (Nat.le_refl _) _
  go_loopw [9] (fun iv wr => iv = .int .i64 0 ∧ Below w.heap.size w wr) (fun _ _ => 0)
  case atStart => exact ⟨rfl, hb0⟩
  case round =>
    obtain ⟨rfl, hb⟩ := hrel
    go_wp2
    go_ret
    exact ⟨_, rfl, hb⟩
set_option maxHeartbeats 1000000 in
theorem impl_LeftTable_any (gc oc n cc : Nat) (c : List (List Int)) (w : World) (hn : c.length = n) (hx : c.length ≤ 1048576) (hrl : ∀ j, j < c.length → (c.getD j []).length ≤ 1048576) (hgc : gc < w.heap.size) (hr : Rows2 w gc oc c) (hm : MaxL w) :
    Calls Tryz.prog 116 #[(Value.slice (some ⟨gc, oc, none⟩) n cc)] w (GotRows w (leftT c)) := by
  by_cases hg : grpB c = true
  · exact impl_LeftTable_yes gc oc n cc c w hn hg hgc hr hm
  · have hg' : grpB c = false := by simpa using hg
    have hL : leftT c = [] := by unfold leftT; rw [show elA c = [] from if_neg hg]; rfl
    rw [hL]
    obtain ⟨w2, hw2⟩ : ∃ w2, w2 = w.alloc (.cells #[] 28) := ⟨_, rfl⟩
    have hb2 : Below w.heap.size w w2 := by rw [hw2]; exact (by repeat (first | with_reducible exact Below.refl _ _ | with_reducible assumption | with_reducible refine below_drewN ?_ _ | with_reducible refine Below.drew ?_ | (with_reducible refine Below.alloc ?_ ?_ _; rotate_left; · first | (simp; done) | (simp; omega) | exact Below.size (by assumption) | (have hsz := Below.size (by assumption : Below _ _ _); simp at hsz ⊢; omega)) | (with_reducible refine Below.setCell ?_ ?_ _; rotate_left; · first | (simp; done) | (simp; omega))))
    have ho2 : OwnRows w2 w.heap.size w.heap.size 0 [] := by rw [hw2]; exact OwnRows.empty (w := w) (Nat.le_refl _)
    have hcall := impl_elements_no gc oc n cc c w2 hn hx hrl hg' (Nat.lt_of_lt_of_le hgc hb2.size) (hr.below hb2 hgc) (hm.below hb2)
    rw [hw2] at hcall
    have Hcall := Lib.hid hcall; have Hw2 := Lib.hid hw2
    clear hcall hw2 hg hg' hm hr hrl hn hL
    go_enter Tryz.func116, Tryz.ntmps116
    go_wp2_with fail
    refine Hcall.out.mono ?_
    rintro e w3 ⟨rfl, hb3⟩
    rw [← Hw2.out] at hb3
    have hb3' := hb2.trans (hb3.mono hb2.size)
    have ho3 := ho2.below hb3
    clear hb3 hb2 ho2 Hcall Hw2
    go_wp2_with fail
    refine (impl_places_nil w3).mono ?_
    rintro e w4 ⟨bM, rfl, hb4⟩
    have hB4 := hb3'.trans (hb4.mono hb3'.size)
    have ho4 := ho3.below hb4
    clear hb4 hb3' ho3
    go_wp2_with fail
    go_loopw [3, 17] (fun ov jv wr => jv = .int .i64 0 ∧ ov = (Value.slice (some ⟨w.heap.size, 0, none⟩) 0 0) ∧ wr = w4) (fun _ _ _ => 0)
    case atStart => exact ⟨rfl, rfl, rfl⟩
    case round =>
      obtain ⟨rfl, rfl, rfl⟩ := hrel
      go_wp2
      go_ret
      exact ⟨w.heap.size, 0, [], rfl, rfl, ho4, hB4⟩
set_option maxHeartbeats 1000000 in
theorem impl_ElementsOf_any (gc oc n cc : Nat) (c : List (List Int)) (w : World) (hn : c.length = n) (hx : c.length ≤ 1048576) (hrl : ∀ j, j < c.length → (c.getD j []).length ≤ 1048576) (hgc : gc < w.heap.size) (hr : Rows2 w gc oc c) (hm : MaxL w) :
    Calls Tryz.prog 49 #[(Value.slice (some ⟨gc, oc, none⟩) n cc)] w (GotRowsB w (elA c) (grpB c)) := by
  by_cases hg : grpB c = true
  · rw [hg, show elA c = elemL c from if_pos hg]
    exact impl_ElementsOf_ok gc oc n cc c w hn (grp_B hg) hgc hr hm
  · have hg' : grpB c = false := by simpa using hg
    rw [hg', show elA c = [] from if_neg hg]
    have Hcall := Lib.hid (impl_elements_no gc oc n cc c w hn hx hrl hg' hgc hr hm)
    clear hg hg' hm hr hrl hn
    have hnil : ∀ (W : World), (binOp .eql 22 (.slice none 0 0) (.slice none 0 0)).run Tryz.prog W = .ok (.bool true) W := fun W => by first | exact Lib.run_eql_slice_nil W 22 28 _ _ _ _ _ Tryz.underlying22 | kernel_rfl
    go_enter Tryz.func49, Tryz.ntmps49
    go_wp2_with fail
    refine Hcall.out.mono ?_
    rintro e w3 ⟨rfl, hb3⟩
    have ho := (OwnRows.empty (w := w3) (Nat.le_refl _)).mono hb3.size
    have hbx := hb3.alloc hb3.size (.cells #[] 28)
    go_wp2_with fail
    go_ret2
    exact ⟨w3.heap.size, 0, [], rfl, rfl, ho, hbx⟩
end Go.Proofs.YtobeigdjhepedaaGreatDoor
