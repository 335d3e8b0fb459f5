/- The program's KLRow, BettiOf: contracts. Lists of terms (a word and a polynomial) of the call's own: what is read of them, append of one. The reference's l21Term, EqualHecke, l21Put behind the last: contracts. -/
import Derived.Test.YtdedkfbiookofaaGreatDoorK46
import Derived.Test.YtdedkfbiookofaaGreatDoorK44
import Derived.Test.YtdedkfbiookofaaGreatDoorK43
import Derived.Test.YtdedkfbiookofaaGreatDoorK01
import Derived.Test.YtdedkfbiookofaaGreatDoorK02
import Derived.Test.YtdedkfbiookofaaGreatDoorK04
import Derived.Test.YtdedkfbiookofaaGreatDoorK00
import Derived.Deep.RegionHeld3
import Derived.Deep.RegionLaw
import Derived.Deep.DrawnRows
import Derived.Deep.QuietTactic
import Derived.BigQuiet
namespace Go.Proofs.YtdedkfbiookofaaGreatDoor
set_option maxRecDepth 100000
open Go.RowKit Game
attribute [local go_sem ↓] Go.wp_at_zero Go.wp_at_succ
theorem row_tab {c : List (List Int)} {b : List Int} (hk : klB c = true) (hB : WordOk c b) {u : Nat} (hu : u < (elemL c).length) : (klRow c b).getD u [] = pol (tabI (elemL c) (leftT c)) u (ixK c b) := by
  have hb := (ixK_at (klB_grp hk) hB).2
  rw [klRow_rows hk hB, (klFound hk).tab]
  generalize rowsS (elemL c) (leftT c) = R
  unfold pol trP
  simp [List.getD, hu, hb, pol]
set_option maxRecDepth 100000 in
set_option maxHeartbeats 4000000 in
theorem impl_KLRow_gen (gc oc n cc : Nat) (vv : Value) (c : List (List Int)) (b : List Int) (w : World) (hn : c.length = n) (hx : c.length ≤ 1048576) (hrl : ∀ j, j < c.length → (c.getD j []).length ≤ 1048576) (hgc : gc < w.heap.size) (hr : Rows2 w gc oc c) (hv : WordV w c (Value.slice (some ⟨gc, oc, none⟩) n cc) vv b) (hm : MaxL w) :
    Calls Tryz.prog 23 #[(Value.slice (some ⟨gc, oc, none⟩) n cc), vv] w (GotRowsB w (krL c b) (krB c b)) := by
  cases hk : klB c with
  | false =>
    have hkp : krB c b = false := by unfold krB; rw [hk]; rfl
    rw [hkp, show krL c b = [] from if_neg (by rw [hkp]; decide)]
    have Hc := Lib.hid (impl_newKazhdan_no gc oc n cc c w hn hx hrl hk hgc hr hm)
    clear hr hv hk hrl hkp
    go_enter Tryz.func23, Tryz.ntmps23
    go_wp2_with fail
    refine Hc.out.mono ?_
    rintro e w1 ⟨rfl, hb1⟩
    go_wp2_with fail
    go_ret2
    exact GotRowsB.mk' _ 0 [] rfl rfl (OwnRows.empty hb1.size) (hb1.alloc hb1.size _)
  | true =>
    have hG := klB_grp hk
    have Hc := Lib.hid (impl_newKazhdan_yes gc oc n cc c w hn hk hgc hr hm)
    have I2 := Lib.hid hv.is
    cases hwb : isWordB c b with
    | false =>
      have hkp : krB c b = false := by unfold krB; rw [hwb, Bool.and_false]
      rw [hkp, show krL c b = [] from if_neg (by rw [hkp]; decide)]
      rw [hwb] at I2
      unfold GotKz at Hc
      clear hr hv hk hrl hkp hG hm
      generalize leftT c = T at *
      generalize elemL c = L at *
      generalize tabI L T = P at *
      go_enter Tryz.func23, Tryz.ntmps23
      go_wp2_with fail
      refine Hc.out.mono ?_
      rintro e w1 ⟨k, gl, cl, gt, ct, gp, cp, bm, rfl, -, -, hb1⟩
      go_wp2_with fail
      refine (I2.out w1 hb1).mono ?_
      rintro e w2 ⟨rfl, hs2⟩
      have hB2 := below_still hb1 hs2
      go_wp2_with fail
      go_ret2
      exact GotRowsB.mk' _ 0 [] rfl rfl (OwnRows.empty hB2.size) (hB2.alloc hB2.size _)
    | true =>
    have hkp : krB c b = true := by unfold krB; rw [hk, hwb]; rfl
    have hB := wordOk_of hwb
    rw [hwb] at I2
    rw [hkp, show krL c b = klRow c b from if_pos hkp]
    obtain ⟨hiB, hltB⟩ := ixK_at hG hB
    have KP := Lib.hid (fun (W : World) (hb : Below w.heap.size w W) (k gl cl gt ct gp cp bm : Nat) (hK : KzR W k (elemL c).length gl cl gt ct gp cp bm (elemL c) (leftT c) (tabI (elemL c) (leftT c))) => by
      have := impl_pair_gen k (elemL c).length gl cl gt ct gp cp bm (elemL c) (leftT c) (tabI (elemL c) (leftT c)) (Value.slice (some ⟨gc, oc, none⟩) n cc) vv vv (nfI c b) (nfI c b) W (fun W2 h2 => hv.red hB W2 (hb.trans (h2.mono hb.size))) (fun W2 h2 => hv.red hB W2 (hb.trans (h2.mono hb.size))) (let_nf hG hB) (let_nf hG hB) (nf_mem hG (hB.lets.mono (show 15 ≤ 30 by omega))) (nf_mem hG (hB.lets.mono (show 15 ≤ 30 by omega))) hK
      rw [hiB] at this
      exact this)
    have hN24 := (klOk_of hk).few
    have hrow := row_few hk hB
    have hrt := fun u hu => row_tab hk hB (u := u) hu
    have hrl2 := klRow_length (c := c) (b := b)
    clear hr hv hB hrl hk hiB hG hm hwb hkp
    generalize klRow c b = row at *
    generalize ixK c b = iB at *
    unfold GotKz at Hc
    generalize leftT c = T at *
    generalize elemL c = L at *
    generalize tabI L T = P at *
    generalize L.length = N at *
    have Hrow := Lib.hid hrow; have Hrt := Lib.hid hrt; have Hrl := Lib.hid hrl2
    clear hrow hrt hrl2
    go_enter Tryz.func23, Tryz.ntmps23
    go_wp2_with fail
    refine Hc.out.mono ?_
    rintro e w1 ⟨k, gl, cl, gt, ct, gp, cp, bm, rfl, hk, hK, hb1⟩
    go_wp2_with fail
    refine (I2.out w1 hb1).mono ?_
    rintro e w2 ⟨rfl, hs2⟩
    have hb2 := below_still (Below.refl w1.heap.size w1) hs2
    have hB2 := hb1.trans (hb2.mono hb1.size)
    have hK2 := hK.below hb2
    go_wp2_with fail
    refine (KP.out w2 hB2 k gl cl gt ct gp cp bm hK2).mono ?_
    rintro e w3 ⟨rfl, hb3⟩
    have hB3 := hB2.trans (hb3.mono hB2.size)
    have hK3 := hK2.below hb3
    have f0 := hK3.F.f0
    have HK3 := Lib.hid hK3
    clear hK hK2 hK3 hb1 hB2 hs2 hb2 hb3 hk
    obtain ⟨w4, hw4⟩ : ∃ w4, w4 = w3.alloc (.cells #[] 25) := ⟨_, rfl⟩
    have ho4 : OwnRows w4 w3.heap.size w3.heap.size 0 [] := by rw [hw4]; exact OwnRows.empty (Nat.le_refl _)
    have hb4 : Below w3.heap.size w3 w4 := by rw [hw4]; exact (Below.refl _ _).alloc (Nat.le_refl _) _
    have f0' := (hb4.cell (p := ⟨k, 0, none⟩) HK3.out.F.lt).trans f0
    rw [hw4] at f0'
    go_wp2_with fail
    rw [← hw4]
    rw [← hw4] at f0'
    clear hw4
    generalize hE : w3.heap.size = E at *
    go_loopw [10, 40] (fun pv uv wr => ∃ (u g c : Nat) (rs : List RowRef), u ≤ N ∧ uv = .int .i64 (u : Nat) ∧ pv = (Value.slice (some ⟨g, 0, none⟩) u c) ∧ Hid (rs.length = u) ∧ Hid (contents rs = row.take u) ∧ OwnRows wr E g c rs ∧ Below E w3 wr) (fun _ uv _ => N - (intOf uv).toNat)
    case atStart => exact ⟨0, E, 0, [], Nat.zero_le _, rfl, rfl, rfl, rfl, ho4, hb4⟩
    case round =>
      clear ho4 hb4 f0 f0'
      obtain ⟨u, g, cg, rs, hu, rfl, rfl, hrs, hrc, ho, hb⟩ := hrel
      by_cases hlt : u < N
      · have hb' : Below w3.heap.size w3 wr := by rw [hE]; exact hb
        have hKr := HK3.out.below hb'
        have f3 := hKr.F.f3
        obtain ⟨gi, ci, g5, c5, p1, p2, p3, p4, p5, p6⟩ := hKr.hP u iB hlt hltB
        have hI1 : (u : Int) < (N : Int) := by omega
        have hI2 : (iB : Int) < (N : Int) := by omega
        have hro := Hrow.out u
        have hrt := Hrt.out u hlt
        have htk : Hid (row.take (u + 1) = row.take u ++ [row.getD u []]) := Lib.hid (by
          have : u < row.length := by rw [Hrl.out]; exact hlt
          rw [List.take_succ_eq_append_getElem this]; simp [List.getD, this])
        rw [← hrt] at p2 p3 p6
        generalize row.getD u [] = q at *
        obtain ⟨m, hm⟩ : ∃ m, q.length = m := ⟨_, rfl⟩
        rw [hm] at p2 hro
        have KC := Lib.hid (clone_intsK g5 0 m c5 q wr hm (by omega) p5 p6)
        have Hm := Lib.hid hm
        clear hm hKr hb' p4 p5 p6 hrt
        go_wp2_with fail
        refine KC.out.mono ?_
        rintro e w5 ⟨gZ, cZ, rfl, hoZ, hb5⟩
        rw [Hm.out]
        have hO5 := ho.below hb5
        have hEs : E ≤ wr.heap.size := by rw [← hE]; exact hb.size
        have hB5 := hb.trans (hb5.mono hEs)
        have hne : ∀ s ∈ rs, s.1 ≠ gZ := fun s hs e => by have := (ho.2.1 s hs).lt; have := hoZ.base; omega
        have hoZ' := hoZ.mono hEs
        have hcn : Hid (contents (rs ++ [(gZ, cZ, q)]) = row.take (u + 1)) := Lib.hid (by rw [contents_append, hrc.out, htk.out])
        have hln : Hid ((rs ++ [(gZ, cZ, q)]).length = u + 1) := Lib.hid (by rw [List.length_append, hrs.out]; rfl)
        have hrv : rowVal (gZ, cZ, q) = (Value.slice (some ⟨gZ, 0, none⟩) m cZ) := by unfold rowVal; rw [Hm.out]
        have Hrv := Lib.hid hrv
        clear ho hb hb5 KC p1 p2 p3 f3 hrv
        go_wp2_with (at_builtin; refine wpList_append_row (w := w5) rfl _ _ rfl E g cg u w5.heap.size rs (gZ, cZ, q) _ hrs.out (by rw [Hrv.out]) rfl hO5 hoZ' hne rfl rfl (by omega) ?_)
        intro g6 c6 w6 ho6 hg6 hor6
        have hB6 := hB5.grown hg6 (by rw [← hE]; exact hB5.size) (by intro t ht; cases ht; have := hO5.base; omega)
        clear hO5 hoZ hoZ' hB5 hg6 hor6 hne
        go_wp2_with fail
        go_roundw
        case rel => exact ⟨u + 1, g6, c6, _, by omega, by go_num, rfl, hln, hcn, ho6, hB6⟩
        case measure => simp [intOf]; omega
      · obtain rfl : u = N := by omega
        go_wp2_with fail
        go_ret2
        exact GotRowsB.mk' g cg rs hrs.out (by rw [hrc.out, ← Hrl.out, List.take_length]) (ho.mono (by rw [← hE]; exact hB3.size)) (hB3.trans ((show Below w3.heap.size w3 wr by rw [hE]; exact hb).mono hB3.size))
end Go.Proofs.YtdedkfbiookofaaGreatDoor
namespace Go.Proofs.YtdedkfbiookofaaGreatDoor
set_option maxRecDepth 100000
open Go.RowKit
/-- where a list of integers lies -/
structure SRef where
  g : Nat
  o : Nat
  c : Nat
  xs : List Int
abbrev TRef := SRef × SRef
def SRef.v (r : SRef) : Value := (Value.slice (some ⟨r.g, r.o, none⟩) r.xs.length r.c)
def SRef.In (w : World) (r : SRef) : Prop := r.g < w.heap.size ∧ Cells w r.g r.o r.xs
theorem SRef.In.below {w w' : World} {r : SRef} (h : r.In w) (hb : Below w.heap.size w w') : r.In w' := ⟨Nat.lt_of_lt_of_le h.1 hb.size, h.2.below hb h.1⟩
theorem SRef.In.grown {w w' : World} {r : SRef} {g : Nat} (h : r.In w) (hg : w.grownBy w' (some g)) (hne : r.g ≠ g) : r.In w' := ⟨Nat.lt_of_lt_of_le h.1 hg.size, h.2.grown hg (fun e => hne (Option.some.inj e))⟩
def flatT : List TRef → List Value
  | [] => []
  | t :: ts => t.1.v :: t.2.v :: flatT ts
theorem flatT_length : ∀ ts : List TRef, (flatT ts).length = ts.length * 2
  | [] => rfl
  | t :: ts => by simp only [flatT, List.length_cons, flatT_length ts]; omega
theorem flatT_append : ∀ a b : List TRef, flatT (a ++ b) = flatT a ++ flatT b
  | [], _ => rfl
  | t :: a, b => by simp only [flatT, List.cons_append, flatT_append a b]
theorem flatT_at : ∀ (ts : List TRef) (j : Nat) (hj : j < ts.length), (flatT ts)[j * 2]? = some ts[j].1.v ∧ (flatT ts)[j * 2 + 1]? = some ts[j].2.v
  | t :: ts, 0, _ => ⟨rfl, rfl⟩
  | t :: ts, j + 1, hj => by
    have := flatT_at ts j (by simpa using hj)
    rw [show (j + 1) * 2 = j * 2 + 1 + 1 by omega]
    simpa [flatT] using this
def contT (ts : List TRef) : List (List Int × List Int) := ts.map fun t => (t.1.xs, t.2.xs)
theorem contT_append (a b : List TRef) : contT (a ++ b) = contT a ++ contT b := by simp [contT]
def OwnT (w : World) (B g cap : Nat) (ts : List TRef) : Prop := OwnK w B 70 2 g cap ts.length (flatT ts) ∧ ∀ t ∈ ts, t.1.In w ∧ t.2.In w ∧ t.1.g ≠ g ∧ t.2.g ≠ g
section
variable {w w' : World} {B g cap : Nat} {ts : List TRef}
theorem OwnT.base (h : OwnT w B g cap ts) : B ≤ g := h.1.base
theorem OwnT.lt (h : OwnT w B g cap ts) : g < w.heap.size := h.1.lt
theorem OwnT.mono {B' : Nat} (h : OwnT w B g cap ts) (hB : B' ≤ B) : OwnT w B' g cap ts := ⟨h.1.mono hB, h.2⟩
theorem OwnT.below (h : OwnT w B g cap ts) (hb : Below w.heap.size w w') : OwnT w' B g cap ts :=
  ⟨h.1.below hb h.lt, fun t ht => ⟨(h.2 t ht).1.below hb, (h.2 t ht).2.1.below hb, (h.2 t ht).2.2⟩⟩
theorem OwnT.empty (hB : B ≤ w.heap.size) : OwnT (w.alloc (.cells #[] 70)) B w.heap.size 0 [] :=
  ⟨World.ownsRow_lit w #[] 0 hB (by decide) rfl, by simp⟩
theorem OwnT.cells (h : OwnT w B g cap ts) {j : Nat} (hj : j < ts.length) : w.cell? ⟨g, j * 2, none⟩ = some ts[j].1.v ∧ w.cell? ⟨g, j * 2 + 1, none⟩ = some ts[j].2.v := by
  have hl := flatT_length ts
  have hf := flatT_at ts j hj
  have h1 : j * 2 < (flatT ts).length := by omega
  have h2 : j * 2 + 1 < (flatT ts).length := by omega
  rw [h.1.cell _ h1, h.1.cell _ h2, ← hf.1, ← hf.2, List.getElem?_eq_getElem h1, List.getElem?_eq_getElem h2]
  exact ⟨rfl, rfl⟩
theorem infoT2 : (Tryz.prog.info? 70).map (fun i => (i.zero, i.size, i.bytes)) = some (some (.agg #[.slice none 0 0, .slice none 0 0]), 2, 48) := by kernel_rfl
theorem run_append_term (hown : OwnT w B g cap ts) (r : TRef) (h1 : r.1.In w) (h2 : r.2.In w) (hn1 : r.1.g ≠ g) (hn2 : r.2.g ≠ g) (hlen : ts.length + 1 ≤ 1048576) (ty : TypeId) :
    ∃ g' cap' w', (Builtin.append_ #[43, 43] ty #[(Value.slice (some ⟨g, 0, none⟩) ts.length cap), (Value.slice (some ⟨w.heap.size, 0, none⟩) 1 1)]).run Tryz.prog (w.alloc (.cells #[r.1.v, r.2.v] 70)) = .ok (Value.slice (some ⟨g', 0, none⟩) (ts.length + 1) cap') w' ∧
      OwnT w' B g' cap' (ts ++ [r]) ∧ w.grownBy w' (some g) ∧ (g' = g ∨ w.heap.size < g') := by
  have hnew : OwnK (w.alloc (.cells #[r.1.v, r.2.v] 70)) B 70 2 w.heap.size 1 1 [r.1.v, r.2.v] :=
    World.ownsRow_lit w #[r.1.v, r.2.v] 1 (by have := hown.base; have := hown.lt; omega) (by decide) rfl
  obtain ⟨g', cap', w', hrun, q2, q3, q4⟩ := run_append_K infoT2 Tryz.underlying43 rfl (by decide) (by decide) (OwnK.alloc hown.1 (.cells #[r.1.v, r.2.v] 70)) w.heap.size 0 1 1 [r.1.v, r.2.v] rfl
    (fun j u hu => by
      have hj : j < 2 := by have := (List.getElem?_eq_some_iff.1 hu).1; simpa using this
      have := hnew.cell j (by simpa using hj)
      rw [Nat.zero_add, this, ← hu]
      simp [hj])
    (fun u hu => by simp at hu; rcases hu with rfl | rfl <;> rfl) hlen ty
  have hg : w.grownBy w' (some g) := ⟨q3.os, q3.tape, q3.output, Nat.le_trans (by simp) q3.size, fun k hk hne => (q3.block k (by simp; omega) hne).trans (Below.heap_alloc _ _ _ hk)⟩
  have hor : g' = g ∨ w.heap.size < g' := q4.imp id (by simp; omega)
  refine ⟨g', cap', w', hrun, ⟨?_, fun t ht => ?_⟩, hg, hor⟩
  · rw [flatT_append, List.length_append]
    exact q2
  · rw [List.mem_append, List.mem_singleton] at ht
    have hne : t.1.In w ∧ t.2.In w ∧ t.1.g ≠ g ∧ t.2.g ≠ g := by
      rcases ht with ht | rfl
      · exact hown.2 t ht
      · exact ⟨h1, h2, hn1, hn2⟩
    obtain ⟨a1, a2, a3, a4⟩ := hne
    refine ⟨a1.grown hg a3, a2.grown hg a4, ?_, ?_⟩
    · have := a1.1; rcases hor with rfl | q <;> omega
    · have := a2.1; rcases hor with rfl | q <;> omega
theorem wpList_append_term {ops : Array Oper} {rest : List Oper} {o : Oper} {a : Act} {Q : Exit → Act → World → Prop} (hgd : o.guard = none) (s x : Operand)
    (ho : o.op = .call { callee := .builtin .append, args := #[s, x], argTypes := #[43, 43] })
    (B g cap n H : Nat) (ts : List TRef) (r : TRef) (v1 v2 : Value) (w W : World) (hn : ts.length = n) (hv1 : r.1.v = v1) (hv2 : r.2.v = v2) (hW : W = w.alloc (.cells #[v1, v2] 70)) (hH : w.heap.size = H) (hown : OwnT w B g cap ts) (h1 : r.1.In w) (h2 : r.2.In w) (hn1 : r.1.g ≠ g) (hn2 : r.2.g ≠ g)
    (hs : a.eval s = (Value.slice (some ⟨g, 0, none⟩) n cap)) (hx : a.eval x = (Value.slice (some ⟨H, 0, none⟩) 1 1)) (hlen : n + 1 ≤ 1048576)
    (h : ∀ g' cap' w', OwnT w' B g' cap' (ts ++ [r]) → w.grownBy w' (some g) → (g' = g ∨ w.heap.size < g') → wpList Tryz.prog ops Q rest (a.put o.dst (Value.slice (some ⟨g', 0, none⟩) (n + 1) cap')) w') :
    wpList Tryz.prog ops Q (o :: rest) a W := by
  subst hn; subst hW; subst hH; subst hv1; subst hv2
  obtain ⟨g', cap', w', hrun, q2, q3, q4⟩ := run_append_term hown r h1 h2 hn1 hn2 hlen o.type
  refine wpList_plain hgd fun K hK => ?_
  unfold Oper.wp execOp
  simp only [ho, resolve, invoke, builtin, Sem.run_bind, Sem.run_pure, Result.andThen_ok, List.map_toArray, List.map_cons, List.map_nil, hs, hx, hrun]
  exact hK _ _ (h g' cap' w' q2 q3 q4)
theorem step_append_term {ops : Array Oper} {o : Oper} {a : Act} {K : Act → World → Prop} {Q : Exit → Act → World → Prop} {E : Prop} (hgd : o.guard = none) (s x : Operand)
    (ho : o.op = .call { callee := .builtin .append, args := #[s, x], argTypes := #[43, 43] })
    (B g cap n H : Nat) (ts : List TRef) (r : TRef) (v1 v2 : Value) (w W : World) (hn : ts.length = n) (hv1 : r.1.v = v1) (hv2 : r.2.v = v2) (hW : W = w.alloc (.cells #[v1, v2] 70)) (hH : w.heap.size = H) (hown : OwnT w B g cap ts) (h1 : r.1.In w) (h2 : r.2.In w) (hn1 : r.1.g ≠ g) (hn2 : r.2.g ≠ g)
    (hs : a.eval s = (Value.slice (some ⟨g, 0, none⟩) n cap)) (hx : a.eval x = (Value.slice (some ⟨H, 0, none⟩) 1 1)) (hlen : n + 1 ≤ 1048576)
    (h : ∀ g' cap' w', OwnT w' B g' cap' (ts ++ [r]) → w.grownBy w' (some g) → (g' = g ∨ w.heap.size < g') → K (a.put o.dst (Value.slice (some ⟨g', 0, none⟩) (n + 1) cap')) w') :
    if Region.wanted o (yielded ops a.tmps) = true then Oper.wp Tryz.prog o a W K Q else E := by
  subst hn; subst hW; subst hH; subst hv1; subst hv2
  have hw : Region.wanted o (yielded ops a.tmps) = true := by simp [Region.wanted, hgd]
  rw [if_pos hw]
  obtain ⟨g', cap', w', hrun, q2, q3, q4⟩ := run_append_term hown r h1 h2 hn1 hn2 hlen o.type
  unfold Oper.wp execOp
  simp only [ho, resolve, invoke, builtin, Sem.run_bind, Sem.run_pure, Result.andThen_ok, List.map_toArray, List.map_cons, List.map_nil, hs, hx, hrun]
  exact h g' cap' w' q2 q3 q4
end
end Go.Proofs.YtdedkfbiookofaaGreatDoor
namespace Go.Proofs.YtdedkfbiookofaaGreatDoor
set_option maxRecDepth 100000
open Go.RowKit
attribute [local go_sem ↓] Go.wp_at_zero Go.wp_at_succ
def GotTerm (w : World) (a p : List Int) (e : Ending) (w' : World) : Prop :=
  ∃ g1 c1 g2 c2, e = .returned (.agg #[(Value.slice (some ⟨g1, 0, none⟩) a.length c1), (Value.slice (some ⟨g2, 0, none⟩) p.length c2)]) ∧ Own w' w.heap.size g1 c1 a ∧ Own w' w.heap.size g2 c2 p ∧ Below w.heap.size w w'
theorem wpList_clone_at {w W : World} {ops : Array Oper} {rest : List Oper} {o : Oper} {a : Act} {Q : Exit → Act → World → Prop} (hgd : o.guard = none) (s x : Operand)
    (ho : o.op = .call { callee := .builtin .append, args := #[s, x], argTypes := #[25, 25] }) (H : Nat) (hH : w.heap.size = H) (hW : W = w.alloc (.cells #[] 3))
    (g2 o2 n2 c2 : Nat) (ys : List Int) (hn : ys.length = n2) (hg : g2 < w.heap.size) (hc : Cells w g2 o2 ys)
    (hs : a.eval s = (Value.slice (some ⟨H, 0, none⟩) 0 0)) (hx : a.eval x = (Value.slice (some ⟨g2, o2, none⟩) n2 c2)) (hlen : ys.length ≤ 1099511627776)
    (h : ∀ g' cap' w', Own w' w.heap.size g' cap' ys → Below w.heap.size w w' → wpList Tryz.prog ops Q rest (a.put o.dst (Value.slice (some ⟨g', 0, none⟩) n2 cap')) w') :
    wpList Tryz.prog ops Q (o :: rest) a W := by
  subst hH; subst hW
  exact wpList_clone hgd s x ho g2 o2 n2 c2 ys hn hg hc hs hx hlen h
set_option maxHeartbeats 1000000 in
theorem spec_l21Term_any (g1 o1 n1 c1 g2 o2 n2 c2 : Nat) (a p : List Int) (w : World) (hn1 : a.length = n1) (hn2 : p.length = n2) (hl1 : a.length ≤ 1048576) (hl2 : p.length ≤ 1048576) (hg1 : g1 < w.heap.size) (hg2 : g2 < w.heap.size) (h1 : Cells w g1 o1 a) (h2 : Cells w g2 o2 p) :
    Calls Tryz.prog 107 #[(Value.slice (some ⟨g1, o1, none⟩) n1 c1), (Value.slice (some ⟨g2, o2, none⟩) n2 c2)] w (GotTerm w a p) := by
  subst hn1; subst hn2
  have hh0 := heap_alloc_new w (.cells #[.slice none 0 0, .slice none 0 0] 70)
  have hb0 : Below w.heap.size w (w.alloc (.cells #[.slice none 0 0, .slice none 0 0] 70)) := (Below.refl _ _).alloc (Nat.le_refl _) _
  have hs0 : (w.alloc (.cells #[.slice none 0 0, .slice none 0 0] 70)).heap.size = w.heap.size + 1 := by simp
  have g1' := Nat.lt_of_lt_of_le hg1 hb0.size
  have c1' := h1.below hb0 hg1
  have H2 := Lib.hid (fun (W : World) (hb : Below w.heap.size w W) => h2.below hb hg2)
  have Hh := Lib.hid hh0; have Hb := Lib.hid hb0; have Hs := Lib.hid hs0
  clear h1 h2 hh0 hb0 hs0
  go_enter Tryz.func107, Tryz.ntmps107
  go_wp2_with (at_builtin; refine wpList_clone_at (w := w.alloc (.cells #[.slice none 0 0, .slice none 0 0] 70)) rfl _ _ rfl (w.heap.size + 1) Hs.out rfl g1 o1 _ c1 a rfl g1' c1' rfl rfl (by omega) ?_)
  intro ga ca w1 ho1 hb1
  have hB1 : Below w.heap.size w w1 := Hb.out.trans (hb1.mono (by have := Hs.out; omega))
  have q2 := H2.out w1 hB1
  have hg2' := Nat.lt_of_lt_of_le hg2 hB1.size
  have hr1 : w1.heap[w.heap.size]? = some (.cells #[.slice none 0 0, .slice none 0 0] 70 (0, 0)) := (hb1.block _ (by have := Hs.out; omega)).trans Hh.out
  have Hr1 := Lib.hid hr1
  clear hr1 g1' c1'
  go_wp2_with (at_builtin; refine wpList_clone (w := w1) rfl _ _ rfl g2 o2 _ c2 p rfl hg2' q2 rfl rfl (by omega) ?_)
  intro gb cb w2 ho2 hb2
  have ho1b := ho1.below hb2 ho1.lt
  have hB2 := hB1.trans (hb2.mono hB1.size)
  have hr2 : w2.heap[w.heap.size]? = some (.cells #[.slice none 0 0, .slice none 0 0] 70 (0, 0)) := (hb2.block _ (by have := hb1.size; have := Hs.out; omega)).trans Hr1.out
  have dd : ∀ j, w2.cell? ⟨w.heap.size, j, none⟩ = (#[.slice none 0 0, .slice none 0 0] : Array Value)[j]? := fun j => cell_of_cells hr2 j
  have fd : ∀ j, w2.frozen? ⟨w.heap.size, j, none⟩ = false := fun j => free_of_cells hr2 j
  have hne1 : ga ≠ w.heap.size := by have := ho1.base; have := Hs.out; omega
  have hne2 : gb ≠ w.heap.size := by have := ho2.base; have := hb1.size; have := Hs.out; omega
  have hob1 : w.heap.size ≤ ga := by have := ho1.base; have := Hs.out; omega
  have hob2 : w.heap.size ≤ gb := by have := ho2.base; have := hb1.size; have := Hs.out; omega
  have Ho1 := Lib.hid ho1b; have Ho2 := Lib.hid ho2; have HB2 := Lib.hid hB2; have Hsz1 := Lib.hid hb1.size
  clear ho1 ho2 ho1b hb1 hb2 hB1 hB2 hr2 Hr1 q2 hg2'
  go_wp2_with fail
  refine bodyPost_ret (v := .agg #[(Value.slice (some ⟨ga, 0, none⟩) a.length ca), (Value.slice (some ⟨gb, 0, none⟩) p.length cb)]) (by simp [results, Tryz.results107, go_sem, dd]) rfl ⟨ga, ca, gb, cb, rfl, ?_, ?_, ?_⟩
  all_goals clear dd fd
  · exact (Own.setNe (Own.setNe (Own.mono Ho1.out (by omega)) _ _ hne1) _ _ hne1)
  · exact (Own.setNe (Own.setNe (Own.mono Ho2.out (by have := Hsz1.out; have := Hs.out; omega)) _ _ hne2) _ _ hne2)
  · iterate 2 (refine Below.setCell ?_ (by first | (simp; done) | (simp; omega)) _)
    exact HB2.out
set_option maxHeartbeats 2000000 in
theorem spec_EqualHecke_same (g1 c1 g2 c2 n B1 B2 : Nat) (ts us : List TRef) (w : World) (hn1 : ts.length = n) (hn2 : us.length = n) (hl : n ≤ 1048576) (hlen : ∀ t ∈ ts, t.1.xs.length ≤ 1048576 ∧ t.2.xs.length ≤ 1048576) (h : contT ts = contT us) (h1 : OwnT w B1 g1 c1 ts) (h2 : OwnT w B2 g2 c2 us) :
    Calls Tryz.prog 30 #[(Value.slice (some ⟨g1, 0, none⟩) n c1), (Value.slice (some ⟨g2, 0, none⟩) n c2)] w (Reads w (.bool true)) := by
  subst hn1
  have HH := Lib.hid h
  have H1 := Lib.hid h1; have H2 := Lib.hid h2; have Hl := Lib.hid hlen
  have Hn2 := Lib.hid hn2
  clear h h1 h2 hlen hn2
  go_enter Tryz.func30, Tryz.ntmps30
  go_wp2_with fail
  go_loopw [5] (fun iv wr => ∃ (i m : Nat), i ≤ ts.length ∧ iv = .int .i64 (i : Nat) ∧ wr = w.drewN m) (fun iv _ => ts.length - (intOf iv).toNat)
  case atStart => exact ⟨0, 0, Nat.zero_le _, rfl, rfl⟩
  case round =>
    obtain ⟨i, m, hi, rfl, rfl⟩ := hrel
    by_cases hlt : i < ts.length
    · have hlt2 : i < us.length := by rw [Hn2.out]; exact hlt
      obtain ⟨a1, a2⟩ := H1.out.cells hlt
      obtain ⟨b1, b2⟩ := H2.out.cells hlt2
      obtain ⟨e1, e2⟩ : ts[i].1.xs = us[i].1.xs ∧ ts[i].2.xs = us[i].2.xs := by
        have e : (contT ts)[i]? = (contT us)[i]? := by rw [HH.out]
        simp [contT, hlt, hlt2] at e
        exact e
      obtain ⟨l1, l2⟩ := Hl.out ts[i] (List.getElem_mem hlt)
      obtain ⟨x1, x2, -, -⟩ := H1.out.2 ts[i] (List.getElem_mem hlt)
      obtain ⟨y1, y2, -, -⟩ := H2.out.2 us[i] (List.getElem_mem hlt2)
      have hI : (0 : Int) ≤ (i : Int) := by omega
      have hI2 : (i : Int) < (ts.length : Int) := by omega
      generalize ts[i] = t at *
      generalize us[i] = u at *
      obtain ⟨⟨ga, oa, ca, xa⟩, ⟨gb, ob, cb, xb⟩⟩ := t
      obtain ⟨⟨gc, oc, cc, xc⟩, ⟨gd, od, cd, xd⟩⟩ := u
      simp only [SRef.v, SRef.In] at *
      subst e1; subst e2
      obtain ⟨na, hna⟩ : ∃ n, xa.length = n := ⟨_, rfl⟩
      obtain ⟨nb, hnb⟩ : ∃ n, xb.length = n := ⟨_, rfl⟩
      rw [hna] at a1 b1 l1
      rw [hnb] at a2 b2 l2
      have K1 := Lib.hid (fun (q : Nat) => by
        have := spec_EqualWords_any ga oa na ca gc oc na cc xa xa (w.drewN q) hna hna (by omega) x1.2 y1.2
        rw [decide_eq_true rfl] at this
        exact this)
      have K2 := Lib.hid (fun (q : Nat) => by
        have := spec_EqualWords_any gb ob nb cb gd od nb cd xb xb (w.drewN q) hnb hnb (by omega) x2.2 y2.2
        rw [decide_eq_true rfl] at this
        exact this)
      clear x1 x2 y1 y2 hna hnb
      go_wp2_with fail
      go_quiet ((go_at_call 65; first | with_reducible exact Calls.quiet_of (K1.out _) | with_reducible exact Reads.quiet4 (K1.out _) | with_reducible exact Calls.quiet_of (K2.out _) | with_reducible exact Reads.quiet4 (K2.out _)))
      go_wp2_with fail
      go_roundw
      case rel => exact ⟨i + 1, m + nq, by omega, by go_num, rfl⟩
      case measure => simp [intOf]; omega
    · obtain rfl : i = ts.length := by omega
      go_wp2
      go_ret
      exact ⟨rfl, m, rfl⟩
set_option maxHeartbeats 4000000 in
theorem spec_l21Put_last (g cp n g1 o1 n1 c1 g2 o2 n2 c2 B : Nat) (ts : List TRef) (a p : List Int) (w : World) (hn : ts.length = n) (hn1 : a.length = n1) (hn2 : p.length = n2) (hl : n ≤ 100000) (hl1 : a.length ≤ 1048576) (hl2 : p.length ≤ 1048576) (hlen : ∀ t ∈ ts, t.1.xs.length ≤ 1048576 ∧ t.2.xs.length ≤ 1048576)
    (hlast : ∀ t ∈ ts, 0 < wordCmp a t.1.xs) (ho : OwnT w B g cp ts) (hg1 : g1 < w.heap.size) (hg2 : g2 < w.heap.size) (h1 : Cells w g1 o1 a) (h2 : Cells w g2 o2 p) :
    Calls Tryz.prog 62 #[(Value.slice (some ⟨g, 0, none⟩) n cp), (Value.slice (some ⟨g1, o1, none⟩) n1 c1), (Value.slice (some ⟨g2, o2, none⟩) n2 c2)] w (fun e w' => ∃ g' c' us, e = .returned (Value.slice (some ⟨g', 0, none⟩) us.length c') ∧ contT us = contT ts ++ (if p = [] then [] else [(a, p)]) ∧ OwnT w' w.heap.size g' c' us ∧ Below w.heap.size w w') := by
  subst hn
  have HT := Lib.hid (fun (W : World) (h : Below w.heap.size w W) => spec_l21Term_any g1 o1 n1 c1 g2 o2 n2 c2 a p W hn1 hn2 hl1 hl2 (Nat.lt_of_lt_of_le hg1 h.size) (Nat.lt_of_lt_of_le hg2 h.size) (h1.below h hg1) (h2.below h hg2))
  have H1 := Lib.hid (fun (W : World) (h : Below w.heap.size w W) => h1.below h hg1)
  have HO := Lib.hid (fun (W : World) (h : Below w.heap.size w W) => ho.below h)
  have Hl := Lib.hid hlen; have Hla := Lib.hid hlast
  have Hn1 := Lib.hid hn1; have Hn2 := Lib.hid hn2; have Hl1 := Lib.hid hl1
  have hz : contT (ts.take 0) = [] := rfl
  clear h1 h2 ho hlen hlast hn1 hl1
  have hN := hl
  obtain ⟨W0, hW0⟩ : ∃ W0, W0 = w.alloc (.cells #[] 70) := ⟨_, rfl⟩
  have hb0 : Below w.heap.size w W0 := by rw [hW0]; exact (Below.refl _ _).alloc (Nat.le_refl _) _
  have ho0 : OwnT W0 w.heap.size w.heap.size 0 [] := by rw [hW0]; exact OwnT.empty (Nat.le_refl _)
  go_enter Tryz.func62, Tryz.ntmps62
  go_wp2_with fail
  rw [← hW0]
  clear hW0
  go_loopw [7, 8, 9] (fun pv bv iv wr => ∃ (i g' c' : Nat) (us : List TRef), i ≤ ts.length ∧ iv = .int .i64 (i : Nat) ∧ bv = .bool false ∧ pv = (Value.slice (some ⟨g', 0, none⟩) i c') ∧ Hid (us.length = i) ∧ Hid (contT us = contT (ts.take i)) ∧ OwnT wr w.heap.size g' c' us ∧ Below w.heap.size w wr) (fun _ _ iv _ => ts.length - (intOf iv).toNat)
  case atStart => exact ⟨0, w.heap.size, 0, [], Nat.zero_le _, rfl, rfl, rfl, rfl, rfl, ho0, hb0⟩
  case round =>
    clear ho0 hb0
    obtain ⟨i, g', c', us, hi, rfl, rfl, rfl, hul, huc, hO, hb⟩ := hrel
    by_cases hlt : i < ts.length
    · obtain ⟨a1, a2⟩ := (HO.out wr hb).cells hlt
      obtain ⟨x1, x2, -, -⟩ := (HO.out wr hb).2 ts[i] (List.getElem_mem hlt)
      obtain ⟨l1, l2⟩ := Hl.out ts[i] (List.getElem_mem hlt)
      have hcm := Hla.out ts[i] (List.getElem_mem hlt)
      have hI : (0 : Int) ≤ (i : Int) := by omega
      have hI2 : (i : Int) < (ts.length : Int) := by omega
      have hts : Hid (contT (ts.take (i + 1)) = contT (ts.take i) ++ [(ts[i].1.xs, ts[i].2.xs)]) := Lib.hid (by
        rw [List.take_succ_eq_append_getElem hlt, contT_append]; rfl)
      generalize hteq : ts[i] = t at *
      obtain ⟨⟨ga, oa, ca, xa⟩, ⟨gb, ob, cb, xb⟩⟩ := t
      simp only [SRef.v, SRef.In] at a1 a2 x1 x2 l1 l2 hcm hts
      obtain ⟨na, hna⟩ : ∃ n, xa.length = n := ⟨_, rfl⟩
      obtain ⟨nb, hnb⟩ : ∃ n, xb.length = n := ⟨_, rfl⟩
      rw [hna] at a1 l1
      rw [hnb] at a2 l2
      have KC := Lib.hid (spec_CompareWords_any g1 o1 n1 c1 ga oa na ca a xa wr Hn1.out hna (by have := Hl1.out; omega) (H1.out wr hb) x1.2)
      have hgl := (HO.out w (Below.refl _ _)).lt
      have ha0 := (HO.out w (Below.refl _ _)).cells hlt
      rw [hteq] at ha0
      simp only [SRef.v, hna, hnb] at ha0
      have HA := Lib.hid (fun (W : World) (h : Below w.heap.size w W) => (⟨(h.cell (p := ⟨g, i * 2, none⟩) hgl).trans ha0.1, (h.cell (p := ⟨g, i * 2 + 1, none⟩) hgl).trans ha0.2⟩ : W.cell? ⟨g, i * 2, none⟩ = some (Value.slice (some ⟨ga, oa, none⟩) na ca) ∧ W.cell? ⟨g, i * 2 + 1, none⟩ = some (Value.slice (some ⟨gb, ob, none⟩) nb cb)))
      have KT := Lib.hid (fun (W : World) (h : Below wr.heap.size wr W) => spec_l21Term_any ga oa na ca gb ob nb cb xa xb W hna hnb (by omega) (by omega) (Nat.lt_of_lt_of_le x1.1 h.size) (Nat.lt_of_lt_of_le x2.1 h.size) (x1.2.below h x1.1) (x2.2.below h x2.1))
      have Hna := Lib.hid hna; have Hnb := Lib.hid hnb
      generalize wordCmp a xa = z at *
      have hz0 : ¬ z < 0 := by omega
      have hz1 : (z == 0) = false := by rw [beq_eq_false_iff_ne]; omega
      clear x1 x2 hna hnb ha0 hteq hgl
      go_wp2_with fail
      refine KC.out.mono ?_
      rintro e w2 ⟨rfl, hs2⟩
      have hb2 : Below wr.heap.size wr w2 := below_still (Below.refl _ _) hs2
      have hB2 := hb.trans (hb2.mono hb.size)
      obtain ⟨d1, d2⟩ := HA.out w2 hB2
      have hO2 := hO.below hb2
      have hd1 : Below w.heap.size w w2.drew := Below.drew hB2
      have hd2 : Below wr.heap.size wr w2.drew := Below.drew hb2
      have hOd : OwnT w2.drew w.heap.size g' c' us := hO2
      have hEs := hb.size
      clear a1 a2 KC hO hO2
      go_wp2_with fail
      go_region_held3 (fun W => W.cell? ⟨g, i * 2, none⟩ = some (Value.slice (some ⟨ga, oa, none⟩) na ca) ∧ W.cell? ⟨g, i * 2 + 1, none⟩ = some (Value.slice (some ⟨gb, ob, none⟩) nb cb))
        (first | with_reducible exact HA.out _ hd1 | with_reducible exact HA.out _ hXA | with_reducible exact HA.out _ (hXl _) | with_reducible exact HA.out _ hXB)
        (first
          | (go_at_call 107; (with_reducible refine (KT.out _ hd2).mono ?_); rintro e wT ⟨gA, cA, gB, cB, rfl, hoA, hoB, hbT⟩; rw [Hna.out, Hnb.out]; have hXA := hd1.trans (hbT.mono hd1.size); have hXl : ∀ o, Below w.heap.size w (wT.alloc o) := fun o => hXA.alloc hXA.size o)
          | (refine step_append_term (by rfl) _ _ (by rfl) w.heap.size g' c' i wT.heap.size us (⟨gA, 0, cA, xa⟩, ⟨gB, 0, cB, xb⟩) (Value.slice (some ⟨gA, 0, none⟩) na cA) (Value.slice (some ⟨gB, 0, none⟩) nb cB) wT _ hul.out (by unfold SRef.v; rw [Hna.out]) (by unfold SRef.v; rw [Hnb.out]) (by rfl) (by rfl) (hOd.below hbT) ⟨hoA.lt, hoA.cells⟩ ⟨hoB.lt, hoB.cells⟩ (by have := hoA.base; have := hOd.lt; show gA ≠ g'; omega) (by have := hoB.base; have := hOd.lt; show gB ≠ g'; omega) (by rfl) (by rfl) (by omega) ?_; intro g5 c5 w5 ho5 hg5 hor5; have hXB : Below w.heap.size w w5 := hXA.grown hg5 hXA.size (by intro t ht; cases ht; exact hOd.base)))
      have huc5 : Hid (contT (us ++ [((⟨gA, 0, cA, xa⟩, ⟨gB, 0, cB, xb⟩) : TRef)]) = contT (ts.take (i + 1))) := Lib.hid (by rw [contT_append, huc.out, hts.out]; rfl)
      have hul5 : Hid ((us ++ [((⟨gA, 0, cA, xa⟩, ⟨gB, 0, cB, xb⟩) : TRef)]).length = i + 1) := Lib.hid (by rw [List.length_append, hul.out]; rfl)
      go_wp2_with fail
      go_roundw
      case rel => exact ⟨i + 1, g5, c5, _, by omega, by go_num, rfl, rfl, hul5, huc5, ho5, hXB⟩
      case measure => simp [intOf]; omega
    · obtain rfl : i = ts.length := by omega
      rw [List.take_length] at huc
      by_cases hp : p = []
      · have hn20 : n2 = 0 := by rw [← Hn2.out, hp]; rfl
        subst hn20
        have Hp := Lib.hid hp
        clear hp HT
        go_wp2_with fail
        go_ret
        exact ⟨g', c', us, by rw [hul.out]; rfl, by first | rw [huc.out] | rw [huc.out, if_pos Hp.out, List.append_nil], hO, hb⟩
      · have hpos : 0 < n2 := by rw [← Hn2.out]; exact List.length_pos_iff.2 hp
        have Hp := Lib.hid hp
        have hT := Lib.hid (HT.out wr hb)
        clear hp HT
        go_wp2_with fail
        refine hT.out.mono ?_
        rintro e w5 ⟨gA, cA, gB, cB, rfl, hoA, hoB, hb5⟩
        rw [Hn1.out, Hn2.out]
        have hO5 := hO.below hb5
        have hB5 := hb.trans (hb5.mono hb.size)
        have hu := Lib.hid hul.out
        go_wp2_with (at_builtin; refine wpList_append_term rfl _ _ rfl w.heap.size g' c' ts.length w5.heap.size us (⟨gA, 0, cA, a⟩, ⟨gB, 0, cB, p⟩) (Value.slice (some ⟨gA, 0, none⟩) n1 cA) (Value.slice (some ⟨gB, 0, none⟩) n2 cB) w5 _ hu.out (by unfold SRef.v; rw [Hn1.out]) (by unfold SRef.v; rw [Hn2.out]) (by rfl) (by rfl) hO5 ⟨hoA.lt, hoA.cells⟩ ⟨hoB.lt, hoB.cells⟩ (by have := hoA.base; have := hO.lt; show gA ≠ g'; omega) (by have := hoB.base; have := hO.lt; show gB ≠ g'; omega) (by rfl) (by rfl) (by omega) ?_)
        intro g6 c6 w6 ho6 hg6 hor6
        have hB6 : Below w.heap.size w w6 := hB5.grown hg6 hB5.size (by intro t ht; cases ht; exact hO5.base)
        have hul6 : Hid ((us ++ [((⟨gA, 0, cA, a⟩, ⟨gB, 0, cB, p⟩) : TRef)]).length = ts.length + 1) := Lib.hid (by rw [List.length_append, hu.out]; rfl)
        have huc6 : Hid (contT (us ++ [((⟨gA, 0, cA, a⟩, ⟨gB, 0, cB, p⟩) : TRef)]) = contT ts ++ [(a, p)]) := Lib.hid (by rw [contT_append, huc.out]; rfl)
        clear hO5 hB5 hoA hoB hb5 hg6
        go_wp2_with fail
        go_ret
        exact ⟨g6, c6, _, by rw [hul6.out]; rfl, by first | rw [huc6.out] | rw [huc6.out, if_neg Hp.out], ho6, hB6⟩
end Go.Proofs.YtdedkfbiookofaaGreatDoor
