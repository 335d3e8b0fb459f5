/- Mark Rset Cpy TyS Seen Got TyS2 -/
import Derived.Test.YtkjglfafphffiaaGreatDoorC02
import Derived.Test.YtkjglfafphffiaaGreatDoorC03
import Derived.Test.YtkjglfafphffiaaGreatDoorC06
import Derived.Laws.CopyOwn
import Derived.Maps.Own
import Derived.Maps.OwnOps
import Derived.Maps.Views
import Derived.WideKeyArr2
import Derived.DeepKeys4
namespace Go.Proofs.YtkjglfafphffiaaGreatDoor
set_option maxRecDepth 100000
open Go.RowKit
theorem Inner.setRow {w w' : World} {B : Nat} {rs : List RowRef} (h : Inner w B rs) (t : Nat) (ht : t < rs.length) (xs : List Int) (hg : w.grownBy w' (some rs[t].1)) (ho : Own w' B rs[t].1 rs[t].2.1 xs) :
    Inner w' B (rs.set t (rs[t].1, rs[t].2.1, xs)) := by
  have hnd := h.2
  refine ⟨fun r hr => ?_, ?_⟩
  · obtain ⟨u, hu, rfl⟩ := List.getElem_of_mem hr
    rw [List.length_set] at hu
    by_cases e : u = t
    · subst e; simpa using ho
    · rw [List.getElem_set_ne (by omega)]
      refine (h.1 rs[u] (List.getElem_mem hu)).grown hg ?_
      intro he
      have he' : rs[u].1 = rs[t].1 := Option.some.inj he
      have h1 : (rs.map (·.1))[u]'(by simpa using hu) = (rs.map (·.1))[t]'(by simpa using ht) := by simpa using he'
      have hp := List.pairwise_iff_getElem.1 hnd
      rcases Nat.lt_or_gt_of_ne e with h2 | h2
      · exact hp u t (by simpa using hu) (by simpa using ht) h2 h1
      · exact hp t u (by simpa using ht) (by simpa using hu) h2 h1.symm
  · have : (rs.set t (rs[t].1, rs[t].2.1, xs)).map (·.1) = rs.map (·.1) := by
      rw [List.map_set]
      apply List.ext_getElem (by simp)
      intro i h1 h2
      by_cases e : i = t
      · subst e; simp
      · rw [List.getElem_set_ne (by omega)]
    rw [this]; exact hnd
theorem rowVal_set {rs : List RowRef} (t : Nat) (ht : t < rs.length) (xs : List Int) (hl : xs.length = rs[t].2.2.length) : (rs.set t (rs[t].1, rs[t].2.1, xs)).map rowVal = rs.map rowVal := by
  rw [List.map_set]
  apply List.ext_getElem (by simp)
  intro i h1 h2
  by_cases e : i = t
  · subst e; simp [rowVal, hl]
  · rw [List.getElem_set_ne (by omega)]
theorem contents_setRow {rs : List RowRef} (t : Nat) (r : RowRef) : contents (rs.set t r) = (contents rs).set t r.2.2 := by simp [contents, List.map_set]
end Go.Proofs.YtkjglfafphffiaaGreatDoor
namespace Go.Proofs.YtkjglfafphffiaaGreatDoor
set_option maxRecDepth 100000
open Go.RowKit
end Go.Proofs.YtkjglfafphffiaaGreatDoor
namespace Go.Proofs.YtkjglfafphffiaaGreatDoor
set_option maxRecDepth 100000
open Go.RowKit
def setM (c : List (List Int)) (i j : Nat) (x : Int) : List (List Int) := c.set i ((c.getD i []).set j x)
theorem setM_length (c : List (List Int)) (i j : Nat) (x : Int) : (setM c i j x).length = c.length := by simp [setM]
theorem OwnRows.setAt {w : World} {B g cap : Nat} {rs : List RowRef} (h : OwnRows w B g cap rs) (t : Nat) (ht : t < rs.length) (j : Nat) (z : Int) :
    OwnRows (w.setCell ⟨rs[t].1, j, none⟩ (.int .i64 z)) B g cap (rs.set t (rs[t].1, rs[t].2.1, rs[t].2.2.set j z)) ∧ w.grownBy (w.setCell ⟨rs[t].1, j, none⟩ (.int .i64 z)) (some rs[t].1) := by
  have ho := h.2.1 _ (List.getElem_mem ht)
  have hs := ho.set j z
  refine ⟨⟨?_, h.2.setRow t ht _ hs.2 hs.1⟩, hs.2⟩
  rw [rowVal_set t ht _ (by rw [List.length_set])]
  exact h.1.grown hs.2 (fun e => h.1.ne ho.toV (by decide) (Option.some.inj e))
theorem contents_getD (rs : List RowRef) (t : Nat) (ht : t < rs.length) : (contents rs).getD t [] = rs[t].2.2 := by simp [contents, List.getD, ht]
theorem OwnRows.setMat {w : World} {B g cap : Nat} {rs : List RowRef} {c : List (List Int)} (h : OwnRows w B g cap rs) (hc : contents rs = c) (t : Nat) (ht : t < c.length) : ∃ gr cr, (∃ r ∈ rs, r.1 = gr) ∧ B ≤ gr ∧ gr < w.heap.size ∧ g ≠ gr ∧
    w.cell? ⟨g, t, none⟩ = some (Value.slice (some ⟨gr, 0, none⟩) ((c.getD t []).length) cr) ∧ (∀ j, j < (c.getD t []).length → w.cell? ⟨gr, j, none⟩ = some (.int .i64 ((c.getD t []).getD j 0)) ∧ w.frozen? ⟨gr, j, none⟩ = false) ∧
    ∀ j z, ∃ rs2, (∀ r ∈ rs2, ∃ s ∈ rs, s.1 = r.1) ∧ contents rs2 = setM c t j z ∧ rs2.length = rs.length ∧ OwnRows (w.setCell ⟨gr, j, none⟩ (.int .i64 z)) B g cap rs2 ∧ w.grownBy (w.setCell ⟨gr, j, none⟩ (.int .i64 z)) (some gr) := by
  subst hc
  have ht' : t < rs.length := by simpa [contents] using ht
  have ho := h.2.1 _ (List.getElem_mem ht')
  have e := contents_getD rs t ht'
  rw [e]
  refine ⟨rs[t].1, rs[t].2.1, ⟨_, List.getElem_mem ht', rfl⟩, ho.base, ho.lt, h.1.ne ho.toV (by decide), ?_, fun j hj => ⟨ho.cell j hj, ho.frozen j⟩, fun j z => ?_⟩
  · rw [h.1.cell t (by simpa using ht')]
    simp [rowVal]
  · have h2 := h.setAt t ht' j z
    refine ⟨_, fun r hr => ?_, ?_, by rw [List.length_set], h2.1, h2.2⟩
    · rcases List.mem_or_eq_of_mem_set hr with h3 | h3
      · exact ⟨r, h3, rfl⟩
      · exact ⟨_, List.getElem_mem ht', by rw [h3]⟩
    rw [contents_setRow]
    unfold setM
    rw [e]
end Go.Proofs.YtkjglfafphffiaaGreatDoor
namespace Go.Proofs.YtkjglfafphffiaaGreatDoor
set_option maxRecDepth 100000
open Go.RowKit
set_option maxHeartbeats 2000000 in
theorem spec_l2Copy_any (g o n cp : Nat) (rows : List (List Int)) (w : World) (hn : rows.length = n) (hx : rows.length ≤ 1048576) (hrl : ∀ j, j < rows.length → (rows.getD j []).length ≤ 1048576) (hg : g < w.heap.size) (hr : Rows2 w g o rows) :
    Calls Tryz.prog 99 #[(Value.slice (some ⟨g, o, none⟩) n cp)] w (GotRows w rows) := by
  subst hn
  go_enter Tryz.func99, Tryz.ntmps99
  go_wp2
  go_loopw [3, 4] (fun ov kv wr => ∃ (k g2 c2 : Nat) (rs : List RowRef), k ≤ rows.length ∧ kv = .int .i64 k ∧ ov = (Value.slice (some ⟨g2, 0, none⟩) k c2) ∧ Hid (rs.length = k) ∧ Hid (contents rs = rows.take k) ∧ OwnRows wr w.heap.size g2 c2 rs ∧ Below w.heap.size w wr) (fun _ kv _ => rows.length - (intOf kv).toNat)
  case atStart => exact ⟨0, w.heap.size, 0, [], Nat.zero_le _, rfl, rfl, rfl, rfl, OwnRows.empty (Nat.le_refl _), (Below.refl _ _).alloc (Nat.le_refl _) _⟩
  case round =>
    obtain ⟨k, g2, c2, rs, hk, rfl, rfl, hrk, hcon, hO, hb⟩ := hrel
    by_cases hlt : k < rows.length
    · obtain ⟨gj, oj, cj, q1, q2, q3, q4⟩ := (hr.below hb hg) k hlt
      have hlk := hrl k hlt
      have ht : rows.take (k + 1) = rows.take k ++ [rows.getD k []] := by
        rw [List.take_succ_eq_append_getElem hlt]; simp [List.getD, hlt]
      generalize rows.getD k [] = x at *
      obtain ⟨lx, hlx⟩ : ∃ lx, x.length = lx := ⟨_, rfl⟩
      rw [hlx] at q1 q2 hlk
      have Ht := Lib.hid ht; have Hlx := Lib.hid hlx; have Q4 := Lib.hid q4
      have hE := (Below.refl wr.heap.size wr).alloc (Nat.le_refl _) (.cells #[] 3)
      have q1' := (hE.cell (p := ⟨g, o + k, none⟩) (Nat.lt_of_lt_of_le hg hb.size)).trans q1
      clear ht hlx q4 hE
      go_wp2_with (at_builtin; refine wpList_clone rfl _ _ rfl gj oj lx cj x Hlx.out q3 Q4.out rfl rfl (by rw [Hlx.out]; omega) ?_)
      intro g3 c3 w3 ho3 hb3
      have hO3 := hO.below hb3
      have hB3 := hb.trans (hb3.mono hb.size)
      have hne : ∀ s ∈ rs, s.1 ≠ g3 := fun s hs e => by have h1 := (hO.2.1 s hs).lt; have h2 := ho3.base; omega
      have Hne := Lib.hid hne
      clear hO hne q1 q1' q3 hb3
      go_wp2_with (at_builtin; refine wpList_append_row (w := w3) rfl _ _ rfl w.heap.size g2 c2 k w3.heap.size rs (g3, c3, x) _ hrk.out (by unfold rowVal; rw [Hlx.out]) rfl hO3 (ho3.mono hb.size) Hne.out rfl rfl (by omega) ?_)
      intro g4 c4 w4 hO4 hg4 hor4
      have hB4 : Below w.heap.size w w4 := hB3.grown hg4 hB3.size (by intro t ht; cases ht; exact hO3.base)
      have hl4 : Hid ((rs ++ [(g3, c3, x)]).length = k + 1) := Lib.hid (by rw [List.length_append, hrk.out]; rfl)
      have hc4 : Hid (contents (rs ++ [(g3, c3, x)]) = rows.take (k + 1)) := Lib.hid (by rw [Ht.out, ← hcon.out]; simp [contents])
      clear hO3 hB3 hg4 hor4 hb
      go_wp2_with fail
      go_roundw
      case rel => exact ⟨k + 1, g4, c4, _, by omega, by go_num, rfl, hl4.out, hc4.out, hO4, hB4⟩
      case measure => simp [intOf]; omega
    · obtain rfl : k = rows.length := by omega
      have hc := hcon.out
      rw [List.take_length] at hc
      have Hc := Lib.hid hc
      clear hc
      go_wp2_with fail
      go_ret
      exact ⟨g2, c2, rs, rfl, Hc.out, hO, hb⟩
end Go.Proofs.YtkjglfafphffiaaGreatDoor
namespace Go.Proofs.YtkjglfafphffiaaGreatDoor
set_option maxRecDepth 100000
open Go.RowKit
set_option maxHeartbeats 1000000 in
theorem spec_l2Set_ok (gc oc n cc i j : Nat) (a b : Int) (c : List (List Int)) (w : World) (hn : c.length = n) (hn4 : n ≤ 4) (hsq : ∀ k, k < c.length → (c.getD k []).length = n) (hi : i < n) (hj : j < n) (hij : i ≠ j) (hgc : gc < w.heap.size) (hr : Rows2 w gc oc c) :
    Calls Tryz.prog 171 #[(Value.slice (some ⟨gc, oc, none⟩) n cc), .int .i64 i, .int .i64 j, .int .i64 a, .int .i64 b] w (GotRows w (setM (setM c i j a) j i b)) := by
  have H := Lib.hid (spec_l2Copy_any gc oc n cc c w hn (by omega) (fun k hk => by have := hsq k hk; omega) hgc hr)
  have Hn := Lib.hid hn; have Hsq := Lib.hid hsq
  clear hr hsq hgc hn
  go_enter Tryz.func171, Tryz.ntmps171
  go_wp2_with fail
  refine H.out.mono ?_
  rintro e w1 ⟨g1, c1, rs, rfl, hc, ho, hb⟩
  obtain ⟨gr, cr, -, hbr, hlr, hne, q1, q2, q3⟩ := ho.setMat hc i (by rw [Hn.out]; exact hi)
  rw [Hsq.out i (by rw [Hn.out]; exact hi)] at q1 q2
  obtain ⟨q4, q5⟩ := q2 j hj
  obtain ⟨rs2, -, hc2, hl2, ho2, hg2⟩ := q3 j a
  have hb2 := hb.grown hg2 hb.size (by intro t ht; cases ht; exact hbr)
  have hlen2 : (setM c i j a).length = n := by rw [setM_length]; exact Hn.out
  obtain ⟨gs, cs, -, hbs, hls, hne2, r1, r2, r3⟩ := ho2.setMat hc2 j (by rw [hlen2]; exact hj)
  have hrow : (setM c i j a).getD j [] = c.getD j [] := by simp [setM, List.getD, hij]
  rw [hrow, Hsq.out j (by rw [Hn.out]; exact hj)] at r1 r2
  obtain ⟨r4, r5⟩ := r2 i hi
  obtain ⟨rs3, -, hc3, hl3, ho3, hg3⟩ := r3 i b
  have hb3 := hb2.grown hg3 hb2.size (by intro t ht; cases ht; exact hbs)
  have hl : c.length = n := Hn.out
  rw [hl]
  have HO := Lib.hid ho3; have HC := Lib.hid hc3; have HB := Lib.hid hb3
  have Hlen : Hid ((setM (setM c i j a) j i b).length = n) := Lib.hid (by rw [setM_length]; exact hlen2)
  clear q2 q3 r2 r3 ho ho2 ho3 hb hb2 hb3 hc hc2 hc3 hg2 hg3 hrow hlen2 hl H hl2 hl3
  generalize (c.getD j []).getD i 0 = y1 at *
  generalize (c.getD i []).getD j 0 = y2 at *
  go_wp2_with fail
  go_ret
  exact ⟨g1, c1, rs3, congrArg (fun z => Ending.returned (Value.slice (some ⟨g1, 0, none⟩) z c1)) Hlen.out.symm, HC.out, HO.out, HB.out⟩
end Go.Proofs.YtkjglfafphffiaaGreatDoor
namespace Go.Proofs.YtkjglfafphffiaaGreatDoor
set_option maxRecDepth 100000
open Go.RowKit Game
open Go.Maps (Keyed IsMap)
theorem boolZero (w : World) : (zeroValue 4).run Tryz.prog w = .ok (.bool false) w := by kernel_rfl
section
variable {w w' : World} {b n m : Nat} {ks : List (List Int)}
theorem plainElem_bool_inv {P : Program} {e : TypeId} (he : P.underlying e = some .bool) {v : Value} {z : DataW Unit × List MemPlace} (h : plainElem P e v = some z) : ∃ x, v = .bool x ∧ z = (.lit (.bool x), []) := by
  unfold plainElem at h
  rw [he] at h
  cases v <;> simp at h
  subst h
  exact ⟨_, rfl, rfl⟩
end
end Go.Proofs.YtkjglfafphffiaaGreatDoor
namespace Go.Proofs.YtkjglfafphffiaaGreatDoor
set_option maxRecDepth 100000
open Go.RowKit Game
def GotRowsB (w : World) (rows : List (List Int)) (b : Bool) (e : Ending) (w' : World) : Prop :=
  ∃ g cap rs, e = .returned (.tuple #[(Value.slice (some ⟨g, 0, none⟩) rows.length cap), .bool b]) ∧ contents rs = rows ∧ OwnRows w' w.heap.size g cap rs ∧ Below w.heap.size w w'
theorem GotRowsB.mk' {w w' : World} {rows : List (List Int)} {b : Bool} {n : Nat} (g cap : Nat) (rs : List RowRef) (hl : rs.length = n) (hc : contents rs = rows) (ho : OwnRows w' w.heap.size g cap rs) (hb : Below w.heap.size w w') :
    GotRowsB w rows b (.returned (.tuple #[(Value.slice (some ⟨g, 0, none⟩) n cap), .bool b])) w' := by
  subst hl; subst hc
  exact ⟨g, cap, rs, by rw [contents_length], rfl, ho, hb⟩
end Go.Proofs.YtkjglfafphffiaaGreatDoor
namespace Go.Proofs.YtkjglfafphffiaaGreatDoor
set_option maxRecDepth 100000
open Go.RowKit
set_option maxHeartbeats 1000000 in
theorem spec_Type_0 (w : World) : Calls Tryz.prog 169 #[.string ⟨#[65, 49]⟩] w (GotRowsB w (types17.getD 0 tyD).2 true) := by
  have h0 := Lib.hid (fun W => spec_l2Chain_any 1 W (by omega))
  have hl0 := chainA_length 1
  go_enter Tryz.func169, Tryz.ntmps169
  go_wp2_with fail
  refine (h0.out _).mono ?_
  rintro e w1 ⟨g1, c1, rs1, rfl, hc1, ho1, hb1⟩
  rw [hl0]
  clear hl0
  have Hc := Lib.hid hc1
  clear hc1
  go_wp2_with fail
  go_ret2
  exact GotRowsB.mk' g1 c1 rs1 (by rw [← contents_length, Hc.out]; decide) (by rw [Hc.out]; decide) ho1 hb1
set_option maxHeartbeats 1000000 in
theorem spec_Type_1 (w : World) : Calls Tryz.prog 169 #[.string ⟨#[65, 50]⟩] w (GotRowsB w (types17.getD 1 tyD).2 true) := by
  have h0 := Lib.hid (fun W => spec_l2Chain_any 2 W (by omega))
  have hl0 := chainA_length 2
  go_enter Tryz.func169, Tryz.ntmps169
  go_wp2_with fail
  refine (h0.out _).mono ?_
  rintro e w1 ⟨g1, c1, rs1, rfl, hc1, ho1, hb1⟩
  rw [hl0]
  clear hl0
  have Hc := Lib.hid hc1
  clear hc1
  go_wp2_with fail
  go_ret2
  exact GotRowsB.mk' g1 c1 rs1 (by rw [← contents_length, Hc.out]; decide) (by rw [Hc.out]; decide) ho1 hb1
set_option maxHeartbeats 1000000 in
theorem spec_Type_2 (w : World) : Calls Tryz.prog 169 #[.string ⟨#[65, 51]⟩] w (GotRowsB w (types17.getD 2 tyD).2 true) := by
  have h0 := Lib.hid (fun W => spec_l2Chain_any 3 W (by omega))
  have hl0 := chainA_length 3
  go_enter Tryz.func169, Tryz.ntmps169
  go_wp2_with fail
  refine (h0.out _).mono ?_
  rintro e w1 ⟨g1, c1, rs1, rfl, hc1, ho1, hb1⟩
  rw [hl0]
  clear hl0
  have Hc := Lib.hid hc1
  clear hc1
  go_wp2_with fail
  go_ret2
  exact GotRowsB.mk' g1 c1 rs1 (by rw [← contents_length, Hc.out]; decide) (by rw [Hc.out]; decide) ho1 hb1
set_option maxHeartbeats 1000000 in
theorem spec_Type_3 (w : World) : Calls Tryz.prog 169 #[.string ⟨#[65, 52]⟩] w (GotRowsB w (types17.getD 3 tyD).2 true) := by
  have h0 := Lib.hid (fun W => spec_l2Chain_any 4 W (by omega))
  have hl0 := chainA_length 4
  go_enter Tryz.func169, Tryz.ntmps169
  go_wp2_with fail
  refine (h0.out _).mono ?_
  rintro e w1 ⟨g1, c1, rs1, rfl, hc1, ho1, hb1⟩
  rw [hl0]
  clear hl0
  have Hc := Lib.hid hc1
  clear hc1
  go_wp2_with fail
  go_ret2
  exact GotRowsB.mk' g1 c1 rs1 (by rw [← contents_length, Hc.out]; decide) (by rw [Hc.out]; decide) ho1 hb1
set_option maxHeartbeats 1000000 in
theorem spec_Type_4 (w : World) : Calls Tryz.prog 169 #[.string ⟨#[66, 50]⟩] w (GotRowsB w (types17.getD 4 tyD).2 true) := by
  have h0 := Lib.hid (fun W => spec_l2Chain_any 2 W (by omega))
  have hl0 := chainA_length 2
  go_enter Tryz.func169, Tryz.ntmps169
  go_wp2_with fail
  refine (h0.out _).mono ?_
  rintro e w1 ⟨g1, c1, rs1, rfl, hc1, ho1, hb1⟩
  rw [hl0]
  clear hl0
  have h1 := Lib.hid (spec_l2Set_ok g1 0 2 c1 0 1 (-1) (-2) (chainA 2) w1 (by decide) (by omega) (by decide) (by omega) (by omega) (by omega) ho1.lt (by rw [← hc1]; exact ho1.rows2))
  clear ho1 hc1
  go_wp2_with fail
  refine h1.out.mono ?_
  rintro e w2 ⟨g2, c2, rs2, rfl, hc2, ho2, hb2'⟩
  rw [show (setM (setM (chainA 2) 0 1 (-1)) 1 0 (-2)).length = 2 from by decide]
  have hb2 := hb1.trans (hb2'.mono hb1.size)
  replace ho2 := ho2.mono hb1.size
  clear hb2' h1
  have Hc := Lib.hid hc2
  clear hc2
  go_wp2_with fail
  go_ret2
  exact GotRowsB.mk' g2 c2 rs2 (by rw [← contents_length, Hc.out]; decide) (by rw [Hc.out]; decide) ho2 hb2
set_option maxHeartbeats 1000000 in
theorem spec_Type_5 (w : World) : Calls Tryz.prog 169 #[.string ⟨#[66, 51]⟩] w (GotRowsB w (types17.getD 5 tyD).2 true) := by
  have h0 := Lib.hid (fun W => spec_l2Chain_any 3 W (by omega))
  have hl0 := chainA_length 3
  go_enter Tryz.func169, Tryz.ntmps169
  go_wp2_with fail
  refine (h0.out _).mono ?_
  rintro e w1 ⟨g1, c1, rs1, rfl, hc1, ho1, hb1⟩
  rw [hl0]
  clear hl0
  have h1 := Lib.hid (spec_l2Set_ok g1 0 3 c1 1 2 (-1) (-2) (chainA 3) w1 (by decide) (by omega) (by decide) (by omega) (by omega) (by omega) ho1.lt (by rw [← hc1]; exact ho1.rows2))
  clear ho1 hc1
  go_wp2_with fail
  refine h1.out.mono ?_
  rintro e w2 ⟨g2, c2, rs2, rfl, hc2, ho2, hb2'⟩
  rw [show (setM (setM (chainA 3) 1 2 (-1)) 2 1 (-2)).length = 3 from by decide]
  have hb2 := hb1.trans (hb2'.mono hb1.size)
  replace ho2 := ho2.mono hb1.size
  clear hb2' h1
  have Hc := Lib.hid hc2
  clear hc2
  go_wp2_with fail
  go_ret2
  exact GotRowsB.mk' g2 c2 rs2 (by rw [← contents_length, Hc.out]; decide) (by rw [Hc.out]; decide) ho2 hb2
set_option maxHeartbeats 1000000 in
theorem spec_Type_6 (w : World) : Calls Tryz.prog 169 #[.string ⟨#[66, 52]⟩] w (GotRowsB w (types17.getD 6 tyD).2 true) := by
  have h0 := Lib.hid (fun W => spec_l2Chain_any 4 W (by omega))
  have hl0 := chainA_length 4
  go_enter Tryz.func169, Tryz.ntmps169
  go_wp2_with fail
  refine (h0.out _).mono ?_
  rintro e w1 ⟨g1, c1, rs1, rfl, hc1, ho1, hb1⟩
  rw [hl0]
  clear hl0
  have h1 := Lib.hid (spec_l2Set_ok g1 0 4 c1 2 3 (-1) (-2) (chainA 4) w1 (by decide) (by omega) (by decide) (by omega) (by omega) (by omega) ho1.lt (by rw [← hc1]; exact ho1.rows2))
  clear ho1 hc1
  go_wp2_with fail
  refine h1.out.mono ?_
  rintro e w2 ⟨g2, c2, rs2, rfl, hc2, ho2, hb2'⟩
  rw [show (setM (setM (chainA 4) 2 3 (-1)) 3 2 (-2)).length = 4 from by decide]
  have hb2 := hb1.trans (hb2'.mono hb1.size)
  replace ho2 := ho2.mono hb1.size
  clear hb2' h1
  have Hc := Lib.hid hc2
  clear hc2
  go_wp2_with fail
  go_ret2
  exact GotRowsB.mk' g2 c2 rs2 (by rw [← contents_length, Hc.out]; decide) (by rw [Hc.out]; decide) ho2 hb2
set_option maxHeartbeats 1000000 in
theorem spec_Type_7 (w : World) : Calls Tryz.prog 169 #[.string ⟨#[67, 51]⟩] w (GotRowsB w (types17.getD 7 tyD).2 true) := by
  have h0 := Lib.hid (fun W => spec_l2Chain_any 3 W (by omega))
  have hl0 := chainA_length 3
  go_enter Tryz.func169, Tryz.ntmps169
  go_wp2_with fail
  refine (h0.out _).mono ?_
  rintro e w1 ⟨g1, c1, rs1, rfl, hc1, ho1, hb1⟩
  rw [hl0]
  clear hl0
  have h1 := Lib.hid (spec_l2Set_ok g1 0 3 c1 1 2 (-2) (-1) (chainA 3) w1 (by decide) (by omega) (by decide) (by omega) (by omega) (by omega) ho1.lt (by rw [← hc1]; exact ho1.rows2))
  clear ho1 hc1
  go_wp2_with fail
  refine h1.out.mono ?_
  rintro e w2 ⟨g2, c2, rs2, rfl, hc2, ho2, hb2'⟩
  rw [show (setM (setM (chainA 3) 1 2 (-2)) 2 1 (-1)).length = 3 from by decide]
  have hb2 := hb1.trans (hb2'.mono hb1.size)
  replace ho2 := ho2.mono hb1.size
  clear hb2' h1
  have Hc := Lib.hid hc2
  clear hc2
  go_wp2_with fail
  go_ret2
  exact GotRowsB.mk' g2 c2 rs2 (by rw [← contents_length, Hc.out]; decide) (by rw [Hc.out]; decide) ho2 hb2
set_option maxHeartbeats 1000000 in
theorem spec_Type_8 (w : World) : Calls Tryz.prog 169 #[.string ⟨#[67, 52]⟩] w (GotRowsB w (types17.getD 8 tyD).2 true) := by
  have h0 := Lib.hid (fun W => spec_l2Chain_any 4 W (by omega))
  have hl0 := chainA_length 4
  go_enter Tryz.func169, Tryz.ntmps169
  go_wp2_with fail
  refine (h0.out _).mono ?_
  rintro e w1 ⟨g1, c1, rs1, rfl, hc1, ho1, hb1⟩
  rw [hl0]
  clear hl0
  have h1 := Lib.hid (spec_l2Set_ok g1 0 4 c1 2 3 (-2) (-1) (chainA 4) w1 (by decide) (by omega) (by decide) (by omega) (by omega) (by omega) ho1.lt (by rw [← hc1]; exact ho1.rows2))
  clear ho1 hc1
  go_wp2_with fail
  refine h1.out.mono ?_
  rintro e w2 ⟨g2, c2, rs2, rfl, hc2, ho2, hb2'⟩
  rw [show (setM (setM (chainA 4) 2 3 (-2)) 3 2 (-1)).length = 4 from by decide]
  have hb2 := hb1.trans (hb2'.mono hb1.size)
  replace ho2 := ho2.mono hb1.size
  clear hb2' h1
  have Hc := Lib.hid hc2
  clear hc2
  go_wp2_with fail
  go_ret2
  exact GotRowsB.mk' g2 c2 rs2 (by rw [← contents_length, Hc.out]; decide) (by rw [Hc.out]; decide) ho2 hb2
set_option maxHeartbeats 1000000 in
theorem spec_Type_9 (w : World) : Calls Tryz.prog 169 #[.string ⟨#[68, 52]⟩] w (GotRowsB w (types17.getD 9 tyD).2 true) := by
  have h0 := Lib.hid (fun W => spec_l2Chain_any 4 W (by omega))
  have hl0 := chainA_length 4
  go_enter Tryz.func169, Tryz.ntmps169
  go_wp2_with fail
  refine (h0.out _).mono ?_
  rintro e w1 ⟨g1, c1, rs1, rfl, hc1, ho1, hb1⟩
  rw [hl0]
  clear hl0
  have h1 := Lib.hid (spec_l2Set_ok g1 0 4 c1 2 3 0 0 (chainA 4) w1 (by decide) (by omega) (by decide) (by omega) (by omega) (by omega) ho1.lt (by rw [← hc1]; exact ho1.rows2))
  clear ho1 hc1
  go_wp2_with fail
  refine h1.out.mono ?_
  rintro e w2 ⟨g2, c2, rs2, rfl, hc2, ho2, hb2'⟩
  rw [show (setM (setM (chainA 4) 2 3 0) 3 2 0).length = 4 from by decide]
  have hb2 := hb1.trans (hb2'.mono hb1.size)
  replace ho2 := ho2.mono hb1.size
  clear hb2' h1
  have h2 := Lib.hid (spec_l2Set_ok g2 0 4 c2 1 3 (-1) (-1) (setM (setM (chainA 4) 2 3 0) 3 2 0) w2 (by decide) (by omega) (by decide) (by omega) (by omega) (by omega) ho2.lt (by rw [← hc2]; exact ho2.rows2))
  clear ho2 hc2
  go_wp2_with fail
  refine h2.out.mono ?_
  rintro e w3 ⟨g3, c3, rs3, rfl, hc3, ho3, hb3'⟩
  rw [show (setM (setM (setM (setM (chainA 4) 2 3 0) 3 2 0) 1 3 (-1)) 3 1 (-1)).length = 4 from by decide]
  have hb3 := hb2.trans (hb3'.mono hb2.size)
  replace ho3 := ho3.mono hb2.size
  clear hb3' h2
  have Hc := Lib.hid hc3
  clear hc3
  go_wp2_with fail
  go_ret2
  exact GotRowsB.mk' g3 c3 rs3 (by rw [← contents_length, Hc.out]; decide) (by rw [Hc.out]; decide) ho3 hb3
set_option maxHeartbeats 1000000 in
theorem spec_Type_10 (w : World) : Calls Tryz.prog 169 #[.string ⟨#[70, 52]⟩] w (GotRowsB w (types17.getD 10 tyD).2 true) := by
  have h0 := Lib.hid (fun W => spec_l2Chain_any 4 W (by omega))
  have hl0 := chainA_length 4
  go_enter Tryz.func169, Tryz.ntmps169
  go_wp2_with fail
  refine (h0.out _).mono ?_
  rintro e w1 ⟨g1, c1, rs1, rfl, hc1, ho1, hb1⟩
  rw [hl0]
  clear hl0
  have h1 := Lib.hid (spec_l2Set_ok g1 0 4 c1 1 2 (-1) (-2) (chainA 4) w1 (by decide) (by omega) (by decide) (by omega) (by omega) (by omega) ho1.lt (by rw [← hc1]; exact ho1.rows2))
  clear ho1 hc1
  go_wp2_with fail
  refine h1.out.mono ?_
  rintro e w2 ⟨g2, c2, rs2, rfl, hc2, ho2, hb2'⟩
  rw [show (setM (setM (chainA 4) 1 2 (-1)) 2 1 (-2)).length = 4 from by decide]
  have hb2 := hb1.trans (hb2'.mono hb1.size)
  replace ho2 := ho2.mono hb1.size
  clear hb2' h1
  have Hc := Lib.hid hc2
  clear hc2
  go_wp2_with fail
  go_ret2
  exact GotRowsB.mk' g2 c2 rs2 (by rw [← contents_length, Hc.out]; decide) (by rw [Hc.out]; decide) ho2 hb2
set_option maxHeartbeats 1000000 in
theorem spec_Type_11 (w : World) : Calls Tryz.prog 169 #[.string ⟨#[71, 50]⟩] w (GotRowsB w (types17.getD 11 tyD).2 true) := by
  have h0 := Lib.hid (fun W => spec_l2Chain_any 2 W (by omega))
  have hl0 := chainA_length 2
  go_enter Tryz.func169, Tryz.ntmps169
  go_wp2_with fail
  refine (h0.out _).mono ?_
  rintro e w1 ⟨g1, c1, rs1, rfl, hc1, ho1, hb1⟩
  rw [hl0]
  clear hl0
  have h1 := Lib.hid (spec_l2Set_ok g1 0 2 c1 0 1 (-1) (-3) (chainA 2) w1 (by decide) (by omega) (by decide) (by omega) (by omega) (by omega) ho1.lt (by rw [← hc1]; exact ho1.rows2))
  clear ho1 hc1
  go_wp2_with fail
  refine h1.out.mono ?_
  rintro e w2 ⟨g2, c2, rs2, rfl, hc2, ho2, hb2'⟩
  rw [show (setM (setM (chainA 2) 0 1 (-1)) 1 0 (-3)).length = 2 from by decide]
  have hb2 := hb1.trans (hb2'.mono hb1.size)
  replace ho2 := ho2.mono hb1.size
  clear hb2' h1
  have Hc := Lib.hid hc2
  clear hc2
  go_wp2_with fail
  go_ret2
  exact GotRowsB.mk' g2 c2 rs2 (by rw [← contents_length, Hc.out]; decide) (by rw [Hc.out]; decide) ho2 hb2
set_option maxHeartbeats 1000000 in
theorem spec_Type_12 (w : World) : Calls Tryz.prog 169 #[.string ⟨#[65, 49, 126]⟩] w (GotRowsB w (types17.getD 12 tyD).2 true) := by
  have h0 := Lib.hid (fun W => spec_l2Chain_any 2 W (by omega))
  have hl0 := chainA_length 2
  go_enter Tryz.func169, Tryz.ntmps169
  go_wp2_with fail
  refine (h0.out _).mono ?_
  rintro e w1 ⟨g1, c1, rs1, rfl, hc1, ho1, hb1⟩
  rw [hl0]
  clear hl0
  have h1 := Lib.hid (spec_l2Set_ok g1 0 2 c1 0 1 (-2) (-2) (chainA 2) w1 (by decide) (by omega) (by decide) (by omega) (by omega) (by omega) ho1.lt (by rw [← hc1]; exact ho1.rows2))
  clear ho1 hc1
  go_wp2_with fail
  refine h1.out.mono ?_
  rintro e w2 ⟨g2, c2, rs2, rfl, hc2, ho2, hb2'⟩
  rw [show (setM (setM (chainA 2) 0 1 (-2)) 1 0 (-2)).length = 2 from by decide]
  have hb2 := hb1.trans (hb2'.mono hb1.size)
  replace ho2 := ho2.mono hb1.size
  clear hb2' h1
  have Hc := Lib.hid hc2
  clear hc2
  go_wp2_with fail
  go_ret2
  exact GotRowsB.mk' g2 c2 rs2 (by rw [← contents_length, Hc.out]; decide) (by rw [Hc.out]; decide) ho2 hb2
set_option maxHeartbeats 1000000 in
theorem spec_Type_13 (w : World) : Calls Tryz.prog 169 #[.string ⟨#[65, 50, 126]⟩] w (GotRowsB w (types17.getD 13 tyD).2 true) := by
  have h0 := Lib.hid (fun W => spec_l2Chain_any 3 W (by omega))
  have hl0 := chainA_length 3
  go_enter Tryz.func169, Tryz.ntmps169
  go_wp2_with fail
  refine (h0.out _).mono ?_
  rintro e w1 ⟨g1, c1, rs1, rfl, hc1, ho1, hb1⟩
  rw [hl0]
  clear hl0
  have h1 := Lib.hid (spec_l2Set_ok g1 0 3 c1 0 2 (-1) (-1) (chainA 3) w1 (by decide) (by omega) (by decide) (by omega) (by omega) (by omega) ho1.lt (by rw [← hc1]; exact ho1.rows2))
  clear ho1 hc1
  go_wp2_with fail
  refine h1.out.mono ?_
  rintro e w2 ⟨g2, c2, rs2, rfl, hc2, ho2, hb2'⟩
  rw [show (setM (setM (chainA 3) 0 2 (-1)) 2 0 (-1)).length = 3 from by decide]
  have hb2 := hb1.trans (hb2'.mono hb1.size)
  replace ho2 := ho2.mono hb1.size
  clear hb2' h1
  have Hc := Lib.hid hc2
  clear hc2
  go_wp2_with fail
  go_ret2
  exact GotRowsB.mk' g2 c2 rs2 (by rw [← contents_length, Hc.out]; decide) (by rw [Hc.out]; decide) ho2 hb2
set_option maxHeartbeats 1000000 in
theorem spec_Type_14 (w : World) : Calls Tryz.prog 169 #[.string ⟨#[65, 51, 126]⟩] w (GotRowsB w (types17.getD 14 tyD).2 true) := by
  have h0 := Lib.hid (fun W => spec_l2Chain_any 4 W (by omega))
  have hl0 := chainA_length 4
  go_enter Tryz.func169, Tryz.ntmps169
  go_wp2_with fail
  refine (h0.out _).mono ?_
  rintro e w1 ⟨g1, c1, rs1, rfl, hc1, ho1, hb1⟩
  rw [hl0]
  clear hl0
  have h1 := Lib.hid (spec_l2Set_ok g1 0 4 c1 0 3 (-1) (-1) (chainA 4) w1 (by decide) (by omega) (by decide) (by omega) (by omega) (by omega) ho1.lt (by rw [← hc1]; exact ho1.rows2))
  clear ho1 hc1
  go_wp2_with fail
  refine h1.out.mono ?_
  rintro e w2 ⟨g2, c2, rs2, rfl, hc2, ho2, hb2'⟩
  rw [show (setM (setM (chainA 4) 0 3 (-1)) 3 0 (-1)).length = 4 from by decide]
  have hb2 := hb1.trans (hb2'.mono hb1.size)
  replace ho2 := ho2.mono hb1.size
  clear hb2' h1
  have Hc := Lib.hid hc2
  clear hc2
  go_wp2_with fail
  go_ret2
  exact GotRowsB.mk' g2 c2 rs2 (by rw [← contents_length, Hc.out]; decide) (by rw [Hc.out]; decide) ho2 hb2
set_option maxHeartbeats 1000000 in
theorem spec_Type_15 (w : World) : Calls Tryz.prog 169 #[.string ⟨#[67, 50, 126]⟩] w (GotRowsB w (types17.getD 15 tyD).2 true) := by
  have h0 := Lib.hid (fun W => spec_l2Chain_any 3 W (by omega))
  have hl0 := chainA_length 3
  go_enter Tryz.func169, Tryz.ntmps169
  go_wp2_with fail
  refine (h0.out _).mono ?_
  rintro e w1 ⟨g1, c1, rs1, rfl, hc1, ho1, hb1⟩
  rw [hl0]
  clear hl0
  have h1 := Lib.hid (spec_l2Set_ok g1 0 3 c1 0 1 (-1) (-2) (chainA 3) w1 (by decide) (by omega) (by decide) (by omega) (by omega) (by omega) ho1.lt (by rw [← hc1]; exact ho1.rows2))
  clear ho1 hc1
  go_wp2_with fail
  refine h1.out.mono ?_
  rintro e w2 ⟨g2, c2, rs2, rfl, hc2, ho2, hb2'⟩
  rw [show (setM (setM (chainA 3) 0 1 (-1)) 1 0 (-2)).length = 3 from by decide]
  have hb2 := hb1.trans (hb2'.mono hb1.size)
  replace ho2 := ho2.mono hb1.size
  clear hb2' h1
  have h2 := Lib.hid (spec_l2Set_ok g2 0 3 c2 1 2 (-2) (-1) (setM (setM (chainA 3) 0 1 (-1)) 1 0 (-2)) w2 (by decide) (by omega) (by decide) (by omega) (by omega) (by omega) ho2.lt (by rw [← hc2]; exact ho2.rows2))
  clear ho2 hc2
  go_wp2_with fail
  refine h2.out.mono ?_
  rintro e w3 ⟨g3, c3, rs3, rfl, hc3, ho3, hb3'⟩
  rw [show (setM (setM (setM (setM (chainA 3) 0 1 (-1)) 1 0 (-2)) 1 2 (-2)) 2 1 (-1)).length = 3 from by decide]
  have hb3 := hb2.trans (hb3'.mono hb2.size)
  replace ho3 := ho3.mono hb2.size
  clear hb3' h2
  have Hc := Lib.hid hc3
  clear hc3
  go_wp2_with fail
  go_ret2
  exact GotRowsB.mk' g3 c3 rs3 (by rw [← contents_length, Hc.out]; decide) (by rw [Hc.out]; decide) ho3 hb3
set_option maxHeartbeats 1000000 in
theorem spec_Type_16 (w : World) : Calls Tryz.prog 169 #[.string ⟨#[71, 50, 126]⟩] w (GotRowsB w (types17.getD 16 tyD).2 true) := by
  have h0 := Lib.hid (fun W => spec_l2Chain_any 3 W (by omega))
  have hl0 := chainA_length 3
  go_enter Tryz.func169, Tryz.ntmps169
  go_wp2_with fail
  refine (h0.out _).mono ?_
  rintro e w1 ⟨g1, c1, rs1, rfl, hc1, ho1, hb1⟩
  rw [hl0]
  clear hl0
  have h1 := Lib.hid (spec_l2Set_ok g1 0 3 c1 1 2 (-1) (-3) (chainA 3) w1 (by decide) (by omega) (by decide) (by omega) (by omega) (by omega) ho1.lt (by rw [← hc1]; exact ho1.rows2))
  clear ho1 hc1
  go_wp2_with fail
  refine h1.out.mono ?_
  rintro e w2 ⟨g2, c2, rs2, rfl, hc2, ho2, hb2'⟩
  rw [show (setM (setM (chainA 3) 1 2 (-1)) 2 1 (-3)).length = 3 from by decide]
  have hb2 := hb1.trans (hb2'.mono hb1.size)
  replace ho2 := ho2.mono hb1.size
  clear hb2' h1
  have Hc := Lib.hid hc2
  clear hc2
  go_wp2_with fail
  go_ret2
  exact GotRowsB.mk' g2 c2 rs2 (by rw [← contents_length, Hc.out]; decide) (by rw [Hc.out]; decide) ho2 hb2
theorem spec_TypeCartan_ok (k : Nat) (hk : k < 17) (w : World) : Calls Tryz.prog 169 #[.string ⟨(types17.getD k tyD).1.toArray⟩] w (GotRowsB w (types17.getD k tyD).2 true) := by
  have : k = 0 ∨ k = 1 ∨ k = 2 ∨ k = 3 ∨ k = 4 ∨ k = 5 ∨ k = 6 ∨ k = 7 ∨ k = 8 ∨ k = 9 ∨ k = 10 ∨ k = 11 ∨ k = 12 ∨ k = 13 ∨ k = 14 ∨ k = 15 ∨ k = 16 := by omega
  rcases this with rfl | rfl | rfl | rfl | rfl | rfl | rfl | rfl | rfl | rfl | rfl | rfl | rfl | rfl | rfl | rfl | rfl
  · exact spec_Type_0 w
  · exact spec_Type_1 w
  · exact spec_Type_2 w
  · exact spec_Type_3 w
  · exact spec_Type_4 w
  · exact spec_Type_5 w
  · exact spec_Type_6 w
  · exact spec_Type_7 w
  · exact spec_Type_8 w
  · exact spec_Type_9 w
  · exact spec_Type_10 w
  · exact spec_Type_11 w
  · exact spec_Type_12 w
  · exact spec_Type_13 w
  · exact spec_Type_14 w
  · exact spec_Type_15 w
  · exact spec_Type_16 w
end Go.Proofs.YtkjglfafphffiaaGreatDoor
