/- States by the program: contract. -/
import Derived.Test.YtmplcohpinghbaaGreatDoorKey
import Derived.Test.YtmplcohpinghbaaGreatDoorAutM
import Derived.Test.YtmplcohpinghbaaGreatDoorStS
namespace Go.Proofs.YtmplcohpinghbaaGreatDoor
open Go.RowKit Game

/-- the table of moves between states -/
def mvT (c S R : List (List Int)) : List (List Int) := R.map fun st => (List.range c.length).map fun i => mvS c S R st i
theorem mvT_length (c S R : List (List Int)) : (mvT c S R).length = R.length := by simp [mvT]
theorem mvT_take {c S R : List (List Int)} {k : Nat} (hk : k < R.length) : (mvT c S R).take (k + 1) = (mvT c S R).take k ++ [(List.range c.length).map fun i => mvS c S R (R.getD k []) i] := by
  have hk' : k < (mvT c S R).length := by rw [mvT_length]; exact hk
  rw [List.take_succ_eq_append_getElem hk']
  congr 2
  simp [mvT, List.getD, hk]
/-- both lists, or nothing -/
def StatesPost (w : World) (c S : List (List Int)) (R : Option (List (List Int))) (e : Ending) (w' : World) : Prop :=
  (R = none ∧ e = .returned (.tuple #[.slice none 0 0, .slice none 0 0, .bool false]) ∧ Below w.heap.size w w') ∨
  (∃ Q g cap rs gV cV rsV, R = some Q ∧ e = .returned (.tuple #[(Value.slice (some ⟨g, 0, none⟩) Q.length cap), (Value.slice (some ⟨gV, 0, none⟩) Q.length cV), .bool true]) ∧ contents rs = Q ∧ OwnRows w' w.heap.size g cap rs ∧ contents rsV = mvT c S Q ∧ OwnRows w' w.heap.size gV cV rsV ∧ Below w.heap.size w w')
theorem wpList_ats_insert {w : World} {b n m : Nat} {L : List (List Int)} {ops : Array Oper} {rest : List Oper} {o : Oper} {a : Act} {Q : Exit → Act → World → Prop}
    (hg : o.guard = none) (x y z : Operand) (hop : o.op = Op.insert 52 x y z) (v : List Int) (hm : m ≤ 40) (hv : FineS m v) (hL : v ∉ L) (hLn : L.length = n)
    (hown : AtS w b n m L) (hn : n < 1048576) (hx : a.eval x = .map (some b)) (hy : a.eval y = .string ⟨(keyS v).toArray⟩) (hz : a.eval z = .int .i64 (n : Int))
    (hK : ∀ w', AtS w' b (n + 1) m (L ++ [v]) → w.grownBy w' (some b) → wpList Tryz.prog ops Q rest (a.put o.dst undef) w') :
    wpList Tryz.prog ops Q (o :: rest) a w := by
  obtain ⟨D, hD, hmap, hat⟩ := hown
  have hk := keyOf_st (st := v) (by have := keyS_len (hv.ok (by omega)); have := hv.len; omega)
  refine wpList_plain hg fun K' hK' => ?_
  obtain ⟨w', hrun, r1, r2⟩ := hD.update strKeyed Tryz.underlying52 (by unfold maxLen; omega) hk (plainElem_int (H := Unit) Tryz.underlying3 (natWf hn))
  unfold Oper.wp
  simp [execOp, hop, hx, hy, hz, hrun, Result.andThen]
  refine hK' _ _ (hK w' ⟨_, r1, ?_, ats_put hm hv hL hLn hmap hat⟩ r2)
  obtain ⟨es, rfl⟩ := hmap
  exact ⟨_, rfl⟩
theorem OwnRows.grownB {w w' : World} {B g cap k : Nat} {rs : List RowRef} (h : OwnRows w B g cap rs) (hg : w.grownBy w' (some k)) (h1 : g ≠ k) (h2 : ∀ r ∈ rs, r.1 ≠ k) : OwnRows w' B g cap rs :=
  ⟨h.1.grown hg (fun e => h1 (Option.some.inj e)), fun r hr => (h.2.1 r hr).grown hg (fun e => h2 r hr (Option.some.inj e)), h.2.2⟩
theorem keyNil : (⟨(keyS []).toArray⟩ : ByteArray) = ⟨#[]⟩ := rfl

theorem states_start (w2 : World) (h m : Nat) (hs : w2.heap.size = h) :
    OwnRows ((((w2.alloc (.cells #[] 3)).alloc (.cells #[(Value.slice (some ⟨h, 0, none⟩) 0 0)] 31)).alloc (.cells #[] 31)).alloc (.map #[] 0)) h (h + 1) 1 [(h, 0, [])] ∧
    OwnRows ((((w2.alloc (.cells #[] 3)).alloc (.cells #[(Value.slice (some ⟨h, 0, none⟩) 0 0)] 31)).alloc (.cells #[] 31)).alloc (.map #[] 0)) h (h + 1 + 1) 0 [] ∧
    AtS ((((w2.alloc (.cells #[] 3)).alloc (.cells #[(Value.slice (some ⟨h, 0, none⟩) 0 0)] 31)).alloc (.cells #[] 31)).alloc (.map #[] 0)) (h + 1 + 1 + 1) 0 m [] ∧
    Below h w2 ((((w2.alloc (.cells #[] 3)).alloc (.cells #[(Value.slice (some ⟨h, 0, none⟩) 0 0)] 31)).alloc (.cells #[] 31)).alloc (.map #[] 0)) := by
  subst hs
  have h1 := start_rows w2
  have s1 : ((w2.alloc (.cells #[] 3)).alloc (.cells #[(Value.slice (some ⟨w2.heap.size, 0, none⟩) 0 0)] 31)).heap.size = w2.heap.size + 1 + 1 := by simp
  have b1 : Below w2.heap.size w2 ((w2.alloc (.cells #[] 3)).alloc (.cells #[(Value.slice (some ⟨w2.heap.size, 0, none⟩) 0 0)] 31)) := (by repeat (first | with_reducible exact Below.refl _ _ | with_reducible assumption | with_reducible refine below_drewN ?_ _ | with_reducible refine Below.drew ?_ | (with_reducible refine Below.alloc ?_ ?_ _; rotate_left; · first | (simp; done) | (simp; omega) | exact Below.size (by assumption) | (have hsz := Below.size (by assumption : Below _ _ _); simp at hsz ⊢; omega)) | (with_reducible refine Below.setCell ?_ ?_ _; rotate_left; · first | (simp; done) | (simp; omega))))
  generalize (w2.alloc (.cells #[] 3)).alloc (.cells #[(Value.slice (some ⟨w2.heap.size, 0, none⟩) 0 0)] 31) = W at *
  have b2 := (Below.refl W.heap.size W).alloc (Nat.le_refl _) (.cells #[] 31)
  have h2 := h1.below b2
  have v2 := OwnRows.empty (w := W) (B := w2.heap.size) (by omega)
  have s2 : (W.alloc (.cells #[] 31)).heap.size = w2.heap.size + 1 + 1 + 1 := by simp; omega
  rw [s1] at v2
  have b12 := b1.trans (b2.mono (by omega))
  generalize W.alloc (.cells #[] 31) = V at *
  have b3 := (Below.refl V.heap.size V).alloc (Nat.le_refl _) (.map #[] 0)
  have m3 := AtS.start V m
  rw [s2] at m3
  exact ⟨h2.below b3, v2.below b3, m3, b12.trans (b3.mono (by omega))⟩

set_option maxRecDepth 100000 in
set_option maxHeartbeats 8000000 in
theorem impl_states_any (gc oc n cc : Nat) (c : List (List Int)) (w : World) (hn : c.length = n) (hl : c.length ≤ 1048576) (hrl : ∀ j, j < c.length → (c.getD j []).length ≤ 1048576) (hgc : gc < w.heap.size) (hr : Rows2 w gc oc c) :
    Calls Tryz.prog 22 #[(Value.slice (some ⟨gc, oc, none⟩) n cc)] w (StatesPost w c (smallA c) (stR c)) := by
  subst hn
  have hcall := impl_newAutomaton_any gc oc _ cc c w rfl hl hrl hgc hr
  have Hcall := Lib.hid hcall
  clear hcall hr hrl
  have hRM : Hid (stR c = if smallAB c = true then statesR c (smallA c) else none) := rfl
  have hmm := @run_makeMap Tryz.prog
  generalize stR c = R at *
  go_enter Tryz.func22, Tryz.ntmps22
  go_wp2_with fail
  refine Hcall.out.mono ?_
  intro e w1 hp
  rcases hp with ⟨hAB, rfl, hb1⟩ | ⟨hC, hAB, hok, gR, cR, gM, cM, rfl, hAR, hb1⟩
  · have hv : R = none := by rw [hRM.out, hAB]; exact if_neg (by simp)
    have Hv := Lib.hid hv
    have hb2 : Below w.heap.size w (w1.alloc (.cells #[.slice none 0 0, .slice none 0 0, .slice none 0 0] 48)) := hb1.alloc hb1.size _
    clear hAB hv hRM Hcall hb1 hmm
    go_wp2_with fail
    go_ret3
    exact .inl ⟨Hv.out, rfl, hb2⟩
  · have hn4 := hC.2.1
    have hS40 := hok.len
    have hRv : stGo c (smallA c) (101 - 0) 0 [[]] = R := by rw [hRM.out, if_pos hAB]; rfl
    generalize smallA c = S at *
    have hbA := (Below.refl w1.heap.size w1).alloc (Nat.le_refl _) (.cells #[(Value.slice (some ⟨gc, oc, none⟩) c.length cc), (Value.slice (some ⟨gR, 0, none⟩) S.length cR), (Value.slice (some ⟨gM, 0, none⟩) S.length cM)] 48)
    have hA2 := hAR.below hbA
    have hb2 := hb1.trans (hbA.mono hb1.size)
    have h92 : Hid ((w1.alloc (.cells #[(Value.slice (some ⟨gc, oc, none⟩) c.length cc), (Value.slice (some ⟨gR, 0, none⟩) S.length cR), (Value.slice (some ⟨gM, 0, none⟩) S.length cM)] 48)).heap[w1.heap.size]? = some (.cells #[(Value.slice (some ⟨gc, oc, none⟩) c.length cc), (Value.slice (some ⟨gR, 0, none⟩) S.length cR), (Value.slice (some ⟨gM, 0, none⟩) S.length cM)] 48 (0, 0))) := heap_alloc_new _ _
    have HRv := Lib.hid hRv
    clear hAR hbA Hcall hAB hRM hRv
    have hkn := impl_stateKey_nil
    have Hkn := Lib.hid hkn
    clear hkn
    go_wp2_with fail
    refine (Hkn.out _).mono ?_
    have hsz2 : (w1.alloc (.cells #[(Value.slice (some ⟨gc, oc, none⟩) c.length cc), (Value.slice (some ⟨gR, 0, none⟩) S.length cR), (Value.slice (some ⟨gM, 0, none⟩) S.length cM)] 48)).heap.size = w1.heap.size + 1 := by simp
    obtain ⟨hO0, hV0, hM0, hbx⟩ := states_start (w1.alloc (.cells #[(Value.slice (some ⟨gc, oc, none⟩) c.length cc), (Value.slice (some ⟨gR, 0, none⟩) S.length cR), (Value.slice (some ⟨gM, 0, none⟩) S.length cM)] 48)) _ S.length hsz2
    generalize w1.alloc (.cells #[(Value.slice (some ⟨gc, oc, none⟩) c.length cc), (Value.slice (some ⟨gR, 0, none⟩) S.length cR), (Value.slice (some ⟨gM, 0, none⟩) S.length cM)] 48) = w2 at *
    have h9lt : w1.heap.size < w2.heap.size := by omega
    have hle : w.heap.size ≤ w1.heap.size + 1 := by have := hb2.size; omega
    rw [← hsz2] at hbx
    generalize hbMe : w1.heap.size + 1 + 1 + 1 + 1 = bM at *
    have hbM2 : w1.heap.size + 1 ≤ bM := by omega
    clear hbMe
    generalize hgV : w1.heap.size + 1 + 1 + 1 = gV0 at *
    generalize hgO : w1.heap.size + 1 + 1 = gO0 at *
    have hOV : gO0 ≠ gV0 := by omega
    clear hgV hgO
    rw [← hsz2] at *
    generalize ((((w2.alloc (.cells #[] 3)).alloc (.cells #[(Value.slice (some ⟨w2.heap.size, 0, none⟩) 0 0)] 31)).alloc (.cells #[] 31)).alloc (.map #[] 0)) = w5 at *
    clear hsz2
    rintro e w6 ⟨rfl, hb6⟩
    have hO6 := hO0.below hb6
    have hV6 := hV0.below hb6
    have hM6 := hM0.below hb6 hM0.lt
    have hB6 := hbx.trans (hb6.mono hbx.size)
    clear hO0 hV0 hM0 hbx hb6 hmm Hkn
    go_wp2_with (refine wpList_ats_insert (n := 0) (L := []) rfl (.tmp 28) (.tmp 29) (.const (.int .i64 0)) rfl [] hS40 (FineS.nil _) (by simp) rfl hM6 (by omega) rfl (by rw [keyNil]; rfl) rfl ?_)
    intro w7 hM7 hg7
    have hO7 := hM6.rows hO6 hg7
    have hV7 := hM6.rows hV6 hg7
    have hB7 : Below w2.heap.size w2 w7 := hB6.grown hg7 hB6.size (by intro t ht; cases ht; exact hbM2)
    clear hM6 hO6 hV6 hB6 hg7
    generalize w1.heap.size = b9 at *
    go_wp2_with fail
    go_loopw [7, 8, 10] (fun ov vv kv wr => ∃ (k gO cO m gV cV : Nat) (rs rsV : List RowRef) (Q : List (List Int)), kv = .int .i64 k ∧ ov = (Value.slice (some ⟨gO, 0, none⟩) m cO) ∧ vv = (Value.slice (some ⟨gV, 0, none⟩) k cV) ∧ k ≤ m ∧ m ≤ 100 ∧ gO ≠ gV ∧ Hid (rs.length = m) ∧ Hid (contents rs = Q) ∧ Hid (rsV.length = k) ∧ Hid (∀ R', R = some R' → contents rsV = (mvT c S R').take k) ∧ Hid (StOk S Q) ∧ Hid (stGo c S (101 - k) k Q = R) ∧ AtS wr bM m S.length Q ∧ OwnRows wr w2.heap.size gO cO rs ∧ OwnRows wr w2.heap.size gV cV rsV ∧ Below w2.heap.size w2 wr) (fun _ _ kv _ => 101 - (intOf kv).toNat)
    case atStart => exact ⟨0, gO0, 1, 1, gV0, 0, [(w2.heap.size, 0, [])], [], [[]], rfl, rfl, rfl, by omega, by omega, hOV, rfl, rfl, rfl, fun _ _ => by simp [contents], StOk.start S, HRv.out, hM7, hO7, hV7, hB7⟩
    case round =>
      clear hO7 hV7 hM7 hB7 hOV HRv
      obtain ⟨k, gO, cO, m, gV, cV, rs, rsV, Q, rfl, rfl, rfl, hk, hm, hOV, hrl, hcon, hvl, hvc, hst, hgo, hM, hO, hV, hb⟩ := hrel
      by_cases hlt : k < m
      · have hkQ : k < Q.length := by rw [← hcon.out, contents_length, hrl.out]; exact hlt
        have HkQ := Lib.hid hkQ
        have hk100 : k ≤ 100 := by omega
        have hstk : FineS S.length (Q.getD k []) := hst.out.fine _ (by simp [List.getD, hkQ])
        have Hstk := Lib.hid hstk
        clear hkQ hstk
        obtain ⟨wo, rfl⟩ : ∃ wo : World, wo = wr := ⟨_, rfl⟩
        have hbE := (Below.refl wo.heap.size wo).alloc (Nat.le_refl _) (.cells #[] 3)
        have hM0 := hM.below hbE hM.lt
        have hO0 := hO.below hbE
        have hV0 := hV.below hbE
        have hW0 : Own (wo.alloc (.cells #[] 3)) wo.heap.size wo.heap.size 0 [] := Own.empty (Nat.le_refl _)
        have hB0 := hb.trans (hbE.mono hb.size)
        have hrV : ∀ s ∈ rsV, s.1 < wo.heap.size := fun s hs => (hV.2.1 s hs).lt
        have HrV := Lib.hid hrV
        have hne0 : ∀ r ∈ rs, r.1 ≠ wo.heap.size := fun r hr e => by have := (hO.2.1 r hr).lt; omega
        have Hne0 := Lib.hid hne0
        clear hne0
        have hgOl := hO.lt
        have hwos := hb.size
        clear hM hO hV hbE hrV hb
        go_wp2_with fail
        go_loopw [7, 11, 40] (fun ov rv iv wi => ∃ (i gO cO m gW cW : Nat) (rs : List RowRef) (xs : List Int), iv = .int .i64 i ∧ i ≤ c.length ∧ ov = (Value.slice (some ⟨gO, 0, none⟩) m cO) ∧ rv = (Value.slice (some ⟨gW, 0, none⟩) i cW) ∧ k < m ∧ m ≤ 100 + i ∧ gO ≠ gV ∧ Hid (rs.length = m) ∧ Hid (contents rs = stRow c S Q k i) ∧ Hid (xs.length = i) ∧ Hid (∀ R', R = some R' → xs = (List.range i).map fun j => mvS c S R' (Q.getD k []) j) ∧ Hid (∀ r ∈ rs, r.1 ≠ gW) ∧ AtS wi bM m S.length (stRow c S Q k i) ∧ OwnRows wi w2.heap.size gO cO rs ∧ OwnRows wi w2.heap.size gV cV rsV ∧ Own wi wo.heap.size gW cW xs ∧ Below w2.heap.size w2 wi ∧ wo.heap.size ≤ wi.heap.size) (fun _ _ iv _ => c.length - (intOf iv).toNat)
        case atStart => exact ⟨0, gO, cO, m, wo.heap.size, 0, rs, [], rfl, Nat.zero_le _, rfl, rfl, hlt, by omega, hOV, hrl, hcon, rfl, fun _ _ => rfl, Hne0.out, by rw [show stRow c S Q k 0 = Q from rfl]; exact hM0, hO0, hV0, hW0, hB0, by simp⟩
        case round =>
          clear hM0 hO0 hV0 hW0 hB0 hrl hcon hlt hm hk hOV
          obtain ⟨i, gO, cO, m, gW, cW, rs, xs, rfl, hi, rfl, rfl, hkm, hm, hOV, hrl, hcon, hxl, hxc, hneW, hM, hO, hV, hW, hb, hsz⟩ := hrel
          by_cases hil : i < c.length
          · have hkr : k < rs.length := by rw [hrl.out]; exact hkm
            obtain ⟨bo, co, q1, ho⟩ := rowAt hO hkr
            rw [hcon.out, stRow_getD HkQ.out] at q1 ho
            have hstep : stRow c S Q k (i + 1) = stStep c S (stRow c S Q k i) k i := rfl
            unfold stStep at hstep
            rw [stRow_getD HkQ.out] at hstep
            have hmvd : ∀ R' : List (List Int), mvS c S R' (Q.getD k []) i = if ownI c S i ∈ Q.getD k [] then -1 else idxL R' (nextL c S i (Q.getD k [])) := fun _ => rfl
            have hxs2 : ∀ (z : Int), (∀ R', R = some R' → z = mvS c S R' (Q.getD k []) i) → ∀ R', R = some R' → xs ++ [z] = (List.range (i + 1)).map fun j => mvS c S R' (Q.getD k []) j := fun z hz R' hR' => by
              rw [List.range_succ, List.map_append, ← hxc.out R' hR', hz R' hR']; rfl
            have hpre : ∀ R', R = some R' → ∃ L, R' = stRow c S Q k (i + 1) ++ L := fun R' hR' => by
              have h1 := hgo.out
              rw [show 101 - k = (100 - k) + 1 by omega, hR'] at h1
              exact stGo_rowPre HkQ.out (by omega) h1
            have hnxt := nextL_fine (c := c) (S := S) (i := i) (st := Q.getD k []) (hok.simp' i hil)
            have hnr : nextR c S i (Q.getD k []) = if ownI c S i ∈ Q.getD k [] then none else some (nextL c S i (Q.getD k [])) := rfl
            have hB := hb2.trans (hb.mono hb2.size)
            have hA := hA2.below hb
            obtain ⟨z0, z1, z2⟩ := cell3 ((hb.block _ h9lt).trans h92.out)
            have hfin := Hstk.out
            generalize Q.getD k [] = st at *
            obtain ⟨a, ha⟩ : ∃ a, st.length = a := ⟨_, rfl⟩
            rw [ha] at q1
            have K1 : ∀ W, Below wr.heap.size wr W → Calls Tryz.prog 37 #[.agg #[(Value.slice (some ⟨gc, oc, none⟩) c.length cc), (Value.slice (some ⟨gR, 0, none⟩) S.length cR), (Value.slice (some ⟨gM, 0, none⟩) S.length cM)], (Value.slice (some ⟨bo, 0, none⟩) a co), .int .i64 i] W (NextPost W (nextR c S i st)) := fun W hW =>
              impl_next_any gc oc _ cc gR cR _ gM _ cM i bo 0 a co c S st W rfl rfl rfl ha hok hfin hn4 hil (Nat.lt_of_lt_of_le hA.lR hW.size) (Nat.lt_of_lt_of_le hA.lM hW.size) (Nat.lt_of_lt_of_le ho.lt hW.size) (hA.hR.below hW hA.lR) (hA.hM.below hW hA.lM) (ho.cells.below hW ho.lt)
            have hX : Below wr.heap.size wr wr.drew := Below.drew (Below.refl _ _)
            have x0 : wr.drew.cell? ⟨gO, k, none⟩ = some (Value.slice (some ⟨bo, 0, none⟩) a co) := q1
            have y0 : wr.drew.cell? ⟨b9, 0, none⟩ = some (Value.slice (some ⟨gc, oc, none⟩) c.length cc) := z0
            have y1 : wr.drew.cell? ⟨b9, 1, none⟩ = some (Value.slice (some ⟨gR, 0, none⟩) S.length cR) := z1
            have y2 : wr.drew.cell? ⟨b9, 2, none⟩ = some (Value.slice (some ⟨gM, 0, none⟩) S.length cM) := z2
            by_cases hmem : ownI c S i ∈ st
            · rw [if_pos hmem] at hnr hstep
              rw [hnr] at K1
              have hz : ∀ R', R = some R' → (-1 : Int) = mvS c S R' st i := fun R' _ => by rw [hmvd, if_pos hmem]
              have hx2 := hxs2 (-1) hz
              have k1 := Lib.hid K1; have Hstep := Lib.hid hstep; have Hx2 := Lib.hid hx2
              clear K1 hstep hx2 hz hxs2 hmvd hpre hnr hmem hnxt hA hfin ha
              go_wp2_with fail
              go_region_held3 (fun W => W.cell? ⟨gO, k, none⟩ = some (Value.slice (some ⟨bo, 0, none⟩) a co) ∧ W.cell? ⟨b9, 0, none⟩ = some (Value.slice (some ⟨gc, oc, none⟩) c.length cc) ∧ W.cell? ⟨b9, 1, none⟩ = some (Value.slice (some ⟨gR, 0, none⟩) S.length cR) ∧ W.cell? ⟨b9, 2, none⟩ = some (Value.slice (some ⟨gM, 0, none⟩) S.length cM))
                (first | with_reducible exact ⟨x0, y0, y1, y2⟩ | with_reducible exact ⟨keepCell hbA x0, keepCell hbA y0, keepCell hbA y1, keepCell hbA y2⟩)
                ((go_at_call 37; (with_reducible refine (k1.out _ hX).mono ?_); intro e wA hnp; (rcases hnp with ⟨-, rfl, hbA⟩ | ⟨st', hst', -⟩; rotate_left; exact absurd hst' (by simp))))
              have hBA : Below wr.heap.size wr wA := hX.trans (hbA.mono hX.size)
              have hW2 := hW.below hBA hW.lt
              have hO2 := hO.below hBA
              have hV2 := hV.below hBA
              have hM2 := (hM.below hBA hM.lt)
              have hb3 := hb.trans (hBA.mono hb.size)
              have hsz3 := Nat.le_trans hsz hBA.size
              rw [← Hstep.out] at hM2
              have hW7 := hW2
              clear hX x0 y0 y1 y2 hbA hBA hW hO hV hM hb hsz k1 q1 z0 z1 z2 ho hB hW2
              go_wp2_with (at_builtin; refine wpList_append_int_n (w := wA) rfl _ _ rfl wo.heap.size gW cW i xs (-1) hxl.out hW7 rfl rfl (by omega) ?_)
              intro g6 c6 w6 hW6 hg6 hor6
              have hO6 := hO2.grownB hg6 (hO2.1.ne hW7.toV (by decide)) hneW.out
              have hV6 := hV2.grownB hg6 (hV2.1.ne hW7.toV (by decide)) (fun r hr e => by have := HrV.out r hr; have := hW7.base; omega)
              have hM6 := hM2.same (hg6.block bM hM2.lt (fun e => hM2.neOwn hW7 (Option.some.inj e)))
              have hb6 : Below w2.heap.size w2 w6 := hb3.grown hg6 hb3.size (by intro t ht; cases ht; have := hW7.base; omega)
              have hne6 : ∀ r ∈ rs, r.1 ≠ g6 := fun r hr e => by
                rcases hor6 with h | h
                · exact hneW.out r hr (e.trans h)
                · have := (hO2.2.1 r hr).lt; omega
              have Hne6 := Lib.hid hne6
              have hsz6 : wo.heap.size ≤ w6.heap.size := Nat.le_trans hsz3 hg6.size
              have Hxl6 : Hid ((xs ++ [(-1)]).length = i + 1) := by show _ = _; rw [List.length_append, hxl.out]; rfl
              have Hc6 : Hid (contents rs = stRow c S Q k (i + 1)) := by show _ = _; rw [hcon.out, Hstep.out]
              clear hW7 hO2 hV2 hM2 hb3 hne6 hg6 hor6 hneW hcon hxl hxc
              go_wp2_with fail
              go_roundw
              case rel => exact ⟨i + 1, gO, cO, m, g6, c6, rs, xs ++ [-1], by go_num, by omega, rfl, rfl, hkm, by omega, hOV, hrl, Hc6.out, Hxl6.out, Hx2.out, Hne6.out, hM6, hO6, hV6, hW6, hb6, hsz6⟩
              case measure => simp [intOf]; omega
            · rw [if_neg hmem] at hnr hstep
              rw [hnr] at K1
              have hmv : ∀ R', R = some R' → nextL c S i st ∈ stRow c S Q k (i + 1) → idxL (stRow c S Q k (i + 1)) (nextL c S i st) = mvS c S R' st i := fun R' hR' hin => by
                obtain ⟨L, hL⟩ := hpre R' hR'
                rw [hmvd, if_neg hmem, hL, idxL_app hin]
              generalize nextL c S i st = s at *
              have hx2 : s ∈ stRow c S Q k (i + 1) → ∀ R', R = some R' → xs ++ [idxL (stRow c S Q k (i + 1)) s] = (List.range (i + 1)).map fun j => mvS c S R' st j := fun hin => hxs2 _ (fun R' hR' => hmv R' hR' hin)
              obtain ⟨b, hbl⟩ : ∃ b, s.length = b := ⟨_, rfl⟩
              have hb40 : b ≤ 40 := by have := hnxt.len; omega
              have hlenQ : (stRow c S Q k i).length = m := by rw [← hcon.out, contents_length]; exact hrl.out
              have k1 := Lib.hid K1; have Hstep := Lib.hid hstep; have Hx2 := Lib.hid hx2; have Hnxt := Lib.hid hnxt; have Hsl := Lib.hid hbl; have HlenQ := Lib.hid hlenQ
              clear K1 hstep hx2 hxs2 hmvd hpre hnr hmem hnxt hA hfin ha hmv hbl hlenQ
              go_wp2_with fail
              go_region_held3 (fun W => W.cell? ⟨gO, k, none⟩ = some (Value.slice (some ⟨bo, 0, none⟩) a co) ∧ W.cell? ⟨b9, 0, none⟩ = some (Value.slice (some ⟨gc, oc, none⟩) c.length cc) ∧ W.cell? ⟨b9, 1, none⟩ = some (Value.slice (some ⟨gR, 0, none⟩) S.length cR) ∧ W.cell? ⟨b9, 2, none⟩ = some (Value.slice (some ⟨gM, 0, none⟩) S.length cM))
                (first | with_reducible exact ⟨x0, y0, y1, y2⟩ | with_reducible exact ⟨keepCell hbA x0, keepCell hbA y0, keepCell hbA y1, keepCell hbA y2⟩)
                ((go_at_call 37; (with_reducible refine (k1.out _ hX).mono ?_); intro e wA hnp; (rcases hnp with ⟨hno, -⟩ | ⟨st', hst', g5, c5, rfl, ho5, hbA⟩; (exact absurd hno (by simp)); obtain rfl : s = st' := Option.some.inj hst'; rw [Hsl.out])))
              have hBA : Below wr.heap.size wr wA := hX.trans (hbA.mono hX.size)
              have hW2 := hW.below hBA hW.lt
              have hO2 := hO.below hBA
              have hV2 := hV.below hBA
              have hM2 := (hM.below hBA hM.lt)
              have hb3 := hb.trans (hBA.mono hb.size)
              have hsz3 := Nat.le_trans hsz hBA.size
              have ho5w : Own wA w2.heap.size g5 c5 s := ho5.mono (Nat.le_trans hb.size hX.size)
              have hne5 : ∀ r ∈ rs, r.1 ≠ g5 := fun r hr e => by
                have h1 := (hO.2.1 r hr).lt
                have h2 := ho5.base
                have h3 := hX.size
                omega
              have hne5W : g5 ≠ gW := fun e => by
                have h1 := hW.lt
                have h2 := ho5.base
                have h3 := hX.size
                omega
              have hkey := impl_stateKey_any g5 0 b c5 s wA Hsl.out (by rw [Hsl.out]; omega) (Hnxt.out.ok (by omega)) ho5.lt ho5.cells
              have Hkey := Lib.hid hkey; have Hne5 := Lib.hid hne5
              clear hX x0 y0 y1 y2 hbA hBA hW hO hV hM hb hsz k1 q1 z0 z1 z2 ho hB hkey hne5 ho5
              go_wp2_with fail
              refine Hkey.out.mono ?_
              rintro e w7 ⟨rfl, hb7⟩
              have hW7 := hW2.below hb7 hW2.lt
              have hO7 := hO2.below hb7
              have hV7 := hV2.below hb7
              have hM7 := hM2.below hb7 hM2.lt
              have hB7 := hb3.trans (hb7.mono hb3.size)
              have hsz7 := Nat.le_trans hsz3 hb7.size
              have ho7 := ho5w.below hb7 ho5w.lt
              clear hW2 hO2 hV2 hM2 hb3 hsz3 ho5w hb7 Hkey
              by_cases hin : s ∈ stRow c S Q k i
              · have hst2 := Hstep.out
                rw [if_pos hin] at hst2
                have hx3 := Hx2.out (by rw [hst2]; exact hin)
                rw [hst2] at hx3
                have Hst2 := Lib.hid hst2; have Hx3 := Lib.hid hx3; have Hin := Lib.hid hin
                have Hdin := Lib.hid (decide_eq_true hin)
                clear hst2 hx3 hin Hstep Hx2
                go_wp2_with (first | (at_lookup; refine wpList_ats_look rfl _ _ rfl bM m S.length (stRow c S Q k i) s hS40 Hnxt.out hM7 rfl rfl true Hdin.out ?_; intro z) | (at_lookup; refine wpList_ats_get rfl _ _ rfl bM m S.length (stRow c S Q k i) s hS40 Hnxt.out Hin.out hM7 rfl rfl ?_) | (at_builtin; refine wpList_append_int_n (w := w7) rfl _ _ rfl wo.heap.size gW cW i xs (idxL (stRow c S Q k i) s) hxl.out hW7 rfl rfl (by omega) ?_))
                intro g6 c6 w6 hW6 hg6 hor6
                have hO6 := hO7.grownB hg6 (hO7.1.ne hW7.toV (by decide)) hneW.out
                have hV6 := hV7.grownB hg6 (hV7.1.ne hW7.toV (by decide)) (fun r hr e => by have := HrV.out r hr; have := hW7.base; omega)
                have hM6 := hM7.same (hg6.block bM hM7.lt (fun e => hM7.neOwn hW7 (Option.some.inj e)))
                have hb6 : Below w2.heap.size w2 w6 := hB7.grown hg6 hB7.size (by intro t ht; cases ht; have := hW7.base; omega)
                have hne6 : ∀ r ∈ rs, r.1 ≠ g6 := fun r hr e => by
                  rcases hor6 with h | h
                  · exact hneW.out r hr (e.trans h)
                  · have := (hO7.2.1 r hr).lt; omega
                have Hne6 := Lib.hid hne6
                have hsz6 : wo.heap.size ≤ w6.heap.size := Nat.le_trans hsz7 hg6.size
                have Hxl6 : Hid ((xs ++ [idxL (stRow c S Q k i) s]).length = i + 1) := by show _ = _; rw [List.length_append, hxl.out]; rfl
                have Hc6 : Hid (contents rs = stRow c S Q k (i + 1)) := by show _ = _; rw [hcon.out, Hst2.out]
                rw [← Hst2.out] at hM6
                clear hW7 hO7 hV7 hM7 hB7 hne6 hg6 hor6 hneW hcon hxl hxc ho7
                go_wp2_with fail
                go_roundw
                case rel => exact ⟨i + 1, gO, cO, m, g6, c6, rs, xs ++ [idxL (stRow c S Q k i) s], by go_num, by omega, rfl, rfl, hkm, by omega, hOV, hrl, Hc6.out, Hxl6.out, Hx3.out, Hne6.out, hM6, hO6, hV6, hW6, hb6, hsz6⟩
                case measure => simp [intOf]; omega
              · have hst2 := Hstep.out
                rw [if_neg hin] at hst2
                have hx3 := Hx2.out (by rw [hst2]; simp)
                rw [hst2] at hx3
                have Hst2 := Lib.hid hst2; have Hx3 := Lib.hid hx3; have Hin := Lib.hid hin
                have Hdin := Lib.hid (decide_eq_false hin)
                clear hst2 hx3 hin Hstep Hx2
                have hm1 : m < 1048576 := by omega
                go_wp2_with (first | (at_lookup; refine wpList_ats_look rfl _ _ rfl bM m S.length (stRow c S Q k i) s hS40 Hnxt.out hM7 rfl rfl false Hdin.out ?_; intro z) | (at_mapUpdate; refine wpList_ats_put rfl _ _ _ rfl bM m S.length (stRow c S Q k i) s hS40 Hnxt.out Hin.out HlenQ.out hM7 hm1 rfl rfl rfl ?_))
                intro w8 hM8 hg8
                have hO8 := hM7.rows hO7 hg8
                have hV8 := hM7.rows hV7 hg8
                have hW8 := hW7.grown hg8 (fun e => hM7.neOwn hW7 (Option.some.inj e).symm)
                have ho8 := ho7.grown hg8 (fun e => hM7.neOwn ho7 (Option.some.inj e).symm)
                have hB8 : Below w2.heap.size w2 w8 := hB7.grown hg8 hB7.size (by intro t ht; cases ht; exact hbM2)
                have hsz8 := Nat.le_trans hsz7 hg8.size
                clear hO7 hV7 hW7 ho7 hB7 hsz7 hM7 hg8
                go_wp2_with (at_builtin; refine wpList_append_row (w := w8) rfl _ _ rfl w2.heap.size gO cO m w8.heap.size rs (g5, c5, s) _ hrl.out (by unfold rowVal; rw [Hsl.out]) rfl hO8 ho8 Hne5.out rfl rfl (by omega) ?_)
                intro g9 c9 w9 hO9 hg9 hor9
                have hV9 := hV8.grownB hg9 (Ne.symm hOV) (fun r hr e => hO8.1.ne (hV8.2.1 r hr).toV (by decide) e.symm)
                have hW7 := hW8.grown hg9 (fun e => hO8.1.ne hW8.toV (by decide) (Option.some.inj e).symm)
                have hM9 := hM8.same (hg9.block bM hM8.lt (fun e => hM8.neRows hO8 (Option.some.inj e)))
                have hB9 : Below w2.heap.size w2 w9 := hB8.grown hg9 hB8.size (by intro t ht; cases ht; exact hO8.base)
                have hsz9 := Nat.le_trans hsz8 hg9.size
                have hOV9 : g9 ≠ gV := fun e => by
                  rcases hor9 with h | h
                  · exact hOV (h.symm.trans e)
                  · have := hV8.lt; omega
                have hne9 : ∀ r ∈ rs ++ [(g5, c5, s)], r.1 ≠ gW := fun r hr => by
                  rcases List.mem_append.1 hr with h | h
                  · exact hneW.out r h
                  · rw [List.mem_singleton] at h; subst h; exact hne5W
                have Hne9 := Lib.hid hne9
                have Hin2 : Hid (s ∈ stRow c S Q k i ++ [s]) := by show _ ∈ _; simp
                clear hne9 hO8 hV8 hW8 hM8 hB8 hsz8 hg9 hor9 ho8
                go_wp2_with (first | (at_lookup; refine wpList_ats_get rfl _ _ rfl bM (m + 1) S.length (stRow c S Q k i ++ [s]) s hS40 Hnxt.out Hin2.out hM9 rfl rfl ?_) | (at_builtin; refine wpList_append_int_n (w := w9) rfl _ _ rfl wo.heap.size gW cW i xs (idxL (stRow c S Q k i ++ [s]) s) hxl.out hW7 rfl rfl (by omega) ?_))
                intro g6 c6 w6 hW6 hg6 hor6
                have hO6 := hO9.grownB hg6 (hO9.1.ne hW7.toV (by decide)) Hne9.out
                have hV6 := hV9.grownB hg6 (hV9.1.ne hW7.toV (by decide)) (fun r hr e => by have := HrV.out r hr; have := hW7.base; omega)
                have hM6 := hM9.same (hg6.block bM hM9.lt (fun e => hM9.neOwn hW7 (Option.some.inj e)))
                have hb6 : Below w2.heap.size w2 w6 := hB9.grown hg6 hB9.size (by intro t ht; cases ht; have := hW7.base; omega)
                have hne6 : ∀ r ∈ rs ++ [(g5, c5, s)], r.1 ≠ g6 := fun r hr e => by
                  rcases hor6 with h | h
                  · exact Hne9.out r hr (e.trans h)
                  · have := (hO9.2.1 r hr).lt; omega
                have Hne6 := Lib.hid hne6
                have hsz6 : wo.heap.size ≤ w6.heap.size := Nat.le_trans hsz9 hg6.size
                have Hxl6 : Hid ((xs ++ [idxL (stRow c S Q k i ++ [s]) s]).length = i + 1) := by show _ = _; rw [List.length_append, hxl.out]; rfl
                have Hc6 : Hid (contents (rs ++ [(g5, c5, s)]) = stRow c S Q k (i + 1)) := by show _ = _; rw [Hst2.out, ← hcon.out]; simp [contents]
                have Hl6 : Hid ((rs ++ [(g5, c5, s)]).length = m + 1) := by show _ = _; rw [List.length_append, hrl.out]; rfl
                rw [← Hst2.out] at hM6
                clear hW7 hO9 hV9 hM9 hB9 hne6 hg6 hor6 hneW hcon hxl hxc
                go_wp2_with fail
                go_roundw
                case rel => exact ⟨i + 1, g9, c9, m + 1, g6, c6, rs ++ [(g5, c5, s)], xs ++ [idxL (stRow c S Q k i ++ [s]) s], by go_num, by omega, rfl, rfl, by omega, by omega, hOV9, Hl6.out, Hc6.out, Hxl6.out, Hx3.out, Hne6.out, hM6, hO6, hV6, hW6, hb6, hsz6⟩
                case measure => simp [intOf]; omega
          · obtain rfl : i = c.length := by omega
            have hneR : ∀ s ∈ rsV, s.1 ≠ gW := fun s hs e => by
              have h1 := HrV.out s hs
              have h2 := hW.base
              omega
            have hmvk : ∀ R', R = some R' → contents (rsV ++ [(gW, cW, xs)]) = (mvT c S R').take (k + 1) := fun R' hR' => by
              have h1 := hgo.out
              rw [hR'] at h1
              obtain ⟨L, hL⟩ := stGo_pre _ _ _ _ h1
              have hk1 : k < R'.length := by rw [hL, List.length_append]; have := HkQ.out; omega
              have hk2 : R'.getD k [] = Q.getD k [] := by rw [hL]; simp only [List.getD]; rw [List.getElem?_append_left HkQ.out]
              rw [mvT_take hk1, hk2, ← hvc.out R' hR', ← hxc.out R' hR']
              simp [contents]
            have hlenQ : (stRow c S Q k c.length).length = m := by rw [← hcon.out, contents_length]; exact hrl.out
            have hover : 100 < m → R = none := fun h => by
              rw [← hgo.out, show 101 - k = (100 - k) + 1 by omega]
              exact stGo_over HkQ.out (by rw [hlenQ]; exact h)
            have hnext : m ≤ 100 → stGo c S (101 - (k + 1)) (k + 1) (stRow c S Q k c.length) = R := fun h => by
              rw [← hgo.out, show 101 - k = (101 - (k + 1)) + 1 by omega]
              exact (stGo_next HkQ.out (by rw [hlenQ]; exact h)).symm
            have hst2 := hst.out.row hok (k := k) c.length (Nat.le_refl _)
            have Hover := Lib.hid hover; have Hnext := Lib.hid hnext; have Hst2 := Lib.hid hst2; have Hmvk := Lib.hid hmvk; have HneR := Lib.hid hneR
            clear hover hnext hst2 hmvk hneR hlenQ
            go_wp2_with (at_builtin; refine wpList_append_row (w := wr) rfl _ _ rfl w2.heap.size gV cV k wr.heap.size rsV (gW, cW, xs) _ hvl.out (by unfold rowVal; rw [hxl.out]) rfl hV (hW.mono hwos) HneR.out rfl rfl (by omega) ?_)
            intro g6 c6 w6 hV6 hg6 hor6
            have hO6 := hO.grownB hg6 hOV (fun r hr e => hV.1.ne (hO.2.1 r hr).toV (by decide) e.symm)
            have hM6 := hM.same (hg6.block bM hM.lt (fun e => hM.neRows hV (Option.some.inj e)))
            have hb6 : Below w2.heap.size w2 w6 := hb.grown hg6 hb.size (by intro t ht; cases ht; exact hV.base)
            have hOV6 : gO ≠ g6 := fun e => by
              rcases hor6 with h | h
              · exact hOV (e.trans h)
              · have := hO.lt; omega
            have Hl6 : Hid ((rsV ++ [(gW, cW, xs)]).length = k + 1) := by show _ = _; rw [List.length_append, hvl.out]; rfl
            clear hO hV hW hM hb hg6 hor6 hOV hxl hxc hneW
            by_cases h100 : 100 < m
            · have hv := Hover.out h100
              have Hv := Lib.hid hv
              have hB6 := hb2.trans (hb6.mono hb2.size)
              have hmI : (100 : Int) < (m : Int) := by omega
              clear hv
              go_wp2_with fail
              go_ret3
              exact .inl ⟨Hv.out, rfl, hB6⟩
            · have hmI : (m : Int) ≤ 100 := by omega
              have hnx := Hnext.out (by omega)
              have Hnx := Lib.hid hnx
              clear hnx h100
              go_wp2_with fail
              go_roundw
              case rel => exact ⟨k + 1, gO, cO, m, g6, c6, rs, rsV ++ [(gW, cW, xs)], stRow c S Q k c.length, by go_num, rfl, rfl, by omega, by omega, hOV6, hrl, hcon, Hl6.out, Hmvk.out, Hst2.out, Hnx.out, hM6, hO6, hV6, hb6⟩
              case measure => simp [intOf]; omega
      · obtain rfl : k = m := by omega
        have hQl : Q.length = k := by rw [← hcon.out, contents_length]; exact hrl.out
        have hv : R = some Q := by rw [← hgo.out]; exact stGo_done (by rw [hQl]; exact Nat.le_refl _)
        have hvq := hvc.out Q hv
        rw [List.take_of_length_le (by rw [mvT_length, hQl]; exact Nat.le_refl _)] at hvq
        have Hv := Lib.hid hv; have Hvq := Lib.hid hvq; have HQl := Lib.hid hQl
        clear hv hgo hst hvq hQl hvc
        have hB := hb2.trans (hb.mono hb2.size)
        have hO' := hO.mono hb2.size
        have hV' := hV.mono hb2.size
        go_wp2_with fail
        go_ret3
        exact .inr ⟨Q, gO, cO, rs, gV, cV, rsV, Hv.out, by rw [HQl.out]; rfl, hcon.out, hO', Hvq.out, hV', hB⟩
theorem rowsFew_of40 {rows : List (List Int)} (h1 : rows.length ≤ 200) (h2 : ∀ x ∈ rows, x.length ≤ 40) : rowsFew rows := by
  have h3 : ∀ j, j < rows.length → (rows.getD j []).length ≤ 40 := fun j hj => h2 _ (by simp [List.getD, hj])
  refine ⟨by omega, fun j hj => by have := h3 j hj; omega, ?_⟩
  have : ∀ k, k ≤ rows.length → sumLen rows k ≤ 40 * k := by
    intro k
    induction k with
    | zero => intro _; simp [sumLen]
    | succ k ih =>
      intro hk
      rw [sumLen_succ _ _ (by omega)]
      have := h3 k (by omega)
      have := ih (by omega)
      omega
  have := this rows.length (Nat.le_refl _)
  omega
theorem stR_few (c : List (List Int)) : ((stR c).getD []).length ≤ 200 ∧ ∀ x ∈ (stR c).getD [], x.length ≤ 40 := by
  unfold stR
  split
  · rename_i h
    rcases smallA_cases c with ⟨h1, -⟩ | ⟨-, -, hok⟩
    · rw [h1] at h; exact absurd h (by simp)
    · cases hR : statesR c (smallA c) with
      | none => simp
      | some Q =>
        obtain ⟨h1, h2, -⟩ := statesR_ok hok hR
        have := hok.len
        exact ⟨by simp; omega, fun x hx => by have := (h1.fine x (by simpa using hx)).len; omega⟩
  · simp
set_option maxHeartbeats 1000000 in
theorem impl_StatesOf_any (gc oc n cc : Nat) (c : List (List Int)) (w : World) (hn : c.length = n) (hl : c.length ≤ 1048576) (hrl : ∀ j, j < c.length → (c.getD j []).length ≤ 1048576) (hgc : gc < w.heap.size) (hr : Rows2 w gc oc c) :
    Calls Tryz.prog 8 #[(Value.slice (some ⟨gc, oc, none⟩) n cc)] w (GotRowsB w ((stR c).getD []) (stR c).isSome) := by
  have hcall := impl_states_any gc oc n cc c w hn hl hrl hgc hr
  have Hcall := Lib.hid hcall
  generalize stR c = R at *
  clear hcall hr hrl
  go_enter Tryz.func8, Tryz.ntmps8
  go_wp2_with fail
  refine Hcall.out.mono ?_
  intro e w1 hp
  rcases hp with ⟨hR, rfl, hb1⟩ | ⟨Q, g, cap, rs, gV, cV, rsV, hR, rfl, hcon, hO, -, -, hb1⟩
  · have HR := Lib.hid hR
    clear hR Hcall
    go_wp2_with fail
    go_ret2
    exact GotRowsB.none HR.out (GotRowsB.nil hb1)
  · have HR := Lib.hid hR; have Hcon := Lib.hid hcon
    obtain ⟨m, hm⟩ : ∃ m, Q.length = m := ⟨_, rfl⟩
    rw [hm]
    have Hm := Lib.hid hm
    clear hR hcon hm Hcall
    go_wp2_with fail
    go_ret2
    exact GotRowsB.some' HR.out (GotRowsB.mk' g cap rs (by rw [← Hm.out, ← Hcon.out, contents_length]) Hcon.out hO hb1)
end Go.Proofs.YtmplcohpinghbaaGreatDoor
