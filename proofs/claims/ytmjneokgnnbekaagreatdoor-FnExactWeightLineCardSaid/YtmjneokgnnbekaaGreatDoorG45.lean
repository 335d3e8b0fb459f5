/- Dimensions by Weyl's formula, by the program: contract. -/
import Derived.Test.YtmjneokgnnbekaaGreatDoorG44
namespace Go.Proofs.YtmjneokgnnbekaaGreatDoor
set_option maxRecDepth 100000
open Go.RowKit Game

theorem natI_set (l : List Nat) (k v : Nat) : natI (l.set k v) = (natI l).set k (v : Int) := by simp [natI, List.map_set]
theorem natI_take (l : List Nat) {k : Nat} (hk : k < l.length) : natI (l.take (k + 1)) = natI (l.take k) ++ [((l.getD k 0 : Nat) : Int)] := by
  rw [List.take_succ_eq_append_getElem hk]
  show (l.take k ++ [l[k]]).map _ = _
  rw [List.map_append]
  congr 1
  simp [List.getD, hk]
theorem natI_getD {l : List Nat} {k : Nat} (hk : k < l.length) : (natI l).getD k 0 = ((l.getD k 0 : Nat) : Int) := by simp [natI, List.getD, hk]
/-- what a round of the program's inner loop wants to know -/
structure RdRnd (x y : Nat) : Prop where
  g0 : ((Nat.gcd x y : Nat) : Int) ≠ 0
  g1 : (((Nat.gcd x y : Nat) : Int) == 0) = false
  d1 : wrap64 (Int.tdiv (x : Int) ((Nat.gcd x y : Nat) : Int)) = ((x / Nat.gcd x y : Nat) : Int)
  d2 : wrap64 (Int.tdiv (y : Int) ((Nat.gcd x y : Nat) : Int)) = ((y / Nat.gcd x y : Nat) : Int)
theorem rdRnd {x y m : Nat} (hx : 0 < x) (hxm : x ≤ m) (hym : y ≤ m) (hm : m < 2 ^ 62) : RdRnd x y := by
  have hg : 0 < Nat.gcd x y := Nat.gcd_pos_of_pos_left _ hx
  have key : ∀ (z G : Nat), z ≤ m → wrap64 (Int.tdiv (z : Int) (G : Int)) = ((z / G : Nat) : Int) := fun z G hz => by
    have h2 : (2 : Nat) ^ 62 = 4611686018427387904 := by decide
    have := Nat.div_le_self z G
    rw [tdiv_nat]
    generalize z / G = q at *
    exact IntWalk.wrap64_in _ ⟨by omega, by omega⟩
  exact ⟨by omega, by rw [beq_eq_false_iff_ne]; omega, key _ _ hxm, key _ _ hym⟩
theorem rdTo_len {x : Nat} {bs : List Nat} : ∀ k, (rdTo x bs k).2.length = bs.length
  | 0 => rfl
  | k + 1 => by
    show ((rdTo x bs k).2.set k _).length = _
    rw [List.length_set]; exact rdTo_len k
theorem dmTo_len {us bs : List Nat} : ∀ k, (dmTo us bs k).2.length = bs.length
  | 0 => rfl
  | k + 1 => by
    show (rdTo (us.getD k 0) (dmTo us bs k).2 (dmTo us bs k).2.length).2.length = _
    rw [rdTo_len]; exact dmTo_len k
/-- all that the program's second loop wants to know -/
structure DmAll (us bs : List Nat) : Prop where
  len : us.length = bs.length
  out : ∀ k, k < us.length → us.getD k 0 < 2 ^ 62 ∧ ∀ j, j < bs.length → RdRnd (rdTo (us.getD k 0) (dmTo us bs k).2 j).1 ((rdTo (us.getD k 0) (dmTo us bs k).2 j).2.getD j 0)
  mul : ∀ k, k < us.length → wrap64 (((dmTo us bs k).1 : Int) * ((rdTo (us.getD k 0) (dmTo us bs k).2 bs.length).1 : Int)) = (((dmTo us bs (k + 1)).1 : Nat) : Int)
theorem dmAll {v : List Int} {L : List (List Int)} (h : DimOk v L) : DmAll (abL v L) (beL L) := by
  have hle := h.le
  have hleb := h.leb
  have hal : ∀ k, k < (abL v L).length → (abL v L).getD k 0 < 2 ^ 62 := fun k hk => by
    have h1 : pTo (abL v L) (k + 1) = pTo (abL v L) k * (abL v L).getD k 0 := rfl
    have h2 := pTo_pos h.pa k (by omega)
    have h3 := pTo_mono h.pa ((abL v L).length - (k + 1)) (k + 1) (by omega)
    rw [show k + 1 + ((abL v L).length - (k + 1)) = (abL v L).length by omega, h1] at h3
    have h4 : (abL v L).getD k 0 ≤ pTo (abL v L) k * (abL v L).getD k 0 := Nat.le_mul_of_pos_left _ h2
    omega
  have hbl : ∀ k, k < (beL L).length → (beL L).getD k 0 < 2 ^ 62 := fun k hk => by
    have h1 : pTo (beL L) (k + 1) = pTo (beL L) k * (beL L).getD k 0 := rfl
    have h2 := pTo_pos h.pb k (by omega)
    have h3 := pTo_mono h.pb ((beL L).length - (k + 1)) (k + 1) (by omega)
    rw [show k + 1 + ((beL L).length - (k + 1)) = (beL L).length by omega, h1] at h3
    have h4 : (beL L).getD k 0 ≤ pTo (beL L) k * (beL L).getD k 0 := Nat.le_mul_of_pos_left _ h2
    omega
  refine ⟨h.len, fun k hk => ⟨hal k hk, fun j hj => ?_⟩, fun k hk => ?_⟩
  · have hd := dmOk h.pa h.pb k (by omega)
    have hr := rdOk (x := (abL v L).getD k 0) (bs := (dmTo (abL v L) (beL L) k).2) (h.pa k hk) (fun i hi => hd.bpos i (by rw [hd.len] at hi; exact hi)) j (by rw [hd.len]; omega)
    have b1 := Nat.le_of_dvd (h.pa k hk) hr.dvx
    have b2 := Nat.le_of_dvd (h.pb j hj) (Nat.dvd_trans (hr.dvd j (by rw [hd.len]; exact hj)) (hd.dvd j hj))
    have := hal k hk
    have := hbl j hj
    exact rdRnd (m := 2 ^ 62 - 1) hr.pos (by omega) (by omega) (by omega)
  · have hd := dmOk h.pa h.pb (k + 1) (by omega)
    have h3 := pTo_mono h.pa ((abL v L).length - (k + 1)) (k + 1) (by omega)
    rw [show k + 1 + ((abL v L).length - (k + 1)) = (abL v L).length by omega] at h3
    have e : (dmTo (abL v L) (beL L) (k + 1)).1 = (dmTo (abL v L) (beL L) k).1 * (rdTo ((abL v L).getD k 0) (dmTo (abL v L) (beL L) k).2 (beL L).length).1 := by
      show (dmTo (abL v L) (beL L) k).1 * (rdTo ((abL v L).getD k 0) (dmTo (abL v L) (beL L) k).2 (dmTo (abL v L) (beL L) k).2.length).1 = _
      rw [dmTo_len]
    have hl := hd.le
    rw [e] at hl ⊢
    generalize (dmTo (abL v L) (beL L) k).1 = p at *
    generalize (rdTo ((abL v L).getD k 0) (dmTo (abL v L) (beL L) k).2 (beL L).length).1 = q at *
    have e2 : ((p : Int) * (q : Int)) = ((p * q : Nat) : Int) := by simp
    rw [e2]
    have h2 : (2 : Nat) ^ 62 = 4611686018427387904 := by decide
    generalize p * q = z at *
    exact IntWalk.wrap64_in _ ⟨by omega, by omega⟩

theorem OwnRows.grownD {w w' : World} {B g cap k H : Nat} {rs : List RowRef} (h : OwnRows w B g cap rs) (hg : w.grownBy w' (some k)) (h1 : g < H ∧ ∀ r ∈ rs, r.1 < H) (hk : H ≤ k) : OwnRows w' B g cap rs :=
  ⟨h.1.grown hg (fun e => by have := Option.some.inj e; omega), fun r hr => (h.2.1 r hr).grown hg (fun e => by have := Option.some.inj e; have := h1.2 r hr; omega), h.2.2⟩
set_option maxHeartbeats 1000000 in
theorem impl_WeylDimension_any (gc oc n cc g o m cv : Nat) (c : List (List Int)) (v : List Int) (w : World) (hn : c.length = n) (hm : v.length = m) (hx : c.length ≤ 1048576) (hvx : v.length ≤ 1048576)
    (hrl : ∀ j, j < c.length → (c.getD j []).length ≤ 1048576) (hgc : gc < w.heap.size) (hg : g < w.heap.size) (hr : Rows2 w gc oc c) (hv : Cells w g o v) :
    Calls Tryz.prog 23 #[(Value.slice (some ⟨gc, oc, none⟩) n cc), (Value.slice (some ⟨g, o, none⟩) m cv)] w (Gives w (dimV c v)) := by
  subst hn; subst hm
  have Hp := Lib.hid (impl_PositiveCoroots_any gc oc _ cc c w rfl hx hrl hgc hr)
  have Hs := Lib.hid (fun W (hW : Below w.heap.size w W) => impl_isSmall_any gc oc _ cc g o _ cv c v W rfl rfl hx hvx (hv.below hW hg))
  cases hf : finB c with
  | false =>
    rw [hf] at Hp
    have Hz := Lib.hid (dimV_no (v := v) (show dimB c v = false by unfold dimB; rw [hf]; rfl))
    clear hf Hs hr hv hrl
    generalize coA c = A at *
    go_enter Tryz.func23, Tryz.ntmps23
    go_wp2_with fail
    refine Hp.out.mono ?_
    rintro e w1 ⟨g1, c1, rs1, rfl, -, -, hb1⟩
    go_wp2_with fail
    go_ret2
    exact ⟨congrArg Ending.returned Hz.out.symm, hb1⟩
  | true =>
    rw [hf] at Hp
    rw [coA_fin hf] at Hp
    have hK := coOk_fin hf
    have hC := finB_isC hf
    by_cases hsm : Sml c.length v
    · rw [decide_eq_true hsm] at Hs
      by_cases h16 : (coL c).length ≤ 16
      · have hD := dimOk hK h16 hsm
        have Hz := Lib.hid (dimV_yes (v := v) (show dimB c v = true by unfold dimB; rw [hf, decide_eq_true hsm, decide_eq_true h16]; rfl))
        have hq : (dmTo (abL v (coL c)) (beL (coL c)) (abL v (coL c)).length).1 = dimN c v := dmTo_eq hD.len hD.pa hD.pb hD.dvd
        have hA := dmAll hD
        have hro : ∀ k, k < (coL c).length → RowOk c.length v ((coL c).getD k []) := fun k hk => by
          have hm := coL_mem hK ((coL c).getD k []) (by simp [List.getD, hk])
          exact RowOk.of hsm hm.1 hm.2.2 hC.2.1
        have hab : ∀ k, k < (coL c).length → (abL v (coL c)).getD k 0 = nS v ((coL c).getD k []) c.length := fun k hk => by rw [← hsm.1]; simp [abL, List.getD, hk]
        have hbe : ∀ k, k < (coL c).length → (beL (coL c)).getD k 0 = sumN ((coL c).getD k []) := fun k hk => by simp [beL, List.getD, hk]
        have hal : (abL v (coL c)).length = (coL c).length := by simp [abL]
        have hbl : (beL (coL c)).length = (coL c).length := by simp [beL]
        have hn4 := hC.2.1
        have hvl := hsm.1
        rw [hvl] at Hs
        rw [hvl]
        rw [hal] at hq
        have Hvl := Lib.hid hvl
        clear hvl
        generalize hLe : coL c = L at *
        have Hro := Lib.hid hro
        generalize abL v L = us at *
        generalize beL L = bs at *
        have Hab := Lib.hid hab; have Hbe := Lib.hid hbe; have Hq := Lib.hid hq; have HA := Lib.hid hA; have Hal := Lib.hid hal; have Hbl := Lib.hid hbl
        clear hro hab hbe hq hA hD hK hf hsm hrl hr hLe hal hbl
        have hL16 : L.length ≤ 16 := h16
        have hL16' : decide ((16 : Int) < (L.length : Int)) = false := decide_eq_false (by omega)
        go_enter Tryz.func23, Tryz.ntmps23
        go_wp2_with fail
        refine Hp.out.mono ?_
        rintro e w1 ⟨g1, c1, rs1, rfl, hc1, ho1, hb1⟩
        have Hc1 := Lib.hid hc1; clear hc1
        have hs1 := Lib.hid (Hs.out w1 hb1)
        go_wp2_with fail
        refine hs1.out.mono ?_
        rintro e w2 ⟨rfl, hsx⟩
        have ho2 := ho1.still hsx
        have hb2 := below_still hb1 hsx
        have Hlen := Lib.hid (show rs1.length = L.length by rw [← Hc1.out, contents_length])
        clear hs1 ho1 hb1 hsx h16
        go_wp2_with fail
        have hbA : Below w.heap.size w (w2.alloc (.cells #[] 3)) := hb2.alloc hb2.size _
        have hbB : Below w.heap.size w ((w2.alloc (.cells #[] 3)).alloc (.cells #[] 3)) := hbA.alloc hbA.size _
        have hoA : Own ((w2.alloc (.cells #[] 3)).alloc (.cells #[] 3)) w2.heap.size w2.heap.size 0 [] := (Own.empty (w := w2) (Nat.le_refl _)).alloc _
        have hoB : Own ((w2.alloc (.cells #[] 3)).alloc (.cells #[] 3)) w2.heap.size (w2.alloc (.cells #[] 3)).heap.size 0 [] := Own.empty (w := w2.alloc (.cells #[] 3)) (by simp)
        have hRB := Lib.hid (show g1 < w2.heap.size ∧ ∀ r ∈ rs1, r.1 < w2.heap.size from ⟨ho2.lt, fun r hr => (ho2.2.1 r hr).lt⟩)
        have hHw := hb2.size
        have hoR : OwnRows ((w2.alloc (.cells #[] 3)).alloc (.cells #[] 3)) w.heap.size g1 c1 rs1 := (ho2.below ((Below.refl _ _).alloc (Nat.le_refl _) _)).below ((Below.refl _ _).alloc (Nat.le_refl _) _)
        have e2 : (w2.alloc (.cells #[] 3)).heap.size = w2.heap.size + 1 := by simp
        rw [e2] at hoB
        have hneAB : w2.heap.size ≠ w2.heap.size + 1 := by omega
        clear e2
        generalize w2.heap.size = H1 at *
        generalize (w2.alloc (.cells #[] 3)).alloc (.cells #[] 3) = w3 at *
        clear hb2 ho2 hbA
        go_loopw [8, 9, 39] (fun av bv kv wr => ∃ (k gA cA gB cB : Nat), k ≤ L.length ∧ kv = .int .i64 k ∧ av = (Value.slice (some ⟨gA, 0, none⟩) k cA) ∧ bv = (Value.slice (some ⟨gB, 0, none⟩) k cB) ∧ gA ≠ gB ∧ Own wr H1 gA cA (natI (us.take k)) ∧ Own wr H1 gB cB (natI (bs.take k)) ∧ OwnRows wr w.heap.size g1 c1 rs1 ∧ Below w.heap.size w wr) (fun _ _ kv _ => L.length - (intOf kv).toNat)
        case atStart => exact ⟨0, _, 0, _, 0, Nat.zero_le _, rfl, rfl, rfl, hneAB, hoA, hoB, hoR, hbB⟩
        case round =>
          clear hoA hoB hoR hbB hneAB
          obtain ⟨k, gA, cA, gB, cB, hk, rfl, rfl, rfl, hAB, hoA, hoB, hoR, hb⟩ := hrel
          by_cases hlt : k < L.length
          · have hkr : k < rs1.length := by rw [Hlen.out]; exact hlt
            have hR := Hro.out k hlt
            have hta := natI_take us (k := k) (by rw [Hal.out]; exact hlt)
            have htb := natI_take bs (k := k) (by rw [Hbl.out]; exact hlt)
            rw [Hab.out k hlt] at hta
            rw [Hbe.out k hlt] at htb
            have hx0 : L.getD k [] = rs1[k].2.2 := by rw [← Hc1.out]; simp [contents, List.getD, hkr]
            rw [hx0] at hR hta htb
            have hcl : wr.cell? ⟨g1, k, none⟩ = some (rowVal rs1[k]) := by rw [hoR.1.cell k (by simpa using hkr)]; simp
            have HOf : Hid (∀ W, OwnRows W w.heap.size g1 c1 rs1 → Own W w.heap.size rs1[k].1 rs1[k].2.1 rs1[k].2.2) := Lib.hid (fun W h => h.2.1 _ (List.getElem_mem hkr))
            generalize rs1[k] = ro at *
            obtain ⟨bo, co, r⟩ := ro
            have hRl : r.length = c.length := hR.rl
            have k1 : wr.cell? ⟨g1, k, none⟩ = some (Value.slice (some ⟨bo, 0, none⟩) c.length co) := by rw [hcl]; show some (Value.slice (some ⟨bo, 0, none⟩) r.length co) = _; rw [hRl]
            have HO : Hid (∀ W, OwnRows W w.heap.size g1 c1 rs1 → Own W w.heap.size bo co r) := HOf
            have hboth := hR.both
            have hhei := hR.height
            have hbd := hR.nS_le c.length (Nat.le_refl _)
            have Hpa := Lib.hid (fun W (hW : Below w.heap.size w W) (h3 : Cells W bo 0 r) => impl_PairingOf_any g o c.length cv bo 0 co v r W Hvl.out hRl (by omega) (hv.below hW hg) h3)
            have Hhe := Lib.hid (fun W (h3 : Cells W bo 0 r) => impl_HeightOf_any bo 0 c.length co r W hRl (by omega) h3)
            have hta' : natI (us.take (k + 1)) = natI (us.take k) ++ [((nS v r c.length : Nat) : Int)] := hta
            have htb' : natI (bs.take (k + 1)) = natI (bs.take k) ++ [((sumN r : Nat) : Int)] := htb
            have hla : (natI (us.take k)).length = k := by rw [natI_length, List.length_take]; have := Hal.out; omega
            have hlb : (natI (bs.take k)).length = k := by rw [natI_length, List.length_take]; have := Hbl.out; omega
            have hwr : wrap64 (dotTo v r c.length + heightL r) = ((nS v r c.length : Nat) : Int) := by
              rw [hboth]; exact IntWalk.wrap64_in _ ⟨by omega, by omega⟩
            rw [hhei] at Hhe hwr hboth
            generalize dotTo v r c.length = d at *
            generalize nS v r c.length = x at *
            generalize sumN r = y at *
            generalize natI (us.take k) = xs at *
            generalize natI (bs.take k) = ys at *
            have Hta := Lib.hid hta'; have Htb := Lib.hid htb'; have Hla := Lib.hid hla; have Hlb := Lib.hid hlb; have Hwr := Lib.hid hwr; have Hboth := Lib.hid hboth
            clear hR hta htb hta' htb' hx0 hcl HOf hRl hhei hla hlb hwr hbd hboth
            have hor := HO.out wr hoR
            have hc1 := Lib.hid (Hpa.out wr hb hor.cells)
            clear hor
            go_wp2_with fail
            refine hc1.out.mono ?_
            rintro e w4 ⟨rfl, hs4⟩
            have hb := below_still hb hs4
            have hoA := hoA.still hs4
            have hoB := hoB.still hs4
            have hoR := hoR.still hs4
            have hc2 := Lib.hid (Hhe.out w4 (HO.out w4 hoR).cells)
            have k1 := (cell_still hs4 _).trans k1
            clear hc1 hs4
            go_wp2_with fail
            refine hc2.out.mono ?_
            rintro e w5 ⟨rfl, hs5⟩
            have hb := below_still hb hs5
            have hoA := hoA.still hs5
            have hoB := hoB.still hs5
            have hoR := hoR.still hs5
            clear hc2 hs5
            go_wp2_with (at_builtin; refine wpList_append_int_n (w := w5) rfl _ _ rfl H1 gA cA k xs _ Hla.out hoA rfl rfl (by omega) ?_)
            intro gC cC w6 hoC hgC horC
            rw [Hwr.out, ← Hta.out] at hoC
            have hoB6 := hoB.grown hgC (by intro e; cases e; exact hAB rfl)
            have hoR6 := hoR.grownD hgC hRB.out hoA.base
            have hb6 : Below w.heap.size w w6 := hb.grown hgC hb.size (by intro t ht; cases ht; have := hoA.base; omega)
            have hCB : gC ≠ gB := fun e => by
              rcases horC with h | h
              · exact hAB (h.symm.trans e)
              · have := hoB.lt; omega
            have hc3 := Lib.hid (Hhe.out w6 (HO.out w6 hoR6).cells)
            clear horC hgC hoA hoB hoR hb hAB k1 Hpa
            go_wp2_with fail
            refine hc3.out.mono ?_
            rintro e w7 ⟨rfl, hs7⟩
            have hb7 := below_still hb6 hs7
            have hoC7 := hoC.still hs7
            have hoB7 := hoB6.still hs7
            have hoR7 := hoR6.still hs7
            clear hc3 hs7 hb6 hoC hoB6 hoR6 Hhe
            go_wp2_with (at_builtin; refine wpList_append_int_n (w := w7) rfl _ _ rfl H1 gB cB k ys _ Hlb.out hoB7 rfl rfl (by omega) ?_)
            intro gD cD w8 hoD hgD horD
            rw [← Htb.out] at hoD
            have hoC8 := hoC7.grown hgD (by intro e; cases e; exact hCB rfl)
            have hoR8 := hoR7.grownD hgD hRB.out hoB7.base
            have hb8 : Below w.heap.size w w8 := hb7.grown hgD hb7.size (by intro t ht; cases ht; have := hoB7.base; omega)
            have hCD : gC ≠ gD := fun e => by
              rcases horD with h | h
              · exact hCB (e.trans h)
              · have := hoC7.lt; omega
            clear horD hgD hoB7 hoC7 hoR7 hb7 hCB
            go_wp2_with fail
            go_roundw
            case rel => exact ⟨k + 1, gC, cC, gD, cD, by omega, by go_num, rfl, rfl, hCD, hoC8, hoD, hoR8, hb8⟩
            case measure => simp [intOf]; omega
          · obtain rfl : k = L.length := by omega
            rw [List.take_of_length_le (by rw [Hal.out]; exact Nat.le_refl _)] at hoA
            rw [List.take_of_length_le (by rw [Hbl.out]; exact Nat.le_refl _)] at hoB
            clear hoR hk
            go_wp2_with fail
            go_loopw [12, 60] (fun pv kv wr => ∃ (k : Nat) (cs : List Nat), k ≤ L.length ∧ kv = .int .i64 k ∧ pv = .int .i64 (((dmTo us bs k).1 : Nat) : Int) ∧ Hid ((dmTo us bs k).2 = cs) ∧ Own wr H1 gA cA (natI us) ∧ Own wr H1 gB cB (natI cs) ∧ Below w.heap.size w wr) (fun _ kv _ => L.length - (intOf kv).toNat)
            case atStart => exact ⟨0, bs, Nat.zero_le _, rfl, rfl, rfl, hoA, hoB, hb⟩
            case round =>
              clear hoA hoB hb
              obtain ⟨k, cs, hk, rfl, rfl, hcs, hoA, hoB, hb⟩ := hrel
              by_cases hlt : k < L.length
              · have hku : k < us.length := by rw [Hal.out]; exact hlt
                have q1 := hoA.cell k (by rw [natI_length]; exact hku)
                rw [natI_getD hku] at q1
                obtain ⟨-, hrd⟩ := HA.out.out k hku
                have hmul := HA.out.mul k hku
                rw [hcs.out, Hbl.out] at hmul
                rw [hcs.out] at hrd
                have hcl : cs.length = L.length := by rw [← hcs.out, dmTo_len, Hbl.out]
                have hnx : dmTo us bs (k + 1) = ((dmTo us bs k).1 * (rdTo (us.getD k 0) cs L.length).1, (rdTo (us.getD k 0) cs L.length).2) := by
                  rw [← hcl]
                  have h := hcs.out
                  subst h
                  rfl
                generalize us.getD k 0 = x at *
                have Hrd := Lib.hid (fun j (hj : j < L.length) => hrd j (by rw [Hbl.out]; exact hj)); have Hmul := Lib.hid hmul; have Hcl := Lib.hid hcl; have Hnx := Lib.hid hnx
                clear hrd hmul hcl hnx hcs
                generalize (dmTo us bs k).1 = P at *
                go_wp2_with fail
                go_loopw [14, 66] (fun xv jv wi => ∃ j : Nat, j ≤ L.length ∧ jv = .int .i64 j ∧ xv = .int .i64 (((rdTo x cs j).1 : Nat) : Int) ∧ Own wi H1 gA cA (natI us) ∧ Own wi H1 gB cB (natI (rdTo x cs j).2) ∧ Below w.heap.size w wi) (fun _ jv _ => L.length - (intOf jv).toNat)
                case atStart => exact ⟨0, Nat.zero_le _, rfl, rfl, hoA, hoB, hb⟩
                case round =>
                  clear hoA hoB hb q1
                  obtain ⟨j, hj, rfl, rfl, hoA, hoB, hb⟩ := hrel
                  by_cases hjl : j < L.length
                  · have hjc : j < (rdTo x cs j).2.length := by rw [rdTo_len, Hcl.out]; exact hjl
                    have q2 := hoB.cell j (by rw [natI_length]; exact hjc)
                    rw [natI_getD hjc] at q2
                    have hf2 := hoB.frozen j
                    obtain ⟨r1, r2, r3, r4⟩ := Hrd.out j hjl
                    have hn1 : (rdTo x cs (j + 1)).1 = (rdTo x cs j).1 / Nat.gcd (rdTo x cs j).1 ((rdTo x cs j).2.getD j 0) := rfl
                    have hn2 : natI (rdTo x cs (j + 1)).2 = (natI (rdTo x cs j).2).set j (((rdTo x cs j).2.getD j 0 / Nat.gcd (rdTo x cs j).1 ((rdTo x cs j).2.getD j 0) : Nat) : Int) := natI_set _ _ _
                    have hgc := fun W => impl_gcd_any (rdTo x cs j).1 ((rdTo x cs j).2.getD j 0) W
                    have hset := fun W (h : Own W H1 gB cB (natI (rdTo x cs j).2)) z => h.set j z
                    generalize natI (rdTo x cs j).2 = ys at *
                    generalize (rdTo x cs j).2.getD j 0 = b at *
                    generalize (rdTo x cs j).1 = a at *
                    generalize Nat.gcd a b = G at *
                    have Hgc := Lib.hid hgc; have Hset := Lib.hid hset; have Hn1 := Lib.hid hn1; have Hn2 := Lib.hid hn2; have Hr3 := Lib.hid r3; have Hr4 := Lib.hid r4
                    clear hgc hset hn1 hn2 r3 r4 hjc
                    go_wp2_with fail
                    refine (Hgc.out _).mono ?_
                    rintro e w4 ⟨rfl, hs4⟩
                    have hb4 := below_still hb hs4
                    have hoA4 := hoA.still hs4
                    have hoB4 := hoB.still hs4
                    have q2 := (cell_still hs4 _).trans q2
                    have hf2 := hoB4.frozen j
                    have hset := Hset.out w4 hoB4 ((b / G : Nat) : Int)
                    rw [← Hn2.out, ← Hr4.out] at hset
                    have hbS : Below w.heap.size w (w4.setCell ⟨gB, j, none⟩ (.int .i64 (wrap64 (Int.tdiv (b : Int) (G : Int))))) := hb4.grown hset.2 hb4.size (by intro t ht; cases ht; have := hoB4.base; omega)
                    have hoAS := hoA4.grown hset.2 (by intro e; cases e; exact hAB rfl)
                    have HoB := Lib.hid hset.1; have HoA := Lib.hid hoAS; have HbS := Lib.hid hbS
                    clear hoA4 hoB4 hb4 hoA hoB hb hs4 hset hbS hoAS
                    go_wp2_with fail
                    go_roundw
                    case rel => exact ⟨j + 1, by omega, by go_num, by rw [Hn1.out, ← Hr3.out, Int.tdiv_eq_ediv_of_nonneg (by omega)], HoA.out, HoB.out, HbS.out⟩
                    case measure => simp [intOf]; omega
                  · obtain rfl : j = L.length := by omega
                    generalize hyy : rdTo x cs L.length = yy at *
                    have Hyy := Lib.hid hyy; clear hyy
                    go_wp2_with fail
                    go_roundw
                    case rel => exact ⟨k + 1, yy.2, by omega, by go_num, by rw [← Hmul.out], by rw [Hnx.out]; rfl, hoA, hoB, hb⟩
                    case measure => simp [intOf]; omega
              · obtain rfl : k = L.length := by omega
                have hq := Hq.out
                have Hz2 : Hid (dimV c v = .tuple #[.int .i64 (((dmTo us bs L.length).1 : Nat) : Int), .bool true]) := Lib.hid (by rw [hq]; exact Hz.out)
                clear hq
                go_wp2_with fail
                go_ret2
                exact ⟨congrArg Ending.returned Hz2.out.symm, hb⟩
      · have hb : dimB c v = false := by unfold dimB; rw [decide_eq_false h16, Bool.and_false]
        have Hz := Lib.hid (dimV_no hb)
        have hL16' : decide ((16 : Int) < ((coL c).length : Int)) = true := decide_eq_true (by omega)
        clear hb hf hr hv hrl hK hsm h16
        generalize coL c = L at *
        go_enter Tryz.func23, Tryz.ntmps23
        go_wp2_with fail
        refine Hp.out.mono ?_
        rintro e w1 ⟨g1, c1, rs1, rfl, -, -, hb1⟩
        have hs1 := Lib.hid (Hs.out w1 hb1)
        go_wp2_with fail
        refine hs1.out.mono ?_
        rintro e w2 ⟨rfl, hsx⟩
        have hb2 := below_still hb1 hsx
        go_wp2_with fail
        go_ret2
        exact ⟨congrArg Ending.returned Hz.out.symm, hb2⟩
    · rw [decide_eq_false hsm] at Hs
      have hb : dimB c v = false := by unfold dimB; rw [decide_eq_false hsm, Bool.and_false]; rfl
      have Hz := Lib.hid (dimV_no hb)
      clear hb hf hr hv hrl hK hsm
      generalize coL c = L at *
      go_enter Tryz.func23, Tryz.ntmps23
      go_wp2_with fail
      refine Hp.out.mono ?_
      rintro e w1 ⟨g1, c1, rs1, rfl, -, -, hb1⟩
      have hs1 := Lib.hid (Hs.out w1 hb1)
      go_wp2_with fail
      refine hs1.out.mono ?_
      rintro e w2 ⟨rfl, hsx⟩
      have hb2 := below_still hb1 hsx
      go_wp2_with fail
      go_ret2
      exact ⟨congrArg Ending.returned Hz.out.symm, hb2⟩
end Go.Proofs.YtmjneokgnnbekaaGreatDoor
