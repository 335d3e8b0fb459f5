/- At every finite type the coroots go along with the search for roots: the parts together. Plain law. The reference's coroots: l26Dual, PositiveCoroots: contracts. -/
import Derived.Test.YtmjneokgnnbekaaGreatDoorG36
import Derived.Test.YtmjneokgnnbekaaGreatDoorG37
import Derived.Test.YtmjneokgnnbekaaGreatDoorG38
import Derived.Test.YtmjneokgnnbekaaGreatDoorG39
import Derived.Test.YtmjneokgnnbekaaGreatDoorG40
import Derived.Test.YtmjneokgnnbekaaGreatDoorG41
import Derived.Test.YtmjneokgnnbekaaGreatDoorG35
import Derived.Test.YtmjneokgnnbekaaGreatDoorG24
import Derived.Deep.CutBlock
namespace Go.Proofs.YtmjneokgnnbekaaGreatDoor
set_option maxRecDepth 100000
theorem co_4 : chk4 coOk = true := by
  rw [chk4_eq]
  simp only [L6, List.all_cons, List.all_nil, Bool.and_true, co_4_00, co_4_01, co_4_02, co_4_03, co_4_04, co_4_05, co_4_10, co_4_11, co_4_12, co_4_13, co_4_14, co_4_15, co_4_20, co_4_21, co_4_22, co_4_23, co_4_24, co_4_25, co_4_30, co_4_31, co_4_32, co_4_33, co_4_34, co_4_35, co_4_40, co_4_41, co_4_42, co_4_43, co_4_44, co_4_45, co_4_50, co_4_51, co_4_52, co_4_53, co_4_54, co_4_55]
theorem co_fin {c : List (List Int)} (hC : IsC c) (hf : finB c = true) : coOk c = true := fin_all coOk co_1 co_2 co_3 co_4 hC hf
end Go.Proofs.YtmjneokgnnbekaaGreatDoor
namespace Go.Proofs.YtmjneokgnnbekaaGreatDoor
set_option maxRecDepth 100000
open Go.RowKit Game

theorem upBack_len (t : List (List Int)) : ∀ (p : List Nat) (r : List Int), (upBack t p r).length = r.length
  | [], _ => rfl
  | i :: p, r => by unfold upBack; rw [upBack_len t p, mirL_length]
theorem dnGo_len (c : List (List Int)) : ∀ (f : Nat) (r : List Int) (p : List Nat), (dnGo c f r p).1.length = r.length
  | 0, _, _ => rfl
  | f + 1, r, p => by
    unfold dnGo
    split
    · rfl
    · rw [dnGo_len c f, mirL_length]
theorem coR_length (c : List (List Int)) (r : List Int) : (coR c r).length = r.length := by
  unfold coR
  simp only
  rw [upBack_len, dnGo_len]
theorem dnAt_le (c : List (List Int)) (r : List Int) : ∀ f i, dnAt c r f i ≤ i + f
  | 0, _ => Nat.le_refl _
  | f + 1, i => by
    unfold dnAt
    split
    · have := dnAt_le c r f (i + 1); omega
    · omega
theorem dnAt_go {c : List (List Int)} {r : List Int} {f i : Nat} (h : heightL r ≤ heightL (mirL c i r)) : dnAt c r (f + 1) i = dnAt c r f (i + 1) := by
  conv => lhs; unfold dnAt
  rw [if_pos h]
theorem dnAt_stop {c : List (List Int)} {r : List Int} {f i : Nat} (h : ¬ heightL r ≤ heightL (mirL c i r)) : dnAt c r (f + 1) i = i := by
  conv => lhs; unfold dnAt
  rw [if_neg h]
theorem dnGo_stop {c : List (List Int)} {f : Nat} {r : List Int} {p : List Nat} (h : dnI c r = c.length ∨ heightL r = 1) : dnGo c (f + 1) r p = (r, p) := by
  unfold dnGo; rw [if_pos h]
theorem dnGo_go {c : List (List Int)} {f : Nat} {r : List Int} {p : List Nat} (h : ¬ (dnI c r = c.length ∨ heightL r = 1)) : dnGo c (f + 1) r p = dnGo c f (mirL c (dnI c r) r) (p ++ [dnI c r]) := by
  conv => lhs; unfold dnGo
  rw [if_neg h]
theorem back_take {p : List Nat} {m : Nat} (hm : m < p.length) : (p.take (m + 1)).reverse = p[m] :: (p.take m).reverse := by
  rw [List.take_succ_eq_append_getElem hm, List.reverse_append]; rfl
def natI (p : List Nat) : List Int := p.map fun i : Nat => (i : Int)
theorem natI_length (p : List Nat) : (natI p).length = p.length := by simp [natI]
theorem natI_push (p : List Nat) (k : Nat) : natI (p ++ [k]) = natI p ++ [(k : Int)] := by simp [natI]
theorem natI_get {p : List Nat} {m : Nat} (hm : m < p.length) : (natI p).getD m 0 = ((p[m] : Nat) : Int) := by simp [natI, List.getD, hm]

/-- the way down: what holds on it -/
def DnSt (c : List (List Int)) (n : Nat) (r : List Int) (p : List Nat) (R : List Int × List Nat) : Prop :=
  dnGo c (30 - n) r p = R ∧ r.length = c.length ∧ p.length ≤ n ∧ ∀ i ∈ p, i < c.length
theorem contents_rows (L : List (List Int)) (f : List Int → List Int) {k : Nat} (hk : k < L.length) : (L.take k).map f ++ [f (L.getD k [])] = (L.take (k + 1)).map f := by
  rw [List.take_succ_eq_append_getElem hk, List.map_append]; simp [List.getD, hk]

set_option maxHeartbeats 4000000 in
theorem spec_l26Dual_ok (gc oc n cc gL oL m cL : Nat) (c L : List (List Int)) (w : World) (hn : c.length = n) (hm : L.length = m) (hC : IsC c) (hL : ∀ x ∈ L, x.length = c.length) (hfew : L.length ≤ 24) (hgc : gc < w.heap.size) (hgL : gL < w.heap.size) (hr : Rows2 w gc oc c) (hrL : Rows2 w gL oL L) :
    Calls Tryz.prog 56 #[(Value.slice (some ⟨gc, oc, none⟩) n cc), (Value.slice (some ⟨gL, oL, none⟩) m cL)] w (GotRows w (L.map (coR c))) := by
  subst hn; subst hm
  have hn4 := hC.2.1
  have hcl : ∀ j, j < c.length → (c.getD j []).length = c.length := hC.2.2.1
  have Hcl := Lib.hid hcl; clear hcl
  have Hr := Lib.hid hr; clear hr
  have HrL := Lib.hid hrL; clear hrL
  have hb0 : Below w.heap.size w (w.alloc (.cells #[] 23)) := (Below.refl _ _).alloc (Nat.le_refl _) _
  have hO0 : OwnRows (w.alloc (.cells #[] 23)) w.heap.size w.heap.size 0 [] := OwnRows.empty (Nat.le_refl _)
  have hcall := spec_TransposeCartan_any gc oc _ cc c (w.alloc (.cells #[] 23)) rfl hC (Nat.lt_of_lt_of_le hgc hb0.size) (Hr.out.below hb0 hgc)
  have Hcall := Lib.hid hcall
  clear hcall
  go_enter Tryz.func56, Tryz.ntmps56
  go_wp2_with fail
  refine Hcall.out.mono ?_
  rintro e w1 ⟨gT, cT, rsT, rfl, hcT, hT', hb1'⟩
  have hb1 := hb0.trans (hb1'.mono hb0.size)
  have hTb := hT'.base
  have hT := hT'.mono hb0.size
  have hO1 := hO0.below hb1'
  clear hb0 hb1' hT' hO0 Hcall
  rw [transL_length]
  have HcT := Lib.hid hcT; clear hcT
  have HTl : Hid (∀ j, j < c.length → ((transL c).getD j []).length = c.length) := Lib.hid (fun j hj => transL_rowLen hj)
  have HtL := Lib.hid (transL_length c)
  have Hco : Hid (∀ r, coR c r = upBack (transL c) (dnGo c 30 r []).2.reverse (dnGo c 30 r []).1) := Lib.hid (fun _ => rfl)
  generalize transL c = T at *
  go_wp2_with fail
  go_loopw [5, 7] (fun ov kv wr => ∃ (k gO cO : Nat) (rsO : List RowRef), k ≤ L.length ∧ kv = .int .i64 k ∧ ov = (Value.slice (some ⟨gO, 0, none⟩) k cO) ∧ Hid (rsO.length = k) ∧ Hid (contents rsO = (L.take k).map (coR c)) ∧ OwnRows wr w.heap.size gO cO rsO ∧ OwnRows wr w.heap.size gT cT rsT ∧ gT ≠ gO ∧ Below w.heap.size w wr) (fun _ kv _ => L.length - (intOf kv).toNat)
  case atStart => exact ⟨0, _, 0, [], Nat.zero_le _, rfl, rfl, rfl, rfl, hO1, hT, by simp at hTb; omega, hb1⟩
  case round =>
    clear hO1 hb1 hT
    obtain ⟨k, gO, cO, rsO, hk, rfl, rfl, hlO, hcO, hO, hT, hTO, hb⟩ := hrel
    by_cases hlt : k < L.length
    · obtain ⟨wo, rfl⟩ : ∃ wo : World, wo = wr := ⟨_, rfl⟩
      obtain ⟨ga, oa, ca, q1, q2, q3, q4⟩ := HrL.out k hlt
      have hxl : (L.getD k []).length = c.length := hL _ (by simp [List.getD, hlt])
      have hrow := contents_rows L (coR c) hlt
      have hcor := Hco.out (L.getD k [])
      have q1' := (hb.cell (p := ⟨gL, oL + k, none⟩) hgL).trans q1
      have q1A : ∀ o1, (wo.alloc o1).cell? ⟨gL, oL + k, none⟩ = some (Value.slice (some ⟨ga, oa, none⟩) c.length ca) := fun o1 => by
        rw [← hxl]
        exact (((Below.refl wo.heap.size wo).alloc (Nat.le_refl _) o1).cell (p := ⟨gL, oL + k, none⟩) (Nat.lt_of_lt_of_le hgL hb.size)).trans q1'
      have q3' := Nat.lt_of_lt_of_le q3 hb.size
      have q4' := q4.below hb q3
      clear q1'
      generalize L.getD k [] = x at *
      have Hrow := Lib.hid hrow; have Hcor := Lib.hid hcor; have Hxl := Lib.hid hxl
      clear hrow hcor hxl q1 q2 q3 q4
      go_wp2_with (at_builtin; refine wpList_clone (w := wo) rfl _ _ rfl ga oa _ ca x Hxl.out q3' q4' rfl rfl (by rw [Hxl.out]; omega) ?_)
      intro gr cr w2 hor hb2
      have hb2B := hb.trans (hb2.mono hb.size)
      have hbA : Below w.heap.size w (w2.alloc (.cells #[] 3)) := hb2B.alloc hb2B.size _
      have hbI : Below wo.heap.size wo (w2.alloc (.cells #[] 3)) := hb2.alloc hb2.size _
      have hoA : Own (w2.alloc (.cells #[] 3)) wo.heap.size gr cr x := hor.alloc _
      have hpA : Own (w2.alloc (.cells #[] 3)) wo.heap.size w2.heap.size 0 [] := Own.empty (w := w2) hb2.size
      have hne : gr ≠ w2.heap.size := by have := hor.lt; omega
      clear hor hb2 hb2B hbA q1A q3' q4'
      have hTw := hT.below hbI
      have hOw := hO.below hbI
      have hTx := Lib.hid (fun (W : World) (h : Below wo.heap.size wo W) => hT.below h)
      have hOx := Lib.hid (fun (W : World) (h : Below wo.heap.size wo W) => hO.below h)
      have HsO : Hid (∀ s ∈ rsO, s.1 < wo.heap.size) := Lib.hid (fun s hs => (hO.2.1 s hs).lt)
      clear hT hO hTw hOw
      go_upto_block 2 with fail
      generalize hwA : w2.alloc (.cells #[] 3) = wA at *
      generalize hH2 : w2.heap.size = H2 at *
      clear hwA hH2
      go_cut [8, 9, 10, 11] from 29 to 65 (fun rv pv _ _ wx => ∃ (g1 c1 g2 c2 : Nat) (r : List Int) (p : List Nat), rv = (Value.slice (some ⟨g1, 0, none⟩) c.length c1) ∧ pv = (Value.slice (some ⟨g2, 0, none⟩) p.length c2) ∧ Hid (dnGo c 30 x [] = (r, p)) ∧ Hid (r.length = c.length) ∧ p.length ≤ 30 ∧ Hid (∀ i ∈ p, i < c.length) ∧ g1 ≠ g2 ∧ Own wx wo.heap.size g1 c1 r ∧ Own wx wo.heap.size g2 c2 (natI p) ∧ Below wo.heap.size wo wx)
      case first =>
        generalize hR : dnGo c 30 x [] = R at *
        have HR := Lib.hid hR; clear hR
        go_wp2_with fail
        go_loopw [8, 9, 10] (fun rv pv nv wr => ∃ (n g1 c1 g2 c2 : Nat) (r : List Int) (p : List Nat), n ≤ 30 ∧ rv = (Value.slice (some ⟨g1, 0, none⟩) c.length c1) ∧ pv = (Value.slice (some ⟨g2, 0, none⟩) p.length c2) ∧ nv = .int .i64 n ∧ Hid (DnSt c n r p R) ∧ g1 ≠ g2 ∧ Own wr wo.heap.size g1 c1 r ∧ Own wr wo.heap.size g2 c2 (natI p) ∧ Below wo.heap.size wo wr) (fun _ _ nv _ => 30 - (intOf nv).toNat)
        case atStart => exact ⟨0, gr, cr, H2, 0, x, [], by omega, rfl, rfl, rfl, ⟨HR.out, Hxl.out, Nat.le_refl _, by simp⟩, hne, hoA, hpA, hbI⟩
        case round =>
          clear hoA hpA hbI hne
          obtain ⟨n, g1, c1, g2, c2, r, p, hn30, rfl, rfl, rfl, hD, h12, ho1, ho2, hbw⟩ := hrel
          have hrl := hD.out.2.1
          have hpl := hD.out.2.2.1
          have hpi := hD.out.2.2.2
          have Hrl := Lib.hid hrl; have Hpi := Lib.hid hpi
          clear hrl hpi
          by_cases hlt30 : n < 30
          · have hd30 : decide ((n : Int) < 30) = true := decide_eq_true (by omega)
            have hI : dnAt c r c.length 0 = dnI c r := rfl
            have hIl : dnI c r ≤ c.length := by have := dnAt_le c r c.length 0; unfold dnI; omega
            have e30 : 30 - n = 29 - n + 1 := by omega
            have hD1 := hD.out.1
            rw [e30] at hD1
            have HD1 := Lib.hid hD1; have He30 := Lib.hid e30
            generalize hIe : dnI c r = I at *
            have HI := Lib.hid hI; have HIe := Lib.hid hIe
            clear hI hIe hD1 e30
            go_wp2_with fail
            go_loopw [11] (fun iv wi => ∃ i : Nat, i ≤ c.length ∧ iv = .int .i64 i ∧ Hid (dnAt c r (c.length - i) i = I) ∧ Own wi wo.heap.size g1 c1 r ∧ Own wi wo.heap.size g2 c2 (natI p) ∧ Below wo.heap.size wo wi) (fun iv _ => c.length - (intOf iv).toNat)
            case atStart => exact ⟨0, Nat.zero_le _, rfl, HI.out, ho1, ho2, hbw⟩
            case round =>
              clear ho1 ho2 hbw
              obtain ⟨i, hi, rfl, hA, ho1, ho2, hbw⟩ := hrel
              by_cases hil : i < c.length
              · obtain ⟨f, hf⟩ : ∃ f, c.length - i = f + 1 := ⟨c.length - i - 1, by omega⟩
                have hA1 := hA.out
                rw [hf] at hA1
                have hgo := fun h => (dnAt_go (c := c) (r := r) (f := f) (i := i) h).symm.trans hA1
                have hst := fun h => (dnAt_stop (c := c) (r := r) (f := f) (i := i) h).symm.trans hA1
                have ef : f = c.length - (i + 1) := by omega
                rw [ef] at hgo
                have K1 := fun W (hg1 : g1 < W.heap.size) (hbb : Below w.heap.size w W) (hx : Cells W g1 0 r) => spec_l7Reflect_any gc oc c.length cc i g1 0 c.length c1 c r W rfl Hrl.out hil (by rw [Hrl.out]; exact hil) (by rw [Hcl.out i hil, Hrl.out]; exact Nat.le_refl _) (by rw [Hcl.out i hil]; omega) (Nat.lt_of_lt_of_le hgc hbb.size) hg1 (Hr.out.below hbb hgc) hx
                have hml : (mirL c i r).length = c.length := by rw [mirL_length]; exact Hrl.out
                have hbW := hb.trans (hbw.mono hb.size)
                have Hx := Lib.hid (fun (W : World) (hx : Cells W g1 0 r) => spec_HeightOf_any g1 0 c.length c1 r W Hrl.out (by rw [Hrl.out]; omega) hx)
                have Hm := Lib.hid (fun (W : World) (g4 c4 : Nat) (hx : Cells W g4 0 (mirL c i r)) => spec_HeightOf_any g4 0 c.length c4 (mirL c i r) W hml (by rw [hml]; omega) hx)
                generalize hmr : mirL c i r = r' at *
                have HK1 := Lib.hid K1; have Hgo := Lib.hid hgo; have Hst := Lib.hid hst; have Hml := Lib.hid hml; have Hmr := Lib.hid hmr
                clear K1 hgo hst hml hmr hf ef hA1
                have hc1 := Lib.hid (HK1.out wr ho1.lt hbW ho1.cells)
                go_wp2_with fail
                refine hc1.out.mono ?_
                rintro e w4 ⟨g4, c4, rfl, ho4, hb4⟩
                rw [Hml.out]
                have hbw4 := hbw.trans (hb4.mono hbw.size)
                have ho14 := ho1.below hb4 ho1.lt
                have ho24 := ho2.below hb4 ho2.lt
                have hc2 := Lib.hid (Hm.out w4 g4 c4 ho4.cells)
                clear hc1 ho1 ho2 hbw hb4 hbW
                go_wp2_with fail
                refine hc2.out.mono ?_
                rintro e w5 ⟨rfl, hs5⟩
                have ho15 := ho14.still hs5
                have ho25 := ho24.still hs5
                have hbw5 := below_still hbw4 hs5
                have hc3 := Lib.hid (Hx.out w5 ho15.cells)
                clear hc2 ho14 ho24 hbw4 hs5 ho4
                go_wp2_with fail
                refine hc3.out.mono ?_
                rintro e w6 ⟨rfl, hs6⟩
                have ho16 := ho15.still hs6
                have ho26 := ho25.still hs6
                have hbw6 := below_still hbw5 hs6
                have hc4 := Lib.hid (Hx.out w6 ho16.cells)
                clear hc3 ho15 ho25 hbw5 hs6
                by_cases hle : heightL r ≤ heightL r'
                · have hle' : decide (heightL r ≤ heightL r') = true := decide_eq_true hle
                  have Hg := Lib.hid (Hgo.out hle)
                  generalize heightL r = hr1 at *
                  generalize heightL r' = hr2 at *
                  go_wp2_with fail
                  go_roundw
                  case rel => exact ⟨i + 1, by omega, by go_num, Hg.out, ho16, ho26, hbw6⟩
                  case measure => simp [intOf]; omega
                · have hle' : decide (heightL r ≤ heightL r') = false := decide_eq_false hle
                  obtain rfl : i = I := Hst.out (Int.not_le.1 hle)
                  have hne' : (i : Int) ≠ (c.length : Int) := by omega
                  have hne2 : ((i : Int) == (c.length : Int)) = false := by simp; omega
                  by_cases h1 : heightL r = 1
                  · have h1' : (heightL r == 1) = true := by simp [h1]
                    have Hend := Lib.hid ((dnGo_stop (c := c) (f := 29 - n) (p := p) (.inr h1)).symm.trans HD1.out)
                    generalize heightL r = hr1 at *
                    generalize heightL r' = hr2 at *
                    go_wp2_with fail
                    refine hc4.out.mono ?_
                    rintro e w7 ⟨rfl, hs7⟩
                    go_wp2_with fail
                    go_meet
                    case rel => exact ⟨g1, c1, g2, c2, r, p, rfl, rfl, Hend.out.symm, Hrl.out, by omega, Hpi.out, h12, ho16.still hs7, ho26.still hs7, below_still hbw6 hs7⟩
                  · have h1' : (heightL r == 1) = false := by simp [h1]
                    have hno : ¬ (dnI c r = c.length ∨ heightL r = 1) := by
                      rw [HIe.out]; intro h
                      rcases h with h | h
                      · omega
                      · exact h1 h
                    have hend := (dnGo_go (c := c) (f := 29 - n) (p := p) hno).symm.trans HD1.out
                    rw [HIe.out, Hmr.out] at hend
                    have Hend := Lib.hid hend
                    clear hend hno
                    generalize heightL r = hr1 at *
                    generalize heightL r' = hr2 at *
                    go_wp2_with fail
                    refine hc4.out.mono ?_
                    rintro e w7 ⟨rfl, hs7⟩
                    have ho17 := ho16.still hs7
                    have ho27 := ho26.still hs7
                    have hbw7 := below_still hbw6 hs7
                    have hc5 := Lib.hid (HK1.out w7 ho17.lt (hb.trans (hbw7.mono hb.size)) ho17.cells)
                    clear hc4 hs7 ho16 ho26 hbw6
                    go_wp2_with fail
                    refine hc5.out.mono ?_
                    rintro e w8 ⟨g8, c8, rfl, ho8, hb8⟩
                    rw [Hml.out]
                    have hbw8 := hbw7.trans (hb8.mono hbw7.size)
                    have ho28 := ho27.below hb8 ho27.lt
                    have ho88 := ho8.mono hbw7.size
                    have h82 : g8 ≠ g2 := by have := ho8.base; have := ho27.lt; omega
                    clear hc5 ho17 ho27 hbw7 hb8 ho8
                    go_wp2_with (at_builtin; refine wpList_append_int_n (w := w8) rfl _ _ rfl wo.heap.size g2 c2 p.length (natI p) (i : Int) (natI_length p) ho28 rfl rfl (by omega) ?_)
                    intro g9 c9 w9 ho9 hg9 hor9
                    rw [← natI_push] at ho9
                    have hbw9 : Below wo.heap.size wo w9 := hbw8.grown hg9 hbw8.size (by intro t ht; cases ht; exact ho28.base)
                    have ho89 := ho88.grown hg9 (by intro e; cases e; exact h82 rfl)
                    have h89 : g8 ≠ g9 := fun e => by
                      rcases hor9 with h | h
                      · exact h82 (e.trans h)
                      · have := ho88.lt; omega
                    have hpl' : Hid ((p ++ [i]).length = p.length + 1) := Lib.hid (by rw [List.length_append]; rfl)
                    clear hor9 hg9 ho28 ho88 hbw8 h82
                    go_wp2_with fail
                    go_roundw
                    case rel =>
                      refine ⟨n + 1, g8, c8, g9, c9, r', p ++ [i], by omega, rfl, by rw [hpl'.out], by go_num, ⟨?_, Hml.out, by rw [hpl'.out]; omega, ?_⟩, h89, ho89, ho9, hbw9⟩
                      · have h := Hend.out
                        rw [show 30 - (n + 1) = 29 - n by omega]; exact h
                      · intro t ht
                        rcases List.mem_append.1 ht with h | h
                        · exact Hpi.out t h
                        · rw [List.mem_singleton] at h; omega
                    case measure => simp [intOf]; omega
              · obtain rfl : i = c.length := by omega
                have hIn : I = c.length := by have h := hA.out; rw [Nat.sub_self] at h; exact h.symm
                have Hend := Lib.hid ((dnGo_stop (c := c) (f := 29 - n) (p := p) (.inl (HIe.out.trans hIn))).symm.trans HD1.out)
                go_wp2_with fail
                go_meet
                case rel => exact ⟨g1, c1, g2, c2, r, p, rfl, rfl, Hend.out.symm, Hrl.out, by omega, Hpi.out, h12, ho1, ho2, hbw⟩
          · obtain rfl : n = 30 := by omega
            have Hend : Hid ((r, p) = R) := Lib.hid hD.out.1
            go_wp2_with fail
            go_meet
            case rel => exact ⟨g1, c1, g2, c2, r, p, rfl, rfl, Hend.out.symm, Hrl.out, by omega, Hpi.out, h12, ho1, ho2, hbw⟩
      case rest =>
        clear hoA hpA hbI hne
        obtain ⟨g1, c1, g2, c2, r, p, rfl, rfl, hdn, hrl, hpl, hpi, h12, ho1, ho2, hbw⟩ := hcut
        have hy : Hid (upBack T (p.take p.length).reverse r = coR c x) := Lib.hid (by rw [List.take_length, Hcor.out, hdn.out])
        have hyl : Hid ((coR c x).length = c.length) := Lib.hid (by rw [coR_length]; exact Hxl.out)
        generalize coR c x = y at *
        clear hdn
        go_wp2_with fail
        go_loopw [8, 12] (fun rv nv wr => ∃ (m g1 c1 : Nat) (r : List Int), m ≤ p.length ∧ rv = (Value.slice (some ⟨g1, 0, none⟩) c.length c1) ∧ nv = .int .i64 ((m : Int) - 1) ∧ Hid (upBack T (p.take m).reverse r = y) ∧ Hid (r.length = c.length) ∧ Own wr wo.heap.size g1 c1 r ∧ Own wr wo.heap.size g2 c2 (natI p) ∧ Below wo.heap.size wo wr) (fun _ nv _ => (intOf nv + 1).toNat)
        case atStart => exact ⟨p.length, g1, c1, r, Nat.le_refl _, rfl, rfl, hy.out, hrl.out, ho1, ho2, hbw⟩
        case round =>
          clear ho1 ho2 hbw hy hrl
          obtain ⟨m, g1, c1, r, hm, rfl, rfl, hy, hrl, ho1, ho2, hbw⟩ := hrel
          have hbW := hb.trans (hbw.mono hb.size)
          by_cases hm0 : m = 0
          · subst hm0
            have hyr : r = y := by have h := hy.out; rw [List.take_zero] at h; exact h
            have hdz : decide (0 ≤ (((0 : Nat) : Int) - 1)) = false := by decide
            have hO2 := hOx.out wr hbw
            have hT2 := hTx.out wr hbw
            have ho1' := ho1.mono hb.size
            have hnO : ∀ s ∈ rsO, s.1 ≠ g1 := fun s hs e => by
              have h1 := HsO.out s hs
              have h2 := ho1.base
              omega
            have hlen := hrl.out
            clear ho1 ho2 hbw
            go_wp2_with (at_builtin; refine wpList_append_row (w := wr) rfl _ _ rfl w.heap.size gO cO k wr.heap.size rsO (g1, c1, r) _ hlO.out (by unfold rowVal; rw [hrl.out]) rfl hO2 ho1' hnO rfl rfl (by omega) ?_)
            intro g5 c5 w5 hO5 hg5 hor5
            have hB5 : Below w.heap.size w w5 := hbW.grown hg5 hbW.size (by intro t ht; cases ht; exact hO2.base)
            have hT5 := hT2.other hO2 hTO hg5
            have hT5n : gT ≠ g5 := fun e => by
              rcases hor5 with h | h
              · exact hTO (e.trans h)
              · have := hT2.lt; omega
            clear hg5 hor5 hO2 hT2
            go_wp2_with fail
            go_roundw
            case rel =>
              refine ⟨k + 1, g5, c5, rsO ++ [(g1, c1, y)], by omega, by go_num, rfl, ?_, ?_, hO5, hT5, hT5n, hB5⟩
              · show _ = _
                rw [List.length_append, hlO.out]; rfl
              · show _ = _
                rw [contents_append, hcO.out]; exact Hrow.out
            case measure => simp [intOf]; omega
          · obtain ⟨m', rfl⟩ : ∃ m', m = m' + 1 := ⟨m - 1, by omega⟩
            have e1 : (((m' + 1 : Nat) : Int) - 1) = (m' : Int) := by omega
            rw [e1]
            have hmp : m' < p.length := by omega
            have q1 := ho2.cell m' (by rw [natI_length]; exact hmp)
            rw [natI_get hmp] at q1
            have hj := hpi.out p[m'] (List.getElem_mem hmp)
            have hy2 := hy.out
            rw [back_take hmp] at hy2
            generalize p[m'] = j at *
            have Hy2 := Lib.hid hy2
            have hml : (mirL T j r).length = c.length := by rw [mirL_length]; exact hrl.out
            have hT2 := hTx.out wr hbw
            have hTr : Rows2 wr gT 0 T := by have := hT2.rows2; rw [HcT.out] at this; exact this
            have hc1 := Lib.hid (spec_l7Reflect_any gT 0 c.length cT j g1 0 c.length c1 T r wr HtL.out hrl.out (by rw [HtL.out]; exact hj) (by rw [hrl.out]; exact hj) (by rw [HTl.out j hj, hrl.out]; exact Nat.le_refl _) (by rw [HTl.out j hj]; omega) hT2.lt ho1.lt hTr ho1.cells)
            have Hml := Lib.hid hml
            clear hy2 hml hT2 hTr hy hpi
            go_wp2_with fail
            refine hc1.out.mono ?_
            rintro e w4 ⟨g4, c4, rfl, ho4, hb4⟩
            rw [Hml.out]
            have hbw4 := hbw.trans (hb4.mono hbw.size)
            have ho24 := ho2.below hb4 ho2.lt
            have ho44 := ho4.mono hbw.size
            clear hc1 ho1 ho2 hbw hb4 ho4 hbW q1
            go_wp2_with fail
            go_roundw
            case rel => exact ⟨m', g4, c4, _, by omega, rfl, rfl, Hy2.out, Hml.out, ho44, ho24, hbw4⟩
            case measure => simp [intOf]
    · obtain rfl : k = L.length := by omega
      have hc := hcO.out
      rw [List.take_length] at hc
      go_wp2_with fail
      go_ret
      exact ⟨gO, cO, rsO, congrArg (fun t => Ending.returned (.slice (some ⟨gO, 0, none⟩) t cO)) (List.length_map _).symm, hc, hO, hb⟩

def coA (c : List (List Int)) : List (List Int) := if finB c = true then coL c else []
theorem coA_fin {c : List (List Int)} (h : finB c = true) : coA c = coL c := if_pos h
theorem coA_inf {c : List (List Int)} (h : finB c = false) : coA c = [] := if_neg (by rw [h]; decide)
theorem coOk_fin {c : List (List Int)} (h : finB c = true) : CoOk c := coOk_of (posOk_fin h) (co_fin (finB_isC h) h)
theorem coA_few (c : List (List Int)) : (coA c).length ≤ 24 ∧ ∀ x ∈ coA c, x.length ≤ 4 := by
  unfold coA
  split
  · rename_i h
    refine ⟨by unfold coL; rw [List.length_map]; exact (posOk_fin h).few, fun x hx => ?_⟩
    obtain ⟨r, hr, rfl⟩ := List.mem_map.1 hx
    rw [coR_length, posL_rl c r hr]; exact (finB_isC h).2.1
  · exact ⟨by simp, by simp⟩
set_option maxHeartbeats 1000000 in
theorem spec_PositiveCoroots_any (gc oc n cc : Nat) (c : List (List Int)) (w : World) (hn : c.length = n) (hl : c.length ≤ 1048576) (hrl : ∀ j, j < c.length → (c.getD j []).length ≤ 1048576) (hgc : gc < w.heap.size) (hr : Rows2 w gc oc c) :
    Calls Tryz.prog 32 #[(Value.slice (some ⟨gc, oc, none⟩) n cc)] w (GotRowsB w (coA c) (finB c)) := by
  have hcall := spec_PositiveRoots_any gc oc n cc c w hn hl hrl hgc hr
  cases hf : finB c with
  | false =>
    rw [hf, posA_inf hf] at hcall
    rw [coA_inf hf]
    have Hcall := Lib.hid hcall
    clear hcall
    go_enter Tryz.func32, Tryz.ntmps32
    go_wp2_with fail
    refine Hcall.out.mono ?_
    rintro e w1 ⟨g1, c1, rs1, rfl, -, -, hb1⟩
    go_wp2_with fail
    go_ret2
    exact ⟨_, 0, [], rfl, rfl, OwnRows.empty hb1.size, hb1.alloc hb1.size _⟩
  | true =>
    rw [hf, posA_fin hf] at hcall
    rw [coA_fin hf]
    have Hcall := Lib.hid hcall; have Hr := Lib.hid hr
    have Hd := Lib.hid (fun (W : World) (gL cL : Nat) (hb : Below w.heap.size w W) (hgL : gL < W.heap.size) (hL : Rows2 W gL 0 (posL c)) => spec_l26Dual_ok gc oc n cc gL 0 (posL c).length cL c (posL c) W hn rfl (finB_isC hf) (posL_rl c) (posOk_fin hf).few (Nat.lt_of_lt_of_le hgc hb.size) hgL (hr.below hb hgc) hL)
    have Hlen : Hid ((coL c).length = (posL c).length) := Lib.hid (by unfold coL; rw [List.length_map])
    have hco : (posL c).map (coR c) = coL c := rfl
    rw [hco] at Hd
    generalize posL c = L at *
    generalize coL c = M at *
    clear hcall hr hf hrl hl hn hco
    go_enter Tryz.func32, Tryz.ntmps32
    go_wp2_with fail
    refine Hcall.out.mono ?_
    rintro e w1 ⟨g1, c1, rs1, rfl, hc1, ho1, hb1⟩
    have h2 := Lib.hid (Hd.out w1 g1 c1 hb1 ho1.lt (by have := ho1.rows2; rw [hc1] at this; exact this))
    clear hc1 ho1
    go_wp2_with fail
    refine h2.out.mono ?_
    rintro e w2 ⟨g2, c2, rs2, rfl, hc2, ho2, hb2⟩
    have Hc2 := Lib.hid hc2; clear hc2 h2
    go_wp2_with fail
    go_ret2
    exact ⟨g2, c2, rs2, rfl, Hc2.out, ho2.mono hb1.size, hb1.trans (hb2.mono hb1.size)⟩

set_option maxHeartbeats 1000000 in
theorem impl_PositiveCoroots_any (gc oc n cc : Nat) (c : List (List Int)) (w : World) (hn : c.length = n) (hl : c.length ≤ 1048576) (hrl : ∀ j, j < c.length → (c.getD j []).length ≤ 1048576) (hgc : gc < w.heap.size) (hr : Rows2 w gc oc c) :
    Calls Tryz.prog 45 #[(Value.slice (some ⟨gc, oc, none⟩) n cc)] w (GotRowsB w (coA c) (finB c)) := by
  have hcall := impl_IsFinite_any gc oc n cc c w hn hl hrl hgc hr
  cases hf : finB c with
  | false =>
    rw [hf] at hcall
    rw [coA_inf hf]
    have Hcall := Lib.hid hcall
    clear hcall
    go_enter Tryz.func45, Tryz.ntmps45
    go_wp2_with fail
    refine Hcall.out.mono ?_
    rintro e w1 ⟨rfl, hb1⟩
    go_wp2_with fail
    go_ret2
    exact ⟨_, 0, [], rfl, rfl, OwnRows.empty hb1.size, hb1.alloc hb1.size _⟩
  | true =>
    rw [hf] at hcall
    rw [coA_fin hf]
    have hP := posOk_fin hf
    have hK := coOk_fin hf
    have hR : CoRel c fun x y => x ∈ posL c ∧ y = coR c x := ⟨fun i hi => ⟨hP.closed.simp i hi, (hK.simp i hi).symm⟩, fun x y i h hi hp hh => ⟨hP.closed.step x h.1 i hi hp hh, by rw [h.2]; exact (hK.step x h.1 i hi hp hh).symm⟩⟩
    have Hcall := Lib.hid hcall
    have Hr := Lib.hid (fun W (hW : Below w.heap.size w W) => impl_pairedRoots_ok _ gc oc n cc c W hn (finB_isC hf) hP hR (Nat.lt_of_lt_of_le hgc hW.size) (hr.below hW hgc))
    have hM : ∀ M : List (List Int), M.length = (posL c).length → (∀ k, k < (posL c).length → (posL c).getD k [] ∈ posL c ∧ M.getD k [] = coR c ((posL c).getD k [])) → M = coL c := fun M h1 h2 => by
      apply List.ext_getElem
      · rw [h1]; simp [coL]
      · intro k h3 h4
        have := (h2 k (by omega)).2
        have h5 : k < (posL c).length := by omega
        simp [List.getD, h3, h5] at this
        simp [coL, this]
    have HM := Lib.hid hM
    have Hlen : Hid ((coL c).length = (posL c).length) := Lib.hid (by unfold coL; rw [List.length_map])
    clear hcall hr hf hrl hl hn hM hP hK hR
    go_enter Tryz.func45, Tryz.ntmps45
    go_wp2_with fail
    refine Hcall.out.mono ?_
    rintro e w1 ⟨rfl, hb1⟩
    go_wp2_with fail
    refine (Hr.out w1 hb1).mono ?_
    rintro e w2 ⟨g, cp, rs, g2, cp2, rs2, rfl, -, hl2, hrel, -, ho, hb2⟩
    have Hc := Lib.hid (HM.out _ hl2 hrel)
    clear hl2 hrel
    rw [← Hlen.out]
    go_wp2_with fail
    go_ret2
    exact ⟨g2, cp2, rs2, rfl, Hc.out, ho.mono hb1.size, hb1.trans (hb2.mono hb1.size)⟩
end Go.Proofs.YtmjneokgnnbekaaGreatDoor
