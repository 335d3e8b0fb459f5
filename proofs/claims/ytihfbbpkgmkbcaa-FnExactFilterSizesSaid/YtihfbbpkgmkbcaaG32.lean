/- The reference's DemazureStep: contract. -/
import Derived.Test.YtihfbbpkgmkbcaaG28
import Derived.Test.YtihfbbpkgmkbcaaG31
namespace Go.Proofs.Ytihfbbpkgmkbcaa
set_option maxRecDepth 100000
open Go.RowKit Game

theorem PutOk.snoc {n N : Nat} {L : List Wt} {y : List Int} {z : Int} (h : PutOk n N L) (hy : y.length = n) (hz : -1000 ≤ z ∧ z ≤ 1000) : PutOk n (N + 1) (L ++ [(y, z)]) :=
  h.app (M := 1) ⟨by simp, by intro x hx; simp at hx; subst hx; exact hy, by intro x hx; simp at hx; subst hx; exact hz⟩
theorem PutOk.mono {n N M : Nat} {L : List Wt} (h : PutOk n N L) (hm : N ≤ M) : PutOk n M L := ⟨Nat.le_trans h.few hm, h.len, h.ct⟩
theorem ent_small {c : List (List Int)} (hC : IsC c) {k i : Nat} (hk : k < c.length) (hi : i < c.length) : -1000 ≤ (c.getD k []).getD i 0 ∧ (c.getD k []).getD i 0 ≤ 1000 := by
  have := hC.2.2.2 k hk i hi
  unfold EntOk ent at this
  split at this <;> omega
def GotWB (w : World) (L : List Wt) (b : Bool) (e : Ending) (w' : World) : Prop :=
  ∃ g cap rs, e = .returned (.tuple #[(Value.slice (some ⟨g, 0, none⟩) L.length cap), .bool b]) ∧ contW rs = L ∧ OwnW w' w.heap.size g cap rs ∧ Below w.heap.size w w'
theorem GotWB.mk' {w w' : World} {L : List Wt} {b : Bool} {n : Nat} (g cap : Nat) (rs : List WRef) (hl : rs.length = n) (hc : contW rs = L) (ho : OwnW w' w.heap.size g cap rs) (hb : Below w.heap.size w w') :
    GotWB w L b (.returned (.tuple #[(Value.slice (some ⟨g, 0, none⟩) n cap), .bool b])) w' := by
  subst hl; subst hc
  exact ⟨g, cap, rs, by rw [contW_length], rfl, ho, hb⟩
/-- while a list is put together -/
structure DemSt (n N : Nat) (w W0 : World) (L : List Wt) (wr : World) (gO cO : Nat) (rs : List WRef) : Prop where
  cont : contW rs = canW L
  ok : PutOk n N L
  own : OwnW wr w.heap.size gO cO rs
  bel : Below W0.heap.size W0 wr
theorem DemSt.put {n N : Nat} {w W0 : World} {L : List Wt} {wr : World} {gO cO p : Nat} {rs : List WRef} (h : DemSt n N w W0 L wr gO cO rs) (hN : N ≤ 4500) (hp : rs.length = p) (W : World) (hW : Below wr.heap.size wr W) (gA cA : Nat) (y : List Int) (z : Int)
    (hA : Own W wr.heap.size gA cA y) (hy : y.length = n) (hn : n ≤ 1048576) (hz : -1000 ≤ z ∧ z ≤ 1000) :
    Calls Try.prog 30 #[(Value.slice (some ⟨gO, 0, none⟩) p cO), (Value.slice (some ⟨gA, 0, none⟩) n cA), .int .i64 z] W fun e w' => ∃ g cap rs', e = .returned (Value.slice (some ⟨g, 0, none⟩) rs'.length cap) ∧ DemSt n (N + 1) w W0 (L ++ [(y, z)]) w' g cap rs' := by
  obtain ⟨c1, c2, c3, c4⟩ := h.ok.canW (by omega)
  rw [← h.cont] at c1 c2 c3 c4
  have hl4 : rs.length ≤ 5000 := by rw [contW_length] at c4; exact c4
  have hcall := spec_l29Put_ok w.heap.size gO cO p gA 0 n cA rs y z W hp hy (by omega) (by omega) (fun r hr => by
    rw [hy]; exact c1 _ (List.mem_map_of_mem (f := fun r : WRef => (r.1.2.2, r.2)) hr)) c2 c3 (by omega) (h.own.below hW) hA.lt hA.cells
  refine hcall.mono ?_
  rintro e w' ⟨g, cap, rs', rfl, h1, h2, -, h3⟩
  exact ⟨g, cap, rs', rfl, by rw [h1, h.cont, canW_snoc], h.ok.snoc hy hz, h2, h.bel.trans ((hW.trans (h3.mono hW.size)).mono h.bel.size)⟩

set_option maxHeartbeats 2000000 in
theorem spec_DemazureStep_ok (gc oc n cc g o m cp : Nat) (i : Int) (c : List (List Int)) (l : List Wt) (w : World) (hn : c.length = n) (hm : l.length = m) (hx : c.length ≤ 1048576) (hrl : ∀ j, j < c.length → (c.getD j []).length ≤ 1048576) (hf : wFew l)
    (hgc : gc < w.heap.size) (hg : g < w.heap.size) (hr : Rows2 w gc oc c) (hl : WRows w g o l) :
    Calls Try.prog 8 #[(Value.slice (some ⟨gc, oc, none⟩) n cc), .int .i64 i, (Value.slice (some ⟨g, o, none⟩) m cp)] w (GotWB w (demL c i l) (demB c i l)) := by
  subst hn; subst hm
  have hf1 := hf.1
  have b0 : Below w.heap.size w (w.alloc (.cells #[] 48)) := (Below.refl _ _).alloc (Nat.le_refl _) _
  have hfine := spec_l30Fine_ok gc oc _ cc g o _ cp c l _ rfl rfl hx hrl hf (hr.below b0 hgc) (hl.below b0 hg)
  have HO0 := Lib.hid (OwnW.empty (w := w) (B := w.heap.size) (Nat.le_refl _))
  have hone := fun W => spec_l1In i 0 ((c.length : Int) - 1) W
  by_cases h1 : IsC c ∧ goodL c.length l
  · rw [decide_eq_true h1] at hfine
    by_cases h2 : 0 ≤ i ∧ i < c.length
    · have hone' : Hid (∀ W, Calls Try.prog 28 #[.int .i64 i, .int .i64 0, .int .i64 ((c.length : Int) - 1)] W (Reads W (.bool true))) := fun W => by
        have := hone W
        rwa [decide_eq_true h2.1, decide_eq_true (show i ≤ (c.length : Int) - 1 by omega)] at this
      have hok : demOk c i l := ⟨h1.1, h2, h1.2⟩
      obtain ⟨iN, rfl⟩ := Int.eq_ofNat_of_zero_le h2.1
      rw [(demL_yes hok).1, (demL_yes hok).2, show ((iN : Int)).toNat = iN by omega]
      have hC := h1.1
      have hn4 := hC.2.1
      have hin : iN < c.length := by omega
      have hgood := h1.2
      have Hent := Lib.hid (fun k (hk : k < c.length) => ent_small hC hk hin)
      have HR := Lib.hid (fun W (hW : Below w.heap.size w W) => spec_SimpleRootWeight_ok gc oc _ cc iN (iN : Int) c W rfl rfl hC hin (Nat.lt_of_lt_of_le hgc hW.size) (hr.below hW hgc))
      have Hfine := Lib.hid hfine
      have Hl := Lib.hid hl
      have Hgood := Lib.hid hgood
      have hl200 : l.length ≤ 200 := hgood.1
      clear hfine hone h1 h2 hok hC hl hr hrl hgood hf hx
      generalize hn : c.length = n at *
      have Hcl : Hid ((colL c iN).length = n) := by rw [colL_length]; exact hn
      have HcD : Hid (∀ j, j < n → -1000 ≤ (colL c iN).getD j 0 ∧ (colL c iN).getD j 0 ≤ 1000) := fun j hj => by rw [colL_getD c iN (by omega)]; exact Hent.out j hj
      clear hn Hent
      generalize colL c iN = R at *
      go_enter Try.func8, Try.ntmps8
      go_wp2_with fail
      refine Hfine.out.mono ?_
      rintro e w1 ⟨rfl, hs1⟩
      clear Hfine
      go_wp2_with fail
      refine (hone'.out _).mono ?_
      rintro e w2 ⟨rfl, hs2⟩
      have hs := still_trans hs1 hs2
      have hb2 := below_still b0 hs
      have HO2 := Lib.hid (HO0.out.still hs)
      clear hs1 hs2 hs b0 HO0 hone'
      go_wp2_with fail
      refine (HR.out _ hb2).mono ?_
      rintro e w3 ⟨gr, cr, rfl, hor, hb3⟩
      rw [Hcl.out]
      have hb3' := hb2.trans (hb3.mono hb2.size)
      have HO3 := Lib.hid (HO2.out.below hb3)
      have hor' := Lib.hid (hor.mono hb2.size)
      clear HR HO2 hb3 hor hb2
      go_wp2_with fail
      go_loopw [8, 10, 11, 12, 13] (fun ov kv _ _ _ wr => ∃ (k gO cO p : Nat) (rs : List WRef), k ≤ l.length ∧ kv = .int .i64 k ∧ ov = (Value.slice (some ⟨gO, 0, none⟩) p cO) ∧ Hid (rs.length = p) ∧ Hid (DemSt n (k * 21) w w3 (demP R iN (l.take k)) wr gO cO rs)) (fun _ kv _ _ _ _ => l.length - (intOf kv).toNat)
      case atStart => exact ⟨0, w.heap.size, 0, 0, [], Nat.zero_le _, rfl, rfl, rfl, Lib.hid ⟨rfl, ⟨by simp [demP], by intro x hx; simp [demP] at hx, by intro x hx; simp [demP] at hx⟩, HO3.out, Below.refl _ _⟩⟩
      case round =>
        clear HO3
        obtain ⟨k, gO, cO, p, rs, hk, rfl, rfl, hp, hS⟩ := hrel
        by_cases hlt : k < l.length
        · have hB := hb3'.trans (hS.out.bel.mono hb3'.size)
          obtain ⟨gj, oj, cj, q1, q2, q3, q4, q5⟩ := Hl.out.below hb3' hg k hlt
          have hxk := Hgood.out.2 k hlt
          have htk := Lib.hid (demP_take_succ (r := R) (i := iN) hlt)
          have e1 : wOf l k = (l.getD k ([], 0)).1 := rfl
          have e2 : ctOf l k = (l.getD k ([], 0)).2 := rfl
          rw [e1] at q1 q3 q5
          rw [e2] at q2
          clear e1 e2 hB
          generalize l.getD k ([], 0) = x at *
          have hlen : x.1.length = n := hxk.1
          have hct := hxk.2.1
          have hVi := hxk.2.2 iN (by rw [hlen]; exact hin)
          have HV := Lib.hid hxk.2.2
          have p1 := q5 iN (by rw [hlen]; exact hin)
          rw [hlen] at q1 q3
          have hg3 : g < w3.heap.size := Nat.lt_of_lt_of_le hg hb3'.size
          have HA := Lib.hid (fun (W : World) (kk : Int) (hW : Below w3.heap.size w3 W) (hkk : -1000 ≤ kk ∧ kk ≤ 1000) => spec_l27Add_shift gj oj n cj gr 0 cr x.1 R kk W hlen Hcl.out (by omega)
            (fun j hj => by have := HV.out j (by omega); omega) HcD.out hkk (Nat.lt_of_lt_of_le q4 hW.size) (Nat.lt_of_lt_of_le hor'.out.lt hW.size) (q5.below hW q4) (hor'.out.cells.below hW hor'.out.lt))
          have Hsl := Lib.hid (fun kk => (shiftL_length x.1 R kk).trans hlen)
          have HD := Lib.hid (fun t => downT_succ R iN x t)
          have HU := Lib.hid (fun t => upT_succ R x t)
          have HT : Hid (demT R iN x = downT R iN x (nDown iN x) ++ upT R x (nUp iN x)) := rfl
          have hnd : (nDown iN x : Int) = max (x.1.getD iN 0 + 1) 0 := by unfold nDown; omega
          have hnu : (nUp iN x : Int) = max (-(x.1.getD iN 0) - 1) 0 := by unfold nUp; omega
          have HD0 : Hid (downT R iN x 0 = []) := rfl
          have HU0 : Hid (upT R x 0 = []) := rfl
          have Hok2 := Lib.hid (demT_length (r := R) (i := iN) hxk)
          clear hxk q5 hlen
          have hND : nDown iN x ≤ 21 := by omega
          have hNU : nUp iN x ≤ 21 := by omega
          have Hnd := Lib.hid hnd; have Hnu := Lib.hid hnu
          clear hnd hnu
          generalize x.1.getD iN 0 = vi at *
          generalize nDown iN x = ND at *
          generalize nUp iN x = NU at *
          generalize downT R iN x = dT at *
          generalize upT R x = uT at *
          generalize demT R iN x = tT at *
          generalize hPP : demP R iN (l.take (k + 1)) = PP at *
          have HPP := Lib.hid hPP; clear hPP
          generalize demP R iN (l.take k) = P0 at *
          obtain ⟨V, C⟩ := x
          have q2' : w3.cell? ⟨g, o + k * 2 + 1, none⟩ = some (.int .i64 C) := q2
          have hct' : -1000 ≤ C ∧ C ≤ 1000 := hct
          have HA' : Hid (∀ (W : World) (kk : Int), Below w3.heap.size w3 W → (-1000 ≤ kk ∧ kk ≤ 1000) → Calls Try.prog 31 #[(Value.slice (some ⟨gj, oj, none⟩) n cj), (Value.slice (some ⟨gr, 0, none⟩) n cr), .int .i64 kk] W (GotInts W (shiftL V R kk))) := HA
          have Hsl' : Hid (∀ kk, (shiftL V R kk).length = n) := Hsl
          have HD' : Hid (∀ t : Nat, dT (t + 1) = dT t ++ [(shiftL V R (-(t : Int)), C)]) := HD
          have HU' : Hid (∀ t : Nat, uT (t + 1) = uT t ++ [(shiftL V R ((t : Int) + 1), -C)]) := HU
          have HTl : Hid (tT.length ≤ 21) := Hok2
          clear HA Hsl HD HU Hok2 q2 hct HV
          have k1 := Lib.hid (fun W (hW : Below w3.heap.size w3 W) => (hW.cell (p := ⟨g, o + k * 2, none⟩) hg3).trans q1)
          have k2 := Lib.hid (fun W (hW : Below w3.heap.size w3 W) => (hW.cell (p := ⟨g, o + k * 2 + 1, none⟩) hg3).trans q2')
          have k3 := Lib.hid (fun W (hW : Below w3.heap.size w3 W) => (hW.cell (p := ⟨gj, oj + iN, none⟩) q4).trans p1)
          have c1 := k1.out _ hS.out.bel
          clear q1 q2' p1 q3
          go_wp2_with fail
          go_loopw [8, 12] (fun ov nv wr => ∃ (t gO cO p : Nat) (rs : List WRef), t ≤ ND ∧ nv = .int .i64 t ∧ ov = (Value.slice (some ⟨gO, 0, none⟩) p cO) ∧ Hid (rs.length = p) ∧ Hid (DemSt n (k * 21 + t) w w3 (P0 ++ dT t) wr gO cO rs)) (fun _ nv _ => ND - (intOf nv).toNat)
          case atStart => exact ⟨0, gO, cO, p, rs, Nat.zero_le _, rfl, rfl, hp, by rw [HD0.out, List.append_nil]; exact hS⟩
          case round =>
            clear hS hp c1
            obtain ⟨t, gO, cO, p, rs, ht, rfl, rfl, hp, hS⟩ := hrel
            have c3 := k3.out _ hS.out.bel
            by_cases hlt2 : t < ND
            · have hz : (t : Int) ≤ vi := by have := Hnd.out; omega
              have c2 := k2.out _ hS.out.bel
              have kA := Lib.hid (fun W (hW : Below wr.heap.size wr W) => HA'.out W (-(t : Int)) (hS.out.bel.trans (hW.mono hS.out.bel.size)) ⟨by omega, by omega⟩)
              have kP := Lib.hid (fun W (hW : Below wr.heap.size wr W) gA cA (hA : Own W wr.heap.size gA cA (shiftL V R (-(t : Int)))) => hS.out.put (by omega) hp.out W hW gA cA _ (C) hA (Hsl'.out _) (by omega) ⟨by omega, by omega⟩)
              have Hl0 := Lib.hid (Hsl'.out (-(t : Int)))
              have hgw : g < wr.heap.size := Nat.lt_of_lt_of_le hg3 hS.out.bel.size
              have hbD := Lib.hid (show Below wr.heap.size wr wr.drew from Below.drew (Below.refl _ _))
              have hdd := Lib.hid (HD'.out t)
              have hw1 : IntKind.i64.wrap (-(t : Int)) = -(t : Int) := IntWalk.i64_in _ ⟨by omega, by omega⟩
              clear hS
              generalize shiftL V R (-(t : Int)) = Y at *
              go_wp2_with fail
              go_region_held3 (fun W => W.cell? ⟨g, o + k * 2 + 1, none⟩ = some (.int .i64 C))
                (first | go_keep | exact (hbA.cell (p := ⟨g, o + k * 2 + 1, none⟩) hgw).trans c2 | exact k2.out _ hSB.bel)
                (first
                  | (go_at_call 31; refine (kA.out _ hbD.out).mono ?_; rintro e wA ⟨gA, cA, rfl, hoA, hbA⟩; rw [Hl0.out])
                  | (go_at_call 30; refine (kP.out wA (hbD.out.trans (hbA.mono hbD.out.size)) gA cA hoA).mono ?_; rintro e wB ⟨gB, cB, rsB, rfl, hSB⟩))

              have hS9 : Hid (DemSt n (k * 21 + (t + 1)) w w3 (P0 ++ dT (t + 1)) wB gB cB rsB) := Lib.hid (by rw [hdd.out, ← List.append_assoc, ← Nat.add_assoc]; exact hSB)
              clear kA kP hbA hoA hSB hw1
              go_wp2_with fail
              go_roundw
              case rel => exact ⟨t + 1, gB, cB, _, rsB, by omega, by go_num, rfl, rfl, hS9⟩
              case measure => simp [intOf]; omega
            · obtain rfl : t = ND := by omega
              have hz : ¬ (t : Int) ≤ vi := by have := Hnd.out; omega
              go_wp2_with fail
              clear c3
              go_loopw [8, 13] (fun ov nv wr => ∃ (u gO cO p : Nat) (rs : List WRef), u ≤ NU ∧ nv = .int .i64 ((u : Int) + 1) ∧ ov = (Value.slice (some ⟨gO, 0, none⟩) p cO) ∧ Hid (rs.length = p) ∧ Hid (DemSt n (k * 21 + t + u) w w3 (P0 ++ dT t ++ uT u) wr gO cO rs)) (fun _ nv _ => NU + 1 - (intOf nv).toNat)
              case atStart => exact ⟨0, gO, cO, p, rs, Nat.zero_le _, rfl, rfl, hp, by rw [HU0.out, List.append_nil]; exact hS⟩
              case round =>
                clear hS hp
                obtain ⟨u, gO, cO, p, rs, hu, rfl, rfl, hp, hS⟩ := hrel
                have c3 := k3.out _ hS.out.bel
                by_cases hlt3 : u < NU
                · have hz2 : (u : Int) + 1 < -vi := by have := Hnu.out; omega
                  have c2 := k2.out _ hS.out.bel
                  have kA := Lib.hid (fun W (hW : Below wr.heap.size wr W) => HA'.out W ((u : Int) + 1) (hS.out.bel.trans (hW.mono hS.out.bel.size)) ⟨by omega, by omega⟩)
                  have kP := Lib.hid (fun W (hW : Below wr.heap.size wr W) gA cA (hA : Own W wr.heap.size gA cA (shiftL V R ((u : Int) + 1))) => hS.out.put (by omega) hp.out W hW gA cA _ (-C) hA (Hsl'.out _) (by omega) ⟨by omega, by omega⟩)
                  have Hl0 := Lib.hid (Hsl'.out ((u : Int) + 1))
                  have hgw : g < wr.heap.size := Nat.lt_of_lt_of_le hg3 hS.out.bel.size
                  have hbD := Lib.hid (show Below wr.heap.size wr wr.drew from Below.drew (Below.refl _ _))
                  have hdd := Lib.hid (HU'.out u)
                  have hw1 : IntKind.i64.wrap (-C) = -C := IntWalk.i64_in _ ⟨by omega, by omega⟩
                  have hwv : IntKind.i64.wrap (-vi) = -vi := IntWalk.i64_in _ ⟨by omega, by omega⟩
                  clear hS
                  generalize shiftL V R ((u : Int) + 1) = Y at *
                  go_wp2_with fail
                  go_region_held3 (fun W => W.cell? ⟨g, o + k * 2 + 1, none⟩ = some (.int .i64 C))
                    (first | go_keep | exact (hbA.cell (p := ⟨g, o + k * 2 + 1, none⟩) hgw).trans c2 | exact k2.out _ hSB.bel)
                    (first
                      | (go_at_call 31; refine (kA.out _ hbD.out).mono ?_; rintro e wA ⟨gA, cA, rfl, hoA, hbA⟩; rw [Hl0.out])
                      | (go_at_call 30; refine (kP.out wA (hbD.out.trans (hbA.mono hbD.out.size)) gA cA hoA).mono ?_; rintro e wB ⟨gB, cB, rsB, rfl, hSB⟩))

                  have hS9 : Hid (DemSt n (k * 21 + t + (u + 1)) w w3 (P0 ++ dT t ++ uT (u + 1)) wB gB cB rsB) := Lib.hid (by rw [hdd.out, ← List.append_assoc, ← Nat.add_assoc]; exact hSB)
                  clear kA kP hbA hoA hSB hw1
                  go_wp2_with fail
                  go_roundw
                  case rel => exact ⟨u + 1, gB, cB, _, rsB, by omega, by go_num, rfl, rfl, hS9⟩
                  case measure => simp [intOf]; omega
                · obtain rfl : u = NU := by omega
                  have hz2 : ¬ (u : Int) + 1 < -vi := by have := Hnu.out; omega
                  have hwv : IntKind.i64.wrap (-vi) = -vi := IntWalk.i64_in _ ⟨by omega, by omega⟩
                  have hS9 : Hid (DemSt n ((k + 1) * 21) w w3 PP _ gO cO rs) := Lib.hid (by
                    have h := hS.out
                    rw [List.append_assoc, ← HT.out, ← htk.out] at h
                    refine ⟨h.cont, h.ok.mono ?_, h.own, h.bel⟩
                    have := Hnd.out; have := Hnu.out
                    omega)
                  clear hS
                  go_wp2_with fail
                  go_roundw
                  case rel => exact ⟨k + 1, gO, cO, p, rs, by omega, by go_num, rfl, hp, by rw [HPP.out]; exact hS9⟩
                  case measure => simp [intOf]; omega
        · obtain rfl : k = l.length := by omega
          have hfin := hS.out
          rw [List.take_length] at hfin
          have Hfin := Lib.hid hfin
          have HB := Lib.hid (hb3'.trans (hfin.bel.mono hb3'.size))
          clear hS hfin
          go_wp2_with fail
          go_ret2
          exact GotWB.mk' gO cO rs hp.out Hfin.out.cont Hfin.out.own HB.out
    · have hone' : Hid (∀ W, Calls Try.prog 28 #[.int .i64 i, .int .i64 0, .int .i64 ((c.length : Int) - 1)] W (Reads W (.bool false))) := fun W => by
        have := hone W
        rwa [show (decide (0 ≤ i) && decide (i ≤ (c.length : Int) - 1)) = false by rw [← Bool.decide_and]; exact decide_eq_false (by omega)] at this
      have hno : ¬ demOk c i l := fun h => h2 h.2.1
      rw [(demL_no hno).1, (demL_no hno).2]
      have Hfine := Lib.hid hfine
      clear hfine hone h1 h2 hno
      go_enter Try.func8, Try.ntmps8
      go_wp2_with fail
      refine Hfine.out.mono ?_
      rintro e w1 ⟨rfl, hs1⟩
      go_wp2_with fail
      refine (hone'.out _).mono ?_
      rintro e w2 ⟨rfl, hs2⟩
      go_wp2_with fail
      go_ret2
      exact GotWB.mk' _ 0 [] rfl rfl (HO0.out.still (still_trans hs1 hs2)) (below_still b0 (still_trans hs1 hs2))
  · rw [decide_eq_false h1] at hfine
    have hno : ¬ demOk c i l := fun h => h1 ⟨h.1, h.2.2⟩
    rw [(demL_no hno).1, (demL_no hno).2]
    have Hfine := Lib.hid hfine
    clear hfine hone h1 hno
    go_enter Try.func8, Try.ntmps8
    go_wp2_with fail
    refine Hfine.out.mono ?_
    rintro e w1 ⟨rfl, hs1⟩
    go_wp2_with fail
    go_ret2
    exact GotWB.mk' _ 0 [] rfl rfl (HO0.out.still hs1) (below_still b0 hs1)
end Go.Proofs.Ytihfbbpkgmkbcaa
