/- goodCharacter, l30Fine: contracts. -/
import Derived.Test.YtihfbbpkgmkbcaaG20
import Derived.Test.YtihfbbpkgmkbcaaG06
import Derived.Test.YtihfbbpkgmkbcaaStill
import Derived.Test.YtihfbbpkgmkbcaaG26
namespace Go.Proofs.Ytihfbbpkgmkbcaa
set_option maxRecDepth 100000
open Go.RowKit Game

set_option maxHeartbeats 1000000 in
theorem impl_goodCharacter_ok (gc oc n cc g o m cp : Nat) (l : List Wt) (w : World) (hm : l.length = m) (hf : wFew l) (hg : g < w.heap.size) (hl : WRows w g o l) :
    Calls Try.prog 35 #[(Value.slice (some ⟨gc, oc, none⟩) n cc), (Value.slice (some ⟨g, o, none⟩) m cp)] w (Gives w (.bool (decide (goodL n l)))) := by
  subst hm
  have hf1 := hf.1
  have Hl := Lib.hid hl
  have Hf := Lib.hid hf
  have Hno := Lib.hid (fun k (hk : k < l.length) => good_no (n := n) hk)
  have Hbig : Hid (200 < l.length → decide (goodL n l) = false) := fun h => decide_eq_false fun h2 => by have := h2.1; omega
  have Hyes : Hid (l.length ≤ 200 → (∀ j, j < l.length → okW n (l.getD j ([], 0))) → decide (goodL n l) = true) := fun h1 h2 => decide_eq_true ⟨h1, h2⟩
  clear hl hf
  generalize decide (goodL n l) = R at *
  go_enter Try.func35, Try.ntmps35
  by_cases hbig : 200 < l.length
  · have hR := Lib.hid (Hbig.out hbig)
    have hbz : (200 : Int) < (l.length : Int) := by omega
    clear Hno Hbig Hyes hbig
    go_wp2_with fail
    go_ret
    exact ⟨ret_bool hR.out.symm, Below.refl _ _⟩
  have hbz : ¬ (200 : Int) < (l.length : Int) := by omega
  go_wp2_with fail
  go_loopw [6, 8, 14] (fun _ _ iv wr => ∃ k : Nat, k ≤ l.length ∧ iv = .int .i64 k ∧ Hid (∀ j, j < k → okW n (l.getD j ([], 0))) ∧ Below w.heap.size w wr) (fun _ _ iv _ => l.length - (intOf iv).toNat)
  case atStart => exact ⟨0, Nat.zero_le _, rfl, Lib.hid (fun j hj => absurd hj (Nat.not_lt_zero _)), Below.refl _ _⟩
  case round =>
    obtain ⟨k, hk, rfl, hall, hb⟩ := hrel
    by_cases hlt : k < l.length
    · obtain ⟨gj, oj, cj, q1, q2, q3, q4, q5⟩ := Hl.out.below hb hg k hlt
      have hw := Hf.out.2 k hlt
      have hno := Hno.out k hlt
      have Hall2 : Hid (okW n (l.getD k ([], 0)) → ∀ j, j < k + 1 → okW n (l.getD j ([], 0))) := fun h j hj => by
        by_cases e : j = k
        · subst e; exact h
        · exact hall.out j (by omega)
      have e1 : wOf l k = (l.getD k ([], 0)).1 := rfl
      have e2 : ctOf l k = (l.getD k ([], 0)).2 := rfl
      rw [e1] at q1 q3 q5 hw
      rw [e2] at q2
      clear e1 e2
      generalize l.getD k ([], 0) = x at *
      obtain ⟨V, C⟩ := x
      have hno' := Lib.hid hno
      have q1' : wr.cell? ⟨g, o + k * 2, none⟩ = some (Value.slice (some ⟨gj, oj, none⟩) V.length cj) := q1
      have q2' : wr.cell? ⟨g, o + k * 2 + 1, none⟩ = some (.int .i64 C) := q2
      have hw' : V.length ≤ 1048576 := hw
      have q5' : Cells wr gj oj V := q5
      have q4' := q4
      have hb1 : Below wr.heap.size wr (wr.alloc (.cells #[(Value.slice (some ⟨gj, oj, none⟩) V.length cj), .int .i64 C] 48)) := (Below.refl _ _).alloc (Nat.le_refl _) _
      have HB1 := Lib.hid (hb.trans (hb1.mono hb.size))
      have HV := Lib.hid (q5'.below hb1 q4')
      clear hno q1 q2 q5 q4 hw q3 hb1
      by_cases hlen : V.length = n
      · have hlz : ((V.length : Int) != (n : Int)) = false := by rw [hlen]; simp
        by_cases hc1 : C < -1000
        · have hR := Lib.hid (hno'.out fun h => by have h2 : -1000 ≤ C ∧ C ≤ 1000 := h.2.1; omega)
          clear hlen
          go_wp2_with fail
          go_ret
          exact ⟨ret_bool hR.out.symm, HB1.out⟩
        · by_cases hc2 : 1000 < C
          · have hR := Lib.hid (hno'.out fun h => by have h2 : -1000 ≤ C ∧ C ≤ 1000 := h.2.1; omega)
            clear hlen
            go_wp2_with fail
            go_ret
            exact ⟨ret_bool hR.out.symm, HB1.out⟩
          · have HC : Hid (-1000 ≤ C ∧ C ≤ 1000) := Lib.hid (by omega)
            have Hlen := Lib.hid hlen
            clear hlen
            go_wp2_with fail
            go_loopw [8, 37] (fun _ iv wr2 => ∃ t : Nat, t ≤ V.length ∧ iv = .int .i64 t ∧ Hid (∀ j, j < t → -20 ≤ V.getD j 0 ∧ V.getD j 0 ≤ 20) ∧ wr2 = wr.alloc (.cells #[(Value.slice (some ⟨gj, oj, none⟩) V.length cj), .int .i64 C] 48)) (fun _ iv _ => V.length - (intOf iv).toNat)
            case atStart => exact ⟨0, Nat.zero_le _, rfl, Lib.hid (fun j hj => absurd hj (Nat.not_lt_zero _)), rfl⟩
            case round =>
              obtain ⟨t, ht, rfl, hall2, rfl⟩ := hrel
              by_cases hlt2 : t < V.length
              · have p1 := HV.out t hlt2
                have Hn2 : Hid (¬ (-20 ≤ V.getD t 0 ∧ V.getD t 0 ≤ 20) → R = false) := fun h => hno'.out fun h2 => h (h2.2.2 t hlt2)
                have Hy2 : Hid (-20 ≤ V.getD t 0 ∧ V.getD t 0 ≤ 20 → ∀ j, j < t + 1 → -20 ≤ V.getD j 0 ∧ V.getD j 0 ≤ 20) := fun h j hj => by
                  by_cases e : j = t
                  · subst e; exact h
                  · exact hall2.out j (by omega)
                generalize V.getD t 0 = y at *
                by_cases hy1 : y < -20
                · have hR := Lib.hid (Hn2.out (by omega))
                  go_wp2_with fail
                  go_ret
                  exact ⟨ret_bool hR.out.symm, HB1.out⟩
                · by_cases hy2 : 20 < y
                  · have hR := Lib.hid (Hn2.out (by omega))
                    go_wp2_with fail
                    go_ret
                    exact ⟨ret_bool hR.out.symm, HB1.out⟩
                  · have Hy3 := Lib.hid (Hy2.out (by omega))
                    go_wp2_with fail
                    go_roundw
                    case rel => exact ⟨t + 1, by omega, by go_num, Hy3, by first | rfl | trivial⟩
                    case measure => simp [intOf]; omega
              · obtain rfl : t = V.length := by omega
                have Hok := Lib.hid (Hall2.out ⟨Hlen.out, HC.out, hall2.out⟩)
                go_wp2_with fail
                go_roundw
                case rel => exact ⟨k + 1, by omega, by go_num, Hok, HB1.out⟩
                case measure => simp [intOf]; omega
      · have hR := Lib.hid (hno'.out fun h => hlen h.1)
        have hlz : ((V.length : Int) != (n : Int)) = true := by rw [bne_iff_ne]; omega
        clear hlen
        go_wp2_with fail
        go_ret
        exact ⟨ret_bool hR.out.symm, HB1.out⟩
    · obtain rfl : k = l.length := by omega
      have hR := Lib.hid (Hyes.out (by omega) hall.out)
      go_wp2_with fail
      go_ret
      exact ⟨ret_bool hR.out.symm, hb⟩

set_option maxHeartbeats 2000000 in
theorem spec_l30Fine_ok (gc oc n cc g o m cp : Nat) (c : List (List Int)) (l : List Wt) (w : World) (hn : c.length = n) (hm : l.length = m) (hx : c.length ≤ 1048576) (hrl : ∀ j, j < c.length → (c.getD j []).length ≤ 1048576) (hf : wFew l)
    (hr : Rows2 w gc oc c) (hl : WRows w g o l) :
    Calls Try.prog 27 #[(Value.slice (some ⟨gc, oc, none⟩) n cc), (Value.slice (some ⟨g, o, none⟩) m cp)] w (Reads w (.bool (decide (IsC c ∧ goodL c.length l)))) := by
  subst hn; subst hm
  have hf1 := hf.1
  have Hl := Lib.hid hl
  have Hf := Lib.hid hf
  have HIW := Lib.hid (fun (v : List Int) (gv ov cv : Nat) (W : World) (hs : ∃ n, W = w.drewN n) (hv : v.length ≤ 1048576) (hc : Cells W gv ov v) => spec_IsWeight_any gc oc _ cc gv ov _ cv c v W rfl rfl hx hv hrl (hr.still hs) hc)
  have HIC := Lib.hid (fun (W : World) (hs : ∃ n, W = w.drewN n) => spec_IsCartan gc oc _ cc c W rfl (by omega) (fun j hj => by have := hrl j hj; omega) (hr.still hs))
  have Hno : Hid (∀ k, k < l.length → ¬ (IsC c ∧ okW c.length (l.getD k ([], 0))) → decide (IsC c ∧ goodL c.length l) = false) := fun k hk h => decide_eq_false fun h2 => h ⟨h2.1, h2.2.2 k hk⟩
  have Hyes : Hid ((∀ j, j < l.length → okW c.length (l.getD j ([], 0))) → (decide (IsC c) && decide ((l.length : Int) ≤ 200)) = decide (IsC c ∧ goodL c.length l)) := fun h2 => by
    by_cases hC : IsC c
    · by_cases hl : l.length ≤ 200
      · rw [decide_eq_true hC, decide_eq_true (show (l.length : Int) ≤ 200 by omega), decide_eq_true (show IsC c ∧ goodL c.length l from ⟨hC, hl, h2⟩)]; rfl
      · rw [decide_eq_true hC, decide_eq_false (show ¬ (l.length : Int) ≤ 200 by omega), decide_eq_false (show ¬ (IsC c ∧ goodL c.length l) from fun h => hl h.2.1)]; rfl
    · rw [decide_eq_false hC, decide_eq_false (show ¬ (IsC c ∧ goodL c.length l) from fun h => hC h.1)]; rfl
  clear hl hf hr hrl
  generalize hR : decide (IsC c ∧ goodL c.length l) = R at *
  clear hR
  go_enter Try.func27, Try.ntmps27
  go_wp2
  go_loopw [5, 6] (fun iv _ wr => ∃ k q : Nat, k ≤ l.length ∧ iv = .int .i64 k ∧ Hid (∀ j, j < k → okW c.length (l.getD j ([], 0))) ∧ wr = w.drewN q) (fun iv _ _ => l.length - (intOf iv).toNat)
  case atStart => exact ⟨0, 0, Nat.zero_le _, rfl, Lib.hid (fun j hj => absurd hj (Nat.not_lt_zero _)), rfl⟩
  case round =>
    obtain ⟨k, q, hk, rfl, hall, rfl⟩ := hrel
    by_cases hlt : k < l.length
    · obtain ⟨gj, oj, cj, q1, q2, q3, q4, q5⟩ := Hl.out k hlt
      have hw := Hf.out.2 k hlt
      have hno := Hno.out k hlt
      have Hall2 : Hid (okW c.length (l.getD k ([], 0)) → ∀ j, j < k + 1 → okW c.length (l.getD j ([], 0))) := fun h j hj => by
        by_cases e : j = k
        · subst e; exact h
        · exact hall.out j (by omega)
      have e1 : wOf l k = (l.getD k ([], 0)).1 := rfl
      have e2 : ctOf l k = (l.getD k ([], 0)).2 := rfl
      rw [e1] at q1 q3 q5 hw
      rw [e2] at q2
      clear e1 e2
      generalize l.getD k ([], 0) = x at *
      obtain ⟨V, C⟩ := x
      have hno' := Lib.hid hno
      have q1' : w.cell? ⟨g, o + k * 2, none⟩ = some (Value.slice (some ⟨gj, oj, none⟩) V.length cj) := q1
      have q2' : w.cell? ⟨g, o + k * 2 + 1, none⟩ = some (.int .i64 C) := q2
      have hw' : V.length ≤ 1048576 := hw
      have q5' : Cells w gj oj V := q5
      clear hno q1 q2 q5 hw q3
      have HV := Lib.hid q5'
      have hiw := HIW.out V gj oj cj (w.drewN q) ⟨q, rfl⟩ hw' q5'
      clear q5' q4
      by_cases hwt : wtOk c V
      · rw [decide_eq_true hwt] at hiw
        have Hiw := Lib.hid hiw
        have Hwt := Lib.hid hwt
        have hlen : V.length = c.length := hwt.2.1
        have Hlen := Lib.hid hlen
        clear hiw hwt hlen
        by_cases hC : -1000 ≤ C ∧ C ≤ 1000
        · have HL : Hid (∀ W, Calls Try.prog 28 #[.int .i64 C, .int .i64 (-1000), .int .i64 1000] W (Reads W (.bool true))) := fun W => by
            have := spec_l1In C (-1000) 1000 W
            rwa [decide_eq_true hC.1, decide_eq_true hC.2] at this
          have HC := Lib.hid hC
          clear hC
          go_wp2_with fail
          refine Hiw.out.mono ?_
          rintro e w1 ⟨rfl, q', rfl⟩
          rw [World.drewN_drewN]
          go_wp2_with fail
          refine (HL.out _).mono ?_
          rintro e w1 ⟨rfl, q2, rfl⟩
          rw [World.drewN_drewN]
          generalize q + q' + q2 = Q
          clear Hiw HL
          go_wp2_with fail
          go_loopw [6] (fun iv wr => ∃ t q : Nat, t ≤ V.length ∧ iv = .int .i64 t ∧ Hid (∀ j, j < t → -20 ≤ V.getD j 0 ∧ V.getD j 0 ≤ 20) ∧ wr = w.drewN q) (fun iv _ => V.length - (intOf iv).toNat)
          case atStart => exact ⟨0, Q, Nat.zero_le _, rfl, Lib.hid (fun j hj => absurd hj (Nat.not_lt_zero _)), rfl⟩
          case round =>
            clear Q
            obtain ⟨t, Q, ht, rfl, hall2, rfl⟩ := hrel
            by_cases hlt2 : t < V.length
            · have p1 := HV.out t hlt2
              have Hn2 : Hid (¬ (-20 ≤ V.getD t 0 ∧ V.getD t 0 ≤ 20) → R = false) := fun h => hno'.out fun h2 => h (h2.2.2.2 t hlt2)
              have Hy2 : Hid (-20 ≤ V.getD t 0 ∧ V.getD t 0 ≤ 20 → ∀ j, j < t + 1 → -20 ≤ V.getD j 0 ∧ V.getD j 0 ≤ 20) := fun h j hj => by
                by_cases e : j = t
                · subst e; exact h
                · exact hall2.out j (by omega)
              generalize V.getD t 0 = y at *
              have HL0 := Lib.hid (fun W => spec_l1In y (-20) 20 W)
              by_cases hy : -20 ≤ y ∧ y ≤ 20
              · have HL : Hid (∀ W, Calls Try.prog 28 #[.int .i64 y, .int .i64 (-20), .int .i64 20] W (Reads W (.bool true))) := fun W => by
                  have := HL0.out W
                  rwa [decide_eq_true hy.1, decide_eq_true hy.2] at this
                have Hy3 := Lib.hid (Hy2.out hy)
                clear hy HL0
                go_wp2_with fail
                refine (HL.out _).mono ?_
                rintro e w1 ⟨rfl, q2, rfl⟩
                rw [World.drewN_drewN]
                generalize Q + q2 = Q2
                clear HL
                go_wp2_with fail
                go_roundw
                case rel => exact ⟨t + 1, Q2, by omega, by go_num, Hy3, by first | rfl | trivial⟩
                case measure => simp [intOf]; omega
              · have HL : Hid (∀ W, Calls Try.prog 28 #[.int .i64 y, .int .i64 (-20), .int .i64 20] W (Reads W (.bool false))) := fun W => by
                  have := HL0.out W
                  rwa [show (decide (-20 ≤ y) && decide (y ≤ 20)) = false by rw [← Bool.decide_and]; exact decide_eq_false hy] at this
                have hRR := Lib.hid (Hn2.out hy)
                clear hy HL0
                go_wp2_with fail
                refine (HL.out _).mono ?_
                rintro e w1 ⟨rfl, q2, rfl⟩
                rw [World.drewN_drewN]
                go_wp2_with fail
                go_ret
                exact ⟨ret_bool hRR.out.symm, _, rfl⟩
            · obtain rfl : t = V.length := by omega
              have Hok := Lib.hid (Hall2.out ⟨Hlen.out, HC.out, hall2.out⟩)
              go_wp2_with fail
              go_roundw
              case rel => exact ⟨k + 1, Q, by omega, by go_num, Hok, by first | rfl | trivial⟩
              case measure => simp [intOf]; omega
        · have HL : Hid (∀ W, Calls Try.prog 28 #[.int .i64 C, .int .i64 (-1000), .int .i64 1000] W (Reads W (.bool false))) := fun W => by
            have := spec_l1In C (-1000) 1000 W
            rwa [show (decide (-1000 ≤ C) && decide (C ≤ 1000)) = false by rw [← Bool.decide_and]; exact decide_eq_false hC] at this
          have hRR := Lib.hid (hno'.out fun h => hC h.2.2.1)
          clear hC
          go_wp2_with fail
          refine Hiw.out.mono ?_
          rintro e w1 ⟨rfl, q', rfl⟩
          rw [World.drewN_drewN]
          go_wp2_with fail
          refine (HL.out _).mono ?_
          rintro e w1 ⟨rfl, q2, rfl⟩
          rw [World.drewN_drewN]
          go_wp2_with fail
          go_ret
          exact ⟨ret_bool hRR.out.symm, _, rfl⟩
      · rw [decide_eq_false hwt] at hiw
        have Hiw := Lib.hid hiw
        have hRR := Lib.hid (hno'.out fun h => hwt ⟨h.1, h.2.1, fun j hj => by
          have h2 : -20 ≤ V.getD j 0 ∧ V.getD j 0 ≤ 20 := h.2.2.2 j hj
          omega⟩)
        clear hiw hwt
        go_wp2_with fail
        refine Hiw.out.mono ?_
        rintro e w1 ⟨rfl, q', rfl⟩
        rw [World.drewN_drewN]
        go_wp2_with fail
        go_ret
        exact ⟨ret_bool hRR.out.symm, _, rfl⟩
    · obtain rfl : k = l.length := by omega
      have HR := Lib.hid (Hyes.out hall.out)
      have Hic := Lib.hid (HIC.out (w.drewN q) ⟨q, rfl⟩)
      by_cases hC : IsC c
      · rw [decide_eq_true hC] at HR Hic
        clear hC
        go_wp2_with fail
        refine Hic.out.mono ?_
        rintro e w1 ⟨rfl, q', rfl⟩
        rw [World.drewN_drewN]
        go_wp2_with fail
        go_ret
        exact ⟨ret_bool (by have := HR.out; simpa using this), _, rfl⟩
      · rw [decide_eq_false hC] at HR Hic
        clear hC
        go_wp2_with fail
        refine Hic.out.mono ?_
        rintro e w1 ⟨rfl, q', rfl⟩
        rw [World.drewN_drewN]
        go_wp2_with fail
        go_ret
        exact ⟨ret_bool (by have := HR.out; simpa using this), _, rfl⟩
end Go.Proofs.Ytihfbbpkgmkbcaa
