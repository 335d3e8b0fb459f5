/- PartsOf of the reference, IsConnected: contracts. -/
import Derived.Test.YtlloeinpcnlgcaaBfs
import Derived.Test.YtlloeinpcnlgcaaFinS
namespace Go.Proofs.Ytlloeinpcnlgcaa
open Go.RowKit

theorem partsSG_down {tab : List (List Nat)} {t d : Nat} {P : List (List Nat)} (h : partsSG tab (t + d) = some P) : ∃ out, partsSG tab t = some out := by
  induction d generalizing P with
  | zero => exact ⟨P, h⟩
  | succ d ih =>
    have h2 : partsSG tab (t + d + 1) = some P := h
    unfold partsSG at h2
    cases ho : partsSG tab (t + d) with
    | none => rw [ho] at h2; simp at h2
    | some out => exact ih ho
theorem partsSG_step {tab : List (List Nat)} {t : Nat} {out : List (List Nat)} {p : List Nat} (ho : partsSG tab t = some out) (hp : partS tab t = some p) :
    partsSG tab (t + 1) = some (if p.getD 0 0 == t then out ++ [p] else out) := by
  conv => lhs; unfold partsSG
  rw [ho, hp]

set_option maxHeartbeats 4000000 in
theorem spec_PartsOf_ok (gc oc n cc : Nat) (c : List (List Int)) (P : List (List Nat)) (w : World) (hn : c.length = n) (hC : IsC c) (hP : partsSG (nbTab c) c.length = some P) (hpt : ∀ i, i < c.length → ∃ p, partS (nbTab c) i = some p ∧ 1 ≤ p.length ∧ p.length ≤ 4) (hgc : gc < w.heap.size) (hr : Rows2 w gc oc c) :
    Calls Try.prog 12 #[(Value.slice (some ⟨gc, oc, none⟩) n cc)] w (GotRows w (P.map intsOf)) := by
  subst hn
  have hn4 := hC.2.1
  have Hpt := Lib.hid hpt; have HP := Lib.hid hP
  clear hpt hP
  have hcart : Hid (∀ W, Below w.heap.size w W → Calls Try.prog 10 #[(Value.slice (some ⟨gc, oc, none⟩) c.length cc)] W (Reads W (.bool true))) := fun W hW => by
    have := spec_IsCartan gc oc _ cc c W rfl (by omega) (fun j hj => by have := hC.2.2.1 j hj; omega) (hr.below hW hgc)
    rwa [decide_eq_true hC] at this
  go_enter Try.func12, Try.ntmps12
  go_wp2_with fail
  go_loopw [3, 4, 5] (fun ov iv _ wr => ∃ (t g' c' n' : Nat) (rs : List RowRef) (out : List (List Nat)), t ≤ c.length ∧ iv = .int .i64 t ∧ ov = (Value.slice (some ⟨g', 0, none⟩) n' c') ∧ Hid (rs.length = n') ∧ n' ≤ t ∧ Hid (partsSG (nbTab c) t = some out) ∧ Hid (contents rs = out.map intsOf) ∧ OwnRows wr w.heap.size g' c' rs ∧ Below w.heap.size w wr) (fun _ iv _ _ => c.length - (intOf iv).toNat)
  case atStart => exact ⟨0, w.heap.size, 0, 0, [], [], Nat.zero_le _, rfl, rfl, rfl, Nat.le_refl _, rfl, rfl, OwnRows.empty (w := w) (Nat.le_refl _), (Below.refl _ _).alloc (Nat.le_refl _) _⟩
  case round =>
    obtain ⟨t, g', c', n', rs, out, ht, rfl, rfl, hrs, hnt, hout, hcont, ho, hb⟩ := hrel
    by_cases hlt : t < c.length
    · have hltI : (t : Int) < (c.length : Int) := by omega
      obtain ⟨p, hp, hp1, hp4⟩ := Hpt.out t hlt
      have hstep := Lib.hid (partsSG_step hout.out hp)
      go_wp2_with fail
      refine (hcart.out _ hb).mono ?_
      rintro e w2 ⟨rfl, m2, rfl⟩
      have hb2 : Below w.heap.size w (wr.drewN m2) := below_drewN hb m2
      have ho2 : OwnRows (wr.drewN m2) w.heap.size g' c' rs := ho.drewN m2
      clear hb ho
      generalize wr.drewN m2 = w2 at *
      go_wp2_with fail
      refine (spec_l3Part_ok gc oc _ cc t c p w2 rfl hC hlt hp (by have := hb2.size; omega) (hr.below hb2 hgc)).mono ?_
      rintro e w3 ⟨g3, c3, rfl, ho3, hb3⟩
      rw [intsOf_length]
      have q0 := ho3.cell 0 (by rw [intsOf_length]; omega)
      rw [intsOf_getD _ _ (by omega)] at q0
      have hB3 : Below w.heap.size w w3 := hb2.trans (hb3.mono hb2.size)
      have hO3 := ho2.below hb3
      have hrow : rowVal (g3, c3, intsOf p) = (Value.slice (some ⟨g3, 0, none⟩) p.length c3) := by unfold rowVal; rw [intsOf_length]
      have hne : ∀ r ∈ rs, r.1 ≠ g3 := fun r hr => by have h1 := (ho2.2.1 r hr).lt; have h2 := ho3.base; omega
      have ho3' := ho3.mono hb2.size
      have Hrow := Lib.hid hrow; have Hne := Lib.hid hne
      generalize hx : p.getD 0 0 = x at *
      have hx2 : Hid (x = p.getD 0 0) := hx.symm
      clear hb3 hrow hne ho3 ho2 hb2 hp hx
      by_cases hxt : x = t
      · have hs := hstep.out
        rw [hxt, if_pos (by simp)] at hs
        have Hs := Lib.hid hs
        rw [hxt] at q0
        clear hs hstep hx2 hxt
        go_wp2_with (at_builtin; refine wpList_append_row rfl _ _ rfl w.heap.size g' c' n' w3.heap.size rs (g3, c3, intsOf p) _ hrs.out (by rw [Hrow.out]) rfl hO3 ho3' Hne.out rfl rfl (by omega) ?_)
        intro g4 c4 w4 ho4 hg4 _
        go_wp2
        go_roundw
        case rel => exact ⟨t + 1, g4, c4, n' + 1, _, _, by omega, by go_num, rfl, by show _ = _; rw [List.length_append, hrs.out]; rfl, by omega, Hs.out, by show _ = _; rw [contents_push, hcont.out, List.map_append]; rfl, ho4, hB3.grown hg4 hB3.size (by intro j hj; cases hj; exact hO3.base)⟩
        case measure => simp [intOf]; omega
      · have hs := hstep.out
        rw [if_neg (by simpa using hxt)] at hs
        have Hs := Lib.hid hs
        have hxI : ((x : Int) == (t : Int)) = false := by simp; omega
        clear hs hstep hx2 hxt
        go_wp2
        go_roundw
        case rel => exact ⟨t + 1, g', c', n', rs, out, by omega, by go_num, rfl, hrs, by omega, Hs.out, hcont, hO3, hB3⟩
        case measure => simp [intOf]; omega
    · obtain rfl : t = c.length := by omega
      have hPo : P = out := Option.some.inj (HP.out.symm.trans hout.out)
      go_wp2_with fail
      go_ret
      rw [hPo]
      have hl : rs.length = (out.map intsOf).length := by rw [← hcont.out]; simp [contents]
      obtain rfl : n' = (out.map intsOf).length := by rw [← hl, hrs.out]
      exact ⟨g', c', rs, rfl, hcont.out, ho, hb⟩
set_option maxHeartbeats 1000000 in
theorem spec_IsConnected_ok (gc oc n cc : Nat) (c : List (List Int)) (P : List (List Nat)) (w : World) (hn : c.length = n) (hC : IsC c) (hP : partsSG (nbTab c) c.length = some P) (hpt : ∀ i, i < c.length → ∃ p, partS (nbTab c) i = some p ∧ 1 ≤ p.length ∧ p.length ≤ 4) (hgc : gc < w.heap.size) (hr : Rows2 w gc oc c) :
    Calls Try.prog 27 #[(Value.slice (some ⟨gc, oc, none⟩) n cc)] w (Gives w (.bool (P.length == 1))) := by
  go_enter Try.func27, Try.ntmps27
  go_wp2_with fail
  refine (spec_PartsOf_ok gc oc n cc c P w hn hC hP hpt hgc hr).mono ?_
  rintro e w1 ⟨g1, c1, rs1, rfl, hc1, ho1, hb1⟩
  go_wp2_with fail
  go_ret
  refine ⟨ret_bool ?_, hb1⟩
  by_cases h : P.length = 1
  · rw [h]; rfl
  · have h1 : (P.length == 1) = false := by simpa using h
    have h2 : ((P.length : Int) == 1) = false := by simp; omega
    rw [h1]; exact h2
end Go.Proofs.Ytlloeinpcnlgcaa
