/- The laws' marks over lists of weights with counts. -/
import Derived.Test.YtihfbbpkgmkbcaaG45
import Derived.Test.YtihfbbpkgmkbcaaG30
namespace Go.Proofs.Ytihfbbpkgmkbcaa
set_option maxRecDepth 100000
open Go.RowKit

set_option maxHeartbeats 400000 in
theorem markIntS_big (B g n cap : Nat) (xs : List Int) (k0 : Nat) (w : World) (hn : xs.length = n) (hx : n ≤ 1099511627776) (hk0 : k0 ≤ 4503599627370496) (hown : Own w B g cap xs) :
    Calls Try.prog 21 #[(Value.slice (some ⟨g, 0, none⟩) n cap), .int .i64 (k0 : Int)] w fun e w' =>
      e = .returned (.int .i64 ((k0 + n : Nat) : Int)) ∧ Own w' B g cap (marks k0 n) ∧ w.grownBy w' (some g) := by
  subst hn
  go_enter Try.func21, Try.ntmps21
  go_wp2
  go_loopw [1, 5] (fun k i wr => ∃ j : Nat, j ≤ xs.length ∧ i = .int .i64 j ∧ k = .int .i64 ((k0 + j : Nat) : Int) ∧ Own wr B g cap (marks k0 j ++ xs.drop j) ∧ w.grownBy wr (some g)) (fun _ i _ => xs.length - (intOf i).toNat)
  case atStart => exact ⟨0, Nat.zero_le _, rfl, rfl, by simpa [marks] using hown, World.grownBy.refl _ _⟩
  case round =>
    obtain ⟨j, hj, rfl, rfl, ho, hg⟩ := hrel
    by_cases hlt : j < xs.length
    · have hl : (marks k0 j ++ xs.drop j).length = xs.length := by simp [marks_length]; omega
      have h1 := ho.cell j (by rw [hl]; exact hlt)
      have h2 := ho.frozen j
      have Hl := Lib.hid hl; clear hl
      go_wp2
      go_roundw
      case rel =>
        have hs := ho.set j (((k0 + j : Nat) : Int))
        rw [mark_set k0 xs.length j xs rfl hlt] at hs
        exact ⟨j + 1, by omega, by go_num, by go_num, hs.1, World.grownBy.trans' hg hs.2⟩
      case measure => simp [intOf]; omega
    · obtain rfl : j = xs.length := by omega
      go_wp2
      go_ret
      exact ⟨rfl, by simpa using ho, hg⟩

set_option maxHeartbeats 400000 in
theorem heldIntS_big (g cap : Nat) (k0 n : Nat) (w : World) (hx : n ≤ 1099511627776) (hk0 : k0 ≤ 4503599627370496) (hc : Cells w g 0 (marks k0 n)) :
    Calls Try.prog 24 #[(Value.slice (some ⟨g, 0, none⟩) n cap), .int .i64 (k0 : Int)] w (Reads w (.int .i64 ((k0 + n : Nat) : Int))) := by
  have hcell : ∀ j, j < n → w.cell? ⟨g, j, none⟩ = some (.int .i64 ((k0 + j : Nat) : Int)) := fun j hj => by
    have := hc j (by rw [marks_length]; exact hj)
    rw [Nat.zero_add] at this
    rw [this, marks_getD _ _ _ hj]
  clear hc
  go_enter Try.func24, Try.ntmps24
  go_wp2
  go_loopw [1, 5] (fun k i wr => ∃ j : Nat, j ≤ n ∧ i = .int .i64 j ∧ k = .int .i64 ((k0 + j : Nat) : Int) ∧ ∃ m, wr = w.drewN m) (fun _ i _ => n - (intOf i).toNat)
  case atStart => exact ⟨0, Nat.zero_le _, rfl, rfl, 0, rfl⟩
  case round =>
    obtain ⟨j, hj, rfl, rfl, m, rfl⟩ := hrel
    by_cases hlt : j < n
    · have h1 := hcell j hlt
      clear hcell
      go_wp2
      go_roundw
      case rel => exact ⟨j + 1, by omega, by go_num, by go_num, m, rfl⟩
      case measure => simp [intOf]; omega
    · obtain rfl : j = n := by omega
      go_wp2
      go_ret
      exact ⟨rfl, m, rfl⟩

/-- how many marks lie ahead of the t-th weight -/
def sumWs : List Wt → Nat → Nat
  | _, 0 => 0
  | l, t + 1 => sumWs l t + (wOf l t).length + 1
def cntWs (l : List Wt) : Nat := sumWs l l.length
theorem sumWs_bound {l : List Wt} (h : wFew l) : ∀ t, t ≤ l.length → sumWs l t ≤ t * 1048577
  | 0, _ => Nat.zero_le _
  | t + 1, ht => by
    have ih := sumWs_bound h t (by omega)
    have := h.2 t (by omega)
    show sumWs l t + (wOf l t).length + 1 ≤ _
    omega
def marksWs (k : Nat) (l : List Wt) : List Wt := (List.range l.length).map fun t => (marks (k + sumWs l t) (wOf l t).length, ((k + sumWs l t + (wOf l t).length : Nat) : Int))
theorem marksWs_length (k : Nat) (l : List Wt) : (marksWs k l).length = l.length := by simp [marksWs]
theorem marksWs_getD (k : Nat) (l : List Wt) (t : Nat) (ht : t < l.length) : (marksWs k l).getD t ([], 0) = (marks (k + sumWs l t) (wOf l t).length, ((k + sumWs l t + (wOf l t).length : Nat) : Int)) := by simp [marksWs, List.getD, ht]
theorem flatW_set (r : WRef) : ∀ (rs : List WRef) (t : Nat), flatW (rs.set t r) = ((flatW rs).set (t * 2) (rowVal r.1)).set (t * 2 + 1) (.int .i64 r.2)
  | [], t => by simp [flatW]
  | s :: rs, 0 => by simp [flatW]
  | s :: rs, t + 1 => by
    have ih := flatW_set r rs t
    have e1 : flatW ((s :: rs).set (t + 1) r) = rowVal s.1 :: .int .i64 s.2 :: flatW (rs.set t r) := by simp [flatW]
    have e2 : flatW (s :: rs) = rowVal s.1 :: .int .i64 s.2 :: flatW rs := by simp [flatW]
    rw [e1, e2, ih, show (t + 1) * 2 = t * 2 + 1 + 1 by omega]
    simp
section
variable {w w' : World} {B g cap : Nat} {rs : List WRef}
theorem OwnW.setRow (h : OwnW w B g cap rs) (t : Nat) (ht : t < rs.length) (xs : List Int) (hl : xs.length = rs[t].1.2.2.length) (hg : w.grownBy w' (some rs[t].1.1)) (ho : Own w' B rs[t].1.1 rs[t].1.2.1 xs) :
    OwnW w' B g cap (rs.set t ((rs[t].1.1, rs[t].1.2.1, xs), rs[t].2)) := by
  have hm := h.ofMem (List.getElem_mem ht)
  obtain ⟨f1, f2⟩ := flatW_at rs [] t ht
  rw [List.append_nil] at f1 f2
  refine ⟨?_, ?_⟩
  · rw [flatW_set, List.length_set]
    have e1 : (flatW rs).set (t * 2) (rowVal (rs[t].1.1, rs[t].1.2.1, xs)) = flatW rs := by
      apply List.ext_getElem (by simp)
      intro i h1 h2
      rw [List.getElem_set]
      split
      · rename_i e
        subst e
        rw [List.getElem?_eq_getElem h2] at f1
        rw [Option.some.inj f1]
        unfold rowVal; rw [hl]
      · rfl
    have e2 : (flatW rs).set (t * 2 + 1) (.int .i64 rs[t].2) = flatW rs := by
      apply List.ext_getElem (by simp)
      intro i h1 h2
      rw [List.getElem_set]
      split
      · rename_i e
        subst e
        rw [List.getElem?_eq_getElem h2] at f2
        exact (Option.some.inj f2).symm
      · rfl
    show OwnK w' B _ 2 g cap rs.length (((flatW rs).set (t * 2) (rowVal (rs[t].1.1, rs[t].1.2.1, xs))).set (t * 2 + 1) (.int .i64 rs[t].2))
    rw [e1, e2]
    exact OwnK.grown h.1 hg (fun e => h.ne hm (Option.some.inj e))
  · have h1 := Inner.setRow (rs := rs.map (·.1)) h.2 t (by simpa using ht) xs (by simpa using hg) (by simpa using ho)
    simpa [List.map_set] using h1
theorem OwnW.setCt (h : OwnW w B g cap rs) (t : Nat) (ht : t < rs.length) (z : Int) : OwnW (w.setCell ⟨g, t * 2 + 1, none⟩ (.int .i64 z)) B g cap (rs.set t (rs[t].1, z)) ∧ w.grownBy (w.setCell ⟨g, t * 2 + 1, none⟩ (.int .i64 z)) (some g) := by
  have h1 := OwnK.set h.1 (t * 2 + 1) (.int .i64 z)
  obtain ⟨f1, f2⟩ := flatW_at rs [] t ht
  rw [List.append_nil] at f1 f2
  have e1 : (flatW rs).set (t * 2) (rowVal rs[t].1) = flatW rs := by
    apply List.ext_getElem (by simp)
    intro i h1 h2
    rw [List.getElem_set]
    split
    · rename_i e
      subst e
      rw [List.getElem?_eq_getElem h2] at f1
      exact (Option.some.inj f1).symm
    · rfl
  refine ⟨⟨?_, ?_⟩, h1.2⟩
  · rw [flatW_set, List.length_set]
    show OwnK _ B _ 2 g cap rs.length (((flatW rs).set (t * 2) (rowVal rs[t].1)).set (t * 2 + 1) (.int .i64 z))
    rw [e1]
    exact h1.1
  · have e2 : (rs.set t (rs[t].1, z)).map (·.1) = rs.map (·.1) := by
      rw [List.map_set]
      apply List.ext_getElem (by simp)
      intro i h1 h2
      rw [List.getElem_set]
      split
      · rename_i e; subst e; simp
      · rfl
    rw [e2]
    refine ⟨fun r hr => (h.2.1 r hr).grown h1.2 (fun e => ?_), h.2.2⟩
    exact h.ne (h.2.1 r hr) (Option.some.inj e).symm
end
theorem contW_set (rs : List WRef) (t : Nat) (r : WRef) : contW (rs.set t r) = (contW rs).set t (r.1.2.2, r.2) := by simp [contW, List.map_set]
theorem mixW_set {a b : List Wt} {t : Nat} (hl : a.length = b.length) (ht : t < b.length) : (a.take t ++ b.drop t).set t (a.getD t ([], 0)) = a.take (t + 1) ++ b.drop (t + 1) := by
  have ha : t < a.length := by omega
  rw [List.set_append_right _ _ (by rw [List.length_take]; omega)]
  have e : b.drop t = b[t] :: b.drop (t + 1) := List.drop_eq_getElem_cons ht
  have e2 : t - (a.take t).length = 0 := by rw [List.length_take]; omega
  rw [e2, e, List.set_cons_zero, List.take_succ_eq_append_getElem ha, List.append_assoc]
  simp [List.getD, ha]

set_option maxHeartbeats 2000000 in
theorem markWeightedS_h {B E g cap : Nat} {l : List Wt} (k0 : Nat) (K : Int) (w : World) (hK : K = (k0 : Int)) (hx : wFew l) (hk0 : k0 ≤ 549755813888) (h : HeldW w B E g cap l) :
    Calls Try.prog 15 #[(Value.slice (some ⟨g, 0, none⟩) l.length cap), .int .i64 K] w fun e w' => e = .returned (.int .i64 ((k0 + cntWs l : Nat) : Int)) ∧ HeldW w' B E g cap (marksWs k0 l) ∧ Only B E w w' := by
  subst hK
  obtain ⟨rs0, hc0, ho0, hgE, hrE⟩ := h
  have hfl := hx.1
  have Hb := Lib.hid (fun t (ht : t ≤ l.length) => sumWs_bound hx t ht)
  go_enter Try.func15, Try.ntmps15
  go_wp2
  go_loopw [1, 5] (fun k i wr => ∃ (t : Nat) (rs : List WRef), t ≤ l.length ∧ i = .int .i64 t ∧ k = .int .i64 ((k0 + sumWs l t : Nat) : Int) ∧ Hid (contW rs = (marksWs k0 l).take t ++ l.drop t) ∧ OwnW wr B g cap rs ∧ Hid (∀ r ∈ rs, r.1.1 < E) ∧ Only B E w wr) (fun _ i _ => l.length - (intOf i).toNat)
  case atStart => exact ⟨0, rs0, Nat.zero_le _, rfl, rfl, by show _ = _; simpa using hc0, ho0, hrE, Only.refl _ _ _⟩
  case round =>
    obtain ⟨t, rs, ht, rfl, rfl, hcont, ho, hE, honly⟩ := hrel
    by_cases hlt : t < l.length
    · have hrl : rs.length = l.length := by
        have := congrArg List.length hcont.out
        simp only [contW_length, List.length_append, List.length_take, List.length_drop, marksWs_length] at this
        omega
      have htr : t < rs.length := by omega
      obtain ⟨c1, c2⟩ := ho.cells htr
      have hrt : (rs[t].1.2.2, rs[t].2) = l.getD t ([], 0) := by
        have h1 : (contW rs).getD t ([], 0) = (rs[t].1.2.2, rs[t].2) := by simp [contW, List.getD, htr]
        rw [← h1, hcont.out]
        simp only [List.getD]
        rw [List.getElem?_append_right (by rw [List.length_take, marksWs_length]; omega), List.length_take, marksWs_length, show t - min t l.length = 0 by omega, List.getElem?_drop]
        simp
      have hrt1 : rs[t].1.2.2 = wOf l t := congrArg Prod.fst hrt
      have hown := ho.ofMem (List.getElem_mem htr)
      have hb1 := Hb.out t (by omega)
      have hmg := marksWs_getD k0 l t hlt
      have hrb := hown.base
      have hrlE := hE.out _ (List.getElem_mem htr)
      have hxl := hx.2 t hlt
      have hgb := ho.base
      have HW : Hid (∀ (w2 : World), Own w2 B rs[t].1.1 rs[t].1.2.1 (marks (k0 + sumWs l t) (wOf l t).length) → wr.grownBy w2 (some rs[t].1.1) →
          (w2.cell? ⟨g, t * 2 + 1, none⟩).isSome = true ∧ w2.frozen? ⟨g, t * 2 + 1, none⟩ = false ∧ ∀ z, z = ((k0 + sumWs l t + (wOf l t).length : Nat) : Int) → ∃ rs2, contW rs2 = (marksWs k0 l).take (t + 1) ++ l.drop (t + 1) ∧ OwnW (w2.setCell ⟨g, t * 2 + 1, none⟩ (.int .i64 z)) B g cap rs2 ∧ (∀ r ∈ rs2, r.1.1 < E) ∧ Only B E w (w2.setCell ⟨g, t * 2 + 1, none⟩ (.int .i64 z))) := fun w2 how hgr => by
        have h2 := ho.setRow t htr _ (by rw [marks_length, hrt1]) hgr how
        have hl2 : t < (rs.set t ((rs[t].1.1, rs[t].1.2.1, marks (k0 + sumWs l t) (wOf l t).length), rs[t].2)).length := by rw [List.length_set]; exact htr
        refine ⟨by rw [(h2.cells hl2).2]; rfl, h2.frozen _, fun z hz => ?_⟩
        have h3 := h2.setCt t hl2 z
        refine ⟨_, ?_, h3.1, fun r hr => ?_, (honly.trans (Only.of_grown hgr hrb hrlE)).trans (Only.of_grown h3.2 hgb hgE)⟩
        · rw [contW_set, contW_set, hcont.out, List.set_set]
          simp only [List.getElem_set_self]
          rw [hz, ← hmg]
          exact mixW_set (marksWs_length _ _) hlt
        · rcases List.mem_or_eq_of_mem_set hr with h1 | h1
          · rcases List.mem_or_eq_of_mem_set h1 with h4 | h4
            · exact hE.out r h4
            · rw [h4]; exact hrlE
          · rw [h1]
            simp only [List.getElem_set_self]
            exact hrlE
      rw [hrt1] at hown
      have c1' : wr.cell? ⟨g, t * 2, none⟩ = some (Value.slice (some ⟨(rs[t].1.1), 0, none⟩) ((wOf l t).length) (rs[t].1.2.1)) := by rw [c1]; unfold rowVal; rw [hrt1]
      clear c1 c2 hrt hrt1 hmg hrb hrlE ho honly hE
      generalize rs[t].1.1 = gr at *
      generalize rs[t].1.2.1 = cr at *
      have hcall := markIntS_big B gr _ cr (wOf l t) (k0 + sumWs l t) wr rfl (by omega) (by omega) hown
      have Hcall := Lib.hid hcall; have Hss : Hid (sumWs l (t + 1) = sumWs l t + (wOf l t).length + 1) := rfl
      have hss := Hss.out
      have hb2 := Hb.out (t + 1) (by omega)
      rw [hss] at hb2
      clear hcall hown hss
      generalize hR : (wOf l t).length = R at *
      generalize sumWs l t = S at *
      clear hR
      go_wp2_with fail
      refine Hcall.out.mono ?_
      rintro e w2 ⟨rfl, how, hgr⟩
      obtain ⟨z1, z2, z3⟩ := HW.out w2 how hgr
      obtain ⟨v9, z1⟩ := Option.isSome_iff_exists.1 z1
      obtain ⟨rs2, q1, q2, q3, q4⟩ := z3 _ rfl
      have Q1 := Lib.hid q1; have Q2 := Lib.hid q2; have Q3 := Lib.hid q3; have Q4 := Lib.hid q4
      clear z3 q1 q2 q3 q4 HW how hgr
      go_wp2_with fail
      go_roundw
      case rel => exact ⟨t + 1, rs2, by omega, by go_num, by rw [Hss.out]; congr 2; omega, Q1.out, Q2.out, Q3.out, Q4.out⟩
      case measure => simp [intOf]; omega
    · obtain rfl : t = l.length := by omega
      have hc1 := hcont.out
      rw [List.take_of_length_le (by rw [marksWs_length]; omega), List.drop_length, List.append_nil] at hc1
      have Hc1 := Lib.hid hc1; clear hc1
      go_wp2
      go_ret
      exact ⟨rfl, ⟨rs, Hc1.out, ho, hgE, hE.out⟩, honly⟩

set_option maxHeartbeats 2000000 in
theorem heldWeightedS_h {B E g cap : Nat} {l : List Wt} (k0 : Nat) (K : Int) (w : World) (hK : K = (k0 : Int)) (hx : wFew l) (hk0 : k0 ≤ 549755813888) (h : HeldW w B E g cap (marksWs k0 l)) :
    Calls Try.prog 16 #[(Value.slice (some ⟨g, 0, none⟩) l.length cap), .int .i64 K] w (Gives w (.int .i64 ((k0 + cntWs l : Nat) : Int))) := by
  subst hK
  have hfl := hx.1
  have Hb := Lib.hid (fun t (ht : t ≤ l.length) => sumWs_bound hx t ht)
  have HG : Hid (∀ t, t < l.length → ∃ g2 o2 c2, w.cell? ⟨g, t * 2, none⟩ = some (Value.slice (some ⟨g2, 0, none⟩) ((wOf l t).length) c2) ∧ w.cell? ⟨g, t * 2 + 1, none⟩ = some (.int .i64 ((k0 + sumWs l t + (wOf l t).length : Nat) : Int)) ∧ Cells w g2 0 (marks (k0 + sumWs l t) (wOf l t).length) ∧ o2 = 0) := by
    intro t ht
    obtain ⟨rs, hc, ho, -, -⟩ := h
    have hrl : rs.length = l.length := by rw [← contW_length, hc, marksWs_length]
    have htr : t < rs.length := by omega
    obtain ⟨c1, c2⟩ := ho.cells htr
    have hrt : (rs[t].1.2.2, rs[t].2) = (marks (k0 + sumWs l t) (wOf l t).length, ((k0 + sumWs l t + (wOf l t).length : Nat) : Int)) := by
      rw [← marksWs_getD k0 l t ht, ← hc]
      simp [contW, List.getD, htr]
    have e1 : rs[t].1.2.2 = marks (k0 + sumWs l t) (wOf l t).length := congrArg Prod.fst hrt
    have e2 : rs[t].2 = ((k0 + sumWs l t + (wOf l t).length : Nat) : Int) := congrArg Prod.snd hrt
    have hown := ho.ofMem (List.getElem_mem htr)
    refine ⟨rs[t].1.1, 0, rs[t].1.2.1, ?_, ?_, ?_, rfl⟩
    · rw [c1]; unfold rowVal; rw [e1, marks_length]
    · rw [c2, e2]
    · rw [← e1]; exact hown.cells
  clear h
  go_enter Try.func16, Try.ntmps16
  go_wp2
  go_loopw [1, 5] (fun k i wr => ∃ (t n : Nat), t ≤ l.length ∧ i = .int .i64 t ∧ k = .int .i64 ((k0 + sumWs l t : Nat) : Int) ∧ wr = w.drewN n) (fun _ i _ => l.length - (intOf i).toNat)
  case atStart => exact ⟨0, 0, Nat.zero_le _, rfl, rfl, rfl⟩
  case round =>
    obtain ⟨t, n, ht, rfl, rfl, rfl⟩ := hrel
    by_cases hlt : t < l.length
    · obtain ⟨gr, _, cr, c1, c2, hcs, -⟩ := HG.out t hlt
      have hxl := hx.2 t hlt
      have hb1 := Hb.out t (by omega)
      have Hss : Hid (sumWs l (t + 1) = sumWs l t + (wOf l t).length + 1) := rfl
      have hb2 := Hb.out (t + 1) (by omega)
      rw [Hss.out] at hb2
      have c1' : (w.drewN n).cell? ⟨g, t * 2, none⟩ = some (Value.slice (some ⟨gr, 0, none⟩) ((wOf l t).length) cr) := c1
      have c2' : ∀ m, (w.drewN m).cell? ⟨g, t * 2 + 1, none⟩ = some (.int .i64 ((k0 + sumWs l t + (wOf l t).length : Nat) : Int)) := fun m => c2
      have hcall := heldIntS_big gr cr (k0 + sumWs l t) (wOf l t).length (w.drewN n) (by omega) (by omega) hcs
      have Hcall := Lib.hid hcall
      clear hcall hcs c1 c2
      generalize hR : (wOf l t).length = R at *
      generalize sumWs l t = S at *
      have hnn : ¬ ((k0 + S + R : Nat) : Int) < 0 := by omega
      clear hR
      go_wp2_with fail
      refine Hcall.out.mono ?_
      rintro e w2 ⟨rfl, m, rfl⟩
      rw [World.drewN_drewN]
      have c3 := c2' (n + m)
      clear c2' c1'
      go_wp2_with fail
      go_roundw
      case rel => exact ⟨t + 1, n + m, by omega, by go_num, by rw [Hss.out]; congr 2; omega, by first | rfl | trivial⟩
      case measure => simp [intOf]; omega
    · obtain rfl : t = l.length := by omega
      go_wp2
      go_ret
      exact ⟨rfl, below_drewN' w n⟩
end Go.Proofs.Ytihfbbpkgmkbcaa
