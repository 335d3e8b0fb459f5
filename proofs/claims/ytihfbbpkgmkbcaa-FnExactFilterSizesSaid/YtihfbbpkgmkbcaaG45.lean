/- The laws' marks over values of an interval of blocks. The laws' marks over rows, read back. -/
import Derived.Test.YtihfbbpkgmkbcaaG10
namespace Go.Proofs.Ytihfbbpkgmkbcaa
set_option maxRecDepth 100000
open Go.RowKit

theorem markIntS_h {B E g cap : Nat} {xs : List Int} (k0 : Nat) (K : Int) (w : World) (hK : K = (k0 : Int)) (hx : xs.length ≤ 1048576) (hk0 : k0 ≤ 1099511627776) (h : HeldI w B E g cap xs) :
    Calls Try.prog 21 #[(Value.slice (some ⟨g, 0, none⟩) xs.length cap), .int .i64 K] w fun e w' => e = .returned (.int .i64 ((k0 + xs.length : Nat) : Int)) ∧ HeldI w' B E g cap (marks k0 xs.length) ∧ Only B E w w' :=
  (markIntS_n B g _ cap xs k0 K w hK rfl (by omega) hk0 h.1).mono fun _ _ ⟨he, ho, hg⟩ => ⟨he, ⟨ho, h.2⟩, Only.of_grown hg h.1.base h.2⟩
theorem heldIntS_h {B E g cap : Nat} {xs : List Int} (k0 : Nat) (K : Int) (w : World) (hK : K = (k0 : Int)) (hx : xs.length ≤ 1048576) (hk0 : k0 ≤ 1099511627776) (h : HeldI w B E g cap (marks k0 xs.length)) :
    Calls Try.prog 24 #[(Value.slice (some ⟨g, 0, none⟩) xs.length cap), .int .i64 K] w (Gives w (.int .i64 ((k0 + xs.length : Nat) : Int))) :=
  (heldIntS_n g _ cap k0 K w hK (by omega) hk0 h.cells).mono fun _ _ ⟨he, m, hm⟩ => ⟨he, by subst hm; exact below_drewN' w m⟩

theorem Inner.setRow {w w' : World} {B : Nat} {rs : List RowRef} (h : Inner w B rs) (t : Nat) (ht : t < rs.length) (xs : List Int) (hg : w.grownBy w' (some rs[t].1)) (ho : Own w' B rs[t].1 rs[t].2.1 xs) :
    Inner w' B (rs.set t (rs[t].1, rs[t].2.1, xs)) := by
  have hnd := h.2
  refine ⟨fun r hr => ?_, ?_⟩
  · obtain ⟨u, hu, rfl⟩ := List.getElem_of_mem hr
    rw [List.length_set] at hu
    by_cases e : u = t
    · subst e; simpa using ho
    · rw [List.getElem_set_ne (by omega)]
      refine (h.1 rs[u] (List.getElem_mem hu)).grown hg ?_
      intro he
      have he' : rs[u].1 = rs[t].1 := Option.some.inj he
      have h1 : (rs.map (·.1))[u]'(by simpa using hu) = (rs.map (·.1))[t]'(by simpa using ht) := by simpa using he'
      have hp := List.pairwise_iff_getElem.1 hnd
      rcases Nat.lt_or_gt_of_ne e with h2 | h2
      · exact hp u t (by simpa using hu) (by simpa using ht) h2 h1
      · exact hp t u (by simpa using ht) (by simpa using hu) h2 h1.symm
  · have : (rs.set t (rs[t].1, rs[t].2.1, xs)).map (·.1) = rs.map (·.1) := by
      rw [List.map_set]
      apply List.ext_getElem (by simp)
      intro i h1 h2
      by_cases e : i = t
      · subst e; simp
      · rw [List.getElem_set_ne (by omega)]
    rw [this]; exact hnd
theorem rowVal_set {rs : List RowRef} (t : Nat) (ht : t < rs.length) (xs : List Int) (hl : xs.length = rs[t].2.2.length) : (rs.set t (rs[t].1, rs[t].2.1, xs)).map rowVal = rs.map rowVal := by
  rw [List.map_set]
  apply List.ext_getElem (by simp)
  intro i h1 h2
  by_cases e : i = t
  · subst e; simp [rowVal, hl]
  · rw [List.getElem_set_ne (by omega)]
theorem contents_setRow {rs : List RowRef} (t : Nat) (r : RowRef) : contents (rs.set t r) = (contents rs).set t r.2.2 := by simp [contents, List.map_set]

def marksR (k : Nat) (rows : List (List Int)) : List (List Int) := (List.range rows.length).map fun t => marks (k + sumLen rows t) (rows.getD t []).length
def cntR (rows : List (List Int)) : Nat := sumLen rows rows.length
theorem marksR_length (k : Nat) (rows : List (List Int)) : (marksR k rows).length = rows.length := by simp [marksR]
theorem marksR_getD (k : Nat) (rows : List (List Int)) (t : Nat) (ht : t < rows.length) : (marksR k rows).getD t [] = marks (k + sumLen rows t) (rows.getD t []).length := by simp [marksR, List.getD, ht]
theorem mix_set {a b : List (List Int)} {t : Nat} (hl : a.length = b.length) (ht : t < b.length) : (a.take t ++ b.drop t).set t (a.getD t []) = a.take (t + 1) ++ b.drop (t + 1) := by
  have ha : t < a.length := by omega
  rw [List.set_append_right _ _ (by rw [List.length_take]; omega)]
  have e : b.drop t = b[t] :: b.drop (t + 1) := List.drop_eq_getElem_cons ht
  have e2 : t - (a.take t).length = 0 := by rw [List.length_take]; omega
  rw [e2, e, List.set_cons_zero, List.take_succ_eq_append_getElem ha, List.append_assoc]
  simp [List.getD, ha]

set_option maxHeartbeats 2000000 in
theorem markIntSS_h {B E g cap : Nat} {rows : List (List Int)} (k0 : Nat) (K : Int) (w : World) (hK : K = (k0 : Int)) (hx : rowsFew rows) (hk0 : k0 ≤ 549755813888) (h : HeldR w B E g cap rows) :
    Calls Try.prog 14 #[(Value.slice (some ⟨g, 0, none⟩) rows.length cap), .int .i64 K] w fun e w' => e = .returned (.int .i64 ((k0 + cntR rows : Nat) : Int)) ∧ HeldR w' B E g cap (marksR k0 rows) ∧ Only B E w w' := by
  subst hK
  obtain ⟨rs0, hc0, ho0, hgE, hrE⟩ := h
  have hfl := hx.1
  have hsum := hx.2.2
  go_enter Try.func14, Try.ntmps14
  go_wp2
  go_loopw [1, 5] (fun k i wr => ∃ (t : Nat) (rs : List RowRef), t ≤ rows.length ∧ i = .int .i64 t ∧ k = .int .i64 ((k0 + sumLen rows t : Nat) : Int) ∧ Hid (contents rs = (marksR k0 rows).take t ++ rows.drop t) ∧ OwnRows wr B g cap rs ∧ Hid (∀ r ∈ rs, r.1 < E) ∧ Only B E w wr) (fun _ i _ => rows.length - (intOf i).toNat)
  case atStart => exact ⟨0, rs0, Nat.zero_le _, rfl, rfl, by show _ = _; simpa using hc0, ho0, hrE, Only.refl _ _ _⟩
  case round =>
    obtain ⟨t, rs, ht, rfl, rfl, hcont, ho, hE, honly⟩ := hrel
    by_cases hlt : t < rows.length
    · have hrl : rs.length = rows.length := by
        have := congrArg List.length hcont.out
        simp only [contents, List.length_map, List.length_append, List.length_take, List.length_drop, marksR_length] at this
        omega
      have htr : t < rs.length := by omega
      have hcell := ho.1.cell t (by simpa using htr)
      have hrt : rs[t].2.2 = rows.getD t [] := by
        have h1 : (contents rs).getD t [] = rs[t].2.2 := by simp [contents, List.getD, htr]
        rw [← h1, hcont.out]
        simp only [List.getD]
        rw [List.getElem?_append_right (by rw [List.length_take, marksR_length]; omega), List.length_take, marksR_length, show t - min t rows.length = 0 by omega, List.getElem?_drop]
        simp
      have hown := ho.2.1 _ (List.getElem_mem htr)
      have hss := sumLen_succ rows t hlt
      have hsm := sumLen_mono rows (k := t + 1) (n := rows.length) hlt
      have hmg := marksR_getD k0 rows t hlt
      have hcell' : wr.cell? ⟨g, t, none⟩ = some (Value.slice (some ⟨(rs[t].1), 0, none⟩) ((rows.getD t []).length) (rs[t].2.1)) := by
        rw [hcell]; simp only [List.getElem_map, rowVal, hrt]
      have hrb := (ho.2.1 _ (List.getElem_mem htr)).base
      have hrlE := hE.out _ (List.getElem_mem htr)
      have HW : Hid (∀ (w2 : World), Own w2 B rs[t].1 rs[t].2.1 (marks (k0 + sumLen rows t) (rows.getD t []).length) → wr.grownBy w2 (some rs[t].1) →
          ∃ rs2, contents rs2 = (marksR k0 rows).take (t + 1) ++ rows.drop (t + 1) ∧ OwnRows w2 B g cap rs2 ∧ (∀ r ∈ rs2, r.1 < E) ∧ Only B E w w2) := fun w2 how hgr => by
        refine ⟨rs.set t (rs[t].1, rs[t].2.1, marks (k0 + sumLen rows t) (rows.getD t []).length), ?_, ⟨?_, ho.2.setRow t htr _ hgr how⟩, fun r hr => ?_, honly.trans (Only.of_grown hgr hrb hrlE)⟩
        · rw [contents_setRow, hcont.out, ← hmg]
          exact mix_set (marksR_length _ _) hlt
        · rw [rowVal_set t htr _ (by rw [marks_length, hrt])]
          exact ho.1.grown hgr (fun e => ho.1.ne hown.toV (by decide) (Option.some.inj e))
        · rcases List.mem_or_eq_of_mem_set hr with h1 | h1
          · exact hE.out r h1
          · rw [h1]; exact hrlE
      rw [hrt] at hown
      have hxl := hx.2.1 t hlt
      clear hcell hrt hmg hrb hrlE ho honly hE
      generalize rs[t].1 = gr at *
      generalize rs[t].2.1 = cr at *
      generalize hR : rows.getD t [] = R at *
      have hcall := markIntS_n B gr R.length cr R (k0 + sumLen rows t) _ wr rfl rfl (by omega) (by omega) hown
      have Hcall := Lib.hid hcall; have Hss := Lib.hid hss; have HR := Lib.hid hR
      clear hcall hss hR hown hsm
      generalize sumLen rows t = S at *
      go_wp2_with fail
      refine Hcall.out.mono ?_
      rintro e w2 ⟨rfl, how, hgr⟩
      obtain ⟨rs2, q1, q2, q3, q4⟩ := HW.out w2 how hgr
      have Q1 := Lib.hid q1; have Q3 := Lib.hid q3
      clear q1 q3 HW how hgr
      go_wp2_with fail
      go_roundw
      case rel => exact ⟨t + 1, rs2, by omega, by go_num, by rw [Hss.out]; congr 2; omega, Q1.out, q2, Q3.out, q4⟩
      case measure => simp [intOf]; omega
    · obtain rfl : t = rows.length := by omega
      have hc1 := hcont.out
      rw [List.take_of_length_le (by rw [marksR_length]; omega), List.drop_length, List.append_nil] at hc1
      have Hc1 := Lib.hid hc1; clear hc1
      go_wp2
      go_ret
      exact ⟨rfl, ⟨rs, Hc1.out, ho, hgE, hE.out⟩, honly⟩

theorem GotIntsB.held {w w' : World} {xs : List Int} {b : Bool} {e : Ending} (h : GotIntsB w xs b e w') :
    ∃ g cap, e = .returned (.tuple #[(Value.slice (some ⟨g, 0, none⟩) xs.length cap), .bool b]) ∧ HeldI w' w.heap.size w'.heap.size g cap xs ∧ Below w.heap.size w w' := by
  obtain ⟨g, cap, he, ho, hb⟩ := h
  exact ⟨g, cap, he, ⟨ho, ho.lt⟩, hb⟩
theorem GotInts.held {w w' : World} {xs : List Int} {e : Ending} (h : GotInts w xs e w') :
    ∃ g cap, e = .returned (Value.slice (some ⟨g, 0, none⟩) xs.length cap) ∧ HeldI w' w.heap.size w'.heap.size g cap xs ∧ Below w.heap.size w w' := by
  obtain ⟨g, cap, he, ho, hb⟩ := h
  exact ⟨g, cap, he, ⟨ho, ho.lt⟩, hb⟩
end Go.Proofs.Ytihfbbpkgmkbcaa
namespace Go.Proofs.Ytihfbbpkgmkbcaa
set_option maxRecDepth 100000
open Go.RowKit

end Go.Proofs.Ytihfbbpkgmkbcaa
