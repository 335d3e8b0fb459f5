/- PartsOf of the reference, IsConnected: contracts. slices.Sort of few integers: contract. PartsOf of the program: contract. -/
import Derived.Test.YtdedkfbiookofaaGreatDoorK16
import Derived.Test.YtdedkfbiookofaaGreatDoorK06
import Derived.WalkLawsBesides
import Derived.StillTailTactics
import Derived.BigRegion
namespace Go.Proofs.YtdedkfbiookofaaGreatDoor
set_option maxRecDepth 100000
open Go.RowKit
theorem partsSG_step {tab : List (List Nat)} {t : Nat} {out : List (List Nat)} {p : List Nat} (ho : partsSG tab t = some out) (hp : partS tab t = some p) :
    partsSG tab (t + 1) = some (if p.getD 0 0 == t then out ++ [p] else out) := by
  conv => lhs; unfold partsSG
  rw [ho, hp]
set_option maxHeartbeats 4000000 in
theorem spec_PartsOf_ok (gc oc n cc : Nat) (c : List (List Int)) (P : List (List Nat)) (w : World) (hn : c.length = n) (hC : IsC c) (hP : partsSG (nbTab c) c.length = some P) (hpt : ∀ i, i < c.length → ∃ p, partS (nbTab c) i = some p ∧ 1 ≤ p.length ∧ p.length ≤ 4) (hgc : gc < w.heap.size) (hr : Rows2 w gc oc c) :
    Calls Tryz.prog 136 #[(Value.slice (some ⟨gc, oc, none⟩) n cc)] w (GotRows w (P.map intsOf)) := by
  subst hn
  have hn4 := hC.2.1
  have Hpt := Lib.hid hpt; have HP := Lib.hid hP
  clear hpt hP
  have hcart : Hid (∀ W, Below w.heap.size w W → Calls Tryz.prog 93 #[(Value.slice (some ⟨gc, oc, none⟩) c.length cc)] W (Reads W (.bool true))) := fun W hW => by
    have := spec_IsCartan gc oc _ cc c W rfl (by omega) (fun j hj => by have := hC.2.2.1 j hj; omega) (hr.below hW hgc)
    rwa [decide_eq_true hC] at this
  go_enter Tryz.func136, Tryz.ntmps136
  go_wp2_with fail
  go_loopw [3, 4, 5] (fun ov iv _ wr => ∃ (t g' c' n' : Nat) (rs : List RowRef) (out : List (List Nat)), t ≤ c.length ∧ iv = .int .i64 t ∧ ov = (Value.slice (some ⟨g', 0, none⟩) n' c') ∧ Hid (rs.length = n') ∧ n' ≤ t ∧ Hid (partsSG (nbTab c) t = some out) ∧ Hid (contents rs = out.map intsOf) ∧ OwnRows wr w.heap.size g' c' rs ∧ Below w.heap.size w wr) (fun _ iv _ _ => c.length - (intOf iv).toNat)
  case atStart => exact ⟨0, w.heap.size, 0, 0, [], [], Nat.zero_le _, rfl, rfl, rfl, Nat.le_refl _, rfl, rfl, OwnRows.empty (w := w) (Nat.le_refl _), (Below.refl _ _).alloc (Nat.le_refl _) _⟩
  case round =>
    obtain ⟨t, g', c', n', rs, out, ht, rfl, rfl, hrs, hnt, hout, hcont, ho, hb⟩ := hrel
    by_cases hlt : t < c.length
    · have hltI : (t : Int) < (c.length : Int) := by omega
      obtain ⟨p, hp, hp1, hp4⟩ := Hpt.out t hlt
      have hstep := Lib.hid (partsSG_step hout.out hp)
      go_wp2_with fail
      refine (hcart.out _ hb).mono ?_
      rintro e w2 ⟨rfl, m2, rfl⟩
      have hb2 : Below w.heap.size w (wr.drewN m2) := below_drewN hb m2
      have ho2 : OwnRows (wr.drewN m2) w.heap.size g' c' rs := ho.drewN m2
      clear hb ho
      generalize wr.drewN m2 = w2 at *
      go_wp2_with fail
      refine (spec_l3Part_ok gc oc _ cc t c p w2 rfl hC hlt hp (by have := hb2.size; omega) (hr.below hb2 hgc)).mono ?_
      rintro e w3 ⟨g3, c3, rfl, ho3, hb3⟩
      rw [intsOf_length]
      have q0 := ho3.cell 0 (by rw [intsOf_length]; omega)
      rw [intsOf_getD _ _ (by omega)] at q0
      have hB3 : Below w.heap.size w w3 := hb2.trans (hb3.mono hb2.size)
      have hO3 := ho2.below hb3
      have hrow : rowVal (g3, c3, intsOf p) = (Value.slice (some ⟨g3, 0, none⟩) p.length c3) := by unfold rowVal; rw [intsOf_length]
      have hne : ∀ r ∈ rs, r.1 ≠ g3 := fun r hr => by have h1 := (ho2.2.1 r hr).lt; have h2 := ho3.base; omega
      have ho3' := ho3.mono hb2.size
      have Hrow := Lib.hid hrow; have Hne := Lib.hid hne
      generalize hx : p.getD 0 0 = x at *
      have hx2 : Hid (x = p.getD 0 0) := hx.symm
      clear hb3 hrow hne ho3 ho2 hb2 hp hx
      by_cases hxt : x = t
      · have hs := hstep.out
        rw [hxt, if_pos (by simp)] at hs
        have Hs := Lib.hid hs
        rw [hxt] at q0
        clear hs hstep hx2 hxt
        go_wp2_with (at_builtin; refine wpList_append_row rfl _ _ rfl w.heap.size g' c' n' w3.heap.size rs (g3, c3, intsOf p) _ hrs.out (by rw [Hrow.out]) rfl hO3 ho3' Hne.out rfl rfl (by omega) ?_)
        intro g4 c4 w4 ho4 hg4 _
        go_wp2
        go_roundw
        case rel => exact ⟨t + 1, g4, c4, n' + 1, _, _, by omega, by go_num, rfl, by show _ = _; rw [List.length_append, hrs.out]; rfl, by omega, Hs.out, by show _ = _; rw [contents_push, hcont.out, List.map_append]; rfl, ho4, hB3.grown hg4 hB3.size (by intro j hj; cases hj; exact hO3.base)⟩
        case measure => simp [intOf]; omega
      · have hs := hstep.out
        rw [if_neg (by simpa using hxt)] at hs
        have Hs := Lib.hid hs
        have hxI : ((x : Int) == (t : Int)) = false := by simp; omega
        clear hs hstep hx2 hxt
        go_wp2
        go_roundw
        case rel => exact ⟨t + 1, g', c', n', rs, out, by omega, by go_num, rfl, hrs, by omega, Hs.out, hcont, hO3, hB3⟩
        case measure => simp [intOf]; omega
    · obtain rfl : t = c.length := by omega
      have hPo : P = out := Option.some.inj (HP.out.symm.trans hout.out)
      go_wp2_with fail
      go_ret
      rw [hPo]
      have hl : rs.length = (out.map intsOf).length := by rw [← hcont.out]; simp [contents]
      obtain rfl : n' = (out.map intsOf).length := by rw [← hl, hrs.out]
      exact ⟨g', c', rs, rfl, hcont.out, ho, hb⟩
set_option maxHeartbeats 1000000 in
theorem spec_IsConnected_ok (gc oc n cc : Nat) (c : List (List Int)) (P : List (List Nat)) (w : World) (hn : c.length = n) (hC : IsC c) (hP : partsSG (nbTab c) c.length = some P) (hpt : ∀ i, i < c.length → ∃ p, partS (nbTab c) i = some p ∧ 1 ≤ p.length ∧ p.length ≤ 4) (hgc : gc < w.heap.size) (hr : Rows2 w gc oc c) :
    Calls Tryz.prog 164 #[(Value.slice (some ⟨gc, oc, none⟩) n cc)] w (Gives w (.bool (P.length == 1))) := by
  go_enter Tryz.func164, Tryz.ntmps164
  go_wp2_with fail
  refine (spec_PartsOf_ok gc oc n cc c P w hn hC hP hpt hgc hr).mono ?_
  rintro e w1 ⟨g1, c1, rs1, rfl, hc1, ho1, hb1⟩
  go_wp2_with fail
  go_ret
  refine ⟨ret_bool ?_, hb1⟩
  by_cases h : P.length = 1
  · rw [h]; rfl
  · have h1 : (P.length == 1) = false := by simpa using h
    have h2 : ((P.length : Int) == 1) = false := by simp; omega
    rw [h1]; exact h2
end Go.Proofs.YtdedkfbiookofaaGreatDoor
namespace Go.Proofs.YtdedkfbiookofaaGreatDoor
set_option maxRecDepth 100000
open Go.RowKit
theorem srt_isNaN (x : Int) (w : World) : Calls Tryz.prog 217 #[.int .i64 x] w (Reads w (.bool false)) := by
  go_enter Tryz.func217, Tryz.ntmps217
  go_wp2
  go_ret
  exact ⟨ret_bool (by simp), 0, rfl⟩
set_option maxHeartbeats 400000 in
theorem srt_Less (x y : Int) (w : World) : Calls Tryz.prog 246 #[.int .i64 x, .int .i64 y] w (Reads w (.bool (decide (x < y)))) := by
  go_enter Tryz.func246, Tryz.ntmps246
  go_wp2_with fail
  refine (srt_isNaN x _).mono ?_
  rintro e w1 ⟨rfl, m1, rfl⟩
  go_wp2_with fail
  go_ret
  exact ⟨rfl, m1, rfl⟩
def insI (x : Int) : List Int → List Int
  | [] => [x]
  | y :: l => if x < y then x :: y :: l else y :: insI x l
def sortI (l : List Int) : List Int := l.foldl (fun a x => insI x a) []
theorem insI_split {x : Int} : ∀ {A B : List Int}, (∀ y ∈ A, ¬ x < y) → (∀ y ∈ B, x < y) → insI x (A ++ B) = A ++ x :: B := by
  intro A
  induction A with
  | nil =>
    intro B _ hB
    cases B with
    | nil => rfl
    | cons y B => simp [insI, hB y (by simp)]
  | cons a A ih =>
    intro B hA hB
    simp only [List.cons_append, insI]
    rw [if_neg (hA a (by simp)), ih (fun y hy => hA y (by simp [hy])) hB]
theorem insI_mem {x y : Int} : ∀ {S : List Int}, y ∈ insI x S → y = x ∨ y ∈ S := by
  intro S
  induction S with
  | nil => intro h; simp [insI] at h; exact .inl h
  | cons a S ih =>
    intro h
    simp only [insI] at h
    split at h
    · simp at h; rcases h with h | h | h <;> simp [h]
    · simp at h
      rcases h with h | h
      · simp [h]
      · rcases ih h with h | h <;> simp [h]
theorem insI_sorted {x : Int} : ∀ {S : List Int}, S.Pairwise (· ≤ ·) → (insI x S).Pairwise (· ≤ ·) := by
  intro S
  induction S with
  | nil => intro _; simp [insI]
  | cons a S ih =>
    intro h
    simp only [insI]
    split
    · rename_i hx
      rw [List.pairwise_cons] at h ⊢
      refine ⟨fun y hy => ?_, List.pairwise_cons.2 h⟩
      rcases List.mem_cons.1 hy with e | e
      · omega
      · have := h.1 y e; omega
    · rename_i hx
      rw [List.pairwise_cons] at h ⊢
      refine ⟨fun y hy => ?_, ih h.2⟩
      rcases insI_mem hy with e | e
      · omega
      · exact h.1 y e
theorem insI_len (x : Int) (S : List Int) : (insI x S).length = S.length + 1 := by
  induction S with
  | nil => rfl
  | cons a S ih => simp only [insI]; split <;> simp [ih]
theorem sortI_snoc (l : List Int) (x : Int) : sortI (l ++ [x]) = insI x (sortI l) := by simp [sortI]
theorem sortI_sorted (l : List Int) : (sortI l).Pairwise (· ≤ ·) := by
  have : ∀ (l S : List Int), S.Pairwise (· ≤ ·) → (l.foldl (fun a x => insI x a) S).Pairwise (· ≤ ·) := by
    intro l
    induction l with
    | nil => intro S h; exact h
    | cons x l ih => intro S h; exact ih _ (insI_sorted h)
  exact this l [] (by simp)
theorem sortI_len (l : List Int) : (sortI l).length = l.length := by
  have : ∀ (l S : List Int), (l.foldl (fun a x => insI x a) S).length = S.length + l.length := by
    intro l
    induction l with
    | nil => intro S; simp
    | cons x l ih => intro S; simp only [List.foldl_cons, ih, insI_len, List.length_cons]; omega
  have h := this l []
  simpa [sortI] using h
/-- in the midst of an insertion -/
def midI (S : List Int) (x : Int) (R : List Int) (j : Nat) : List Int := S.take j ++ x :: (S.drop j ++ R)
theorem midI_len (S : List Int) (x : Int) (R : List Int) (j : Nat) (hj : j ≤ S.length) : (midI S x R j).length = S.length + 1 + R.length := by simp [midI]; omega
theorem midI_at {S : List Int} {x : Int} {R : List Int} {j : Nat} (hj : j ≤ S.length) : (midI S x R j).getD j 0 = x := by
  simp only [midI, List.getD]
  rw [List.getElem?_append_right (by rw [List.length_take]; omega), List.length_take, show j - min j S.length = 0 by omega]; rfl
theorem midI_before {S : List Int} {x : Int} {R : List Int} {s : Nat} (hs : s < S.length) : (midI S x R (s + 1)).getD s 0 = S.getD s 0 := by
  simp only [midI, List.getD]
  rw [List.getElem?_append_left (by rw [List.length_take]; omega), List.getElem?_take, if_pos (by omega)]
theorem midI_swap {S : List Int} {x : Int} {R : List Int} {s : Nat} (hs : s < S.length) : ((midI S x R (s + 1)).set (s + 1) (S.getD s 0)).set s x = midI S x R s := by
  have hl : (S.take (s + 1)).length = s + 1 := by rw [List.length_take]; omega
  have e1 : S.take (s + 1) = S.take s ++ [S[s]] := List.take_succ_eq_append_getElem hs
  have e2 : S.drop s = S[s] :: S.drop (s + 1) := List.drop_eq_getElem_cons hs
  have e3 : S.getD s 0 = S[s] := by simp [List.getD, hs]
  unfold midI
  rw [List.set_append_right _ _ (by omega), hl, Nat.sub_self, List.set_cons_zero, e1, e2, e3, List.append_assoc]
  rw [List.set_append_right _ _ (by rw [List.length_take]; omega), List.length_take, show s - min s S.length = 0 by omega]
  simp only [List.set_cons_zero, List.cons_append, List.nil_append]
theorem midI_done {S : List Int} {x : Int} {R : List Int} {j : Nat} (hA : ∀ y ∈ S.take j, ¬ x < y) (hB : ∀ y ∈ S.drop j, x < y) : midI S x R j = insI x S ++ R := by
  have h := insI_split hA hB
  rw [List.take_append_drop] at h
  rw [h, midI]; simp
theorem midI_start (S : List Int) (x : Int) (R : List Int) : midI S x R S.length = S ++ x :: R := by simp [midI]
set_option maxHeartbeats 4000000 in
theorem srt_insertion (B g cap n : Nat) (xs : List Int) (w : World) (hn : xs.length = n) (hn12 : n ≤ 12) (hown : Own w B g cap xs) :
    Calls Tryz.prog 240 #[(Value.slice (some ⟨g, 0, none⟩) n cap), .int .i64 0, .int .i64 n] w (fun e w' => e = .returned (.tuple #[]) ∧ Own w' B g cap (sortI xs) ∧ w.grownBy w' (some g)) := by
  go_enter Tryz.func240, Tryz.ntmps240
  go_wp2
  go_loopw [6, 7] (fun i _ wr => ∃ t : Nat, 1 ≤ t ∧ t ≤ n + 1 ∧ i = .int .i64 t ∧ Own wr B g cap (sortI (xs.take t) ++ xs.drop t) ∧ w.grownBy wr (some g)) (fun i _ _ => 14 - (intOf i).toNat)
  case atStart =>
    refine ⟨1, by omega, by omega, rfl, ?_, World.grownBy.refl _ _⟩
    match xs, hown with
    | [], h => exact h
    | x :: l, h => exact h
  case round =>
    obtain ⟨t, ht1, ht, rfl, ho, hg⟩ := hrel
    by_cases hlt : t < n
    · have hltI : (t : Int) < (n : Int) := by omega
      have htx : t < xs.length := by omega
      have hdrop : xs.drop t = xs[t] :: xs.drop (t + 1) := List.drop_eq_getElem_cons htx
      have hSl : (sortI (xs.take t)).length = t := by rw [sortI_len, List.length_take]; omega
      have hSs := sortI_sorted (xs.take t)
      have hsn : sortI (xs.take (t + 1)) = insI xs[t] (sortI (xs.take t)) := by rw [List.take_succ_eq_append_getElem htx, sortI_snoc]
      have hRl : (xs.drop (t + 1)).length + t + 1 = n := by simp; omega
      rw [hdrop, ← midI_start, hSl] at ho
      generalize hS : sortI (xs.take t) = S at *
      generalize hx : xs[t] = x at *
      generalize hR : xs.drop (t + 1) = R at *
      have Hsn := Lib.hid hsn; have HSs := Lib.hid hSs; have HSl := Lib.hid hSl; have HRl := Lib.hid hRl; have HR := Lib.hid hR
      clear hsn hSs hSl hRl hS hx hR hdrop
      go_wp2
      go_loopw [7] (fun j wr => ∃ k : Nat, k ≤ t ∧ j = .int .i64 k ∧ Own wr B g cap (midI S x R k) ∧ Hid (∀ y ∈ S.drop k, x < y) ∧ w.grownBy wr (some g)) (fun j _ => (intOf j).toNat)
      case atStart => exact ⟨t, Nat.le_refl _, rfl, ho, by intro y hy; rw [List.drop_of_length_le (by rw [HSl.out]; omega)] at hy; simp at hy, hg⟩
      case round =>
        obtain ⟨k, hk, rfl, ho2, hall, hg2⟩ := hrel
        have hml := midI_len S x R k (by rw [HSl.out]; exact hk)
        have hdone : Hid ((∀ y ∈ S.take k, ¬ x < y) → midI S x R k = sortI (xs.take (t + 1)) ++ xs.drop (t + 1)) := fun h => by rw [midI_done h hall.out, Hsn.out, HR.out]
        by_cases hk0 : k = 0
        · have hM : midI S x R k = sortI (xs.take (t + 1)) ++ xs.drop (t + 1) := hdone.out (by intro y hy; rw [hk0] at hy; simp at hy)
          have hkI : decide ((0 : Int) < (k : Int)) = false := by simp only [decide_eq_false_iff_not]; omega
          have hkN : decide (0 < k) = false := by simp only [decide_eq_false_iff_not]; omega
          have hkM : (k : Int) ≤ 0 := by omega
          have HM := Lib.hid hM
          clear hM hk0 hml
          go_wp2
          go_quiet (fail)
          go_wp2
          go_roundw
          case rel => exact ⟨t + 1, by omega, by omega, by go_num, by rw [← HM.out]; exact ho2.drewN nq, grown_drewN hg2 nq⟩
          case measure => simp [intOf]; omega
        · obtain ⟨s, rfl⟩ : ∃ s, k = s + 1 := ⟨k - 1, by omega⟩
          have hsS : s < S.length := by rw [HSl.out]; omega
          have q1 := ho2.cell (s + 1) (by rw [hml]; omega)
          have q0 := ho2.cell s (by rw [hml]; omega)
          rw [midI_at (by omega)] at q1
          rw [midI_before hsS] at q0
          have hgt : (0 : Int) < (s : Int) + 1 := by omega
          have hwr : IntKind.i64.wrap ((s : Int) + 1 - 1) = (s : Int) := by rw [show (s : Int) + 1 - 1 = s by omega]; exact IntWalk.i64_in _ (by omega)
          have hsn2 : s + 1 < n := by omega
          have hsn3 : s < n := by omega
          by_cases hxy : x < S.getD s 0
          · have hsw := midI_swap (S := S) (x := x) (R := R) hsS
            have hall2 : ∀ y ∈ S.drop s, x < y := by
              intro y hy
              rw [List.drop_eq_getElem_cons hsS] at hy
              rcases List.mem_cons.1 hy with e | e
              · rw [e]; simpa [List.getD, hsS] using hxy
              · exact hall.out y e
            have f1 := ho2.frozen (s + 1)
            have f0 := ho2.frozen s
            have Hsw := Lib.hid hsw; have Hall2 := Lib.hid hall2
            clear hsw hall2 hdone hml
            generalize hy : S.getD s 0 = y at *
            have Hy := Lib.hid hy; clear hy
            go_wp2
            go_quiet ((go_at_call 246; first | exact Calls.quiet_of (srt_Less _ _ _) | exact Reads.quiet4 (srt_Less _ _ _)))
            go_wp2
            have hset := (ho2.drewN (nq + 1)).set2 (s + 1) s y x
            rw [Hsw.out] at hset
            have Hset := Lib.hid hset
            clear hset
            go_region
            all_goals
              go_wp2
              go_roundw
              case rel =>
                refine ⟨s, by omega, by go_num, Hset.out.1, Hall2.out, ?_⟩
                exact World.grownBy.trans' (grown_drewN hg2 (nq + 1)) Hset.out.2
              case measure => simp [intOf]
          · have hM : midI S x R (s + 1) = sortI (xs.take (t + 1)) ++ xs.drop (t + 1) := hdone.out (by
              intro y hy
              obtain ⟨u, hu, rfl⟩ := List.getElem_of_mem hy
              rw [List.length_take] at hu
              rw [List.getElem_take]
              have h1 : S[u] ≤ S[s] := by
                by_cases e : u = s
                · subst e; exact Int.le_refl _
                · exact List.pairwise_iff_getElem.1 HSs.out u s (by omega) hsS (by omega)
              have h2 : S.getD s 0 = S[s] := by simp [List.getD, hsS]
              omega)
            have HM := Lib.hid hM
            have hxy' : S.getD s 0 ≤ x := by omega
            clear hM hml hdone hxy
            generalize S.getD s 0 = y at *
            go_wp2
            go_quiet ((go_at_call 246; first | exact Calls.quiet_of (srt_Less _ _ _) | exact Reads.quiet4 (srt_Less _ _ _)))
            go_wp2
            go_roundw
            case rel => exact ⟨t + 1, by omega, by omega, by go_num, by rw [← HM.out]; exact ho2.drewN nq, grown_drewN hg2 nq⟩
            case measure => simp [intOf]; omega
    · have h1 : xs.drop t = [] := List.drop_eq_nil_of_le (by omega)
      have h2 : xs.take t = xs := List.take_of_length_le (by omega)
      rw [h1, h2, List.append_nil] at ho
      clear h1 h2
      go_wp2
      go_end0
      exact ⟨rfl, ho, hg⟩
set_option maxRecDepth 100000 in
set_option maxHeartbeats 2000000 in
theorem srt_Len64 (n : Nat) (w : World) (hn : n ≤ 12) : Calls Tryz.prog 216 #[.int .u64 n] w (fun e w' => ∃ b : Int, e = .returned (.int .i64 b) ∧ ∃ m, w' = w.drewN m) := by
  have : n = 0 ∨ n = 1 ∨ n = 2 ∨ n = 3 ∨ n = 4 ∨ n = 5 ∨ n = 6 ∨ n = 7 ∨ n = 8 ∨ n = 9 ∨ n = 10 ∨ n = 11 ∨ n = 12 := by omega
  rcases this with rfl | rfl | rfl | rfl | rfl | rfl | rfl | rfl | rfl | rfl | rfl | rfl | rfl
  all_goals
    go_enter Tryz.func216, Tryz.ntmps216
    go_wp2
    go_ret
    exact ⟨_, rfl, (by first | exact ⟨_, rfl⟩ | exact ⟨0, rfl⟩ | exact still2 _ _ _ | exact still3 _ _ _ _)⟩
theorem srt_Len (n : Nat) (w : World) (hn : n ≤ 12) : Calls Tryz.prog 188 #[.int .u64 n] w (fun e w' => ∃ b : Int, e = .returned (.int .i64 b) ∧ ∃ m, w' = w.drewN m) := by
  go_enter Tryz.func188, Tryz.ntmps188
  go_wp2_with fail
  refine (srt_Len64 n w hn).mono ?_
  rintro e w1 ⟨b, rfl, m1, rfl⟩
  go_wp2_with fail
  go_ret
  exact ⟨b, rfl, m1, rfl⟩
set_option maxHeartbeats 2000000 in
theorem srt_pdq (B g cap n : Nat) (b : Int) (xs : List Int) (w : World) (hn : xs.length = n) (hn12 : n ≤ 12) (hown : Own w B g cap xs) :
    Calls Tryz.prog 225 #[(Value.slice (some ⟨g, 0, none⟩) n cap), .int .i64 0, .int .i64 n, .int .i64 b] w (fun e w' => e = .returned (.tuple #[]) ∧ Own w' B g cap (sortI xs) ∧ w.grownBy w' (some g)) := by
  go_enter Tryz.func225, Tryz.ntmps225
  go_wp2_with fail
  refine wp_loop_rounds 1 ?_
  rw [rounds_succ]
  go_wp2_with fail
  refine (srt_insertion B g cap n xs w hn hn12 hown).mono ?_
  rintro e w1 ⟨rfl, ho1, hg1⟩
  go_wp2_with fail
  first | go_end0 | refine bodyPost_ret (results_none rfl _ _ _) rfl ?_
  exact ⟨rfl, ho1, hg1⟩
set_option maxHeartbeats 2000000 in
theorem srt_Sort (B g cap n : Nat) (xs : List Int) (w : World) (hn : xs.length = n) (hn12 : n ≤ 12) (hown : Own w B g cap xs) :
    Calls Tryz.prog 202 #[(Value.slice (some ⟨g, 0, none⟩) n cap)] w (fun e w' => e = .returned (.tuple #[]) ∧ Own w' B g cap (sortI xs) ∧ w.grownBy w' (some g)) := by
  go_enter Tryz.func202, Tryz.ntmps202
  go_wp2_with fail
  refine (srt_Len n w hn12).mono ?_
  rintro e w1 ⟨b, rfl, m1, rfl⟩
  go_wp2_with fail
  refine (srt_pdq B g cap n b xs (w.drewN m1) hn hn12 (hown.drewN m1)).mono ?_
  rintro e w2 ⟨rfl, ho2, hg2⟩
  go_wp2_with fail
  go_end0
  exact ⟨rfl, ho2, ⟨hg2.os, hg2.tape, hg2.output, hg2.size, hg2.block⟩⟩
end Go.Proofs.YtdedkfbiookofaaGreatDoor
namespace Go.Proofs.YtdedkfbiookofaaGreatDoor
set_option maxRecDepth 100000
open Go.RowKit
theorem partsIG_down {tab : List (List Nat)} {t d : Nat} {r : List Bool × List (List Nat)} (h : partsIG tab (t + d) = some r) : ∃ s, partsIG tab t = some s := by
  induction d generalizing r with
  | zero => exact ⟨r, h⟩
  | succ d ih =>
    have h2 : partsIG tab (t + d + 1) = some r := h
    unfold partsIG at h2
    cases ho : partsIG tab (t + d) with
    | none => rw [ho] at h2; simp at h2
    | some out => exact ih ho
theorem partsIG_sub {tab : List (List Nat)} {t d : Nat} {fs : List Bool} {P : List (List Nat)} (h : partsIG tab (t + d) = some (fs, P)) {s : List Bool} {out : List (List Nat)} (h2 : partsIG tab t = some (s, out)) : ∀ p ∈ out, p ∈ P := by
  induction d generalizing fs P with
  | zero =>
    rw [Nat.add_zero, h2] at h
    obtain ⟨rfl, rfl⟩ := Prod.mk.inj (Option.some.inj h)
    exact fun p hp => hp
  | succ d ih =>
    have h3 : partsIG tab (t + d + 1) = some (fs, P) := h
    unfold partsIG at h3
    cases ho : partsIG tab (t + d) with
    | none => rw [ho] at h3; simp at h3
    | some r =>
      obtain ⟨s1, o1⟩ := r
      rw [ho] at h3
      simp only at h3
      have hi := ih ho
      split at h3
      · obtain ⟨rfl, rfl⟩ := Prod.mk.inj (Option.some.inj h3)
        exact hi
      · split at h3
        · simp at h3
        · obtain ⟨rfl, rfl⟩ := Prod.mk.inj (Option.some.inj h3)
          exact fun p hp => List.mem_append_left _ (hi p hp)
theorem partsIG_seen {tab : List (List Nat)} {t : Nat} {seen : List Bool} {out : List (List Nat)} (h : partsIG tab t = some (seen, out)) (hs : seen.getD t false = true) : partsIG tab (t + 1) = some (seen, out) := by
  conv => lhs; unfold partsIG
  rw [h]; simp only; rw [if_pos hs]
theorem partsIG_new {tab : List (List Nat)} {t : Nat} {seen : List Bool} {out : List (List Nat)} (h : partsIG tab t = some (seen, out)) (hs : seen.getD t false = false) {r : List Bool × List (List Nat)} (h2 : partsIG tab (t + 1) = some r) :
    ∃ fin : Bst, bfsG tab 5 0 (seen.set t true, [t]) = some fin ∧ partsIG tab (t + 1) = some (fin.1, out ++ [sortN fin.2]) := by
  have h3 := h2
  unfold partsIG at h3
  rw [h] at h3
  simp only at h3
  rw [if_neg (by rw [hs]; simp)] at h3
  cases hg : partG tab seen t with
  | none => rw [hg] at h3; simp at h3
  | some fin =>
    rw [hg] at h3
    exact ⟨fin, hg, by rw [h2, ← h3]⟩
theorem insI_intsOf (x : Nat) (l : List Nat) : insI (x : Int) (intsOf l) = intsOf (insN x l) := by
  induction l with
  | nil => rfl
  | cons y l ih =>
    have e : intsOf (y :: l) = (y : Int) :: intsOf l := rfl
    rw [e]
    unfold insI insN
    by_cases h : x < y
    · rw [if_pos (by omega), if_pos h]; rfl
    · rw [if_neg (by omega), if_neg h, ih]; rfl
theorem sortI_intsOf (l : List Nat) : sortI (intsOf l) = intsOf (sortN l) := by
  have : ∀ (l a : List Nat), (intsOf l).foldl (fun a x => insI x a) (intsOf a) = intsOf (l.foldl (fun a x => insN x a) a) := by
    intro l
    induction l with
    | nil => intro a; rfl
    | cons x l ih =>
      intro a
      have e : intsOf (x :: l) = (x : Int) :: intsOf l := rfl
      rw [e, List.foldl_cons, List.foldl_cons, insI_intsOf, ih]
  exact this l []
theorem sortN_len (l : List Nat) : (sortN l).length = l.length := by
  have h := sortI_len (intsOf l)
  rw [sortI_intsOf, intsOf_length, intsOf_length] at h
  exact h
theorem OwnRows.grownK {w w' : World} {B g cap k : Nat} {rs : List RowRef} (h : OwnRows w B g cap rs) (hg : w.grownBy w' (some k)) (h1 : g ≠ k) (h2 : ∀ r ∈ rs, r.1 ≠ k) : OwnRows w' B g cap rs :=
  ⟨h.1.grown hg (by intro e; cases e; exact h1 rfl), fun r hr => (h.2.1 r hr).grown hg (by intro e; cases e; exact h2 r hr rfl), h.2.2⟩
theorem OwnBs.toV {w : World} {B g cap : Nat} {bs : List Bool} (h : OwnBs w B g cap bs) : OwnV w B 4 g cap (bs.map Value.bool) := h
structure PInv (w : World) (n B gs go co : Nat) (rs : List RowRef) (seen : List Bool) (gp cp : Nat) (part : List Nat) (wi : World) : Prop where
  hs : OwnBs wi B gs n seen
  ho : OwnRows wi B go co rs
  hp : Own wi B gp cp (intsOf part)
  hd : ∀ r ∈ rs, r.1 ≠ gp
  hb : Below B w wi
section
variable {w wi w' : World} {n B gs go co gp cp : Nat} {rs : List RowRef} {seen : List Bool} {part : List Nat}
theorem PInv.size (h : PInv w n B gs go co rs seen gp cp part wi) (hB : B ≤ w.heap.size) : B ≤ wi.heap.size := Nat.le_trans hB h.hb.size
theorem PInv.below (h : PInv w n B gs go co rs seen gp cp part wi) (hB : B ≤ w.heap.size) (hb : Below wi.heap.size wi w') : PInv w n B gs go co rs seen gp cp part w' :=
  ⟨h.hs.below hb h.hs.lt, h.ho.below hb, h.hp.below hb h.hp.lt, h.hd, h.hb.trans (hb.mono (h.size hB))⟩
theorem PInv.mark (h : PInv w n B gs go co rs seen gp cp part wi) (hB : B ≤ w.heap.size) (j : Nat) : PInv w n B gs go co rs (seen.set j true) gp cp part (wi.setCell ⟨gs, j, none⟩ (.bool true)) := by
  have hset := h.hs.set j true
  have n1 : gp ≠ gs := h.hp.toV.ne h.hs.toV (by decide)
  have n2 : go ≠ gs := h.ho.1.ne h.hs.toV (by decide)
  exact ⟨hset.1, h.ho.grownK hset.2 n2 (fun r hr => (h.ho.2.1 r hr).toV.ne h.hs.toV (by decide)), h.hp.grown hset.2 (by intro e; cases e; exact n1 rfl), h.hd,
    h.hb.grown hset.2 (h.size hB) (by intro k hk; cases hk; exact h.hs.base)⟩
theorem PInv.push {g' c' : Nat} {part' : List Nat} (h : PInv w n B gs go co rs seen gp cp part wi) (hB : B ≤ w.heap.size) (hg : wi.grownBy w' (some gp)) (hp' : Own w' B g' c' (intsOf part')) (hor : g' = gp ∨ wi.heap.size < g') :
    PInv w n B gs go co rs seen g' c' part' w' := by
  have n1 : gs ≠ gp := h.hs.toV.ne h.hp.toV (by decide)
  have n2 : go ≠ gp := h.ho.1.ne h.hp.toV (by decide)
  refine ⟨h.hs.grown hg (by intro e; cases e; exact n1 rfl), h.ho.grownK hg n2 h.hd, hp', fun r hr => ?_, h.hb.grown hg (h.size hB) (by intro k hk; cases hk; exact h.hp.base)⟩
  rcases hor with e | e
  · rw [e]; exact h.hd r hr
  · have := (h.ho.2.1 r hr).lt; omega
end
set_option maxHeartbeats 8000000 in
theorem impl_PartsOf_ok (gc oc n cc : Nat) (c : List (List Int)) (P : List (List Nat)) (fs : List Bool) (w : World) (hn : c.length = n) (hC : IsC c) (hP : partsIG (nbTab c) c.length = some (fs, P)) (hgood : ∀ p ∈ P, p.length ≤ 4) (hgc : gc < w.heap.size) (hr : Rows2 w gc oc c) :
    Calls Tryz.prog 179 #[(Value.slice (some ⟨gc, oc, none⟩) n cc)] w (GotRows w (P.map intsOf)) := by
  subst hn
  have hn4 := hC.2.1
  have hb0 : Below w.heap.size w (w.alloc (.cells #[] 25)) := (by repeat (first | with_reducible exact Below.refl _ _ | with_reducible assumption | with_reducible refine below_drewN ?_ _ | with_reducible refine Below.drew ?_ | (with_reducible refine Below.alloc ?_ ?_ _; rotate_left; · first | (simp; done) | (simp; omega) | exact Below.size (by assumption) | (have hsz := Below.size (by assumption : Below _ _ _); simp at hsz ⊢; omega)) | (with_reducible refine Below.setCell ?_ ?_ _; rotate_left; · first | (simp; done) | (simp; omega))))
  have HP := Lib.hid hP; have Hgood := Lib.hid hgood
  clear hP hgood
  go_enter Tryz.func179, Tryz.ntmps179
  go_wp2_with fail
  refine (impl_IsCartan gc oc _ cc c _ rfl (by omega) (fun j hj => by have := hC.2.2.1 j hj; omega) (hr.below hb0 hgc)).mono ?_
  rintro e w1 ⟨rfl, m1, rfl⟩
  rw [decide_eq_true hC]
  have ho0 : OwnRows ((w.alloc (.cells #[] 25)).drewN m1) w.heap.size w.heap.size 0 [] := (OwnRows.empty (w := w) (Nat.le_refl _)).drewN m1
  have hb1 : Below w.heap.size w ((w.alloc (.cells #[] 25)).drewN m1) := below_drewN hb0 m1
  have hle0 : w.heap.size ≤ ((w.alloc (.cells #[] 25)).drewN m1).heap.size := by simp
  generalize ((w.alloc (.cells #[] 25)).drewN m1) = w1 at *
  go_wp2_with (at_make; refine wpList_make_bs rfl _ _ rfl w.heap.size c.length _ rfl rfl rfl (by omega) hle0 ?_)
  intro w2 hown2 hgr2
  have hb2 : Below w.heap.size w w2 := hb1.trans ((below_of_grown hgr2).mono hle0)
  have ho2 := ho0.below (below_of_grown hgr2)
  clear hgr2 hb1 ho0 hle0 hb0
  generalize w1.heap.size = gs at *
  go_wp2_with fail
  go_loopw [3, 5, 6, 7, 9, 20] (fun ov _ _ _ _ iv wr => ∃ (t g' c' n' : Nat) (rs : List RowRef) (seen : List Bool) (out : List (List Nat)), t ≤ c.length ∧ iv = .int .i64 t ∧ ov = (Value.slice (some ⟨g', 0, none⟩) n' c') ∧ Hid (rs.length = n') ∧ n' ≤ t ∧ Hid (partsIG (nbTab c) t = some (seen, out)) ∧ seen.length = c.length ∧ Hid (contents rs = out.map intsOf) ∧ OwnBs wr w.heap.size gs c.length seen ∧ OwnRows wr w.heap.size g' c' rs ∧ Below w.heap.size w wr) (fun _ _ _ _ _ iv _ => c.length - (intOf iv).toNat)
  case atStart => exact ⟨0, w.heap.size, 0, 0, [], List.replicate c.length false, [], Nat.zero_le _, rfl, rfl, rfl, Nat.le_refl _, by show _ = _; simp [partsIG, nbTab_length], by simp, rfl, hown2, ho2, hb2⟩
  case round =>
    obtain ⟨t, g', c', n', rs, seen, out, ht, rfl, rfl, hrs, hnt, hout, hsl, hcont, hos, ho, hb⟩ := hrel
    by_cases hlt : t < c.length
    · have hltI : (t : Int) < (c.length : Int) := by omega
      have qs := hos.cell t (by omega)
      have fs0 := hos.frozen t
      cases hse : seen.getD t false with
      | true =>
        have hstep := Lib.hid (partsIG_seen hout.out hse)
        rw [hse] at qs
        clear hse
        go_wp2
        go_roundw
        case rel => exact ⟨t + 1, g', c', n', rs, seen, out, by omega, by go_num, rfl, hrs, by omega, hstep.out, hsl, hcont, hos, ho, hb⟩
        case measure => simp [intOf]; omega
      | false =>
        obtain ⟨r1, hr1⟩ : ∃ r, partsIG (nbTab c) (t + 1) = some r := partsIG_down (d := c.length - (t + 1)) (by rw [show t + 1 + (c.length - (t + 1)) = c.length by omega]; exact HP.out)
        obtain ⟨fin, hfin, hstep⟩ := partsIG_new hout.out hse hr1
        have Hfin := Lib.hid hfin; have Hstep := Lib.hid hstep
        rw [hse] at qs
        have hm1 : PInv w c.length w.heap.size gs g' c' rs (seen.set t true) ((wr.setCell ⟨gs, t, none⟩ (.bool true)).heap.size) 1 [t] ((wr.setCell ⟨gs, t, none⟩ (.bool true)).alloc (.cells #[.int .i64 (t : Int)] 3)) := by
          have hset := hos.set t true
          have n2 : g' ≠ gs := ho.1.ne hos.toV (by decide)
          have hr1 := ho.grownK hset.2 n2 (fun r hr => (ho.2.1 r hr).toV.ne hos.toV (by decide))
          have hbx := hb.grown hset.2 hb.size (by intro k hk; cases hk; exact hos.base)
          exact ⟨hset.1.alloc _, hr1.below (by repeat (first | with_reducible exact Below.refl _ _ | with_reducible assumption | with_reducible refine below_drewN ?_ _ | with_reducible refine Below.drew ?_ | (with_reducible refine Below.alloc ?_ ?_ _; rotate_left; · first | (simp; done) | (simp; omega) | exact Below.size (by assumption) | (have hsz := Below.size (by assumption : Below _ _ _); simp at hsz ⊢; omega)) | (with_reducible refine Below.setCell ?_ ?_ _; rotate_left; · first | (simp; done) | (simp; omega)))), Own.new (w := wr.setCell ⟨gs, t, none⟩ (.bool true)) (t : Int) hbx.size, fun r hr => by have := (hr1.2.1 r hr).lt; omega, hbx.alloc hbx.size _⟩
        have hsz : (wr.setCell ⟨gs, t, none⟩ (.bool true)).heap.size = wr.heap.size := by simp
        rw [hsz] at hm1
        have Hm1 := Lib.hid hm1
        clear hfin hstep hr1 hse hm1 hsz
        have hsl1 : (seen.set t true).length = c.length := by simpa using hsl
        have hstart : BOk c.length 1 (seen.set t true, [t]) := ⟨hsl1, by intro x hx; simp at hx; omega, by simp⟩
        generalize seen.set t true = seen1 at *
        clear hos ho hb hsl hsl1
        obtain ⟨Bw, hBw⟩ : ∃ b, b = w.heap.size := ⟨_, rfl⟩
        rw [← hBw] at Hm1
        have HBw := Lib.hid hBw; clear hBw
        go_wp2
        go_loopw [6, 7, 9] (fun qv kv _ wi => ∃ (f k gq cq m : Nat) (s : Bst), f + k = 5 ∧ kv = .int .i64 k ∧ qv = (Value.slice (some ⟨gq, 0, none⟩) m cq) ∧ Hid (s.2.length = m) ∧ Hid (bfsG (nbTab c) f k s = some fin) ∧ BOk c.length (1 + 4 * k) s ∧ PInv w c.length Bw gs g' c' rs s.1 gq cq s.2 wi) (fun _ kv _ _ => 6 - (intOf kv).toNat)
        case atStart => exact ⟨5, 0, wr.heap.size, 1, 1, (seen1, [t]), rfl, rfl, rfl, rfl, Hfin.out, hstart, Hm1.out⟩
        case round =>
          obtain ⟨f, k, gq, cq, m, s, hfk, rfl, rfl, hsl, hbf, hok, hI⟩ := hrel
          have hoq := hI.hp
          have hBw : Bw ≤ w.heap.size := by rw [HBw.out]; exact Nat.le_refl _
          have hbW : Below w.heap.size w wr := by have := hI.hb; rw [HBw.out] at this; exact this
          by_cases hlt : k < m
          · obtain ⟨f', rfl, hbf'⟩ := bfsG_go hbf.out (by rw [hsl.out]; exact hlt)
            have hltI2 : (k : Int) < (m : Int) := by omega
            have hx : s.2.getD k 0 < c.length := hok.2.1 _ (by have := hsl.out; rw [show s.2.getD k 0 = s.2[k]'(by omega) by simp [List.getD, show k < s.2.length by omega]]; exact List.getElem_mem _)
            rw [tab_at hx] at hbf'
            have qk := hoq.cell k (by rw [intsOf_length, hsl.out]; exact hlt)
            rw [intsOf_getD _ _ (by rw [hsl.out]; exact hlt)] at qk
            generalize s.2.getD k 0 = x at *
            have hlen := nbL_len c x
            have hmem : Hid (∀ j ∈ nbL c x, j < c.length) := fun j hj => nbL_lt hj
            have hnb := impl_NeighboursOf_ok gc oc _ cc x c wr rfl hC hx (by have := hbW.size; omega) (hr.below hbW hgc)
            have Hbf := Lib.hid hbf'
            generalize nbL c x = L at *
            generalize hLl : L.length = ll at *
            have HLl := Lib.hid hLl
            clear hbf' hLl hbf hx
            go_wp2_with fail
            refine hnb.mono ?_
            rintro e w2 ⟨gl, cl, rfl, hol, hb2⟩
            have hlw := hol.base
            rw [intsOf_length, HLl.out]
            have hgq := hoq.lt
            have hgsl := hI.hs.lt
            have hI2 := hI.below hBw hb2
            have hgl1 : gl ≠ gs := by omega
            have hgl2 : gl ≠ gq := by omega
            have hlB := hol.mono (B' := Bw) (Nat.le_trans (hI.size hBw) (Nat.le_refl _))
            clear hb2 hnb hol hlw qk hoq hgq hgsl hI hbW
            go_wp2_with fail
            clear hlt hltI2
            go_loopw [6, 9, 45] (fun qv _ nv wi => ∃ (u gq cq m : Nat) (s' : Bst), u ≤ ll ∧ nv = .int .i64 u ∧ qv = (Value.slice (some ⟨gq, 0, none⟩) m cq) ∧ Hid (s' = visitAll s (L.take u)) ∧ Hid (s'.2.length = m) ∧ BOk c.length (1 + 4 * k + u) s' ∧ PInv w c.length Bw gs g' c' rs s'.1 gq cq s'.2 wi ∧ gl ≠ gq ∧ Own wi Bw gl cl (intsOf L)) (fun _ _ nv _ => 6 - (intOf nv).toNat)
            case atStart => exact ⟨0, gq, cq, m, s, Nat.zero_le _, rfl, rfl, rfl, hsl, hok, hI2, hgl2, hlB⟩
            case round =>
              obtain ⟨u, gq, cq, m, s', hu, rfl, rfl, hs', hsl, hok, hI, hgl, hlB⟩ := hrel
              have hm4 : m ≤ 1 + 4 * k + u := by have := hok.2.2; have := hsl.out; omega
              by_cases hlt : u < ll
              · have hltI3 : (u : Int) < (ll : Int) := by omega
                have hv := visit_succ s L u (by rw [HLl.out]; exact hlt)
                rw [← hs'.out] at hv
                have hj : L.getD u 0 < c.length := hmem.out _ (by have := HLl.out; rw [show L.getD u 0 = L[u]'(by omega) by simp [List.getD, show u < L.length by omega]]; exact List.getElem_mem _)
                have ql := hlB.cell u (by rw [intsOf_length, HLl.out]; exact hlt)
                rw [intsOf_getD _ _ (by rw [HLl.out]; exact hlt)] at ql
                generalize L.getD u 0 = j at *
                have qs := hI.hs.cell j (by rw [hok.1]; exact hj)
                have fs := hI.hs.frozen j
                have hjI : (j : Int) < (c.length : Int) := by omega
                have hok' := hok.visit hj
                have Hok' := Lib.hid hok'
                cases hb : s'.1.getD j false with
                | true =>
                  rw [visitOne_seen hb] at hv Hok'
                  have Hv := Lib.hid hv
                  rw [hb] at qs
                  clear hv hok'
                  go_wp2
                  go_roundw
                  case rel => exact ⟨u + 1, gq, cq, m, s', by omega, by go_num, rfl, Hv.out.symm, hsl, Hok'.out, hI, hgl, hlB⟩
                  case measure => simp [intOf]; omega
                | false =>
                  rw [visitOne_new hb] at hv Hok'
                  have Hv := Lib.hid hv
                  rw [hb] at qs
                  have hset := Lib.hid (hI.mark hBw j)
                  have hsz : (wr.setCell ⟨gs, j, none⟩ (.bool true)).heap.size = wr.heap.size := by simp
                  have Hsz := Lib.hid hsz
                  clear hv hok' hsz
                  go_wp2_with (at_builtin; refine wpList_append_int_n (w := wr.setCell ⟨gs, j, none⟩ (.bool true)) rfl _ _ rfl Bw gq cq m (intsOf s'.2) (j : Int) (by rw [intsOf_length]; exact hsl.out) hset.out.hp rfl (by rw [Hsz.out]; rfl) (by omega) ?_)
                  intro g4 c4 w4 ho4 hg4 hor
                  have hgls := hlB.lt
                  rw [← intsOf_push] at ho4
                  have hI4 := hset.out.push hBw hg4 ho4 (by rw [Hsz.out]; exact hor)
                  have hlB4 : Own w4 Bw gl cl (intsOf L) := (hlB.grown (hI.hs.set j true).2 (by intro e; cases e; exact hgl1 rfl)).grown hg4 (by intro e; cases e; exact hgl rfl)
                  have hor' : gl ≠ g4 := by
                    rcases hor with e | e
                    · rw [e]; exact hgl
                    · omega
                  clear ho4 hor hgls hset
                  go_wp2
                  go_roundw
                  case rel => exact ⟨u + 1, g4, c4, m + 1, _, by omega, by go_num, rfl, Hv.out.symm, by show _ = _; rw [List.length_append, hsl.out]; rfl, Hok'.out, hI4, hor', hlB4⟩
                  case measure => simp [intOf]; omega
              · obtain rfl : u = ll := by omega
                have ht : L.take u = L := List.take_of_length_le (by rw [HLl.out]; exact Nat.le_refl _)
                rw [ht] at hs'
                go_wp2
                go_roundw
                case rel => exact ⟨f', k + 1, gq, cq, m, s', by omega, by go_num, rfl, hsl, by rw [hs'.out]; exact Hbf.out, hok.weak (by omega), hI⟩
                case measure => simp [intOf]; omega
          · have hfin := bfsG_end hbf.out (by rw [hsl.out]; exact hlt)
            have hmkI : (m : Int) ≤ (k : Int) := by omega
            have hm12 : m ≤ 12 := by
              have h1 : sortN fin.2 ∈ P := partsIG_sub (d := c.length - (t + 1)) (by rw [show t + 1 + (c.length - (t + 1)) = c.length by omega]; exact HP.out) Hstep.out _ (by simp)
              have h2 := Hgood.out _ h1
              rw [sortN_len, hfin, hsl.out] at h2
              omega
            have hsrt := srt_Sort Bw gq cq m (intsOf s.2) wr (by rw [intsOf_length]; exact hsl.out) hm12 hoq
            rw [sortI_intsOf] at hsrt
            have hsrtl : (sortN s.2).length = m := by rw [sortN_len, hsl.out]
            have Hsrtl := Lib.hid hsrtl
            have hok1 := hok.1
            rw [hfin] at Hstep
            have hI' := hI
            clear hbf hoq hfin Hfin hlt hok hsrtl
            go_wp2_with fail
            refine hsrt.mono ?_
            rintro e w2 ⟨rfl, ho2, hg2⟩
            have hI2 := hI'.push hBw hg2 ho2 (.inl rfl)
            have hrow : rowVal (gq, cq, intsOf (sortN s.2)) = (Value.slice (some ⟨gq, 0, none⟩) m cq) := by unfold rowVal; rw [intsOf_length, Hsrtl.out]
            have Hrow := Lib.hid hrow
            clear hsrt hI hI' hrow hg2 hbW
            go_wp2_with (at_builtin; refine wpList_append_row rfl _ _ rfl Bw g' c' n' w2.heap.size rs (gq, cq, intsOf (sortN s.2)) _ hrs.out (by rw [Hrow.out]) rfl hI2.ho hI2.hp hI2.hd rfl rfl (by omega) ?_)
            intro g4 c4 w4 ho4 hg4 _
            go_wp2
            go_roundw
            case rel =>
              have n1 : gs ≠ g' := hI2.hs.toV.ne hI2.ho.1 (by decide)
              have hs4 := hI2.hs.grown hg4 (by intro e; cases e; exact n1 rfl)
              have hb4 := hI2.hb.grown hg4 (hI2.size hBw) (by intro j hj; cases hj; exact hI2.ho.base)
              rw [HBw.out] at hs4 ho4 hb4
              exact ⟨t + 1, g4, c4, n' + 1, _, s.1, _, by omega, by go_num, rfl, by show _ = _; rw [List.length_append, hrs.out]; rfl, by omega, Hstep.out, hok1, by show _ = _; rw [contents_push, hcont.out, List.map_append]; rfl, hs4, ho4, hb4⟩
            case measure => simp [intOf]; omega
    · obtain rfl : t = c.length := by omega
      have hPo : (fs, P) = (seen, out) := Option.some.inj (HP.out.symm.trans hout.out)
      obtain ⟨rfl, rfl⟩ := Prod.mk.inj hPo
      clear hPo
      go_wp2_with fail
      go_ret
      have hl : rs.length = (P.map intsOf).length := by rw [← hcont.out]; simp [contents]
      obtain rfl : n' = (P.map intsOf).length := by rw [← hl, hrs.out]
      exact ⟨g', c', rs, rfl, hcont.out, ho, hb⟩
set_option maxHeartbeats 1000000 in
theorem impl_IsConnected_ok (gc oc n cc : Nat) (c : List (List Int)) (P : List (List Nat)) (fs : List Bool) (w : World) (hn : c.length = n) (hC : IsC c) (hP : partsIG (nbTab c) c.length = some (fs, P)) (hgood : ∀ p ∈ P, p.length ≤ 4) (hgc : gc < w.heap.size) (hr : Rows2 w gc oc c) :
    Calls Tryz.prog 203 #[(Value.slice (some ⟨gc, oc, none⟩) n cc)] w (Gives w (.bool (P.length == 1))) := by
  go_enter Tryz.func203, Tryz.ntmps203
  go_wp2_with fail
  refine (impl_PartsOf_ok gc oc n cc c P fs w hn hC hP hgood hgc hr).mono ?_
  rintro e w1 ⟨g1, c1, rs1, rfl, hc1, ho1, hb1⟩
  go_wp2_with fail
  go_ret
  refine ⟨ret_bool ?_, hb1⟩
  by_cases h : P.length = 1
  · rw [h]; rfl
  · have h1 : (P.length == 1) = false := by simpa using h
    have h2 : ((P.length : Int) == 1) = false := by simp; omega
    rw [h1]; exact h2
end Go.Proofs.YtdedkfbiookofaaGreatDoor
