/- FilterSizes of both: contracts. -/
import Derived.Test.YtihfbbpkgmkbcaaG49
namespace Go.Proofs.Ytihfbbpkgmkbcaa
set_option maxRecDepth 100000
open Go.RowKit Game

def fltGo (c : List (List Int)) (u v : List Int) : Nat → List Int → List Int
  | 0, acc => acc
  | t + 1, acc => match demC c (u.drop t) v with
    | none => []
    | some L => fltGo c u v t (acc ++ [sumW L])
def fltL (c : List (List Int)) (u v : List Int) : List Int := fltGo c u v (u.length + 1) []
theorem fltGo_yes {c : List (List Int)} {u v : List Int} {t : Nat} {acc : List Int} (h : (demC c (u.drop t) v).isSome = true) : fltGo c u v (t + 1) acc = fltGo c u v t (acc ++ [sumW ((demC c (u.drop t) v).getD [])]) := by
  show (match demC c (u.drop t) v with | none => [] | some L => _) = _
  split
  · rename_i e; rw [e] at h; simp at h
  · rename_i L e; rw [e]; rfl
theorem fltGo_no {c : List (List Int)} {u v : List Int} {t : Nat} {acc : List Int} (h : (demC c (u.drop t) v).isSome = false) : fltGo c u v (t + 1) acc = [] := by
  show (match demC c (u.drop t) v with | none => [] | some L => _) = _
  split
  · rfl
  · rename_i L e; rw [e] at h; simp at h
theorem fltGo_length (c : List (List Int)) (u v : List Int) : ∀ (t : Nat) (acc : List Int), fltGo c u v t acc = [] ∨ ((fltGo c u v t acc).length = acc.length + t ∧ (t = 0 ∨ (demC c u v).isSome = true))
  | 0, acc => .inr ⟨rfl, .inl rfl⟩
  | t + 1, acc => by
    cases h : (demC c (u.drop t) v).isSome with
    | false => exact .inl (fltGo_no h)
    | true =>
      rw [fltGo_yes h]
      rcases fltGo_length c u v t (acc ++ [sumW ((demC c (u.drop t) v).getD [])]) with e | ⟨e1, e2⟩
      · exact .inl e
      · refine .inr ⟨by rw [e1]; simp; omega, .inr ?_⟩
        rcases e2 with e2 | e2
        · subst e2; simpa using h
        · exact e2
theorem fltL_few (c : List (List Int)) (u v : List Int) : (fltL c u v).length ≤ 1048576 := by
  unfold fltL
  rcases fltGo_length c u v (u.length + 1) [] with e | ⟨e1, e2⟩
  · rw [e]; simp
  · rw [e1]
    rcases e2 with e2 | e2
    · omega
    · have hok : chOk c u v := Classical.byContradiction fun h => by rw [demC_no h] at e2; simp at e2
      have := (isWordB_of hok.1).2.1
      simp; omega

set_option maxHeartbeats 600000 in
theorem impl_FilterSizes_ok (gc oc n cc gu ou m cu gv ov k cv : Nat) (c : List (List Int)) (u v : List Int) (w : World) (hn : c.length = n) (hm : u.length = m) (hk : v.length = k) (hx : c.length ≤ 1048576) (hrl : ∀ j, j < c.length → (c.getD j []).length ≤ 1048576)
    (hux : u.length ≤ 1048576) (hvx : v.length ≤ 1048576) (hcap : u.length ≤ cu) (hcm : cu ≤ maxLen) (hgc : gc < w.heap.size) (hgu : gu < w.heap.size) (hgv : gv < w.heap.size) (hr : Rows2 w gc oc c) (hu : Cells w gu ou u) (hv : Cells w gv ov v) :
    Calls Try.prog 23 #[(Value.slice (some ⟨gc, oc, none⟩) n cc), (Value.slice (some ⟨gu, ou, none⟩) m cu), (Value.slice (some ⟨gv, ov, none⟩) k cv)] w (GotInts w (fltL c u v)) := by
  subst hn; subst hm; subst hk
  have HC := Lib.hid (fun W (hW : Below w.heap.size w W) o2 c2 s n2 (hs : Cells w gu o2 (u.drop s)) (hn2 : (u.drop s).length = n2) => impl_DemazureCharacter_ok gc oc _ cc gu o2 n2 c2 gv ov _ cv c (u.drop s) v W rfl hn2 rfl hx hrl (by rw [List.length_drop]; omega) hvx
    (Nat.lt_of_lt_of_le hgc hW.size) (Nat.lt_of_lt_of_le hgu hW.size) (Nat.lt_of_lt_of_le hgv hW.size) (hr.below hW hgc) (hs.below hW hgu) (hv.below hW hgv))
  have Hu := Lib.hid hu
  have Hcm := Lib.hid hcm
  clear hr hu hv hrl hcm
  generalize hA : fltL c u v = A
  have HA : Hid (fltGo c u v (u.length + 1) [] = A) := Lib.hid hA
  clear hA
  go_enter Try.func23, Try.ntmps23
  go_wp2_with fail
  go_loopw [7, 8, 9, 10] (fun ov kv _ _ wr => ∃ (t p gO cO : Nat) (acc : List Int), t ≤ u.length + 1 ∧ kv = .int .i64 ((t : Int) - 1) ∧ ov = (Value.slice (some ⟨gO, 0, none⟩) p cO) ∧ Hid (acc.length = p) ∧ Hid (p + t = u.length + 1) ∧ Hid (fltGo c u v t acc = A) ∧ Own wr w.heap.size gO cO acc ∧ Below w.heap.size w wr) (fun _ kv _ _ _ => (intOf kv + 1).toNat)
  case atStart => exact ⟨u.length + 1, 0, w.heap.size, 0, [], Nat.le_refl _, by go_num, rfl, rfl, Lib.hid (by omega), HA, Own.empty (Nat.le_refl _), (Below.refl _ _).alloc (Nat.le_refl _) _⟩
  case round =>
    clear HA
    obtain ⟨t, p, gO, cO, acc, ht, rfl, rfl, hp, hpt, hgo, ho, hb⟩ := hrel
    by_cases h0 : t = 0
    · subst h0
      have hA : Hid (acc = A) := hgo.out
      clear hgo
      go_wp2_with fail
      go_ret
      rw [hA.out] at ho hp
      exact GotInts.mk' gO cO hp.out ho hb
    · obtain ⟨s, rfl⟩ : ∃ s, t = s + 1 := ⟨t - 1, by omega⟩
      have hs1 : ((s + 1 : Nat) : Int) - 1 = (s : Int) := by omega
      have hpb : p ≤ 1048577 := by have := hpt.out; omega
      rw [hs1]
      clear h0 hs1
      have hL := demC_ok c (u.drop s) v
      have hyes := fltGo_yes (c := c) (u := u) (v := v) (t := s) (acc := acc)
      have hno := fltGo_no (c := c) (u := u) (v := v) (t := s) (acc := acc)
      rw [hgo.out] at hyes hno
      have hln : (u.drop s).length = u.length - s := List.length_drop
      have HCs := Lib.hid (fun o2 c2 (hs : Cells w gu o2 (u.drop s)) => HC.out wr hb o2 c2 s (u.length - s) hs hln)
      have Hdr := Lib.hid (Hu.out.drop s)
      clear hln
      have HL := Lib.hid hL; have Hyes := Lib.hid hyes; have Hno := Lib.hid hno
      clear hL hyes hno hgo
      have hs2 : s ≤ u.length := by omega
      have b1 : (0 : Int) ≤ (s : Int) := by omega
      have b2 : (s : Int) ≤ (cu : Int) := by omega
      have b3 : (s : Int) ≤ (u.length : Int) := by omega
      by_cases hcu : cu = s
      · have hdn : u.drop s = [] := List.drop_eq_nil_of_le (by omega)
        have HC2 := Lib.hid (HC.out wr hb ou 0 s 0 (by rw [hdn]; intro j hj; simp at hj) (by rw [hdn]; rfl))
        clear hdn
        subst hcu
        clear HCs Hdr
        generalize (demC c (u.drop cu) v).getD [] = L at *
        cases hB : (demC c (u.drop cu) v).isSome with
        | true =>
          rw [hB] at HC2 Hyes
          have Hy2 := Lib.hid (Hyes.out rfl)
          clear Hyes Hno hB
          go_wp2_with fail
          refine HC2.out.mono ?_
          rintro e w7 ⟨g7, c7, rs7, rfl, hc7, ho7, hb7⟩
          have hb8 := hb.trans (hb7.mono hb.size)
          have ho8 := ho.below hb7 ho.lt
          have hwr := ho7.wrows
          rw [hc7] at hwr
          have HZ := Lib.hid (impl_SizeOfCharacter_ok g7 0 _ c7 L w7 rfl HL.out.2.2 HL.out.2.1 ho7.lt hwr)
          clear HC2 ho hb ho7 hb7 hc7 hwr
          go_wp2_with fail
          refine HZ.out.mono ?_
          rintro e w8 ⟨rfl, hbz⟩
          have hb9 := hb8.trans (hbz.mono hb8.size)
          have ho9 := ho8.below hbz ho8.lt
          clear ho8 hb8 hbz
          clear HZ
          go_wp2_with (at_builtin; refine wpList_append_int_n (w := w8) rfl _ _ rfl w.heap.size gO cO p acc (sumW L) hp.out ho9 rfl rfl (by omega) ?_)
          intro g9 c9 w9 ho10 hg9 hor9
          have hb10 := hb9.grown hg9 hb9.size (by intro q hq; cases hq; exact ho9.base)
          clear ho9 hb9 hg9 hor9
          go_wp2_with fail
          go_roundw
          case rel => exact ⟨cu, p + 1, g9, c9, _, by omega, by go_num, rfl, by show _ = _; rw [List.length_append, hp.out]; rfl, by show _ = _; have := hpt.out; omega, Hy2.out.symm ▸ rfl, ho10, hb10⟩
          case measure => simp [intOf]
        | false =>
          rw [hB] at HC2 Hno
          have Hy2 := Lib.hid (Hno.out rfl)
          rw [Hy2.out]
          clear Hyes Hno hB
          go_wp2_with fail
          refine HC2.out.mono ?_
          rintro e w7 ⟨g7, c7, rs7, rfl, hc7, ho7, hb7⟩
          have hb8 := hb.trans (hb7.mono hb.size)
          clear HC2 ho hb ho7 hb7 hc7
          go_wp2_with fail
          go_ret
          exact GotInts.mk' _ 0 rfl (Own.empty hb8.size) (hb8.alloc hb8.size _)
      · have HC2 := Lib.hid (HCs.out (ou + s) (cu - s) Hdr.out)
        clear HCs Hdr
        generalize (demC c (u.drop s) v).getD [] = L at *
        cases hB : (demC c (u.drop s) v).isSome with
        | true =>
          rw [hB] at HC2 Hyes
          have Hy2 := Lib.hid (Hyes.out rfl)
          clear Hyes Hno hB
          go_wp2_with fail
          refine HC2.out.mono ?_
          rintro e w7 ⟨g7, c7, rs7, rfl, hc7, ho7, hb7⟩
          have hb8 := hb.trans (hb7.mono hb.size)
          have ho8 := ho.below hb7 ho.lt
          have hwr := ho7.wrows
          rw [hc7] at hwr
          have HZ := Lib.hid (impl_SizeOfCharacter_ok g7 0 _ c7 L w7 rfl HL.out.2.2 HL.out.2.1 ho7.lt hwr)
          clear HC2 ho hb ho7 hb7 hc7 hwr
          go_wp2_with fail
          refine HZ.out.mono ?_
          rintro e w8 ⟨rfl, hbz⟩
          have hb9 := hb8.trans (hbz.mono hb8.size)
          have ho9 := ho8.below hbz ho8.lt
          clear ho8 hb8 hbz
          clear HZ
          go_wp2_with (at_builtin; refine wpList_append_int_n (w := w8) rfl _ _ rfl w.heap.size gO cO p acc (sumW L) hp.out ho9 rfl rfl (by omega) ?_)
          intro g9 c9 w9 ho10 hg9 hor9
          have hb10 := hb9.grown hg9 hb9.size (by intro q hq; cases hq; exact ho9.base)
          clear ho9 hb9 hg9 hor9
          go_wp2_with fail
          go_roundw
          case rel => exact ⟨s, p + 1, g9, c9, _, by omega, by go_num, rfl, by show _ = _; rw [List.length_append, hp.out]; rfl, by show _ = _; have := hpt.out; omega, Hy2.out.symm ▸ rfl, ho10, hb10⟩
          case measure => simp [intOf]
        | false =>
          rw [hB] at HC2 Hno
          have Hy2 := Lib.hid (Hno.out rfl)
          rw [Hy2.out]
          clear Hyes Hno hB
          go_wp2_with fail
          refine HC2.out.mono ?_
          rintro e w7 ⟨g7, c7, rs7, rfl, hc7, ho7, hb7⟩
          have hb8 := hb.trans (hb7.mono hb.size)
          clear HC2 ho hb ho7 hb7 hc7
          go_wp2_with fail
          go_ret
          exact GotInts.mk' _ 0 rfl (Own.empty hb8.size) (hb8.alloc hb8.size _)

set_option maxHeartbeats 600000 in
theorem spec_FilterSizes_ok (gc oc n cc gu ou m cu gv ov k cv : Nat) (c : List (List Int)) (u v : List Int) (w : World) (hn : c.length = n) (hm : u.length = m) (hk : v.length = k) (hx : c.length ≤ 1048576) (hrl : ∀ j, j < c.length → (c.getD j []).length ≤ 1048576)
    (hux : u.length ≤ 1048576) (hvx : v.length ≤ 1048576) (hcap : u.length ≤ cu) (hcm : cu ≤ maxLen) (hgc : gc < w.heap.size) (hgu : gu < w.heap.size) (hgv : gv < w.heap.size) (hr : Rows2 w gc oc c) (hu : Cells w gu ou u) (hv : Cells w gv ov v) :
    Calls Try.prog 22 #[(Value.slice (some ⟨gc, oc, none⟩) n cc), (Value.slice (some ⟨gu, ou, none⟩) m cu), (Value.slice (some ⟨gv, ov, none⟩) k cv)] w (GotInts w (fltL c u v)) := by
  subst hn; subst hm; subst hk
  have HC := Lib.hid (fun W (hW : Below w.heap.size w W) o2 c2 s n2 (hs : Cells w gu o2 (u.drop s)) (hn2 : (u.drop s).length = n2) => spec_DemazureCharacter_ok gc oc _ cc gu o2 n2 c2 gv ov _ cv c (u.drop s) v W rfl hn2 rfl hx hrl (by rw [List.length_drop]; omega) hvx
    (Nat.lt_of_lt_of_le hgc hW.size) (Nat.lt_of_lt_of_le hgu hW.size) (Nat.lt_of_lt_of_le hgv hW.size) (hr.below hW hgc) (hs.below hW hgu) (hv.below hW hgv))
  have Hu := Lib.hid hu
  have Hcm := Lib.hid hcm
  clear hr hu hv hrl hcm
  generalize hA : fltL c u v = A
  have HA : Hid (fltGo c u v (u.length + 1) [] = A) := Lib.hid hA
  clear hA
  go_enter Try.func22, Try.ntmps22
  go_wp2_with fail
  go_loopw [7, 8, 9, 10] (fun ov kv _ _ wr => ∃ (t p gO cO : Nat) (acc : List Int), t ≤ u.length + 1 ∧ kv = .int .i64 ((t : Int) - 1) ∧ ov = (Value.slice (some ⟨gO, 0, none⟩) p cO) ∧ Hid (acc.length = p) ∧ Hid (p + t = u.length + 1) ∧ Hid (fltGo c u v t acc = A) ∧ Own wr w.heap.size gO cO acc ∧ Below w.heap.size w wr) (fun _ kv _ _ _ => (intOf kv + 1).toNat)
  case atStart => exact ⟨u.length + 1, 0, w.heap.size, 0, [], Nat.le_refl _, by go_num, rfl, rfl, Lib.hid (by omega), HA, Own.empty (Nat.le_refl _), (Below.refl _ _).alloc (Nat.le_refl _) _⟩
  case round =>
    clear HA
    obtain ⟨t, p, gO, cO, acc, ht, rfl, rfl, hp, hpt, hgo, ho, hb⟩ := hrel
    by_cases h0 : t = 0
    · subst h0
      have hA : Hid (acc = A) := hgo.out
      clear hgo
      go_wp2_with fail
      go_ret
      rw [hA.out] at ho hp
      exact GotInts.mk' gO cO hp.out ho hb
    · obtain ⟨s, rfl⟩ : ∃ s, t = s + 1 := ⟨t - 1, by omega⟩
      have hs1 : ((s + 1 : Nat) : Int) - 1 = (s : Int) := by omega
      have hpb : p ≤ 1048577 := by have := hpt.out; omega
      rw [hs1]
      clear h0 hs1
      have hL := demC_ok c (u.drop s) v
      have hyes := fltGo_yes (c := c) (u := u) (v := v) (t := s) (acc := acc)
      have hno := fltGo_no (c := c) (u := u) (v := v) (t := s) (acc := acc)
      rw [hgo.out] at hyes hno
      have hln : (u.drop s).length = u.length - s := List.length_drop
      have HCs := Lib.hid (fun o2 c2 (hs : Cells w gu o2 (u.drop s)) => HC.out wr hb o2 c2 s (u.length - s) hs hln)
      have Hdr := Lib.hid (Hu.out.drop s)
      clear hln
      have HL := Lib.hid hL; have Hyes := Lib.hid hyes; have Hno := Lib.hid hno
      clear hL hyes hno hgo
      have hs2 : s ≤ u.length := by omega
      have b1 : (0 : Int) ≤ (s : Int) := by omega
      have b2 : (s : Int) ≤ (cu : Int) := by omega
      have b3 : (s : Int) ≤ (u.length : Int) := by omega
      by_cases hcu : cu = s
      · have hdn : u.drop s = [] := List.drop_eq_nil_of_le (by omega)
        have HC2 := Lib.hid (HC.out wr hb ou 0 s 0 (by rw [hdn]; intro j hj; simp at hj) (by rw [hdn]; rfl))
        clear hdn
        subst hcu
        clear HCs Hdr
        generalize (demC c (u.drop cu) v).getD [] = L at *
        cases hB : (demC c (u.drop cu) v).isSome with
        | true =>
          rw [hB] at HC2 Hyes
          have Hy2 := Lib.hid (Hyes.out rfl)
          clear Hyes Hno hB
          go_wp2_with fail
          refine HC2.out.mono ?_
          rintro e w7 ⟨g7, c7, rs7, rfl, hc7, ho7, hb7⟩
          have hb8 := hb.trans (hb7.mono hb.size)
          have ho8 := ho.below hb7 ho.lt
          have hwr := ho7.wrows
          rw [hc7] at hwr
          have HZ := Lib.hid (spec_SizeOfCharacter_ok g7 0 _ c7 L w7 rfl HL.out.2.2 HL.out.2.1 hwr)
          clear HC2 ho hb ho7 hb7 hc7 hwr
          go_wp2_with fail
          refine HZ.out.mono ?_
          rintro e w8 ⟨rfl, hsz⟩
          have hb9 := below_still hb8 hsz
          have ho9 := ho8.still hsz
          clear ho8 hb8 hsz
          clear HZ
          go_wp2_with (at_builtin; refine wpList_append_int_n (w := w8) rfl _ _ rfl w.heap.size gO cO p acc (sumW L) hp.out ho9 rfl rfl (by omega) ?_)
          intro g9 c9 w9 ho10 hg9 hor9
          have hb10 := hb9.grown hg9 hb9.size (by intro q hq; cases hq; exact ho9.base)
          clear ho9 hb9 hg9 hor9
          go_wp2_with fail
          go_roundw
          case rel => exact ⟨cu, p + 1, g9, c9, _, by omega, by go_num, rfl, by show _ = _; rw [List.length_append, hp.out]; rfl, by show _ = _; have := hpt.out; omega, Hy2.out.symm ▸ rfl, ho10, hb10⟩
          case measure => simp [intOf]
        | false =>
          rw [hB] at HC2 Hno
          have Hy2 := Lib.hid (Hno.out rfl)
          rw [Hy2.out]
          clear Hyes Hno hB
          go_wp2_with fail
          refine HC2.out.mono ?_
          rintro e w7 ⟨g7, c7, rs7, rfl, hc7, ho7, hb7⟩
          have hb8 := hb.trans (hb7.mono hb.size)
          clear HC2 ho hb ho7 hb7 hc7
          go_wp2_with fail
          go_ret
          exact GotInts.mk' _ 0 rfl (Own.empty hb8.size) (hb8.alloc hb8.size _)
      · have HC2 := Lib.hid (HCs.out (ou + s) (cu - s) Hdr.out)
        clear HCs Hdr
        generalize (demC c (u.drop s) v).getD [] = L at *
        cases hB : (demC c (u.drop s) v).isSome with
        | true =>
          rw [hB] at HC2 Hyes
          have Hy2 := Lib.hid (Hyes.out rfl)
          clear Hyes Hno hB
          go_wp2_with fail
          refine HC2.out.mono ?_
          rintro e w7 ⟨g7, c7, rs7, rfl, hc7, ho7, hb7⟩
          have hb8 := hb.trans (hb7.mono hb.size)
          have ho8 := ho.below hb7 ho.lt
          have hwr := ho7.wrows
          rw [hc7] at hwr
          have HZ := Lib.hid (spec_SizeOfCharacter_ok g7 0 _ c7 L w7 rfl HL.out.2.2 HL.out.2.1 hwr)
          clear HC2 ho hb ho7 hb7 hc7 hwr
          go_wp2_with fail
          refine HZ.out.mono ?_
          rintro e w8 ⟨rfl, hsz⟩
          have hb9 := below_still hb8 hsz
          have ho9 := ho8.still hsz
          clear ho8 hb8 hsz
          clear HZ
          go_wp2_with (at_builtin; refine wpList_append_int_n (w := w8) rfl _ _ rfl w.heap.size gO cO p acc (sumW L) hp.out ho9 rfl rfl (by omega) ?_)
          intro g9 c9 w9 ho10 hg9 hor9
          have hb10 := hb9.grown hg9 hb9.size (by intro q hq; cases hq; exact ho9.base)
          clear ho9 hb9 hg9 hor9
          go_wp2_with fail
          go_roundw
          case rel => exact ⟨s, p + 1, g9, c9, _, by omega, by go_num, rfl, by show _ = _; rw [List.length_append, hp.out]; rfl, by show _ = _; have := hpt.out; omega, Hy2.out.symm ▸ rfl, ho10, hb10⟩
          case measure => simp [intOf]
        | false =>
          rw [hB] at HC2 Hno
          have Hy2 := Lib.hid (Hno.out rfl)
          rw [Hy2.out]
          clear Hyes Hno hB
          go_wp2_with fail
          refine HC2.out.mono ?_
          rintro e w7 ⟨g7, c7, rs7, rfl, hc7, ho7, hb7⟩
          have hb8 := hb.trans (hb7.mono hb.size)
          clear HC2 ho hb ho7 hb7 hc7
          go_wp2_with fail
          go_ret
          exact GotInts.mk' _ 0 rfl (Own.empty hb8.size) (hb8.alloc hb8.size _)
end Go.Proofs.Ytihfbbpkgmkbcaa
