/- RootLine of both: contracts. -/
import Derived.Test.YticnocoeldfiiaaGreatDoorG41
import Derived.Test.YticnocoeldfiiaaGreatDoorG43
import Derived.Test.YticnocoeldfiiaaGreatDoorFmtS
import Derived.Test.YticnocoeldfiiaaGreatDoorG48
import Derived.Test.YticnocoeldfiiaaGreatDoorG49
namespace Go.Proofs.YticnocoeldfiiaaGreatDoor
open Go.RowKit Game
open Go.Lib (join decDigits itoa)

/-! ### all numbers of the roots are int64 -/
theorem i64_0 : (Lit.int .i64 0).wf = true := by decide
theorem i64s_simp (n i : Nat) : I64s (simpL n i) := by
  intro x hx
  unfold simpL at hx
  rcases List.mem_or_eq_of_mem_set hx with h | h
  · rw [(List.mem_replicate.1 h).2]; decide
  · rw [h]; decide
theorem i64s_mir {c : List (List Int)} {i : Nat} {r : List Int} (h : I64s r) : I64s (mirL c i r) := by
  intro x hx
  unfold mirL at hx
  rcases List.mem_or_eq_of_mem_set hx with h1 | h1
  · exact h x h1
  · rw [h1]; exact wrap64_wf _
theorem puts_sub : ∀ (L a : List (List Int)) (x : List Int), x ∈ L.foldl putR a → x ∈ L ∨ x ∈ a
  | [], a, x, h => .inr h
  | y :: L, a, x, h => by
    rcases puts_sub L (putR a y) x h with h1 | h1
    · exact .inl (List.mem_cons_of_mem _ h1)
    · rcases mem_putR.1 h1 with h2 | h2
      · subst h2; exact .inl (by simp)
      · exact .inr h2
def I64Q (Q : List (List Int)) : Prop := ∀ r ∈ Q, I64s r
theorem I64Q.smStep {c t : List (List Int)} {Q : List RPair} {k i : Nat} (h : I64Q (Q.map (·.1))) (hk : k < Q.length) : I64Q ((smStep c t Q k i).map (·.1)) := by
  unfold Proofs.YticnocoeldfiiaaGreatDoor.smStep
  dsimp only
  split
  · intro r hr
    rw [List.map_append] at hr
    rcases List.mem_append.1 hr with h1 | h1
    · exact h r h1
    · simp only [List.map_cons, List.map_nil, List.mem_singleton] at h1
      rw [h1]
      refine i64s_mir (h _ ?_)
      refine List.mem_map.2 ⟨Q.getD k ([], []), ?_, rfl⟩
      simp [List.getD, hk]
  · exact h
theorem I64Q.smRow {c t : List (List Int)} {Q : List RPair} {k : Nat} (h : I64Q (Q.map (·.1))) (hk : k < Q.length) : ∀ i, I64Q ((smRow c t Q k i).map (·.1))
  | 0 => h
  | i + 1 => by
    simp only [Proofs.YticnocoeldfiiaaGreatDoor.smRow]
    exact I64Q.smStep (I64Q.smRow h hk i) (Nat.lt_of_lt_of_le hk (smRow_le i).1)
theorem I64Q.smGo {c t : List (List Int)} : ∀ (f k : Nat) (Q R : List RPair), I64Q (Q.map (·.1)) → smGo c t f k Q = some R → I64Q (R.map (·.1))
  | 0, k, Q, R, h, e => by
    simp only [Proofs.YticnocoeldfiiaaGreatDoor.smGo] at e
    split at e
    · cases e; exact h
    · cases e
  | f + 1, k, Q, R, h, e => by
    simp only [Proofs.YticnocoeldfiiaaGreatDoor.smGo] at e
    split at e
    · cases e; exact h
    · split at e
      · cases e
      · exact I64Q.smGo f (k + 1) _ R (I64Q.smRow h (by omega) _) e
theorem i64s_small (c : List (List Int)) : I64Q (smallA c) := by
  unfold smallA
  split
  · intro r hr
    cases hR : smR c with
    | none => rw [(small_none hR).1] at hr; cases hr
    | some Q =>
      rw [(small_some hR).1] at hr
      have hr' : r ∈ Q.map (·.1) := by
        have h2 := puts_sub (Q.map Prod.fst) [] r hr
        simpa using h2
      refine I64Q.smGo _ _ _ _ ?_ hR r hr'
      intro x hx
      unfold smStart at hx
      rw [List.map_map] at hx
      obtain ⟨i, -, rfl⟩ := List.mem_map.1 hx
      exact i64s_simp _ _
  · intro r hr; cases hr
theorem i64s_pos (c : List (List Int)) : I64Q (posA c) := by
  unfold posA
  split
  · rename_i h
    intro r hr x hx
    have := (posOk_fin h).small r hr x hx
    simp [Lit.wf, IntKind.min, IntKind.max, IntKind.signed, IntKind.bits]
    omega
  · intro r hr; cases hr

/-! ### the line -/
def posW : List UInt8 := [112, 111, 115, 105, 116, 105, 118, 101]
def smallW : List UInt8 := [115, 109, 97, 108, 108]
def lineOf (h : List UInt8) (l : List (List Int)) : List UInt8 := h ++ [32] ++ itoa (l.length : Int) ++ [32] ++ rootsL l
def rootLineL (c : List (List Int)) : List UInt8 := if finB c = true then lineOf posW (posA c) else if smallAB c = true then lineOf smallW (smallA c) else []
theorem lineOf_join (h : List UInt8) (l : List (List Int)) : join [h, itoa (l.length : Int), rootsL l] [32] = lineOf h l := by
  simp [join, lineOf]
/-- what both lines need of a list of roots -/
structure Roots (l : List (List Int)) : Prop where
  few : l.length ≤ 200
  len : ∀ k, k < l.length → (l.getD k []).length ≤ 15
  i64 : I64Q l
theorem roots_of {l : List (List Int)} {m : Nat} (h1 : l.length ≤ 200) (h2 : ∀ x ∈ l, x.length ≤ m) (hm : m ≤ 15) (h3 : I64Q l) : Roots l :=
  ⟨h1, fun k hk => by have := h2 (l.getD k []) (by simp [List.getD, hk]); omega, h3⟩
theorem roots_pos (c : List (List Int)) : Roots (posA c) := roots_of (by have := (posA_few c).1; omega) (posA_few c).2 (by decide) (i64s_pos c)
theorem roots_small (c : List (List Int)) : Roots (smallA c) := roots_of (smallA_few c).1 (smallA_few c).2 (by decide) (i64s_small c)
theorem Roots.wf {l : List (List Int)} (h : Roots l) : (Lit.int .i64 (l.length : Int)).wf = true := by
  have := h.few
  simp [Lit.wf, IntKind.min, IntKind.max, IntKind.signed, IntKind.bits]
  omega
theorem Roots.short {l : List (List Int)} (h : Roots l) (a : List UInt8) (ha : a.length ≤ 8) : (lineOf a l).length ≤ 1000000 := by
  have h1 := wf_bounds h.wf
  have h2 := Lib.itoa_length_le (l.length : Int) h1.1 h1.2
  have h3 : cellsOf l ≤ 15 * l.length := cellsOf_le (m := 15) (fun r hr => by obtain ⟨i, hi, rfl⟩ := List.mem_iff_getElem.1 hr; have := h.len i hi; simpa [List.getD, hi] using this)
  have h4 := rowsL_len (sep := [32]) h.i64
  have h5 := h.few
  have h6 : (rootsL l).length ≤ 100000 := by
    unfold rootsL
    split
    · simp
    · simp only [List.length_cons, List.length_nil] at h4
      omega
  unfold lineOf
  simp only [List.length_append, List.length_cons, List.length_nil]
  omega
theorem Roots.cells {l : List (List Int)} (h : Roots l) : cellsOf l ≤ 1099511627776 := by
  have h3 : cellsOf l ≤ 15 * l.length := cellsOf_le (m := 15) (fun r hr => by obtain ⟨i, hi, rfl⟩ := List.mem_iff_getElem.1 hr; have := h.len i hi; simpa [List.getD, hi] using this)
  have := h.few
  omega
theorem spec_addLine {l : List (List Int)} (h : Roots l) (a : List UInt8) (ha : a.length ≤ 8) :
    ∃ s1 s2, (∀ W, (Op.stringOp .add ⟨(a ++ [32]).toArray⟩ ⟨(itoa (l.length : Int)).toArray⟩).run Tryz.prog W = .ok (.string ⟨s1⟩) W) ∧ (∀ W, (Op.stringOp .add ⟨s1⟩ ⟨#[32]⟩).run Tryz.prog W = .ok (.string ⟨s2⟩) W) ∧
      (∀ W, (Op.stringOp .add ⟨s2⟩ ⟨(rootsL l).toArray⟩).run Tryz.prog W = .ok (.string ⟨(lineOf a l).toArray⟩) W) := by
  have hs := h.short a ha
  unfold lineOf at hs
  simp only [List.length_append, List.length_cons, List.length_nil] at hs
  refine ⟨(a ++ [32] ++ itoa (l.length : Int)).toArray, (a ++ [32] ++ itoa (l.length : Int) ++ [32]).toArray, fun W => addS W _ _ _ rfl ?_, fun W => addS W _ [32] _ rfl ?_, fun W => addS W _ _ _ (by unfold lineOf; rfl) ?_⟩
  · simp only [List.length_append, List.length_cons, List.length_nil]; omega
  · simp only [List.length_append, List.length_cons, List.length_nil]; omega
  · unfold lineOf; simp only [List.length_append, List.length_cons, List.length_nil]; omega

set_option maxHeartbeats 1000000 in
theorem spec_RootLine_any (gc oc n cc : Nat) (c : List (List Int)) (w : World) (hn : c.length = n) (hl : c.length ≤ 1048576) (hrl : ∀ j, j < c.length → (c.getD j []).length ≤ 1048576) (hgc : gc < w.heap.size) (hr : Rows2 w gc oc c) :
    Calls Tryz.prog 6 #[(Value.slice (some ⟨gc, oc, none⟩) n cc)] w (Gives w (.string ⟨(rootLineL c).toArray⟩)) := by
  have hcP := spec_PositiveRoots_any gc oc n cc c w hn hl hrl hgc hr
  have HcS := Lib.hid (fun W (hW : Below w.heap.size w W) => spec_SmallRoots_any gc oc n cc c W hn hl hrl (Nat.lt_of_lt_of_le hgc hW.size) (hr.below hW hgc))
  have hRp := roots_pos c; have hRs := roots_small c
  unfold rootLineL
  clear hn hl hrl hgc hr
  generalize posA c = LP at *
  generalize smallA c = LS at *
  cases hf : finB c with
  | true =>
    rw [hf] at hcP
    rw [if_pos rfl]
    obtain ⟨s1, s2, q1, q2, q3⟩ := spec_addLine hRp posW (by decide)
    have hwf := hRp.wf
    have Hi := Lib.hid (fun W => spec_FormatInt_any (LP.length : Int) W hwf)
    have Hf := Lib.hid (fun (W : World) (g cap : Nat) (hg : g < W.heap.size) (hr : Rows2 W g 0 LP) => spec_FormatRoots_any g 0 LP.length cap LP W rfl (by have := hRp.few; omega) hRp.cells hRp.i64 hg hr)
    have HcP := Lib.hid hcP
    clear hcP hRp hRs HcS hwf
    generalize itoa (LP.length : Int) = t at *
    generalize rootsL LP = u at *
    generalize lineOf posW LP = z at *
    change ∀ W, (Op.stringOp .add ⟨#[112, 111, 115, 105, 116, 105, 118, 101, 32]⟩ ⟨t.toArray⟩).run Tryz.prog W = _ at q1
    go_enter Tryz.func6, Tryz.ntmps6
    go_wp2_with fail
    refine HcP.out.mono ?_
    rintro e w1 ⟨g, cp, rs, rfl, hcr, ho, hb1⟩
    go_wp2_with fail
    refine (Hi.out w1).mono ?_
    rintro e w2 ⟨rfl, hb2⟩
    have ho2 := ho.below hb2
    have hb := hb1.trans (hb2.mono hb1.size)
    clear hb1 hb2 ho
    go_wp2_with fail
    refine (Hf.out w2 g cp ho2.lt (by have := ho2.rows2; rw [hcr] at this; exact this)).mono ?_
    rintro e w3 ⟨rfl, hb3⟩
    go_wp2_with fail
    go_ret
    exact ⟨rfl, hb.trans (hb3.mono hb.size)⟩
  | false =>
    rw [hf] at hcP
    rw [if_neg (by decide)]
    have HcP := Lib.hid hcP
    clear hcP hRp
    cases hsb : smallAB c with
    | false =>
      rw [hsb] at HcS
      rw [if_neg (by decide)]
      clear hRs
      go_enter Tryz.func6, Tryz.ntmps6
      go_wp2_with fail
      refine HcP.out.mono ?_
      rintro e w1 ⟨g, cp, rs, rfl, hcr, ho, hb1⟩
      go_wp2_with fail
      refine (HcS.out w1 hb1).mono ?_
      rintro e w2 ⟨g2, cp2, rs2, rfl, hcr2, ho2, hb2⟩
      go_wp2_with fail
      go_ret
      exact ⟨rfl, hb1.trans (hb2.mono hb1.size)⟩
    | true =>
      rw [hsb] at HcS
      rw [if_pos rfl]
      obtain ⟨s1, s2, q1, q2, q3⟩ := spec_addLine hRs smallW (by decide)
      have hwf := hRs.wf
      have Hi := Lib.hid (fun W => spec_FormatInt_any (LS.length : Int) W hwf)
      have Hf := Lib.hid (fun (W : World) (g cap : Nat) (hg : g < W.heap.size) (hr : Rows2 W g 0 LS) => spec_FormatRoots_any g 0 LS.length cap LS W rfl (by have := hRs.few; omega) hRs.cells hRs.i64 hg hr)
      clear hRs hwf
      generalize itoa (LS.length : Int) = t at *
      generalize rootsL LS = u at *
      generalize lineOf smallW LS = z at *
      change ∀ W, (Op.stringOp .add ⟨#[115, 109, 97, 108, 108, 32]⟩ ⟨t.toArray⟩).run Tryz.prog W = _ at q1
      go_enter Tryz.func6, Tryz.ntmps6
      go_wp2_with fail
      refine HcP.out.mono ?_
      rintro e w1 ⟨g, cp, rs, rfl, hcr, ho, hb1⟩
      go_wp2_with fail
      refine (HcS.out w1 hb1).mono ?_
      rintro e w4 ⟨g4, cp4, rs4, rfl, hcr4, ho4, hb4⟩
      have hb := hb1.trans (hb4.mono hb1.size)
      clear hb1 hb4 ho
      go_wp2_with fail
      refine (Hi.out w4).mono ?_
      rintro e w2 ⟨rfl, hb2⟩
      have ho2 := ho4.below hb2
      have hb := hb.trans (hb2.mono hb.size)
      clear hb2 ho4
      go_wp2_with fail
      refine (Hf.out w2 g4 cp4 ho2.lt (by have := ho2.rows2; rw [hcr4] at this; exact this)).mono ?_
      rintro e w3 ⟨rfl, hb3⟩
      go_wp2_with fail
      go_ret
      exact ⟨rfl, hb.trans (hb3.mono hb.size)⟩

set_option maxHeartbeats 1000000 in
theorem impl_RootLine_any (gc oc n cc : Nat) (c : List (List Int)) (w : World) (hn : c.length = n) (hl : c.length ≤ 1048576) (hrl : ∀ j, j < c.length → (c.getD j []).length ≤ 1048576) (hgc : gc < w.heap.size) (hr : Rows2 w gc oc c) (ht : Tab w) :
    Calls Tryz.prog 8 #[(Value.slice (some ⟨gc, oc, none⟩) n cc)] w (Gives w (.string ⟨(rootLineL c).toArray⟩)) := by
  have hcP := impl_PositiveRoots_any gc oc n cc c w hn hl hrl hgc hr
  have HcS := Lib.hid (fun W (hW : Below w.heap.size w W) => impl_SmallRoots_any gc oc n cc c W hn hl hrl (Nat.lt_of_lt_of_le hgc hW.size) (hr.below hW hgc))
  have hRp := roots_pos c; have hRs := roots_small c
  unfold rootLineL
  have Ht := Lib.hid ht
  clear hn hl hrl hgc hr ht
  generalize posA c = LP at *
  generalize smallA c = LS at *
  cases hf : finB c with
  | true =>
    rw [hf] at hcP
    rw [if_pos rfl, ← lineOf_join]
    have hwf := hRp.wf
    have hjl : (join [posW, itoa (LP.length : Int), rootsL LP] [32]).length ≤ 140737488355328 := by rw [lineOf_join]; have := hRp.short posW (by decide); omega
    have Hi := Lib.hid (fun W (hW : Tab W) => impl_FormatInt_any (LP.length : Int) hwf W hW)
    have Hf := Lib.hid (fun (W : World) (g cap : Nat) (hg : g < W.heap.size) (hr : Rows2 W g 0 LP) (hW : Tab W) => impl_FormatRoots_any g 0 LP.length cap LP W rfl (by have := hRp.few; omega) (fun k hk => by have := hRp.len k hk; omega) hRp.i64 hg hr hW)
    have Hl := Lib.hid (fun (W : World) (B g cap : Nat) (ho : OwnStrs W B g cap (strs [posW, itoa (LP.length : Int), rootsL LP])) => impl_line_any (n := 3) ho rfl (by decide) hjl)
    have HcP := Lib.hid hcP
    clear hcP hRp hRs HcS hwf hjl
    generalize itoa (LP.length : Int) = t at *
    generalize rootsL LP = u at *
    have H3 : Hid (∀ (W : World) (B : Nat), B ≤ W.heap.size → OwnStrs (W.alloc (.cells #[.string ⟨#[112, 111, 115, 105, 116, 105, 118, 101]⟩, .string ⟨t.toArray⟩, .string ⟨u.toArray⟩] 9)) B W.heap.size 3 (strs [posW, t, u])) := fun W B hB => own_three W B posW t u hB
    generalize join [posW, t, u] [32] = z at *
    generalize strs [posW, t, u] = zs at *
    go_enter Tryz.func8, Tryz.ntmps8
    go_wp2_with fail
    refine HcP.out.mono ?_
    rintro e w1 ⟨g, cp, rs, rfl, hcr, ho, hb1⟩
    go_wp2_with fail
    refine (Hi.out w1 (Ht.out.below hb1)).mono ?_
    rintro e w2 ⟨rfl, hb2⟩
    have ho2 := ho.below hb2
    have hb := hb1.trans (hb2.mono hb1.size)
    clear hb1 hb2 ho
    go_wp2_with fail
    refine (Hf.out w2 g cp ho2.lt (by have := ho2.rows2; rw [hcr] at this; exact this) (Ht.out.below hb)).mono ?_
    rintro e w3 ⟨rfl, hb3⟩
    have hb := hb.trans (hb3.mono hb.size)
    have ho3 := H3.out w3 w.heap.size hb.size
    have hb4 := hb.alloc hb.size (.cells #[.string ⟨#[112, 111, 115, 105, 116, 105, 118, 101]⟩, .string ⟨t.toArray⟩, .string ⟨u.toArray⟩] 9)
    go_wp2_with fail
    refine (Hl.out _ _ _ _ ho3).mono ?_
    rintro e w5 ⟨rfl, hb5⟩
    go_wp2_with fail
    go_ret
    exact ⟨rfl, hb4.trans (hb5.mono hb4.size)⟩
  | false =>
    rw [hf] at hcP
    rw [if_neg (by decide)]
    have HcP := Lib.hid hcP
    clear hcP hRp
    cases hsb : smallAB c with
    | false =>
      rw [hsb] at HcS
      rw [if_neg (by decide)]
      clear hRs
      go_enter Tryz.func8, Tryz.ntmps8
      go_wp2_with fail
      refine HcP.out.mono ?_
      rintro e w1 ⟨g, cp, rs, rfl, hcr, ho, hb1⟩
      go_wp2_with fail
      refine (HcS.out w1 hb1).mono ?_
      rintro e w2 ⟨g2, cp2, rs2, rfl, hcr2, ho2, hb2⟩
      go_wp2_with fail
      go_ret
      exact ⟨rfl, hb1.trans (hb2.mono hb1.size)⟩
    | true =>
      rw [hsb] at HcS
      rw [if_pos rfl, ← lineOf_join]
      have hwf := hRs.wf
      have hjl : (join [smallW, itoa (LS.length : Int), rootsL LS] [32]).length ≤ 140737488355328 := by rw [lineOf_join]; have := hRs.short smallW (by decide); omega
      have Hi := Lib.hid (fun W (hW : Tab W) => impl_FormatInt_any (LS.length : Int) hwf W hW)
      have Hf := Lib.hid (fun (W : World) (g cap : Nat) (hg : g < W.heap.size) (hr : Rows2 W g 0 LS) (hW : Tab W) => impl_FormatRoots_any g 0 LS.length cap LS W rfl (by have := hRs.few; omega) (fun k hk => by have := hRs.len k hk; omega) hRs.i64 hg hr hW)
      have Hl := Lib.hid (fun (W : World) (B g cap : Nat) (ho : OwnStrs W B g cap (strs [smallW, itoa (LS.length : Int), rootsL LS])) => impl_line_any (n := 3) ho rfl (by decide) hjl)
      clear hRs hwf hjl
      generalize itoa (LS.length : Int) = t at *
      generalize rootsL LS = u at *
      have H3 : Hid (∀ (W : World) (B : Nat), B ≤ W.heap.size → OwnStrs (W.alloc (.cells #[.string ⟨#[115, 109, 97, 108, 108]⟩, .string ⟨t.toArray⟩, .string ⟨u.toArray⟩] 9)) B W.heap.size 3 (strs [smallW, t, u])) := fun W B hB => own_three W B smallW t u hB
      generalize join [smallW, t, u] [32] = z at *
      generalize strs [smallW, t, u] = zs at *
      go_enter Tryz.func8, Tryz.ntmps8
      go_wp2_with fail
      refine HcP.out.mono ?_
      rintro e w1 ⟨g0, cp0, rs0, rfl, hcr0, ho0, hb1⟩
      clear ho0
      go_wp2_with fail
      refine (HcS.out w1 hb1).mono ?_
      rintro e w6 ⟨g, cp, rs, rfl, hcr, ho, hb6⟩
      have hb1 := hb1.trans (hb6.mono hb1.size)
      clear hb6
      go_wp2_with fail
      refine (Hi.out w6 (Ht.out.below hb1)).mono ?_
      rintro e w2 ⟨rfl, hb2⟩
      have ho2 := ho.below hb2
      have hb := hb1.trans (hb2.mono hb1.size)
      clear hb1 hb2 ho
      go_wp2_with fail
      refine (Hf.out w2 g cp ho2.lt (by have := ho2.rows2; rw [hcr] at this; exact this) (Ht.out.below hb)).mono ?_
      rintro e w3 ⟨rfl, hb3⟩
      have hb := hb.trans (hb3.mono hb.size)
      have ho3 := H3.out w3 w.heap.size hb.size
      have hb4 := hb.alloc hb.size (.cells #[.string ⟨#[115, 109, 97, 108, 108]⟩, .string ⟨t.toArray⟩, .string ⟨u.toArray⟩] 9)
      go_wp2_with fail
      refine (Hl.out _ _ _ _ ho3).mono ?_
      rintro e w5 ⟨rfl, hb5⟩
      go_wp2_with fail
      go_ret
      exact ⟨rfl, hb4.trans (hb5.mono hb4.size)⟩
end Go.Proofs.YticnocoeldfiiaaGreatDoor
