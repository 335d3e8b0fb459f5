/- Words reduced by deletions, and the deletions replayed: ReduceByDeletion, ReplayDeletions of the program: contracts. Mirrored roots, the order of roots, transposed matrices: contracts. Lengths, and the inversions of an element, of the program: contracts. Types with a name: their matrices, names of parts, sizes. Plain law. -/
import Derived.Test.YtkjglfafphffiaaGreatT40
import Derived.Deep.LoopGhost
import Derived.Test.YtkjglfafphffiaaGreatT11
import Derived.Test.YtkjglfafphffiaaGreatT03
import Derived.Deep.RegionWith
import Derived.Test.YtkjglfafphffiaaGreatT19
import Derived.Test.YtkjglfafphffiaaGreatT12
import Derived.Test.YtkjglfafphffiaaGreatT01
import Derived.Test.YtkjglfafphffiaaGreatT08
import Derived.Test.YtkjglfafphffiaaGreatT04
namespace Go.Proofs.YtkjglfafphffiaaGreat
set_option maxRecDepth 100000
open Go.RowKit Game
theorem wpList_append_two {w : World} {ops : Array Oper} {rest : List Oper} {o : Oper} {a : Act} {Q : Exit → Act → World → Prop} (hgd : o.guard = none) (s x : Operand)
    (ho : o.op = .call { callee := .builtin .append, args := #[s, x], argTypes := #[25, 25] })
    (B g cap n : Nat) (xs : List Int) (y z : Int) (hn : xs.length = n) (hown : Own w B g cap xs) (hs : a.eval s = (Value.slice (some ⟨g, 0, none⟩) n cap)) (hx : a.eval x = (Value.slice (some ⟨w.heap.size, 0, none⟩) 2 2)) (hlen : n + 2 ≤ 1099511627776)
    (h : ∀ g' cap' w', Own w' B g' cap' (xs ++ [y, z]) → w.grownBy w' (some g) → (g' = g ∨ w.heap.size < g') → wpList Tryz.prog ops Q rest (a.put o.dst (Value.slice (some ⟨g', 0, none⟩) (n + 2) cap')) w') :
    wpList Tryz.prog ops Q (o :: rest) a (w.alloc (.cells #[.int .i64 y, .int .i64 z] 3)) := by
  subst hn
  have hnew : Own (w.alloc (.cells #[.int .i64 y, .int .i64 z] 3)) w.heap.size w.heap.size 2 [y, z] := World.ownsRow_lit w #[.int .i64 y, .int .i64 z] 2 (Nat.le_refl _) (by decide) rfl
  refine wpList_append_ints hgd s x ho B g cap xs (hown.alloc _) w.heap.size 0 2 [y, z] hnew.cells hs hx hlen fun g' cap' w' h1 h2 h3 => ?_
  have hgr : w.grownBy w' (some g) := ⟨h2.os, h2.tape, h2.output, Nat.le_trans (by simp) h2.size, fun k hk hne => (h2.block k (by simp; omega) hne).trans (Below.heap_alloc _ _ _ hk)⟩
  exact h g' cap' w' h1 hgr (h3.imp id (by simp; omega))
/-- a word reduced by deletions, with the places -/
def RedD (w : World) (c : List (List Int)) (v : List Int) (e : Ending) (w' : World) : Prop :=
  ∃ (x p : List Int) (g1 c1 g2 c2 : Nat), e = .returned (.tuple #[(Value.slice (some ⟨g1, 0, none⟩) x.length c1), (Value.slice (some ⟨g2, 0, none⟩) p.length c2)]) ∧ DelTo c v x p ∧ NoPair c x ∧ p.length ≤ 30 ∧ Own w' w.heap.size g1 c1 x ∧ Own w' w.heap.size g2 c2 p ∧ Below w.heap.size w w'
set_option maxHeartbeats 2000000 in
theorem impl_ReduceByDeletion_ok (gc oc n cc g o m cp : Nat) (c : List (List Int)) (v : List Int) (w : World) (hn : c.length = n) (hm : v.length = m) (hW : WordOk c v) (hgc : gc < w.heap.size) (hg : g < w.heap.size) (hr : Rows2 w gc oc c) (hv : Cells w g o v) :
    Calls Tryz.prog 9 #[(Value.slice (some ⟨gc, oc, none⟩) n cc), (Value.slice (some ⟨g, o, none⟩) m cp)] w (RedD w c v) := by
  have hm15 : m ≤ 15 := by have := hW.few; omega
  have KP := Lib.hid (fun (x : List Int) (ml g2 c2 B : Nat) (hml : x.length = ml) (hx : WordOk c x) (W : World) (hb : Below w.heap.size w W) (ho : Own W B g2 c2 x) =>
    impl_DeletionPair_ok gc oc n cc g2 0 ml c2 c x W hn hml hx (Nat.lt_of_lt_of_le hgc hb.size) ho.lt (hr.below hb hgc) ho.cells)
  have Hm := Lib.hid hm; have Hv := Lib.hid hv
  have HS := Lib.hid (DelTo.start hW)
  clear hr hm hv hW hn
  go_enter Tryz.func9, Tryz.ntmps9
  go_wp2_with (at_builtin; refine wpList_clone rfl _ _ rfl g o m cp v Hm.out hg Hv.out rfl rfl (by rw [Hm.out]; omega) ?_)
  intro g1 c1 w1 ho1 hb1
  have Ho1 := ho1.below ((Below.refl w1.heap.size w1).alloc (Nat.le_refl _) (.cells #[] 3)) ho1.lt
  have hb1' := hb1.alloc hb1.size (.cells #[] 3)
  have hE : Own (w1.alloc (.cells #[] 3)) w.heap.size w1.heap.size 0 [] := Own.empty hb1.size
  have hne1 : g1 ≠ w1.heap.size := by have := ho1.lt; omega
  clear ho1 hb1
  go_wp2_with fail
  go_loopg [6, 7] m (fun gk ov pv wr => ∃ (x p : List Int) (ml pl g1 c1 g2 c2 : Nat), ml ≤ gk ∧ gk ≤ m ∧ ml + pl = m ∧ ov = (Value.slice (some ⟨g1, 0, none⟩) ml c1) ∧ pv = (Value.slice (some ⟨g2, 0, none⟩) pl c2) ∧ Hid (x.length = ml) ∧ Hid (p.length = pl) ∧ Hid (DelTo c v x p) ∧ Hid (Own wr w.heap.size g1 c1 x) ∧ Hid (Own wr w.heap.size g2 c2 p) ∧ g1 ≠ g2 ∧ Hid (Below w.heap.size w wr))
  case atStart => exact ⟨v, [], m, 0, g1, c1, w1.heap.size, 0, Nat.le_refl _, Nat.le_refl _, by omega, rfl, rfl, Hm, Lib.hid rfl, HS, Lib.hid Ho1, Lib.hid hE, hne1, Lib.hid hb1'⟩
  case round =>
    clear Ho1 hE hb1' HS hne1
    obtain ⟨x, p, ml, pl, g1, c1, g2, c2, hgk, hgm, hmp, rfl, rfl, hxl, hpl, hD, ho1, ho2, hne, hb⟩ := hrel
    have K := Lib.hid (KP.out x ml g1 c1 _ hxl.out hD.out.word wr hb.out ho1.out)
    go_wp2_with fail
    refine K.out.mono ?_
    rintro e w3 ⟨hor, hb3⟩
    have hB3 := hb.out.trans (hb3.mono hb.out.size)
    have ho13 := ho1.out.below hb3 ho1.out.lt
    have ho23 := ho2.out.below hb3 ho2.out.lt
    clear K ho1 ho2 hb hb3
    rcases hor with ⟨i, j, rfl, hij, hj, him⟩ | ⟨rfl, hno⟩
    · obtain ⟨hD2, hl2⟩ := hD.out.step hij hj him
      rw [hxl.out] at hj hl2
      have hl1 := len_erase hxl.out hj
      have K1 := Lib.hid (impl_DeleteAt_ok g1 0 ml c1 j x w3 hxl.out hj (by rw [hxl.out]; omega) ho13.lt ho13.cells)
      have K2 := Lib.hid (fun (W : World) (B g2 c2 : Nat) (ho : Own W B g2 c2 (x.eraseIdx j)) => impl_DeleteAt_ok g2 0 (ml - 1) c2 i (x.eraseIdx j) W hl1 (by omega) (by rw [hl1]; omega) ho.lt ho.cells)
      have HD2 := Lib.hid hD2; have HB3 := Lib.hid hB3
      have Hl2 : Hid (((x.eraseIdx j).eraseIdx i).length = ml - 1 - 1) := Lib.hid (len_erase hl1 (by omega))
      clear hD hD2 hl1 him hl2 hxl hB3 ho13
      go_wp2_with fail
      refine K1.out.mono ?_
      rintro e w4 ⟨g4, c4, rfl, ho4, hb4⟩
      have hB4 := Lib.hid (HB3.out.trans (hb4.mono HB3.out.size))
      have ho24 := ho23.below hb4 ho23.lt
      have K2 := Lib.hid (K2.out w4 _ g4 c4 ho4)
      clear K1 hb4 ho4 ho23
      go_wp2_with fail
      refine K2.out.mono ?_
      rintro e w5 ⟨g5, c5, rfl, ho5, hb5⟩
      have hB5 := hB4.out.trans (hb5.mono hB4.out.size)
      have ho25 := ho24.below hb5 ho24.lt
      have hne5 : g2 ≠ g5 := by have h1 := ho24.lt; have h2 := ho5.base; omega
      have ho5 := ho5.mono hB4.out.size
      clear K2 hb5 ho24 hB4 HB3
      go_wp2_with (at_builtin; refine wpList_append_two (w := w5) rfl _ _ rfl w.heap.size g2 c2 pl p (i : Int) (j : Int) hpl.out ho25 rfl rfl (by omega) ?_)
      intro g6 c6 w6 ho6 hg6 hor6
      have hB6 := Lib.hid (hB5.grown hg6 hB5.size (by intro t ht; cases ht; exact ho25.base))
      have ho56 := Lib.hid (ho5.grown hg6 (by intro e; cases e; exact hne5 rfl))
      have hne6 : g5 ≠ g6 := hor6.elim (fun h => by rw [h]; exact fun e => hne5 e.symm) (fun h => by have := ho5.lt; omega)
      have Ho6 := Lib.hid ho6
      have Hp6 : Hid ((p ++ [(i : Int), (j : Int)]).length = pl + 2) := Lib.hid (by rw [List.length_append, hpl.out]; rfl)
      clear ho25 hB5 ho5 hg6 hor6 ho6
      go_wp2_with fail
      go_roundg (ml - 1 - 1)
      case measure => omega
      case rel => exact ⟨_, _, ml - 1 - 1, pl + 2, g5, c5, g6, c6, Nat.le_refl _, by omega, by omega, rfl, rfl, Hl2, Hp6, HD2, ho56, Ho6, hne6, hB6⟩
    · have Hno := Lib.hid hno
      clear hno
      go_wp2_with fail
      go_ret2
      exact ⟨x, p, g1, c1, g2, c2, by rw [hxl.out, hpl.out]; rfl, hD.out, Hno.out, by rw [hpl.out]; omega, ho13, ho23, hB3⟩
def repN : Nat → List Int → List Int → Option (List Int)
  | 0, w, _ => some w
  | k + 1, w, l => match repN k w l with
    | none => none
    | some x => if 0 ≤ l.getD (2 * k) 0 ∧ l.getD (2 * k) 0 < l.getD (2 * k + 1) 0 ∧ l.getD (2 * k + 1) 0 < (x.length : Int) then some ((x.eraseIdx (l.getD (2 * k + 1) 0).toNat).eraseIdx (l.getD (2 * k) 0).toNat) else none
theorem repN_cut : ∀ (k : Nat) (w l m : List Int), 2 * k ≤ l.length → repN k w (l ++ m) = repN k w l
  | 0, _, _, _, _ => rfl
  | k + 1, w, l, m, h => by
    have e : ∀ t, t < l.length → (l ++ m).getD t 0 = l.getD t 0 := fun t ht => by simp [List.getD, List.getElem?_append_left ht]
    unfold repN
    rw [repN_cut k w l m (by omega), e _ (by omega), e _ (by omega)]
theorem repN_eq (w : List Int) : ∀ (k : Nat) (l : List Int), l.length = 2 * k → repN k w l = repG w l
  | 0, l, h => by
    have : l = [] := List.eq_nil_of_length_eq_zero (by omega)
    subst this; rfl
  | k + 1, l, h => by
    obtain ⟨l', i, j, rfl⟩ : ∃ (l' : List Int) (i j : Int), l = l' ++ [i, j] := by
      have h1 := List.take_append_drop (2 * k) l
      have h2 : (l.drop (2 * k)).length = 2 := by rw [List.length_drop]; omega
      match hd : l.drop (2 * k), h2 with
      | [i, j], _ => exact ⟨l.take (2 * k), i, j, by rw [← hd, h1]⟩
    have hl' : l'.length = 2 * k := by simp at h; omega
    rw [repG_snoc]
    unfold repN
    rw [repN_cut k w l' [i, j] (by omega), repN_eq w k l' hl']
    have e1 : (l' ++ [i, j]).getD (2 * k) 0 = i := by rw [← hl']; simp [List.getD]
    have e2 : (l' ++ [i, j]).getD (2 * k + 1) 0 = j := by rw [← hl']; simp [List.getD]
    rw [e1, e2]
    cases repG w l' <;> rfl
set_option maxHeartbeats 2000000 in
theorem impl_ReplayDeletions_ok (g o m cp g2 o2 m2 c2 : Nat) (v p x : List Int) (w : World) (hm : v.length = m) (hm2 : p.length = m2) (hl : m ≤ 15) (hl2 : m2 ≤ 30) (hrep : repG v p = some x) (hg : g < w.heap.size) (hg2 : g2 < w.heap.size) (hv : Cells w g o v) (hp : Cells w g2 o2 p) :
    Calls Tryz.prog 12 #[(Value.slice (some ⟨g, o, none⟩) m cp), (Value.slice (some ⟨g2, o2, none⟩) m2 c2)] w (GotIntsB w x true) := by
  have hev := repG_even p v x hrep
  obtain ⟨h, hh⟩ : ∃ h, m2 = 2 * h := ⟨m2 / 2, by omega⟩
  subst hh
  have hN := repN_eq v h p hm2
  rw [hrep] at hN
  have hsome : ∀ k, k ≤ h → ∃ y, repN k v p = some y ∧ y.length + 2 * k = m := by
    have hdown : ∀ d, d ≤ h → ∃ y, repN (h - d) v p = some y := by
      intro d
      induction d with
      | zero => intro _; exact ⟨x, hN⟩
      | succ d ih =>
        intro hd
        obtain ⟨y, hy⟩ := ih (by omega)
        rw [show h - d = (h - (d + 1)) + 1 by omega] at hy
        unfold repN at hy
        cases hq : repN (h - (d + 1)) v p with
        | none => rw [hq] at hy; cases hy
        | some z => exact ⟨z, rfl⟩
    intro k
    induction k with
    | zero => intro _; exact ⟨v, rfl, by omega⟩
    | succ k ih =>
      intro hk
      obtain ⟨y, hy, hyl⟩ := ih (by omega)
      obtain ⟨z, hz⟩ := hdown (h - (k + 1)) (by omega)
      rw [show h - (h - (k + 1)) = k + 1 by omega] at hz
      refine ⟨z, hz, ?_⟩
      unfold repN at hz
      rw [hy] at hz
      simp only at hz
      split at hz
      · rename_i hc
        cases hz
        have q1 : (p.getD (2 * k + 1) 0).toNat < y.length := by omega
        have q2 := len_erase (v := y) rfl q1
        have q3 := len_erase (k := (p.getD (2 * k) 0).toNat) q2 (by omega)
        omega
      · cases hz
  have hstep : ∀ k, k < h → ∃ (y z : List Int) (i j : Nat), repN k v p = some y ∧ repN (k + 1) v p = some z ∧ y.length + 2 * k = m ∧ p.getD (2 * k) 0 = (i : Int) ∧ p.getD (2 * k + 1) 0 = (j : Int) ∧ i < j ∧ j < y.length ∧ z = (y.eraseIdx j).eraseIdx i := by
    intro k hk
    obtain ⟨y, hy, hyl⟩ := hsome k (by omega)
    obtain ⟨z, hz, hzl⟩ := hsome (k + 1) (by omega)
    refine ⟨y, z, (p.getD (2 * k) 0).toNat, (p.getD (2 * k + 1) 0).toNat, hy, hz, hyl, ?_⟩
    unfold repN at hz
    rw [hy] at hz
    simp only at hz
    split at hz
    · rename_i hc
      cases hz
      exact ⟨by omega, by omega, by omega, by omega, rfl⟩
    · cases hz
  have HS := Lib.hid hstep; have HN := Lib.hid hN
  have Hm := Lib.hid hm; have Hm2 := Lib.hid hm2; have Hv := Lib.hid hv; have Hp := Lib.hid hp
  have hmod : ((2 * h : Nat) : Int) % 2 = 0 := by omega
  have hmod2 : ((2 * h : Nat) : Int).tmod 2 = 0 := by rw [Int.tmod_eq_emod_of_nonneg (by omega)]; exact hmod
  have d1 : (((2 * h : Nat) : Int) % 2 == 0) = true := by rw [hmod]; rfl
  have d2 : (((2 * h : Nat) : Int).tmod 2 == 0) = true := by rw [hmod2]; rfl
  obtain ⟨H2, hH2⟩ : ∃ H2, 2 * h = H2 := ⟨_, rfl⟩
  clear hstep hsome hN hm hm2 hv hp hev hrep hmod hmod2
  rw [hH2] at d1 d2 ⊢
  have Hm2 := Lib.hid (Hm2.out.trans hH2)
  go_enter Tryz.func12, Tryz.ntmps12
  go_wp2_with (at_builtin; refine wpList_clone rfl _ _ rfl g o m cp v Hm.out hg Hv.out rfl rfl (by rw [Hm.out]; omega) ?_)
  intro g1 c1 w1 ho1 hb1
  go_wp2_with fail
  go_loopw [6, 7] (fun ov kv wr => ∃ (k g1 c1 ml : Nat) (y : List Int), k ≤ h ∧ kv = .int .i64 ((2 * k : Nat) : Int) ∧ ov = (Value.slice (some ⟨g1, 0, none⟩) ml c1) ∧ Hid (y.length = ml) ∧ ml ≤ 15 ∧ Hid (repN k v p = some y) ∧ Hid (Own wr w.heap.size g1 c1 y) ∧ Hid (Below w.heap.size w wr)) (fun _ kv _ => 2 * h - (intOf kv).toNat)
  case atStart => exact ⟨0, g1, c1, m, v, Nat.zero_le _, rfl, rfl, Hm, hl, Lib.hid rfl, Lib.hid ho1, Lib.hid hb1⟩
  case round =>
    clear ho1 hb1
    obtain ⟨k, g1, c1, ml, y, hk, rfl, rfl, hyl, hml, hy, ho, hb⟩ := hrel
    by_cases hlt : k < h
    · obtain ⟨y', z, i, j, hy', hz, hyl', hpi, hpj, hij, hj, rfl⟩ := HS.out k hlt
      have hyy : y' = y := by have := hy'.symm.trans hy.out; cases this; rfl
      subst hyy
      have q1 := (Hp.out.below hb.out hg2) (2 * k) (by rw [Hm2.out]; omega)
      have q2 := (Hp.out.below hb.out hg2) (2 * k + 1) (by rw [Hm2.out]; omega)
      rw [hpi] at q1
      rw [hpj] at q2
      rw [hyl.out] at hj hyl'
      have hl1 := len_erase hyl.out hj
      have K1 := Lib.hid (fun (W : World) (hs : ∃ q, W = wr.drewN q) => impl_DeleteAt_ok g1 0 ml c1 j y' W hyl.out hj (by rw [hyl.out]; omega) (ho.out.still hs).lt (ho.out.still hs).cells)
      have K2 := Lib.hid (fun (W : World) (B g2 c2 : Nat) (ho : Own W B g2 c2 (y'.eraseIdx j)) => impl_DeleteAt_ok g2 0 (ml - 1) c2 i (y'.eraseIdx j) W hl1 (by omega) (by rw [hl1]; omega) ho.lt ho.cells)
      have Hz := Lib.hid hz
      have Hl2 : Hid (((y'.eraseIdx j).eraseIdx i).length = ml - 1 - 1) := Lib.hid (len_erase hl1 (by omega))
      have x1 : ((2 * k : Nat) : Int) + 1 < (H2 : Int) := by omega
      have x2 : ¬ (i : Int) < 0 := by omega
      have x3 : ¬ (j : Int) ≤ (i : Int) := by omega
      have x4 : ¬ (ml : Int) ≤ (j : Int) := by omega
      clear hy hy' hz hpi hpj hl1 hyl ho hyl'
      generalize hK : 2 * k = K at *
      have HK := Lib.hid hK
      clear hK
      go_wp2_with fail
      go_quiet (fail)
      go_wp2_with fail
      refine (K1.out _ ⟨_, rfl⟩).mono ?_
      rintro e w4 ⟨g4, c4, rfl, ho4, hb4⟩
      have hB4 := Lib.hid ((below_still hb.out ⟨_, rfl⟩).trans (hb4.mono hb.out.size))
      have K2 := Lib.hid (K2.out w4 _ g4 c4 ho4)
      clear K1 hb4 ho4 hb
      go_wp2_with fail
      refine K2.out.mono ?_
      rintro e w5 ⟨g5, c5, rfl, ho5, hb5⟩
      have hB5 := Lib.hid (hB4.out.trans (hb5.mono hB4.out.size))
      have Ho5 := Lib.hid (ho5.mono hB4.out.size)
      clear K2 hb5 hB4 ho5
      go_wp2_with fail
      go_roundw
      case rel => exact ⟨k + 1, g5, c5, ml - 1 - 1, _, by omega, by have := HK.out; subst this; go_num, rfl, Hl2, by omega, Hz, Ho5, hB5⟩
      case measure => have := HK.out; simp [intOf]; omega
    · obtain rfl : k = h := by omega
      have hyx : y = x := by have := hy.out.symm.trans HN.out; cases this; rfl
      subst hyx
      have x1 : ¬ ((2 * k : Nat) : Int) + 1 < (H2 : Int) := by omega
      have Hyl := Lib.hid hyl.out
      clear hy hyl
      go_wp2_with fail
      go_ret2
      exact ⟨g1, c1, by rw [Hyl.out]; rfl, ho.out, hb.out⟩
end Go.Proofs.YtkjglfafphffiaaGreat
namespace Go.Proofs.YtkjglfafphffiaaGreat
set_option maxRecDepth 100000
open Go.RowKit Game
set_option maxHeartbeats 1000000 in
theorem impl_compareRoots_any (g1 o1 n1 c1 g2 o2 n2 c2 : Nat) (xs ys : List Int) (w : World) (hn1 : xs.length = n1) (hn2 : ys.length = n2) (hx : xs.length ≤ 1048576) (hy : ys.length ≤ 1048576)
    (hcx : Cells w g1 o1 xs) (hcy : Cells w g2 o2 ys) :
    Calls Tryz.prog 47 #[(Value.slice (some ⟨g1, o1, none⟩) n1 c1), (Value.slice (some ⟨g2, o2, none⟩) n2 c2)] w (Lays w (.int .i64 (rootCmp xs ys))) := by
  subst hn1; subst hn2
  have Ho : Hid (orL [cmpI (heightL xs) (heightL ys), sliceCmp ys xs] = rootCmp xs ys) := rfl
  go_enter Tryz.func47, Tryz.ntmps47
  go_wp2_with fail
  refine (impl_HeightOf_any g1 o1 _ c1 xs w rfl hx hcx).mono ?_
  rintro e w1 ⟨rfl, hs1⟩
  go_wp2_with fail
  refine (impl_HeightOf_any g2 o2 _ c2 ys w1 rfl hy (hcy.still hs1)).mono ?_
  rintro e w2 ⟨rfl, hs2⟩
  replace hs2 := still_trans hs1 hs2
  clear hs1
  generalize heightL xs = h1 at *
  generalize heightL ys = h2 at *
  go_wp2_with fail
  refine (cw_Compare h1 h2 w2).mono ?_
  rintro e w3 ⟨rfl, hs3⟩
  replace hs3 := still_trans hs2 hs3
  clear hs2
  go_wp2_with fail
  refine (slices_Compare_any g2 o2 ys.length c2 g1 o1 xs.length c1 ys xs w3 rfl rfl (by omega) (hcy.still hs3) (hcx.still hs3)).mono ?_
  rintro e w4 ⟨rfl, hs4⟩
  replace hs4 := still_trans hs3 hs4
  clear hs3
  generalize sliceCmp ys xs = z at *
  generalize cmpI h1 h2 = y at *
  have Hs4 := Lib.hid hs4
  clear hs4
  obtain ⟨w5, hw5⟩ : ∃ w5, w5 = w4.alloc (.cells #[.int .i64 y, .int .i64 z] 3) := ⟨_, rfl⟩
  have hc5 : Cells w5 w4.heap.size 0 [y, z] := by
    obtain ⟨q1, q2⟩ : w5.cell? ⟨w4.heap.size, 0, none⟩ = some (.int .i64 y) ∧ w5.cell? ⟨w4.heap.size, 1, none⟩ = some (.int .i64 z) := by
      have hh : w5.heap[w4.heap.size]? = some (.cells #[.int .i64 y, .int .i64 z] 3 (0, 0)) := by rw [hw5]; exact heap_alloc_new _ _
      constructor <;> simp [World.cell?, hh]
    intro j hj
    have : j = 0 ∨ j = 1 := by simp at hj; omega
    rcases this with rfl | rfl
    · exact q1
    · exact q2
  have hcall := cw_Or w4.heap.size 0 2 2 [y, z] w5 rfl (by simp) hc5
  rw [hw5, Ho.out] at hcall
  have Hcall := Lib.hid hcall
  clear hcall hc5 hw5
  go_wp2_with fail
  refine Hcall.out.mono ?_
  rintro e w6 ⟨rfl, hs6⟩
  go_wp2_with fail
  go_ret
  refine ⟨rfl, ?_⟩
  obtain ⟨m4, e4⟩ := Hs4.out
  obtain ⟨m6, e6⟩ := hs6
  refine ⟨.cells #[.int .i64 y, .int .i64 z] 3, m4 + m6, ?_⟩
  rw [e6, e4]
  show ((w.alloc _).drewN m4).drewN m6 = _
  rw [World.drewN_drewN]
end Go.Proofs.YtkjglfafphffiaaGreat
namespace Go.Proofs.YtkjglfafphffiaaGreat
set_option maxRecDepth 100000
open Go.RowKit Game
theorem cmp_rootsT : CmpOk 47 rootCmp := fun g1 o1 c1 g2 o2 c2 xs ys w hx hy h1 h2 =>
  (impl_compareRoots_any g1 o1 xs.length c1 g2 o2 ys.length c2 xs ys w rfl rfl hx hy h1 h2).mono fun _ _ h => lays_grow h
theorem seqL_len (c : List (List Int)) (v : List Int) : (seqL c v).length = v.length := by simp [seqL]
set_option maxHeartbeats 1000000 in
theorem impl_lengthOf_ok (gc oc n cc g o m cp : Nat) (c : List (List Int)) (v : List Int) (w : World) (hn : c.length = n) (hm : v.length = m) (hL : Lets c 30 v) (hgc : gc < w.heap.size) (hg : g < w.heap.size) (hr : Rows2 w gc oc c) (hv : Cells w g o v) :
    Calls Tryz.prog 38 #[(Value.slice (some ⟨gc, oc, none⟩) n cc), (Value.slice (some ⟨g, o, none⟩) m cp)] w (Gives w (.int .i64 ((nfI c v).length : Int))) := by
  have K := Lib.hid (impl_reduced_any gc oc n cc g o m cp c v w hn hm hL hgc hg hr hv)
  clear hL hr hv hn hm
  generalize nfI c v = y at *
  go_enter Tryz.func38, Tryz.ntmps38
  go_wp2_with fail
  refine K.out.mono ?_
  rintro e w1 ⟨g1, c1, rfl, ho1, hb1⟩
  go_wp2_with fail
  go_ret
  exact ⟨rfl, hb1⟩
set_option maxHeartbeats 1000000 in
theorem impl_LengthOf_ok (gc oc n cc g o m cp : Nat) (c : List (List Int)) (v : List Int) (w : World) (hn : c.length = n) (hm : v.length = m) (hW : WordOk c v) (hgc : gc < w.heap.size) (hg : g < w.heap.size) (hr : Rows2 w gc oc c) (hv : Cells w g o v) :
    Calls Tryz.prog 18 #[(Value.slice (some ⟨gc, oc, none⟩) n cc), (Value.slice (some ⟨g, o, none⟩) m cp)] w (Gives w (.int .i64 ((nfI c v).length : Int))) := by
  have hn4 := hW.isC.2.1
  have hcl := hW.isC.2.2.1
  have hl := hW.few
  have hIW := impl_IsWord_any gc oc n cc g o m cp c v w hn hm (by omega) (fun j hj => by have := hcl j hj; omega) (by omega) hr hv
  rw [hW.isWord] at hIW
  have Hi := Lib.hid hIW
  have K := Lib.hid (fun (W : World) (hb : Below w.heap.size w W) => impl_lengthOf_ok gc oc n cc g o m cp c v W hn hm (hW.lets.mono (by omega)) (Nat.lt_of_lt_of_le hgc hb.size) (Nat.lt_of_lt_of_le hg hb.size) (hr.below hb hgc) (hv.below hb hg))
  clear hIW hW hr hv hn hm hcl
  generalize nfI c v = y at *
  go_enter Tryz.func18, Tryz.ntmps18
  go_wp2_with fail
  refine Hi.out.mono ?_
  rintro e w1 ⟨rfl, hs1⟩
  have hb1 := below_still (Below.refl w.heap.size w) hs1
  have K := Lib.hid (K.out w1 hb1)
  clear hs1
  go_wp2_with fail
  refine K.out.mono ?_
  rintro e w2 ⟨rfl, hb2⟩
  go_wp2_with fail
  go_ret
  exact ⟨rfl, hb1.trans (hb2.mono hb1.size)⟩
set_option maxHeartbeats 1000000 in
theorem spec_LengthOf_ok (gc oc n cc g o m cp : Nat) (c : List (List Int)) (v : List Int) (w : World) (hn : c.length = n) (hm : v.length = m) (hW : WordOk c v) (hgc : gc < w.heap.size) (hg : g < w.heap.size) (hr : Rows2 w gc oc c) (hv : Cells w g o v) :
    Calls Tryz.prog 19 #[(Value.slice (some ⟨gc, oc, none⟩) n cc), (Value.slice (some ⟨g, o, none⟩) m cp)] w (Gives w (.int .i64 ((nfI c v).length : Int))) := by
  have hn4 := hW.isC.2.1
  have hf := hW.few
  have hNF := spec_NormalForm_any gc oc n cc g o m cp c v w hn hm (by omega) (fun j hj => by rw [hW.isC.2.2.1 j hj]; omega) (by omega) hgc hg hr hv
  rw [hW.isWord] at hNF
  rw [show nfA c v = nfI c v from if_pos hW.isWord] at hNF
  have Hn := Lib.hid hNF
  clear hNF hr hv hW
  generalize nfI c v = y at *
  go_enter Tryz.func19, Tryz.ntmps19
  go_wp2_with fail
  refine Hn.out.mono ?_
  rintro e w1 ⟨g1, c1, rfl, ho1, hb1⟩
  go_wp2_with fail
  go_ret
  exact ⟨rfl, hb1⟩
/-- a list of so many rows, of the call's own -/
def GotMany (w : World) (k : Nat) (e : Ending) (w' : World) : Prop := ∃ g2 c2, e = .returned (Value.slice (some ⟨g2, 0, none⟩) k c2) ∧ Below w.heap.size w w'
set_option maxHeartbeats 1000000 in
theorem impl_InversionsOf_ok (gc oc n cc g o m cp : Nat) (c : List (List Int)) (v : List Int) (w : World) (hn : c.length = n) (hm : v.length = m) (hW : WordOk c v) (hgc : gc < w.heap.size) (hg : g < w.heap.size) (hr : Rows2 w gc oc c) (hv : Cells w g o v) :
    Calls Tryz.prog 17 #[(Value.slice (some ⟨gc, oc, none⟩) n cc), (Value.slice (some ⟨g, o, none⟩) m cp)] w (GotMany w (nfI c v).length) := by
  have hn4 := hW.isC.2.1
  have hcl := hW.isC.2.2.1
  have hl := hW.few
  have hIW := impl_IsWord_any gc oc n cc g o m cp c v w hn hm (by omega) (fun j hj => by have := hcl j hj; omega) (by omega) hr hv
  rw [hW.isWord] at hIW
  have Hi := Lib.hid hIW
  have K := Lib.hid (fun (W : World) (hb : Below w.heap.size w W) => impl_reduced_any gc oc n cc g o m cp c v W hn hm (hW.lets.mono (by omega)) (Nat.lt_of_lt_of_le hgc hb.size) (Nat.lt_of_lt_of_le hg hb.size) (hr.below hb hgc) (hv.below hb hg))
  have hNL : Lets c 15 (nfI c v) := (nfI_ok (hW.lets.mono (show 15 ≤ 30 by omega))).lets.mono hW.few
  have hC := hW.isC
  clear hIW hW hv hm
  generalize nfI c v = y at *
  have hNf := hNL.few
  obtain ⟨ml, hml⟩ : ∃ ml, y.length = ml := ⟨_, rfl⟩
  have KS := Lib.hid (fun (W : World) (hb : Below w.heap.size w W) (B g2 c2 : Nat) (ho : Own W B g2 c2 y) => impl_sequence_any gc oc n cc g2 0 ml c2 c y W hn hml ho.capLe hC (by omega) hNL.inr (Nat.lt_of_lt_of_le hgc hb.size) ho.lt (hr.below hb hgc) ho.cells)
  have HR := Lib.hid (show ∀ r ∈ seqL c y, r.length ≤ 1048576 from fun r hr => by
    obtain ⟨k, -, rfl⟩ := List.mem_map.1 hr
    rw [actR_length, simpL_length]; omega)
  have HL := Lib.hid ((seqL_len c y).trans hml)
  have Hml := Lib.hid hml
  rw [hml] at hNf ⊢
  clear hr hn hcl hNL hC hml
  generalize hL : seqL c y = L at *
  clear hL
  go_enter Tryz.func17, Tryz.ntmps17
  go_wp2_with fail
  refine Hi.out.mono ?_
  rintro e w1 ⟨rfl, hs1⟩
  have hb1 := below_still (Below.refl w.heap.size w) hs1
  have K := Lib.hid (K.out w1 hb1)
  clear hs1 Hi
  go_wp2_with fail
  refine K.out.mono ?_
  rintro e w2 ⟨g2, c2, rfl, ho2, hb2⟩
  rw [Hml.out]
  have hB2 := hb1.trans (hb2.mono hb1.size)
  have KS := Lib.hid (KS.out w2 hB2 _ g2 c2 ho2)
  clear K hb2 ho2
  go_wp2_with fail
  refine KS.out.mono ?_
  rintro e w3 ⟨g3, c3, rs, rfl, hcon, hO3, hb3⟩
  have hB3 := hB2.trans (hb3.mono hB2.size)
  have hlr : rs.length = ml := by rw [← contents_length, hcon]; exact HL.out
  have hS := sort_rows 47 rootCmp cmp_rootsT (swo_of rootCmp_anti rootCmp_zero rootCmp_trans) (enters_of Tryz.func47 (by kernel_rfl) rfl) w2.heap.size g3 c3 ml rs w3 hlr (by rw [hlr]; omega) (fun r hr => HR.out _ (by rw [← hcon]; exact List.mem_map.2 ⟨r, hr, rfl⟩)) hO3
  have hg3 := hO3.base
  rw [HL.out]
  have HS := Lib.hid hS
  clear hS KS hcon hO3 hb3 hlr
  go_wp2_with fail
  refine HS.out.mono ?_
  rintro e w4 ⟨rfl, rs', -, -, -, hg4⟩
  have hB4 := hB3.grown hg4 hB3.size (by intro t ht; cases ht; have := hB2.size; omega)
  go_wp2_with fail
  go_ret
  exact ⟨g3, c3, rfl, hB4⟩
end Go.Proofs.YtkjglfafphffiaaGreat
namespace Go.Proofs.YtkjglfafphffiaaGreat
set_option maxRecDepth 100000
abbrev Bs := List UInt8
/-- all types, in their order -/
def types17 : List (Bs × List (List Int)) := [
  ([65, 49], [[2]]),
  ([65, 50], [[2, -1], [-1, 2]]),
  ([65, 51], [[2, -1, 0], [-1, 2, -1], [0, -1, 2]]),
  ([65, 52], [[2, -1, 0, 0], [-1, 2, -1, 0], [0, -1, 2, -1], [0, 0, -1, 2]]),
  ([66, 50], [[2, -1], [-2, 2]]),
  ([66, 51], [[2, -1, 0], [-1, 2, -1], [0, -2, 2]]),
  ([66, 52], [[2, -1, 0, 0], [-1, 2, -1, 0], [0, -1, 2, -1], [0, 0, -2, 2]]),
  ([67, 51], [[2, -1, 0], [-1, 2, -2], [0, -1, 2]]),
  ([67, 52], [[2, -1, 0, 0], [-1, 2, -1, 0], [0, -1, 2, -2], [0, 0, -1, 2]]),
  ([68, 52], [[2, -1, 0, 0], [-1, 2, -1, -1], [0, -1, 2, 0], [0, -1, 0, 2]]),
  ([70, 52], [[2, -1, 0, 0], [-1, 2, -1, 0], [0, -2, 2, -1], [0, 0, -1, 2]]),
  ([71, 50], [[2, -1], [-3, 2]]),
  ([65, 49, 126], [[2, -2], [-2, 2]]),
  ([65, 50, 126], [[2, -1, -1], [-1, 2, -1], [-1, -1, 2]]),
  ([65, 51, 126], [[2, -1, 0, -1], [-1, 2, -1, 0], [0, -1, 2, -1], [-1, 0, -1, 2]]),
  ([67, 50, 126], [[2, -1, 0], [-2, 2, -2], [0, -1, 2]]),
  ([71, 50, 126], [[2, -1, 0], [-1, 2, -1], [0, -3, 2]])]
def tyD : Bs × List (List Int) := ([], [])
theorem types_isC : ∀ t ∈ types17, IsC t.2 := by decide
theorem types_isC' {k : Nat} (h : k < 17) : IsC (types17.getD k tyD).2 := types_isC _ (by have hl : types17.length = 17 := rfl; simp [List.getD, hl, h])
end Go.Proofs.YtkjglfafphffiaaGreat
