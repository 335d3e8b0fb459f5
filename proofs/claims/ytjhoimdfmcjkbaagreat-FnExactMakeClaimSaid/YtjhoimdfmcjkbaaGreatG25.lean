/- slices.Concat of lists of integers that hold one at least: contract. -/
import Derived.Test.YtjhoimdfmcjkbaaGreatRw
import Derived.Test.YtjhoimdfmcjkbaaGreatG19
import Derived.Lib.AppendZeros
namespace Go.Proofs.YtjhoimdfmcjkbaaGreat
set_option maxRecDepth 100000
open Go.RowKit

theorem zeros_own (w : World) (B cap : Nat) (Z : Array Value) (hB : B ≤ w.heap.size) (hZ : Z.size = cap) (hcap : cap ≤ maxLen) : Own (w.drew.alloc (.cells Z 3)) B w.heap.size cap [] :=
  ⟨rfl, .inr ⟨w.heap.size, cap, Z, rfl, hB, heap_alloc_new w.drew _, Nat.zero_le _, hcap, by rw [hZ, Nat.mul_one], by simp⟩⟩
theorem wpList_append_ints_n {w : World} {ops : Array Oper} {rest : List Oper} {o : Oper} {a : Act} {Q : Exit → Act → World → Prop} (hgd : o.guard = none) (s x : Operand)
    (ho : o.op = .call { callee := .builtin .append, args := #[s, x], argTypes := #[23, 23] })
    (B g cap n1 : Nat) (xs : List Int) (hn1 : xs.length = n1) (hown : Own w B g cap xs) (g2 o2 n2 c2 : Nat) (ys : List Int) (hn2 : ys.length = n2) (hc : Cells w g2 o2 ys)
    (hs : a.eval s = (Value.slice (some ⟨g, 0, none⟩) n1 cap)) (hx : a.eval x = (Value.slice (some ⟨g2, o2, none⟩) n2 c2)) (hlen : n1 + n2 ≤ 1099511627776)
    (h : ∀ g' cap' w', Own w' B g' cap' (xs ++ ys) → w.grownBy w' (some g) → (g' = g ∨ g' = w.heap.size) → wpList Tryz.prog ops Q rest (a.put o.dst (Value.slice (some ⟨g', 0, none⟩) (n1 + n2) cap')) w') :
    wpList Tryz.prog ops Q (o :: rest) a w := by
  subst hn1; subst hn2
  exact wpList_append_ints hgd s x ho B g cap xs hown g2 o2 c2 ys hc hs hx hlen h

set_option maxHeartbeats 1000000 in
theorem slices_Grow_nil (n : Nat) (w : World) (h1 : 1 ≤ n) (hn : n ≤ 1048576) :
    Calls Tryz.prog 106 #[.slice none 0 0, .int .i64 n] w (fun e w' => ∃ g cap, e = .returned (Value.slice (some ⟨g, 0, none⟩) 0 cap) ∧ Own w' w.heap.size g cap [] ∧ Below w.heap.size w w') := by
  obtain ⟨i0, hi, hz0, hz1, hz2⟩ := info_parts info3
  have happ := Lib.run_append_nil_zeros (P := Tryz.prog) w 23 3 23 3 i0 (.int .i64 0) .i64 .i64 Tryz.underlying23 Tryz.underlying3 hi hz0 n (by omega) (by omega) (by omega) (by rw [hz2]; omega)
  have hge : n ≤ grownCap w n 0 3 := grownCap_ge w _ 0 _
  have hle : grownCap w n 0 3 ≤ maxLen := grownCap_le_maxLen w _ 0 _ (by unfold maxLen; omega)
  generalize grownCap w n 0 3 = cap at *
  have hZs : (Builtin.zeroCells (Value.int .i64 0).cells n ++ Builtin.zeroCells (Value.int .i64 0).cells (cap - n)).size = cap := by simp [size_zeroCells, Value.cells]; omega
  generalize Builtin.zeroCells (Value.int .i64 0).cells n ++ Builtin.zeroCells (Value.int .i64 0).cells (cap - n) = Z at *
  have hown := zeros_own w w.heap.size cap Z (Nat.le_refl _) hZs hle
  have hb : Below w.heap.size w (w.drew.alloc (.cells Z 3)) := (Below.drew (Below.refl _ _)).alloc (Nat.le_refl _) _
  have Hown := Lib.hid hown; have Hb := Lib.hid hb
  clear hown hb hZs hi hz0 hz1 hz2
  go_enter Tryz.func106, Tryz.ntmps106
  go_wp2_with (at_builtin; refine Lib.wpList_append_run w rfl _ _ _ _ rfl _ _ rfl rfl _ _ happ ?_)
  go_wp2_with fail
  go_ret
  exact ⟨_, _, rfl, Hown.out, Hb.out⟩

def lensTo (rows : List (List Int)) : Nat → Nat
  | 0 => 0
  | k + 1 => lensTo rows k + (rows.getD k []).length
def catTo (rows : List (List Int)) : Nat → List Int
  | 0 => []
  | k + 1 => catTo rows k ++ rows.getD k []
theorem catTo_length (rows : List (List Int)) : ∀ k, (catTo rows k).length = lensTo rows k
  | 0 => rfl
  | k + 1 => by simp only [catTo, lensTo, List.length_append, catTo_length rows k]
theorem lensTo_mono (rows : List (List Int)) {k m : Nat} (h : k ≤ m) : lensTo rows k ≤ lensTo rows m := by
  induction m with
  | zero => obtain rfl : k = 0 := by omega
            exact Nat.le_refl _
  | succ m ih =>
    by_cases e : k = m + 1
    · subst e; exact Nat.le_refl _
    · have := ih (by omega)
      simp only [lensTo]; omega

set_option maxHeartbeats 2000000 in
theorem slices_Concat_any (g o n cp : Nat) (rows : List (List Int)) (w : World) (hn : rows.length = n) (hl : rows.length ≤ 1048576) (h1 : 1 ≤ lensTo rows rows.length) (hm : lensTo rows rows.length ≤ 1048576) (hg : g < w.heap.size) (hr : Rows2 w g o rows) :
    Calls Tryz.prog 103 #[(Value.slice (some ⟨g, o, none⟩) n cp)] w (GotInts w (catTo rows rows.length)) := by
  subst hn
  have Hr := Lib.hid hr; clear hr
  have Hm := Lib.hid (fun k (hk : k ≤ rows.length) => Nat.le_trans (lensTo_mono rows hk) hm)
  go_enter Tryz.func103, Tryz.ntmps103
  go_wp2
  go_loopw [3, 11] (fun sv kv wr => ∃ k q : Nat, k ≤ rows.length ∧ kv = .int .i64 k ∧ sv = .int .i64 (lensTo rows k) ∧ wr = w.drewN q) (fun _ kv _ => rows.length - (intOf kv).toNat)
  case atStart => exact ⟨0, 0, Nat.zero_le _, rfl, rfl, rfl⟩
  case round =>
    obtain ⟨k, q, hk, rfl, rfl, rfl⟩ := hrel
    by_cases hlt : k < rows.length
    · obtain ⟨gj, oj, cj, q1, q2, q3, q4⟩ := Hr.out k hlt
      have hs : lensTo rows (k + 1) = lensTo rows k + (rows.getD k []).length := rfl
      have hmk := Hm.out (k + 1) hlt
      rw [hs] at hmk
      have Hs := Lib.hid hs
      clear hs q4
      generalize (rows.getD k []).length = rl at *
      generalize lensTo rows k = a at *
      go_wp2_with fail
      go_roundw
      case rel => exact ⟨k + 1, q, by omega, by go_num, by rw [Hs.out]; go_num, rfl⟩
      case measure => simp [intOf]; omega
    · obtain rfl : k = rows.length := by omega
      have hcall := slices_Grow_nil (lensTo rows rows.length) (w.drewN q) h1 hm
      have Hcall := Lib.hid hcall
      clear hcall
      go_wp2_with fail
      refine Hcall.out.mono ?_
      rintro e w1 ⟨g1, c1, rfl, ho1, hb1⟩
      have hb0 : Below w.heap.size w w1 := (below_drewN' (B := w.heap.size) w q).trans hb1
      have ho0 : Own w1 w.heap.size g1 c1 [] := ho1
      clear h1 Hcall hb1 ho1
      go_wp2_with fail
      go_loopw [6, 27] (fun ov kv wi => ∃ k g' c' : Nat, k ≤ rows.length ∧ kv = .int .i64 k ∧ ov = (Value.slice (some ⟨g', 0, none⟩) (lensTo rows k) c') ∧ Own wi w.heap.size g' c' (catTo rows k) ∧ Below w.heap.size w wi) (fun _ kv _ => rows.length - (intOf kv).toNat)
      case atStart => exact ⟨0, g1, c1, Nat.zero_le _, rfl, rfl, ho0, hb0⟩
      case round =>
        clear ho0 hb0
        obtain ⟨k, g', c', hk, rfl, rfl, ho, hb⟩ := hrel
        by_cases hlt : k < rows.length
        · obtain ⟨gj, oj, cj, q1, q2, q3, q4⟩ := (Hr.out.below hb hg) k hlt
          have hmk := Hm.out (k + 1) hlt
          have hs : lensTo rows (k + 1) = lensTo rows k + (rows.getD k []).length := rfl
          have hcs : catTo rows (k + 1) = catTo rows k ++ rows.getD k [] := rfl
          have hcl := catTo_length rows k
          rw [hs] at hmk
          have Hs := Lib.hid hs; have Hcs := Lib.hid hcs; have Hcl := Lib.hid hcl
          clear hs hcs hcl
          generalize lensTo rows k = a at *
          generalize catTo rows k = A at *
          generalize hrw : rows.getD k [] = r at *
          generalize hrl : r.length = rl at *
          go_wp2_with (at_builtin; refine wpList_append_ints_n rfl _ _ rfl w.heap.size g' c' a A Hcl.out ho gj oj rl cj r hrl q4 rfl rfl (by omega) ?_)
          intro g3 c3 w3 ho3 hg3 hor3
          rw [← Hcs.out] at ho3
          have hb3 := hb.grown hg3 hb.size (by intro j hj; cases hj; exact ho.base)
          go_wp2_with fail
          go_roundw
          case rel => exact ⟨k + 1, g3, c3, by omega, by go_num, by rw [Hs.out], ho3, hb3⟩
          case measure => simp [intOf]; omega
        · obtain rfl : k = rows.length := by omega
          go_wp2
          go_ret
          exact GotInts.mk' g' c' (catTo_length _ _) ho hb
end Go.Proofs.YtjhoimdfmcjkbaaGreat
