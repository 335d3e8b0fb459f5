/- Ball In RootS Mir Word -/
import Derived.Test.YtkjglfafphffiaaGreatDoorC14
import Derived.Test.YtkjglfafphffiaaGreatDoorC02
import Derived.Test.YtkjglfafphffiaaGreatDoorC03
import Derived.Test.YtkjglfafphffiaaGreatDoorC01
import Derived.Deep.RegionWith
import Derived.BigQuiet
namespace Go.Proofs.YtkjglfafphffiaaGreatDoor
set_option maxRecDepth 100000
open Go.RowKit
namespace Game
set_option linter.unusedSimpArgs false
variable {c : List (List Int)}
abbrev imgL (c : List (List Int)) (w : List Nat) : List Int := actW c (intsOf w) (onesL c.length)
theorem intsOf_append (a b : List Nat) : intsOf (a ++ b) = intsOf a ++ intsOf b := by simp [intsOf]
theorem imgL_of_act (hC : IsC c) {w w' : List Nat} (hw : ∀ i ∈ w, i < c.length) (hw' : ∀ i ∈ w', i < c.length) (hl : w.length ≤ 30) (hl' : w'.length ≤ 30) (h : ∀ u, act (ent c) w u = act (ent c) w' u) : imgL c w = imgL c w' := by
  apply toV_inj
  · unfold imgL; rw [actW_length, actW_length]
  · unfold imgL; rw [toV_image hC hw hl, toV_image hC hw' hl', h]
theorem lexCmp_anti : ∀ (a b : List Int), lexCmp b a = - lexCmp a b
  | [], [] => rfl
  | [], _ :: _ => rfl
  | _ :: _, [] => rfl
  | x :: a, y :: b => by
    simp only [lexCmp]
    by_cases h1 : x < y
    · rw [if_pos h1, if_neg (by omega), if_pos h1]; rfl
    · by_cases h2 : y < x
      · rw [if_pos h2, if_neg h1, if_pos h2]
      · rw [if_neg h2, if_neg h1, if_neg h1, if_neg h2]; exact lexCmp_anti a b
theorem lexCmp_trans : ∀ (a b d : List Int), a.length = b.length → b.length = d.length → lexCmp a b < 0 → lexCmp b d < 0 → lexCmp a d < 0
  | [], [], _, _, _, h, _ => by simp [lexCmp] at h
  | x :: a, y :: b, [], _, h, _, _ => by simp at h
  | x :: a, y :: b, z :: d, hl, hl', h1, h2 => by
    have ih := lexCmp_trans a b d (by simpa using hl) (by simpa using hl')
    simp only [lexCmp] at *
    split at h1 <;> split at h2 <;> (try split at h1) <;> (try split at h2) <;> (try split) <;> (try split) <;> first | omega | (exact ih h1 h2)
theorem wordCmp_self (a : List Int) : wordCmp a a = 0 := by have := wordCmp_eq a a; simpa using this
theorem wordCmp_zero {a b : List Int} (h : wordCmp a b = 0) : a = b := by
  have h2 := wordCmp_eq a b
  rw [h] at h2
  simpa using h2
theorem wordCmp_anti (a b : List Int) : wordCmp b a = - wordCmp a b := by
  unfold wordCmp
  by_cases h1 : a.length < b.length
  · rw [if_pos h1, if_neg (by omega), if_pos h1]; rfl
  · by_cases h2 : b.length < a.length
    · rw [if_pos h2, if_neg h1, if_pos h2]
    · rw [if_neg h2, if_neg h1, if_neg h1, if_neg h2]; exact lexCmp_anti a b
theorem wordCmp_trans {a b d : List Int} (h1 : wordCmp a b < 0) (h2 : wordCmp b d < 0) : wordCmp a d < 0 := by
  have h3 := lexCmp_trans a b d
  unfold wordCmp at *
  split at h1
  · split at h2
    · rw [if_pos (by omega)]; omega
    · split at h2
      · omega
      · rw [if_pos (by omega)]; omega
  · split at h1
    · omega
    · split at h2
      · rw [if_pos (by omega)]; omega
      · split at h2
        · omega
        · rw [if_neg (by omega), if_neg (by omega)]; exact h3 (by omega) (by omega) h1 h2
def Asc (L : List (List Int)) : Prop := L.Pairwise fun a b => wordCmp a b < 0
theorem Asc.nodup {L : List (List Int)} (h : Asc L) : L.Nodup := by
  refine List.Pairwise.imp ?_ h
  intro a b hab e
  subst e
  rw [wordCmp_self] at hab
  omega
theorem Asc.uniq : ∀ {L M : List (List Int)}, Asc L → Asc M → (∀ x, x ∈ L ↔ x ∈ M) → L = M
  | [], [], _, _, _ => rfl
  | [], y :: M, _, _, h => by have := (h y).2 (by simp); simp at this
  | x :: L, [], _, _, h => by have := (h x).1 (by simp); simp at this
  | x :: L, y :: M, hL, hM, h => by
    have hL' := List.pairwise_cons.1 hL
    have hM' := List.pairwise_cons.1 hM
    have e : x = y := by
      rcases List.mem_cons.1 ((h x).1 (by simp)) with e | e
      · exact e
      · rcases List.mem_cons.1 ((h y).2 (by simp)) with e2 | e2
        · exact e2.symm
        · have h1 := hM'.1 x e
          have h2 := hL'.1 y e2
          have := wordCmp_anti x y
          omega
    subst e
    refine congrArg (x :: ·) (Asc.uniq hL'.2 hM'.2 fun z => ?_)
    have hx : x ∉ L := fun hm => by have := hL'.1 x hm; rw [wordCmp_self] at this; omega
    have hy : x ∉ M := fun hm => by have := hM'.1 x hm; rw [wordCmp_self] at this; omega
    have hz := h z
    simp only [List.mem_cons] at hz
    constructor
    · intro hm
      rcases hz.1 (.inr hm) with e | e
      · subst e; exact absurd hm hx
      · exact e
    · intro hm
      rcases hz.2 (.inr hm) with e | e
      · subst e; exact absurd hm hy
      · exact e
def putL : List (List Int) → List Int → List (List Int)
  | [], w => [w]
  | x :: l, w => if w = x then x :: l else if wordCmp w x < 0 then w :: x :: l else x :: putL l w
theorem mem_putL {x : List Int} : ∀ {l : List (List Int)} {w : List Int}, x ∈ putL l w ↔ x = w ∨ x ∈ l
  | [], w => by simp [putL]
  | y :: l, w => by
    simp only [putL]
    split
    · rename_i h; subst h
      constructor
      · intro h; exact .inr h
      · rintro (rfl | h); · simp
        exact h
    · split
      · simp
      · rw [List.mem_cons, mem_putL, List.mem_cons]
        constructor
        · rintro (h | h | h)
          · exact .inr (.inl h)
          · exact .inl h
          · exact .inr (.inr h)
        · rintro (h | h | h)
          · exact .inr (.inl h)
          · exact .inl h
          · exact .inr (.inr h)
theorem putL_asc : ∀ {l : List (List Int)} {w : List Int}, Asc l → Asc (putL l w)
  | [], w, _ => by simp [putL, Asc]
  | y :: l, w, h => by
    have h' := List.pairwise_cons.1 h
    simp only [putL]
    split
    · exact h
    · rename_i hne
      split
      · rename_i hlt
        refine List.pairwise_cons.2 ⟨fun z hz => ?_, h⟩
        rcases List.mem_cons.1 hz with e | e
        · subst e; exact hlt
        · exact wordCmp_trans hlt (h'.1 z e)
      · rename_i hge
        refine List.pairwise_cons.2 ⟨fun z hz => ?_, putL_asc h'.2⟩
        rcases mem_putL.1 hz with e | e
        · subst e
          have := wordCmp_anti z y
          have h0 : wordCmp z y ≠ 0 := fun e0 => hne (wordCmp_zero e0)
          omega
        · exact h'.1 z e
def nfI (c : List (List Int)) (w : List Int) : List Int := (normG c 30 (actW c w (onesL c.length))).getD []
theorem nfI_of {w W : List Nat} (h : NfOf c w W) : nfI c (intsOf w) = intsOf W := by unfold nfI; rw [h.norm]; rfl
end Game
end Go.Proofs.YtkjglfafphffiaaGreatDoor
namespace Go.Proofs.YtkjglfafphffiaaGreatDoor
set_option maxRecDepth 100000
open Go.RowKit Game
def inTo (l : List (List Int)) (r : List Int) (k : Nat) : Prop := ∀ j, j < k → l.getD j [] ≠ r
theorem inTo_all {l : List (List Int)} {r : List Int} (h : inTo l r l.length) : decide (r ∈ l) = false := by
  apply decide_eq_false
  intro hm
  obtain ⟨t, ht, e⟩ := List.mem_iff_getElem.1 hm
  exact h t ht (by simp [List.getD, ht, e])
theorem inTo_some {l : List (List Int)} {r : List Int} {k : Nat} (hk : k < l.length) (h : l.getD k [] = r) : decide (r ∈ l) = true := by
  apply decide_eq_true
  rw [← h]; simp [List.getD, hk]
set_option maxHeartbeats 2000000 in
theorem spec_l7In_any (g o n cp g1 o1 n1 c1 : Nat) (l : List (List Int)) (r : List Int) (w : World) (hn : l.length = n) (hn1 : r.length = n1) (hl : l.length ≤ 1048576) (hrl : ∀ j, j < l.length → (l.getD j []).length ≤ 1048576)
    (hr : Rows2 w g o l) (hc1 : Cells w g1 o1 r) :
    Calls Tryz.prog 113 #[(Value.slice (some ⟨g, o, none⟩) n cp), (Value.slice (some ⟨g1, o1, none⟩) n1 c1)] w (Reads w (.bool (decide (r ∈ l)))) := by
  subst hn; subst hn1
  go_enter Tryz.func113, Tryz.ntmps113
  go_wp2
  go_loopw [5] (fun i wr => ∃ k : Nat, k ≤ l.length ∧ i = .int .i64 k ∧ Hid (inTo l r k) ∧ ∃ m, wr = w.drewN m) (fun i _ => l.length - (intOf i).toNat)
  case atStart => exact ⟨0, Nat.zero_le _, rfl, fun j hj => absurd hj (by omega), (by first | exact ⟨_, rfl⟩ | exact ⟨0, rfl⟩ | exact still2 _ _ _ | exact still3 _ _ _ _)⟩
  case round =>
    obtain ⟨k, hk, rfl, hin, m, rfl⟩ := hrel
    by_cases hlt : k < l.length
    · obtain ⟨gj, oj, cj, q1, q2, q3, q4⟩ := hr k hlt
      have hlk := hrl k hlt
      have HY : Hid (l.getD k [] ≠ r → inTo l r (k + 1)) := fun h j hj => by
        by_cases e : j = k
        · subst e; exact h
        · exact hin.out j (by omega)
      have HX : Hid (l.getD k [] = r → decide (r ∈ l) = true) := inTo_some hlt
      generalize l.getD k [] = x at *
      have hcall := spec_EqualWords_any gj oj x.length cj g1 o1 r.length c1 x r (w.drewN m) rfl rfl (by omega) q4 hc1
      by_cases e : x = r
      · have hd := HX.out e
        rw [decide_eq_true e] at hcall
        have Hd := Lib.hid hd; have He := Lib.hid e; have Hcall := Lib.hid hcall
        clear hd hcall e
        go_wp2_with fail
        refine Hcall.out.mono ?_
        rintro e w2 ⟨rfl, m2, rfl⟩
        go_wp2_with fail
        go_ret
        exact ⟨ret_bool Hd.out.symm, (by first | exact ⟨_, rfl⟩ | exact ⟨0, rfl⟩ | exact still2 _ _ _ | exact still3 _ _ _ _)⟩
      · have hd := HY.out e
        rw [decide_eq_false e] at hcall
        have Hd := Lib.hid hd; have He := Lib.hid e; have Hcall := Lib.hid hcall
        clear hd hcall e
        go_wp2_with fail
        refine Hcall.out.mono ?_
        rintro e w2 ⟨rfl, m2, rfl⟩
        go_wp2_with fail
        go_roundw
        case rel => exact ⟨k + 1, by omega, by go_num, Hd.out, (by first | exact ⟨_, rfl⟩ | exact ⟨0, rfl⟩ | exact still2 _ _ _ | exact still3 _ _ _ _)⟩
        case measure => simp [intOf]; omega
    · obtain rfl : k = l.length := by omega
      have hf := inTo_all hin.out
      have Hf := Lib.hid hf; clear hf
      go_wp2
      go_ret
      exact ⟨ret_bool Hf.out.symm, (by first | exact ⟨_, rfl⟩ | exact ⟨0, rfl⟩ | exact still2 _ _ _ | exact still3 _ _ _ _)⟩
end Go.Proofs.YtkjglfafphffiaaGreatDoor
namespace Go.Proofs.YtkjglfafphffiaaGreatDoor
set_option maxRecDepth 100000
open Go.RowKit
def dotTo (a r : List Int) : Nat → Int
  | 0 => 0
  | k + 1 => wrap64 (dotTo a r k + wrap64 (a.getD k 0 * r.getD k 0))
def pairL (a r : List Int) : Int := dotTo a r r.length
def mirL (c : List (List Int)) (i : Nat) (r : List Int) : List Int := r.set i (wrap64 (r.getD i 0 - pairL (c.getD i []) r))
def simpL (n i : Nat) : List Int := (List.replicate n 0).set i 1
theorem mirL_length (c : List (List Int)) (i : Nat) (r : List Int) : (mirL c i r).length = r.length := by simp [mirL]
theorem simpL_length (n i : Nat) : (simpL n i).length = n := by simp [simpL]
abbrev RPair := List Int × List Int
section
variable {c t : List (List Int)} {Q : List RPair} {k i : Nat}
end
end Go.Proofs.YtkjglfafphffiaaGreatDoor
namespace Go.Proofs.YtkjglfafphffiaaGreatDoor
set_option maxRecDepth 100000
open Go.RowKit Game
set_option maxHeartbeats 1000000 in
theorem impl_pairing_any (g1 o1 n1 c1 g2 o2 n2 c2 : Nat) (a r : List Int) (w : World) (hn1 : a.length = n1) (hn2 : r.length = n2) (hl : r.length ≤ a.length) (hx : a.length ≤ 1048576) (ha : Cells w g1 o1 a) (hr : Cells w g2 o2 r) :
    Calls Tryz.prog 166 #[(Value.slice (some ⟨g1, o1, none⟩) n1 c1), (Value.slice (some ⟨g2, o2, none⟩) n2 c2)] w (Reads w (.int .i64 (pairL a r))) := by
  subst hn1; subst hn2
  go_enter Tryz.func166, Tryz.ntmps166
  go_wp2
  go_loopw [5, 10] (fun s kv wr => ∃ t q : Nat, t ≤ r.length ∧ kv = .int .i64 t ∧ s = .int .i64 (dotTo a r t) ∧ wr = w.drewN q) (fun _ kv _ => r.length - (intOf kv).toNat)
  case atStart => exact ⟨0, 0, Nat.zero_le _, rfl, rfl, rfl⟩
  case round =>
    obtain ⟨t, q, ht, rfl, rfl, rfl⟩ := hrel
    by_cases hlt : t < r.length
    · have q1 := ha t (by omega)
      have q2 := hr t hlt
      have hta : t < a.length := by omega
      have hd : dotTo a r (t + 1) = wrap64 (dotTo a r t + wrap64 (a.getD t 0 * r.getD t 0)) := rfl
      generalize a.getD t 0 = x at *
      generalize r.getD t 0 = y at *
      have Hd := Lib.hid hd; clear hd
      generalize dotTo a r t = z at *
      go_wp2
      go_roundw
      case rel => exact ⟨t + 1, _, by omega, by go_num, by rw [Hd.out], rfl⟩
      case measure => simp [intOf]; omega
    · obtain rfl : t = r.length := by omega
      go_wp2
      go_ret
      exact ⟨rfl, (by first | exact ⟨_, rfl⟩ | exact ⟨0, rfl⟩ | exact still2 _ _ _ | exact still3 _ _ _ _)⟩
theorem own_simple {w : World} {B g n cap : Nat} (h : Own w B g cap (List.replicate n 0)) {i : Nat} : Own (w.setCell ⟨g, i, none⟩ (.int .i64 1)) B g cap (simpL n i) ∧ w.grownBy (w.setCell ⟨g, i, none⟩ (.int .i64 1)) (some g) := by
  have := h.set i 1
  exact this
set_option maxHeartbeats 1000000 in
theorem impl_simple_any (n i : Nat) (w : World) (hn : n ≤ 1048576) (hi : i < n) : Calls Tryz.prog 138 #[.int .i64 n, .int .i64 i] w (GotInts w (simpL n i)) := by
  go_enter Tryz.func138, Tryz.ntmps138
  go_wp2_with (at_make; refine wpList_make_ints rfl _ _ rfl w.heap.size n _ rfl rfl rfl (by omega) (Nat.le_refl _) ?_)
  intro w1 ho1 hg1
  have hb1 : Below w.heap.size w w1 := (Below.refl _ _).grown hg1 (Nat.le_refl _) (by simp)
  have hc := ho1.cell i (by simpa using hi)
  have hf := ho1.frozen i
  go_wp2
  have hs := own_simple ho1 (i := i)
  go_ret
  exact GotInts.mk' _ n (simpL_length _ _) hs.1 (hb1.grown hs.2 hb1.size (by intro k hk; cases hk; exact ho1.base))
set_option maxHeartbeats 1000000 in
theorem spec_SimpleRoot_any (gc oc n cc i : Nat) (c : List (List Int)) (w : World) (hn : c.length = n) (hC : IsC c) (hi : i < c.length) (hc : Rows2 w gc oc c) :
    Calls Tryz.prog 111 #[(Value.slice (some ⟨gc, oc, none⟩) n cc), .int .i64 i] w (GotInts w (simpL c.length i)) := by
  subst hn
  have hn4 := hC.2.1
  have hcall := spec_IsCartan gc oc _ cc c w rfl (by omega) (fun j hj => by rw [hC.2.2.1 j hj]; omega) hc
  rw [decide_eq_true hC] at hcall
  have Hcall := Lib.hid hcall
  clear hcall
  go_enter Tryz.func111, Tryz.ntmps111
  go_wp2_with fail
  refine Hcall.out.mono ?_
  rintro e w1 ⟨rfl, hs1⟩
  have hb1 := below_still (Below.refl w.heap.size w) hs1
  clear hs1 Hcall
  have hcall := spec_l1In i 0 ((c.length : Int) - 1) w1
  have hT : (decide ((0 : Int) ≤ (i : Int)) && decide ((i : Int) ≤ (c.length : Int) - 1)) = true := by simp; omega
  rw [hT] at hcall
  have Hcall := Lib.hid hcall
  clear hcall hT
  go_wp2_with fail
  refine Hcall.out.mono ?_
  rintro e w2 ⟨rfl, hs2⟩
  have hb2 := below_still hb1 hs2
  clear hs2 Hcall hb1
  go_wp2_with (at_make; refine wpList_make_ints rfl _ _ rfl w.heap.size c.length _ rfl rfl rfl (by omega) hb2.size ?_)
  intro w3 ho3 hg3
  have hb3 : Below w.heap.size w w3 := hb2.grown hg3 hb2.size (by simp)
  have hcl := ho3.cell i (by simpa using hi)
  have hf := ho3.frozen i
  go_wp2
  have hs := own_simple ho3 (i := i)
  go_ret
  exact GotInts.mk' _ c.length (simpL_length _ _) hs.1 (hb3.grown hs.2 hb3.size (by intro k hk; cases hk; exact ho3.base))
end Go.Proofs.YtkjglfafphffiaaGreatDoor
namespace Go.Proofs.YtkjglfafphffiaaGreatDoor
set_option maxRecDepth 100000
open Go.RowKit Game
set_option maxHeartbeats 2000000 in
theorem impl_mirrored_any (gc oc n cc i g o m cp : Nat) (c : List (List Int)) (r : List Int) (w : World) (hn : c.length = n) (hm : r.length = m) (hi : i < c.length) (hir : i < r.length) (hl : r.length ≤ (c.getD i []).length) (hx : (c.getD i []).length ≤ 1048576) (hgc : gc < w.heap.size) (hg : g < w.heap.size) (hc : Rows2 w gc oc c) (hr : Cells w g o r) :
    Calls Tryz.prog 155 #[(Value.slice (some ⟨gc, oc, none⟩) n cc), .int .i64 i, (Value.slice (some ⟨g, o, none⟩) m cp)] w (GotInts w (mirL c i r)) := by
  subst hn; subst hm
  have hrl : r.length ≤ 1048576 := by omega
  have he : mirL c i r = r.set i (wrap64 (r.getD i 0 - pairL (c.getD i []) r)) := rfl
  obtain ⟨ga, oa, ca, q1, q2, q3, q4⟩ := hc i hi
  generalize c.getD i [] = a at *
  have He := Lib.hid he; clear he
  go_enter Tryz.func155, Tryz.ntmps155
  go_wp2_with (at_builtin; refine wpList_clone rfl _ _ rfl g o _ cp r rfl hg hr rfl rfl (by omega) ?_)
  intro g3 c3 w3 ho3 hb3
  have q1' := (hb3.cell (p := ⟨gc, oc + i, none⟩) hgc).trans q1
  have hcall := fun W (hW : ∃ q, W = w3.drewN q) => impl_pairing_any ga oa _ ca g o _ cp a r W rfl rfl hl hx ((q4.below hb3 q3).still hW) ((hr.below hb3 hg).still hW)
  have hc1 := ho3.cell i hir
  have hf1 := ho3.frozen i
  have Hcall := Lib.hid hcall
  generalize pairL a r = p at *
  generalize r.getD i 0 = x at *
  clear hcall hr hc
  have HS : Hid (∀ W, (∃ q, W = w3.drewN q) → GotInts w (mirL c i r) (.returned (Value.slice (some ⟨g3, 0, none⟩) r.length c3)) (W.setCell ⟨g3, i, none⟩ (.int .i64 (wrap64 (x - p))))) := fun W hW => by
    have ho := ho3.still hW
    have hb := below_still hb3 hW
    have hs := ho.set i (wrap64 (x - p))
    rw [← He.out] at hs
    exact GotInts.mk' g3 c3 (mirL_length _ _ _) hs.1 (hb.grown hs.2 hb.size (by intro k hk; cases hk; exact ho.base))
  go_wp2
  go_region_with (go_at_call 166; refine (Hcall.out _ ⟨_, rfl⟩).mono ?_; rintro e w4 ⟨rfl, q, rfl⟩)
  all_goals
    go_wp2
    go_ret
    rw [show IntKind.i64.wrap (x - p) = wrap64 (x - p) by simp only [wrap64, IntKind.wrap_i64]]
    refine HS.out _ ?_
    exact (by first | exact ⟨_, rfl⟩ | exact ⟨0, rfl⟩ | exact still2 _ _ _ | exact still3 _ _ _ _)
set_option maxHeartbeats 2000000 in
theorem spec_l7Reflect_any (gc oc n cc i g o m cp : Nat) (c : List (List Int)) (r : List Int) (w : World) (hn : c.length = n) (hm : r.length = m) (hi : i < c.length) (hir : i < r.length) (hl : r.length ≤ (c.getD i []).length) (hx : (c.getD i []).length ≤ 1048576) (hgc : gc < w.heap.size) (hg : g < w.heap.size) (hc : Rows2 w gc oc c) (hr : Cells w g o r) :
    Calls Tryz.prog 146 #[(Value.slice (some ⟨gc, oc, none⟩) n cc), .int .i64 i, (Value.slice (some ⟨g, o, none⟩) m cp)] w (GotInts w (mirL c i r)) := by
  subst hn; subst hm
  have hrl : r.length ≤ 1048576 := by omega
  have he : mirL c i r = r.set i (wrap64 (r.getD i 0 - dotTo (c.getD i []) r r.length)) := rfl
  obtain ⟨ga, oa, ca, q1, q2, q3, q4⟩ := hc i hi
  generalize c.getD i [] = a at *
  have He := Lib.hid he; clear he
  go_enter Tryz.func146, Tryz.ntmps146
  go_wp2_with (at_builtin; refine wpList_clone rfl _ _ rfl g o _ cp r rfl hg hr rfl rfl (by omega) ?_)
  intro g3 c3 w3 ho3 hb3
  have q1' := (hb3.cell (p := ⟨gc, oc + i, none⟩) hgc).trans q1
  have hr3 := hr.below hb3 hg
  have hq3 := q4.below hb3 q3
  go_wp2
  go_loopw [8, 9] (fun s kv wr => ∃ t q : Nat, t ≤ r.length ∧ kv = .int .i64 t ∧ s = .int .i64 (dotTo a r t) ∧ wr = w3.drewN q) (fun _ kv _ => r.length - (intOf kv).toNat)
  case atStart => exact ⟨0, 0, Nat.zero_le _, rfl, rfl, rfl⟩
  case round =>
    obtain ⟨t, q, ht, rfl, rfl, rfl⟩ := hrel
    by_cases hlt : t < r.length
    · have e1 := hq3 t (by omega)
      have e2 := hr3 t hlt
      have hta : t < a.length := by omega
      have hd : dotTo a r (t + 1) = wrap64 (dotTo a r t + wrap64 (a.getD t 0 * r.getD t 0)) := rfl
      generalize a.getD t 0 = x at *
      generalize r.getD t 0 = y at *
      have Hd := Lib.hid hd; clear hd
      generalize dotTo a r t = z at *
      go_wp2
      go_quiet (fail)
      go_wp2
      go_roundw
      case rel => exact ⟨t + 1, _, by omega, by go_num, by rw [Hd.out], rfl⟩
      case measure => simp [intOf]; omega
    · obtain rfl : t = r.length := by omega
      have e2 := hr3 i hir
      have hc1 := ho3.cell i hir
      have hf1 := ho3.frozen i
      generalize dotTo a r r.length = p at *
      generalize r.getD i 0 = x at *
      have HS : Hid (∀ W, (∃ q, W = w3.drewN q) → GotInts w (mirL c i r) (.returned (Value.slice (some ⟨g3, 0, none⟩) r.length c3)) (W.setCell ⟨g3, i, none⟩ (.int .i64 (wrap64 (x - p))))) := fun W hW => by
        have ho := ho3.still hW
        have hb := below_still hb3 hW
        have hs := ho.set i (wrap64 (x - p))
        rw [← He.out] at hs
        exact GotInts.mk' g3 c3 (mirL_length _ _ _) hs.1 (hb.grown hs.2 hb.size (by intro k hk; cases hk; exact ho.base))
      go_wp2
      go_ret
      refine HS.out _ ?_
      exact (by first | exact ⟨_, rfl⟩ | exact ⟨0, rfl⟩ | exact still2 _ _ _ | exact still3 _ _ _ _)
end Go.Proofs.YtkjglfafphffiaaGreatDoor
namespace Go.Proofs.YtkjglfafphffiaaGreatDoor
set_option maxRecDepth 100000
open Go.RowKit Game
def lettersB (n : Nat) (l : List Int) : Bool := l.all fun x => decide (0 ≤ x) && decide (x < (n : Int))
def isWordB (c : List (List Int)) (l : List Int) : Bool := decide (IsC c) && (decide (l.length ≤ 15) && lettersB c.length l)
theorem letters_out {n : Nat} {l : List Int} {k : Nat} (hk : k < l.length) (h : ¬ (0 ≤ l.getD k 0 ∧ l.getD k 0 < (n : Int))) : lettersB n l = false := by
  have e : l.getD k 0 = l[k] := by simp [List.getD, hk]
  rw [e] at h
  rw [← Bool.not_eq_true]
  intro ht
  have := List.all_eq_true.1 ht l[k] (List.getElem_mem hk)
  simp only [Bool.and_eq_true, decide_eq_true_eq] at this
  exact h this
theorem letters_in {n : Nat} {l : List Int} (h : ∀ k, k < l.length → 0 ≤ l.getD k 0 ∧ l.getD k 0 < (n : Int)) : lettersB n l = true := by
  refine List.all_eq_true.2 fun x hx => ?_
  obtain ⟨k, hk, rfl⟩ := List.getElem_of_mem hx
  have := h k hk
  have e : l.getD k 0 = l[k] := by simp [List.getD, hk]
  rw [e] at this
  simpa using this
theorem isWordB_of {c : List (List Int)} {l : List Int} (h : isWordB c l = true) : IsC c ∧ l.length ≤ 15 ∧ ∀ x ∈ l, 0 ≤ x ∧ x < (c.length : Int) := by
  simp only [isWordB, Bool.and_eq_true, decide_eq_true_eq] at h
  refine ⟨h.1, h.2.1, fun x hx => ?_⟩
  have := List.all_eq_true.1 h.2.2 x hx
  simpa using this
set_option maxHeartbeats 1000000 in
theorem impl_isWordOf_any (gc oc n cc g o m cp : Nat) (l : List Int) (w : World) (hm : l.length = m) (hl : l.length ≤ 1048576) (hc : Cells w g o l) :
    Calls Tryz.prog 83 #[(Value.slice (some ⟨gc, oc, none⟩) n cc), (Value.slice (some ⟨g, o, none⟩) m cp)] w (Reads w (.bool (lettersB n l))) := by
  subst hm
  go_enter Tryz.func83, Tryz.ntmps83
  go_wp2
  go_loopw [9] (fun i wr => ∃ k : Nat, k ≤ l.length ∧ i = .int .i64 k ∧ Hid (∀ j, j < k → 0 ≤ l.getD j 0 ∧ l.getD j 0 < (n : Int)) ∧ ∃ q, wr = w.drewN q) (fun i _ => l.length - (intOf i).toNat)
  case atStart => exact ⟨0, Nat.zero_le _, rfl, fun j h => absurd h (by omega), (by first | exact ⟨_, rfl⟩ | exact ⟨0, rfl⟩ | exact still2 _ _ _ | exact still3 _ _ _ _)⟩
  case round =>
    obtain ⟨k, hk, rfl, hp, q, rfl⟩ := hrel
    by_cases hlt : k < l.length
    · have c1 := hc k hlt
      have HA : Hid (¬ (0 ≤ l.getD k 0 ∧ l.getD k 0 < (n : Int)) → lettersB n l = false) := letters_out hlt
      have HB : Hid (0 ≤ l.getD k 0 ∧ l.getD k 0 < (n : Int) → ∀ j, j < k + 1 → 0 ≤ l.getD j 0 ∧ l.getD j 0 < (n : Int)) := fun h j hj => by
        by_cases e : j = k
        · subst e; exact h
        · exact hp.out j (by omega)
      generalize l.getD k 0 = x at *
      have hcall := impl_isPoint_any gc oc n cc x (w.drewN q)
      by_cases hx : 0 ≤ x ∧ x < (n : Int)
      · have hT : (decide (0 ≤ x) && decide (x < (n : Int))) = true := by simpa using hx
        rw [hT] at hcall
        have hb := HB.out hx
        have Hb := Lib.hid hb; have Hcall := Lib.hid hcall
        clear hb hcall hT HA HB hp hx
        go_wp2_with fail
        refine Hcall.out.mono ?_
        rintro e w2 ⟨rfl, q2, rfl⟩
        go_wp2_with fail
        go_roundw
        case rel => exact ⟨k + 1, by omega, by go_num, Hb.out, (by first | exact ⟨_, rfl⟩ | exact ⟨0, rfl⟩ | exact still2 _ _ _ | exact still3 _ _ _ _)⟩
        case measure => simp [intOf]; omega
      · have hT : (decide (0 ≤ x) && decide (x < (n : Int))) = false := by
          rw [← Bool.not_eq_true, Bool.and_eq_true, decide_eq_true_eq, decide_eq_true_eq]; exact hx
        rw [hT] at hcall
        have ha := HA.out hx
        have Ha := Lib.hid ha; have Hcall := Lib.hid hcall
        clear ha hcall hT HA HB hp hx
        go_wp2_with fail
        refine Hcall.out.mono ?_
        rintro e w2 ⟨rfl, q2, rfl⟩
        go_wp2_with fail
        go_ret
        exact ⟨ret_bool Ha.out.symm, (by first | exact ⟨_, rfl⟩ | exact ⟨0, rfl⟩ | exact still2 _ _ _ | exact still3 _ _ _ _)⟩
    · obtain rfl : k = l.length := by omega
      have Hf : Hid (lettersB n l = true) := letters_in hp.out
      clear hp
      go_wp2
      go_ret
      exact ⟨ret_bool Hf.out.symm, (by first | exact ⟨_, rfl⟩ | exact ⟨0, rfl⟩ | exact still2 _ _ _ | exact still3 _ _ _ _)⟩
set_option maxHeartbeats 1000000 in
theorem impl_IsWord_any (gc oc n cc g o m cp : Nat) (c : List (List Int)) (l : List Int) (w : World) (hn : c.length = n) (hm : l.length = m) (hx : c.length ≤ 1048576) (hrl : ∀ j, j < c.length → (c.getD j []).length ≤ 1048576) (hl : l.length ≤ 1048576) (hr : Rows2 w gc oc c) (hc : Cells w g o l) :
    Calls Tryz.prog 25 #[(Value.slice (some ⟨gc, oc, none⟩) n cc), (Value.slice (some ⟨g, o, none⟩) m cp)] w (Reads w (.bool (isWordB c l))) := by
  subst hn; subst hm
  have hcall := impl_IsCartan gc oc _ cc c w rfl (by omega) (fun j hj => by have := hrl j hj; omega) hr
  have hcall2 := fun W (hW : ∃ q, W = w.drewN q) => impl_isWordOf_any gc oc c.length cc g o _ cp l W rfl hl (hc.still hW)
  have Hcall2 := Lib.hid hcall2
  clear hr hc hcall2 hrl
  by_cases hC : IsC c
  · rw [decide_eq_true hC] at hcall
    have Hcall := Lib.hid hcall
    by_cases h15 : l.length ≤ 15
    · have hv : isWordB c l = lettersB c.length l := by unfold isWordB; rw [decide_eq_true hC, decide_eq_true h15]; simp
      rw [hv]
      have h15I : (l.length : Int) ≤ 15 := by omega
      clear hcall hv
      generalize lettersB c.length l = b at *
      go_enter Tryz.func25, Tryz.ntmps25
      go_wp2_with fail
      refine Hcall.out.mono ?_
      rintro e w2 ⟨rfl, hs2⟩
      have Hc3 := Lib.hid (Hcall2.out w2 hs2)
      go_wp2_with fail
      refine Hc3.out.mono ?_
      rintro e w3 ⟨rfl, hs3⟩
      have hs := still_trans hs2 hs3
      cases b
      all_goals
        go_wp2_with fail
        go_ret
        exact ⟨rfl, hs⟩
    · have hv : isWordB c l = false := by unfold isWordB; rw [decide_eq_false h15]; simp
      have Hv := Lib.hid hv
      have h15I : (15 : Int) < (l.length : Int) := by omega
      clear hcall hv h15
      go_enter Tryz.func25, Tryz.ntmps25
      go_wp2_with fail
      refine Hcall.out.mono ?_
      rintro e w2 ⟨rfl, hs2⟩
      go_wp2_with fail
      go_ret
      exact ⟨ret_bool Hv.out.symm, hs2⟩
  · rw [decide_eq_false hC] at hcall
    have Hcall := Lib.hid hcall
    have hv : isWordB c l = false := by unfold isWordB; rw [decide_eq_false hC]; simp
    have Hv := Lib.hid hv
    clear hcall hv
    go_enter Tryz.func25, Tryz.ntmps25
    go_wp2_with fail
    refine Hcall.out.mono ?_
    rintro e w2 ⟨rfl, hs2⟩
    go_wp2_with fail
    go_ret
    exact ⟨ret_bool Hv.out.symm, hs2⟩
set_option maxHeartbeats 1000000 in
theorem spec_IsWord_any (gc oc n cc g o m cp : Nat) (c : List (List Int)) (l : List Int) (w : World) (hn : c.length = n) (hm : l.length = m) (hx : c.length ≤ 1048576) (hrl : ∀ j, j < c.length → (c.getD j []).length ≤ 1048576) (hl : l.length ≤ 1048576) (hr : Rows2 w gc oc c) (hc : Cells w g o l) :
    Calls Tryz.prog 47 #[(Value.slice (some ⟨gc, oc, none⟩) n cc), (Value.slice (some ⟨g, o, none⟩) m cp)] w (Reads w (.bool (isWordB c l))) := by
  subst hn; subst hm
  have hcall2 := fun W (hW : ∃ q, W = w.drewN q) => spec_IsCartan gc oc _ cc c W rfl (by omega) (fun j hj => by have := hrl j hj; omega) (hr.still hW)
  have Hcall2 := Lib.hid hcall2
  clear hr hcall2 hrl
  go_enter Tryz.func47, Tryz.ntmps47
  go_wp2
  go_loopw [5] (fun i wr => ∃ k : Nat, k ≤ l.length ∧ i = .int .i64 k ∧ Hid (∀ j, j < k → 0 ≤ l.getD j 0 ∧ l.getD j 0 < (c.length : Int)) ∧ ∃ q, wr = w.drewN q) (fun i _ => l.length - (intOf i).toNat)
  case atStart => exact ⟨0, Nat.zero_le _, rfl, fun j h => absurd h (by omega), (by first | exact ⟨_, rfl⟩ | exact ⟨0, rfl⟩ | exact still2 _ _ _ | exact still3 _ _ _ _)⟩
  case round =>
    obtain ⟨k, hk, rfl, hp, q, rfl⟩ := hrel
    by_cases hlt : k < l.length
    · have c1 := hc k hlt
      have HA : Hid (¬ (0 ≤ l.getD k 0 ∧ l.getD k 0 < (c.length : Int)) → isWordB c l = false) := fun h => by unfold isWordB; rw [letters_out hlt h]; simp
      have HB : Hid (0 ≤ l.getD k 0 ∧ l.getD k 0 < (c.length : Int) → ∀ j, j < k + 1 → 0 ≤ l.getD j 0 ∧ l.getD j 0 < (c.length : Int)) := fun h j hj => by
        by_cases e : j = k
        · subst e; exact h
        · exact hp.out j (by omega)
      generalize l.getD k 0 = x at *
      have hcall := spec_l1In x 0 ((c.length : Int) - 1) (w.drewN q)
      by_cases hx : 0 ≤ x ∧ x < (c.length : Int)
      · have hT : (decide (0 ≤ x) && decide (x ≤ (c.length : Int) - 1)) = true := by simp only [Bool.and_eq_true, decide_eq_true_eq]; omega
        rw [hT] at hcall
        have hb := HB.out hx
        have Hb := Lib.hid hb; have Hcall := Lib.hid hcall
        clear hb hcall hT HA HB hp hx
        go_wp2_with fail
        refine Hcall.out.mono ?_
        rintro e w2 ⟨rfl, q2, rfl⟩
        go_wp2_with fail
        go_roundw
        case rel => exact ⟨k + 1, by omega, by go_num, Hb.out, (by first | exact ⟨_, rfl⟩ | exact ⟨0, rfl⟩ | exact still2 _ _ _ | exact still3 _ _ _ _)⟩
        case measure => simp [intOf]; omega
      · have hT : (decide (0 ≤ x) && decide (x ≤ (c.length : Int) - 1)) = false := by
          rw [← Bool.not_eq_true, Bool.and_eq_true, decide_eq_true_eq, decide_eq_true_eq]; omega
        rw [hT] at hcall
        have ha := HA.out hx
        have Ha := Lib.hid ha; have Hcall := Lib.hid hcall
        clear ha hcall hT HA HB hp hx
        go_wp2_with fail
        refine Hcall.out.mono ?_
        rintro e w2 ⟨rfl, q2, rfl⟩
        go_wp2_with fail
        go_ret
        exact ⟨ret_bool Ha.out.symm, (by first | exact ⟨_, rfl⟩ | exact ⟨0, rfl⟩ | exact still2 _ _ _ | exact still3 _ _ _ _)⟩
    · obtain rfl : k = l.length := by omega
      have hf : lettersB c.length l = true := letters_in hp.out
      have hcall := Hcall2.out (w.drewN q) (by first | exact ⟨_, rfl⟩ | exact ⟨0, rfl⟩ | exact still2 _ _ _ | exact still3 _ _ _ _)
      clear hp
      by_cases hC : IsC c
      · have hv : isWordB c l = decide (l.length ≤ 15) := by unfold isWordB; rw [decide_eq_true hC, hf]; simp
        rw [decide_eq_true hC] at hcall
        have Hcall := Lib.hid hcall; have Hv := Lib.hid hv
        clear hcall hv hf
        by_cases h15 : l.length ≤ 15
        · have h15I : (l.length : Int) ≤ 15 := by omega
          go_wp2_with fail
          refine Hcall.out.mono ?_
          rintro e w2 ⟨rfl, q2, rfl⟩
          go_wp2_with fail
          go_ret
          exact ⟨ret_bool (by rw [Hv.out, decide_eq_true h15]), (by first | exact ⟨_, rfl⟩ | exact ⟨0, rfl⟩ | exact still2 _ _ _ | exact still3 _ _ _ _)⟩
        · have h15I : (15 : Int) < (l.length : Int) := by omega
          go_wp2_with fail
          refine Hcall.out.mono ?_
          rintro e w2 ⟨rfl, q2, rfl⟩
          go_wp2_with fail
          go_ret
          exact ⟨ret_bool (by rw [Hv.out]; simp; omega), (by first | exact ⟨_, rfl⟩ | exact ⟨0, rfl⟩ | exact still2 _ _ _ | exact still3 _ _ _ _)⟩
      · have hv : isWordB c l = false := by unfold isWordB; rw [decide_eq_false hC]; simp
        rw [decide_eq_false hC] at hcall
        have Hcall := Lib.hid hcall; have Hv := Lib.hid hv
        clear hcall hv hf
        go_wp2_with fail
        refine Hcall.out.mono ?_
        rintro e w2 ⟨rfl, q2, rfl⟩
        go_wp2_with fail
        go_ret
        exact ⟨ret_bool Hv.out.symm, (by first | exact ⟨_, rfl⟩ | exact ⟨0, rfl⟩ | exact still2 _ _ _ | exact still3 _ _ _ _)⟩
end Go.Proofs.YtkjglfafphffiaaGreatDoor
