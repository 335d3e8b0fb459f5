/- Longest elements and opposite letters: contracts. OppositeLetter, IsWeight: contracts. OppositeLetter of the reference, IsWeight: contracts. The reference's images, normal forms, concatenations, and lists of words: contracts. -/
import Derived.Test.YtjhoimdfmcjkbaaG31
import Derived.WalkSpells
import Derived.Test.YtjhoimdfmcjkbaaG04
import Derived.Test.YtjhoimdfmcjkbaaG27
import Derived.Test.YtjhoimdfmcjkbaaG25
import Derived.Test.YtjhoimdfmcjkbaaG10
namespace Go.Proofs.Ytjhoimdfmcjkbaa
set_option maxRecDepth 100000
open Go.RowKit

def negL (n : Nat) : List Int := List.replicate n (-1)
theorem onesL_length (n : Nat) : (onesL n).length = n := by simp [onesL]
theorem negL_length (n : Nat) : (negL n).length = n := by simp [negL]
/-- what a finite type's long word does -/
structure LongOf (c : List (List Int)) (long : List Int) (opp : Nat → Nat) : Prop where
  norm : normG c 30 (negL c.length) = some long
  act : actW c long (onesL c.length) = negL c.length
  opp_lt : ∀ i, i < c.length → opp i < c.length
  opp_eq : ∀ i, i < c.length → actW c long (refl c i (onesL c.length)) = refl c (opp i) (negL c.length)

theorem actW_append (c : List (List Int)) (a b v : List Int) : actW c (a ++ b) v = actW c a (actW c b v) := by
  induction a with
  | nil => rfl
  | cons i a ih => simp [actW, ih]
theorem refl_neg_at {c : List (List Int)} (hC : IsC c) {j k : Nat} (hk : k < c.length) (hj : j < c.length) : (refl c j (negL c.length)).getD k 0 = -1 + ent c k j := by
  have hb := ent_bound hC k j
  have e1 : (negL c.length).getD k 0 = -1 := by simp [negL, List.getD, hk]
  have e2 : (negL c.length).getD j 0 = -1 := by simp [negL, List.getD, hj]
  have e : (refl c j (negL c.length)).getD k 0 = reflAt c j (negL c.length) k := by simp [refl, List.getD, negL_length, hk]
  rw [e]
  unfold reflAt
  have e3 : wrap64 (-1 * ent c k j) = -1 * ent c k j := IntWalk.wrap64_in _ ⟨by omega, by omega⟩
  rw [e1, e2, e3, IntWalk.wrap64_in _ ⟨by omega, by omega⟩]
  omega
theorem refl_neg_pos {c : List (List Int)} (hC : IsC c) {j k : Nat} (hk : k < c.length) (hj : j < c.length) : 0 < (refl c j (negL c.length)).getD k 0 ↔ k = j := by
  rw [refl_neg_at hC hk hj]
  have h := hC.2.2.2 k hk j hj
  unfold EntOk at h
  by_cases e : k = j
  · rw [if_pos e] at h; omega
  · rw [if_neg e] at h; omega
theorem refl_neg_inj {c : List (List Int)} (hC : IsC c) {j k : Nat} (hk : k < c.length) (hj : j < c.length) : refl c j (negL c.length) = refl c k (negL c.length) ↔ j = k := by
  constructor
  · intro h
    have h1 := (refl_neg_pos hC hj hj).2 rfl
    rw [h] at h1
    exact (refl_neg_pos hC hj hk).1 h1
  · rintro rfl; rfl

set_option maxHeartbeats 2000000 in
theorem impl_longestElement_any (gc oc n cc : Nat) (c : List (List Int)) (long : List Int) (w : World) (hn : c.length = n) (hC : IsC c) (hlong : normG c 30 (negL c.length) = some long)
    (hgc : gc < w.heap.size) (hr : Rows2 w gc oc c) : Calls Try.prog 40 #[(Value.slice (some ⟨gc, oc, none⟩) n cc)] w (GotInts w long) := by
  subst hn
  have hn4 := hC.2.1
  go_enter Try.func40, Try.ntmps40
  go_wp2_with fail
  refine (impl_ones_any c.length w (by omega)).mono ?_
  rintro e w1 ⟨g1, c1, rfl, ho1, hb1⟩
  rw [onesL_length]
  go_wp2_with fail
  go_loopw [10] (fun i wr => ∃ t : Nat, t ≤ c.length ∧ i = .int .i64 t ∧ Own wr w.heap.size g1 c1 (List.replicate t (-1) ++ List.replicate (c.length - t) 1) ∧ Below w.heap.size w wr) (fun i _ => c.length - (intOf i).toNat)
  case atStart => exact ⟨0, Nat.zero_le _, rfl, by simpa [onesL] using ho1, hb1⟩
  case round =>
    obtain ⟨t, ht, rfl, ho, hb⟩ := hrel
    by_cases hlt : t < c.length
    · have hl : (List.replicate t (-1 : Int) ++ List.replicate (c.length - t) 1).length = c.length := by simp; omega
      have q1 := ho.cell t (by rw [hl]; exact hlt)
      have f1 := ho.frozen t
      have hs := ho.set t (-1)
      have e : (List.replicate t (-1 : Int) ++ List.replicate (c.length - t) 1).set t (-1) = List.replicate (t + 1) (-1) ++ List.replicate (c.length - (t + 1)) 1 := by
        rw [List.set_append_right _ _ (by simp)]
        obtain ⟨d, hd⟩ : ∃ d, c.length - t = d + 1 := ⟨c.length - t - 1, by omega⟩
        rw [hd, show c.length - (t + 1) = d by omega]
        rw [List.length_replicate, Nat.sub_self, List.replicate_succ, List.set_cons_zero, List.replicate_succ', List.append_assoc]; rfl
      rw [e] at hs
      have Hs := Lib.hid hs
      clear hs e hl
      go_wp2
      go_roundw
      case rel => exact ⟨t + 1, by omega, by go_num, Hs.out.1, hb.grown Hs.out.2 hb.size (by intro j hj; cases hj; exact ho.base)⟩
      case measure => simp [intOf]; omega
    · obtain rfl : t = c.length := by omega
      rw [Nat.sub_self, List.replicate_zero, List.append_nil] at ho
      have ho' : Own wr w.heap.size g1 c1 (negL c.length) := ho
      go_wp2_with fail
      refine (impl_normal_any gc oc _ cc g1 0 c.length c1 30 c (negL c.length) long wr rfl (negL_length _) hC (negL_length _) (by omega) hlong (Nat.lt_of_lt_of_le hgc hb.size) ho'.lt (hr.below hb hgc) ho'.cells).mono ?_
      rintro e w2 ⟨g2, c2, rfl, ho2, hb2⟩
      go_wp2_with fail
      go_ret
      exact ⟨g2, c2, rfl, ho2.mono hb.size, hb.trans (hb2.mono hb.size)⟩

set_option maxHeartbeats 400000 in
theorem slices_Clone_any (g o n cp : Nat) (v : List Int) (w : World) (hn : v.length = n) (hx : v.length ≤ 1048576) (hg : g < w.heap.size) (hc : Cells w g o v) :
    Calls Try.prog 65 #[(Value.slice (some ⟨g, o, none⟩) n cp)] w (GotInts w v) := by
  subst hn
  have hnil : ∀ W, (binOp .eql 24 (Value.slice (some ⟨g, o, none⟩) v.length cp) (.slice none 0 0)).run Try.prog W = .ok (.bool false) W := fun W => Lib.run_eql_slice_nil W 24 3 _ _ _ _ _ Try.underlying24
  go_enter Try.func65, Try.ntmps65
  go_wp2_with (at_builtin; refine wpList_clone rfl _ _ rfl g o _ cp v rfl hg hc rfl rfl (by omega) ?_)
  intro g1 c1 w1 ho hb
  go_wp2_with fail
  go_ret
  exact GotInts.mk' g1 c1 rfl ho hb
end Go.Proofs.Ytjhoimdfmcjkbaa
namespace Go.Proofs.Ytjhoimdfmcjkbaa
set_option maxRecDepth 100000
open Go.RowKit

end Go.Proofs.Ytjhoimdfmcjkbaa
namespace Go.Proofs.Ytjhoimdfmcjkbaa
set_option maxRecDepth 100000
open Go.RowKit

def wtOk (c : List (List Int)) (v : List Int) : Prop := IsC c ∧ v.length = c.length ∧ ∀ j, j < v.length → -1000 ≤ v.getD j 0 ∧ v.getD j 0 ≤ 1000
instance (c : List (List Int)) (v : List Int) : Decidable (wtOk c v) := by unfold wtOk; infer_instance

end Go.Proofs.Ytjhoimdfmcjkbaa
namespace Go.Proofs.Ytjhoimdfmcjkbaa
set_option maxRecDepth 100000
open Go.RowKit Game

end Go.Proofs.Ytjhoimdfmcjkbaa
