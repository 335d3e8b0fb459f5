/- Lists of weights with counts ([]impl.Weighted): what they read as. -/
import Derived.Test.YtplglmimjhhilaaWd
namespace Go.Proofs.Ytplglmimjhhilaa
open Go.RowKit

/-- a weight with its count -/
abbrev Wt := List Int × Int
def wOf (l : List Wt) (j : Nat) : List Int := (l.getD j ([], 0)).1
def ctOf (l : List Wt) (j : Nat) : Int := (l.getD j ([], 0)).2
/-- cells that hold weights with counts, two a piece -/
def WRows (w : World) (g o : Nat) (l : List Wt) : Prop :=
  ∀ j, j < l.length → ∃ gj oj cj, w.cell? ⟨g, o + j * 2, none⟩ = some (Value.slice (some ⟨gj, oj, none⟩) ((wOf l j).length) cj) ∧ w.cell? ⟨g, o + j * 2 + 1, none⟩ = some (.int .i64 (ctOf l j)) ∧ (wOf l j).length ≤ cj ∧ gj < w.heap.size ∧ Cells w gj oj (wOf l j)
theorem WRows.below {w w' : World} {g o : Nat} {l : List Wt} (h : WRows w g o l) (hb : Below w.heap.size w w') (hg : g < w.heap.size) : WRows w' g o l := fun j hj => by
  obtain ⟨gj, oj, cj, h1, h2, h3, h4, h5⟩ := h j hj
  exact ⟨gj, oj, cj, (hb.cell (p := ⟨g, o + j * 2, none⟩) hg).trans h1, (hb.cell (p := ⟨g, o + j * 2 + 1, none⟩) hg).trans h2, h3, Nat.lt_of_lt_of_le h4 hb.size, h5.below hb h4⟩
def wFew (l : List Wt) : Prop := l.length ≤ 1048576 ∧ ∀ j, j < l.length → (wOf l j).length ≤ 1048576

/-- the count of a weight in a list: of the first that is equal -/
def countIn : List Wt → List Int → Int
  | [], _ => 0
  | x :: l, v => if x.1 = v then x.2 else countIn l v
theorem countIn_drop (l : List Wt) (v : List Int) (k : Nat) (hk : k < l.length) : countIn (l.drop k) v = if wOf l k = v then ctOf l k else countIn (l.drop (k + 1)) v := by
  have e : l.drop k = l[k] :: l.drop (k + 1) := List.drop_eq_getElem_cons hk
  rw [e]; simp [countIn, wOf, ctOf, List.getD, hk]

set_option maxHeartbeats 2000000 in
theorem impl_CountIn_any (g o n c g2 o2 n2 c2 : Nat) (l : List Wt) (v : List Int) (w : World) (hn : l.length = n) (hn2 : v.length = n2) (hf : wFew l) (hv : v.length ≤ 1048576) (hg : g < w.heap.size) (hg2 : g2 < w.heap.size) (hl : WRows w g o l) (hcv : Cells w g2 o2 v) :
    Calls Try.prog 35 #[(Value.slice (some ⟨g, o, none⟩) n c), (Value.slice (some ⟨g2, o2, none⟩) n2 c2)] w (Gives w (.int .i64 (countIn l v))) := by
  subst hn; subst hn2
  have hfl := hf.1
  go_enter Try.func35, Try.ntmps35
  go_wp2
  go_loopw [6, 9] (fun x i wr => ∃ k : Nat, k ≤ l.length ∧ i = .int .i64 k ∧ Hid (countIn l v = countIn (l.drop k) v) ∧ Below w.heap.size w wr) (fun _ i _ => l.length - (intOf i).toNat)
  case atStart => exact ⟨0, Nat.zero_le _, rfl, rfl, (by repeat (first | with_reducible exact Below.refl _ _ | with_reducible assumption | with_reducible refine below_drewN ?_ _ | with_reducible refine Below.drew ?_ | (with_reducible refine Below.alloc ?_ ?_ _; rotate_left; · first | (simp; done) | (simp; omega) | exact Below.size (by assumption) | (have hsz := Below.size (by assumption : Below _ _ _); simp at hsz ⊢; omega)) | (with_reducible refine Below.setCell ?_ ?_ _; rotate_left; · first | (simp; done) | (simp; omega))))⟩
  case round =>
    obtain ⟨k, hk, rfl, hc, hb⟩ := hrel
    by_cases hlt : k < l.length
    · obtain ⟨gj, oj, cj, q1, q2, q3, q4, q5⟩ := hl.below hb hg k hlt
      have hw := hf.2 k hlt
      have hd : Hid (countIn (l.drop k) v = if wOf l k = v then ctOf l k else countIn (l.drop (k + 1)) v) := countIn_drop l v k hlt
      have Hf := Lib.hid hf; clear hf
      have Hcv := Lib.hid (hcv.below hb hg2); clear hcv
      generalize wOf l k = V at *
      generalize ctOf l k = C at *
      have hbv : ∀ o : Obj, Below wr.heap.size wr (wr.alloc o) := fun o => (Below.refl _ _).alloc (Nat.le_refl _) _
      go_wp2_with fail
      refine (slices_Equal_any gj oj _ cj g2 o2 _ c2 V v _ rfl rfl (by omega) (by omega) (q5.below (hbv _) q4) (Hcv.out.below (hbv _) (Nat.lt_of_lt_of_le hg2 hb.size))).mono ?_
      rintro e w1 ⟨rfl, m1, rfl⟩
      by_cases hVv : V = v
      · have hT : decide (V = v) = true := decide_eq_true hVv
        have HV := Lib.hid hVv; clear hVv
        go_wp2_with fail
        go_ret
        refine ⟨ret_int ?_, (by repeat (first | with_reducible exact Below.refl _ _ | with_reducible assumption | with_reducible refine below_drewN ?_ _ | with_reducible refine Below.drew ?_ | (with_reducible refine Below.alloc ?_ ?_ _; rotate_left; · first | (simp; done) | (simp; omega) | exact Below.size (by assumption) | (have hsz := Below.size (by assumption : Below _ _ _); simp at hsz ⊢; omega)) | (with_reducible refine Below.setCell ?_ ?_ _; rotate_left; · first | (simp; done) | (simp; omega))))⟩
        rw [hc.out, hd.out, if_pos HV.out]
      · have hT : decide (V = v) = false := decide_eq_false hVv
        have HV := Lib.hid hVv; clear hVv
        go_wp2_with fail
        go_roundw
        case rel => exact ⟨k + 1, by omega, by go_num, by show _ = _; rw [hc.out, hd.out, if_neg HV.out], (by repeat (first | with_reducible exact Below.refl _ _ | with_reducible assumption | with_reducible refine below_drewN ?_ _ | with_reducible refine Below.drew ?_ | (with_reducible refine Below.alloc ?_ ?_ _; rotate_left; · first | (simp; done) | (simp; omega) | exact Below.size (by assumption) | (have hsz := Below.size (by assumption : Below _ _ _); simp at hsz ⊢; omega)) | (with_reducible refine Below.setCell ?_ ?_ _; rotate_left; · first | (simp; done) | (simp; omega))))⟩
        case measure => simp [intOf]; omega
    · obtain rfl : k = l.length := by omega
      go_wp2
      go_ret
      refine ⟨ret_int ?_, hb⟩
      rw [hc.out, List.drop_length]; rfl

set_option maxHeartbeats 2000000 in
theorem spec_CountIn_any (g o n c g2 o2 n2 c2 : Nat) (l : List Wt) (v : List Int) (w : World) (hn : l.length = n) (hn2 : v.length = n2) (hf : wFew l) (hl : WRows w g o l) (hcv : Cells w g2 o2 v) :
    Calls Try.prog 31 #[(Value.slice (some ⟨g, o, none⟩) n c), (Value.slice (some ⟨g2, o2, none⟩) n2 c2)] w (Reads w (.int .i64 (countIn l v))) := by
  subst hn; subst hn2
  have hfl := hf.1
  go_enter Try.func31, Try.ntmps31
  go_wp2
  go_loopw [5] (fun i wr => ∃ k : Nat, k ≤ l.length ∧ i = .int .i64 k ∧ Hid (countIn l v = countIn (l.drop k) v) ∧ ∃ m, wr = w.drewN m) (fun i _ => l.length - (intOf i).toNat)
  case atStart => exact ⟨0, Nat.zero_le _, rfl, rfl, (by first | exact ⟨_, rfl⟩ | exact ⟨0, rfl⟩ | exact still2 _ _ _ | exact still3 _ _ _ _)⟩
  case round =>
    obtain ⟨k, hk, rfl, hc, m, rfl⟩ := hrel
    by_cases hlt : k < l.length
    · obtain ⟨gj, oj, cj, q1, q2, q3, q4, q5⟩ := hl k hlt
      have hw := hf.2 k hlt
      have hd : Hid (countIn (l.drop k) v = if wOf l k = v then ctOf l k else countIn (l.drop (k + 1)) v) := countIn_drop l v k hlt
      have Hf := Lib.hid hf; clear hf
      have Hcv := Lib.hid hcv; clear hcv
      generalize wOf l k = V at *
      generalize ctOf l k = C at *
      go_wp2_with fail
      refine (spec_EqualWords_any gj oj _ cj g2 o2 _ c2 V v (w.drewN m) rfl rfl (by omega) q5 Hcv.out).mono ?_
      rintro e w1 ⟨rfl, m1, rfl⟩
      by_cases hVv : V = v
      · have hT : decide (V = v) = true := decide_eq_true hVv
        have HV := Lib.hid hVv; clear hVv
        go_wp2_with fail
        go_ret
        refine ⟨ret_int ?_, (by first | exact ⟨_, rfl⟩ | exact ⟨0, rfl⟩ | exact still2 _ _ _ | exact still3 _ _ _ _)⟩
        rw [hc.out, hd.out, if_pos HV.out]
      · have hT : decide (V = v) = false := decide_eq_false hVv
        have HV := Lib.hid hVv; clear hVv
        go_wp2_with fail
        go_roundw
        case rel => exact ⟨k + 1, by omega, by go_num, by show _ = _; rw [hc.out, hd.out, if_neg HV.out], (by first | exact ⟨_, rfl⟩ | exact ⟨0, rfl⟩ | exact still2 _ _ _ | exact still3 _ _ _ _)⟩
        case measure => simp [intOf]; omega
    · obtain rfl : k = l.length := by omega
      go_wp2
      go_ret
      refine ⟨ret_int ?_, m, rfl⟩
      rw [hc.out, List.drop_length]; rfl
end Go.Proofs.Ytplglmimjhhilaa
