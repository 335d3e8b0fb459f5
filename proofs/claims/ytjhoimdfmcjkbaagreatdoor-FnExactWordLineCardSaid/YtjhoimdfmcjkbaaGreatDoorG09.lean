/- Comparisons of integers, of lists, of words: contracts. Membership in a list of rows: the reference's. -/
import Derived.Test.YtjhoimdfmcjkbaaGreatDoorG08
namespace Go.Proofs.YtjhoimdfmcjkbaaGreatDoor
set_option maxRecDepth 100000
open Go.RowKit Game

def cmpI (x y : Int) : Int := if x < y then -1 else if y < x then 1 else 0
def sliceCmp : List Int → List Int → Int
  | [], [] => 0
  | [], _ :: _ => -1
  | _ :: _, [] => 1
  | x :: a, y :: b => if x < y then -1 else if y < x then 1 else sliceCmp a b
theorem sliceCmp_same : ∀ {a b : List Int}, a.length = b.length → sliceCmp a b = lexCmp a b
  | [], [], _ => rfl
  | [], _ :: _, h => by simp at h
  | _ :: _, [], h => by simp at h
  | x :: a, y :: b, h => by simp only [sliceCmp, lexCmp]; rw [sliceCmp_same (by simpa using h)]
theorem sliceCmp_drop {a b : List Int} {k : Nat} (h1 : k < a.length) (h2 : k < b.length) : sliceCmp (a.drop k) (b.drop k) = if a[k] < b[k] then -1 else if b[k] < a[k] then 1 else sliceCmp (a.drop (k + 1)) (b.drop (k + 1)) := by
  have e1 : a.drop k = a[k] :: a.drop (k + 1) := List.drop_eq_getElem_cons h1
  have e2 : b.drop k = b[k] :: b.drop (k + 1) := List.drop_eq_getElem_cons h2
  rw [e1, e2]; rfl
def orL : List Int → Int
  | [] => 0
  | x :: l => if x = 0 then orL l else x
theorem orL_drop {l : List Int} {k : Nat} (h : k < l.length) : orL (l.drop k) = if l[k] = 0 then orL (l.drop (k + 1)) else l[k] := by
  rw [List.drop_eq_getElem_cons h]; rfl
theorem or_words (xs ys : List Int) : orL [cmpI xs.length ys.length, sliceCmp xs ys] = wordCmp xs ys := by
  have hc : cmpI xs.length ys.length = if xs.length < ys.length then -1 else if ys.length < xs.length then 1 else 0 := by unfold cmpI; simp
  rw [hc]
  unfold wordCmp
  by_cases h1 : xs.length < ys.length
  · rw [if_pos h1, if_pos h1]; rfl
  · rw [if_neg h1, if_neg h1]
    by_cases h2 : ys.length < xs.length
    · rw [if_pos h2, if_pos h2]; rfl
    · rw [if_neg h2, if_neg h2, sliceCmp_same (by omega)]
      simp only [orL, if_true]
      split
      · rename_i h; exact h.symm
      · rfl
/-- the call gives a value; it may draw and lay blocks -/
def Lays (w : World) (v : Value) (e : Ending) (w' : World) : Prop := e = .returned v ∧ ∃ (o : Obj) (q : Nat), w' = (w.alloc o).drewN q
/-- the comparison of lists, either way round -/
theorem sliceCmp_anti : ∀ (a b : List Int), sliceCmp b a = - sliceCmp a b
  | [], [] => rfl
  | [], _ :: _ => rfl
  | _ :: _, [] => rfl
  | x :: a, y :: b => by
    simp only [sliceCmp]
    by_cases h1 : x < y
    · rw [if_pos h1, if_neg (by omega), if_pos h1]; rfl
    · by_cases h2 : y < x
      · rw [if_pos h2, if_neg h1, if_pos h2]
      · rw [if_neg h2, if_neg h1, if_neg h1, if_neg h2]; exact sliceCmp_anti a b
theorem sliceCmp_trans : ∀ (a b d : List Int), sliceCmp a b < 0 → sliceCmp b d < 0 → sliceCmp a d < 0
  | [], [], _, h, _ => by simp [sliceCmp] at h
  | [], _ :: _, [], _, h => by simp [sliceCmp] at h
  | [], _ :: _, _ :: _, _, _ => by simp [sliceCmp]
  | _ :: _, [], _, h, _ => by simp [sliceCmp] at h
  | _ :: _, _ :: _, [], _, h => by simp [sliceCmp] at h
  | x :: a, y :: b, z :: d, h1, h2 => by
    have ih := sliceCmp_trans a b d
    simp only [sliceCmp] at *
    split at h1 <;> split at h2 <;> (try split at h1) <;> (try split at h2) <;> (try split) <;> (try split) <;> first | omega | (exact ih h1 h2)
theorem sliceCmp_zero : ∀ {a b : List Int}, sliceCmp a b = 0 → a = b
  | [], [], _ => rfl
  | [], _ :: _, h => by simp [sliceCmp] at h
  | _ :: _, [], h => by simp [sliceCmp] at h
  | x :: a, y :: b, h => by
    simp only [sliceCmp] at h
    split at h
    · omega
    · split at h
      · omega
      · have : x = y := by omega
        rw [this, sliceCmp_zero h]
theorem sliceCmp_self (a : List Int) : sliceCmp a a = 0 := by have := sliceCmp_anti a a; omega
theorem wordCmp_same {a b : List Int} (h : a.length = b.length) : wordCmp a b = sliceCmp a b := by
  unfold wordCmp
  rw [if_neg (by omega), if_neg (by omega), sliceCmp_same h]

/-- lists in strict order are told by their members -/
theorem strict_uniq {cf : List Int → List Int → Int} (anti : ∀ a b, cf b a = - cf a b) : ∀ {L M : List (List Int)}, L.Pairwise (fun a b => cf a b < 0) → M.Pairwise (fun a b => cf a b < 0) → (∀ x, x ∈ L ↔ x ∈ M) → L = M
  | [], [], _, _, _ => rfl
  | [], y :: M, _, _, h => by have := (h y).2 (by simp); simp at this
  | x :: L, [], _, _, h => by have := (h x).1 (by simp); simp at this
  | x :: L, y :: M, hL, hM, h => by
    have hL' := List.pairwise_cons.1 hL
    have hM' := List.pairwise_cons.1 hM
    have e : x = y := by
      rcases List.mem_cons.1 ((h x).1 (by simp)) with e | e
      · exact e
      · rcases List.mem_cons.1 ((h y).2 (by simp)) with e2 | e2
        · exact e2.symm
        · have h1 := hM'.1 x e
          have h2 := hL'.1 y e2
          have := anti x y
          omega
    subst e
    refine congrArg (x :: ·) (strict_uniq anti hL'.2 hM'.2 fun z => ?_)
    have hs := anti x x
    have hx : x ∉ L := fun hm => by have := hL'.1 x hm; omega
    have hy : x ∉ M := fun hm => by have := hM'.1 x hm; omega
    have hz := h z
    simp only [List.mem_cons] at hz
    constructor
    · intro hm
      rcases hz.1 (.inr hm) with e | e
      · subst e; exact absurd hm hx
      · exact e
    · intro hm
      rcases hz.2 (.inr hm) with e | e
      · subst e; exact absurd hm hy
      · exact e
theorem strict_of {cf : List Int → List Int → Int} (anti : ∀ a b, cf b a = - cf a b) (zero : ∀ {a b}, cf a b = 0 → a = b) {L : List (List Int)} (h : L.Pairwise fun a b => ¬ cf b a < 0) (hn : L.Nodup) : L.Pairwise fun a b => cf a b < 0 := by
  refine List.Pairwise.imp ?_ (List.Pairwise.and h hn)
  intro a b ⟨h1, h2⟩
  have h3 := anti a b
  rcases Int.lt_trichotomy (cf a b) 0 with h | h | h
  · exact h
  · exact absurd (zero h) h2
  · omega
end Go.Proofs.YtjhoimdfmcjkbaaGreatDoor
namespace Go.Proofs.YtjhoimdfmcjkbaaGreatDoor
set_option maxRecDepth 100000
open Go.RowKit Game

def inTo (l : List (List Int)) (r : List Int) (k : Nat) : Prop := ∀ j, j < k → l.getD j [] ≠ r
theorem inTo_all {l : List (List Int)} {r : List Int} (h : inTo l r l.length) : decide (r ∈ l) = false := by
  apply decide_eq_false
  intro hm
  obtain ⟨t, ht, e⟩ := List.mem_iff_getElem.1 hm
  exact h t ht (by simp [List.getD, ht, e])
theorem inTo_some {l : List (List Int)} {r : List Int} {k : Nat} (hk : k < l.length) (h : l.getD k [] = r) : decide (r ∈ l) = true := by
  apply decide_eq_true
  rw [← h]; simp [List.getD, hk]
set_option maxHeartbeats 2000000 in
theorem spec_l7In_any (g o n cp g1 o1 n1 c1 : Nat) (l : List (List Int)) (r : List Int) (w : World) (hn : l.length = n) (hn1 : r.length = n1) (hl : l.length ≤ 1048576) (hrl : ∀ j, j < l.length → (l.getD j []).length ≤ 1048576)
    (hr : Rows2 w g o l) (hc1 : Cells w g1 o1 r) :
    Calls Tryz.prog 39 #[(Value.slice (some ⟨g, o, none⟩) n cp), (Value.slice (some ⟨g1, o1, none⟩) n1 c1)] w (Reads w (.bool (decide (r ∈ l)))) := by
  subst hn; subst hn1
  go_enter Tryz.func39, Tryz.ntmps39
  go_wp2
  go_loopw [5] (fun i wr => ∃ k : Nat, k ≤ l.length ∧ i = .int .i64 k ∧ Hid (inTo l r k) ∧ ∃ m, wr = w.drewN m) (fun i _ => l.length - (intOf i).toNat)
  case atStart => exact ⟨0, Nat.zero_le _, rfl, fun j hj => absurd hj (by omega), (by first | exact ⟨_, rfl⟩ | exact ⟨0, rfl⟩ | exact still2 _ _ _ | exact still3 _ _ _ _)⟩
  case round =>
    obtain ⟨k, hk, rfl, hin, m, rfl⟩ := hrel
    by_cases hlt : k < l.length
    · obtain ⟨gj, oj, cj, q1, q2, q3, q4⟩ := hr k hlt
      have hlk := hrl k hlt
      have HY : Hid (l.getD k [] ≠ r → inTo l r (k + 1)) := fun h j hj => by
        by_cases e : j = k
        · subst e; exact h
        · exact hin.out j (by omega)
      have HX : Hid (l.getD k [] = r → decide (r ∈ l) = true) := inTo_some hlt
      generalize l.getD k [] = x at *
      have hcall := spec_EqualWords_any gj oj x.length cj g1 o1 r.length c1 x r (w.drewN m) rfl rfl (by omega) q4 hc1
      by_cases e : x = r
      · have hd := HX.out e
        rw [decide_eq_true e] at hcall
        have Hd := Lib.hid hd; have He := Lib.hid e; have Hcall := Lib.hid hcall
        clear hd hcall e
        go_wp2_with fail
        refine Hcall.out.mono ?_
        rintro e w2 ⟨rfl, m2, rfl⟩
        go_wp2_with fail
        go_ret
        exact ⟨ret_bool Hd.out.symm, (by first | exact ⟨_, rfl⟩ | exact ⟨0, rfl⟩ | exact still2 _ _ _ | exact still3 _ _ _ _)⟩
      · have hd := HY.out e
        rw [decide_eq_false e] at hcall
        have Hd := Lib.hid hd; have He := Lib.hid e; have Hcall := Lib.hid hcall
        clear hd hcall e
        go_wp2_with fail
        refine Hcall.out.mono ?_
        rintro e w2 ⟨rfl, m2, rfl⟩
        go_wp2_with fail
        go_roundw
        case rel => exact ⟨k + 1, by omega, by go_num, Hd.out, (by first | exact ⟨_, rfl⟩ | exact ⟨0, rfl⟩ | exact still2 _ _ _ | exact still3 _ _ _ _)⟩
        case measure => simp [intOf]; omega
    · obtain rfl : k = l.length := by omega
      have hf := inTo_all hin.out
      have Hf := Lib.hid hf; clear hf
      go_wp2
      go_ret
      exact ⟨ret_bool Hf.out.symm, (by first | exact ⟨_, rfl⟩ | exact ⟨0, rfl⟩ | exact still2 _ _ _ | exact still3 _ _ _ _)⟩
end Go.Proofs.YtjhoimdfmcjkbaaGreatDoor
