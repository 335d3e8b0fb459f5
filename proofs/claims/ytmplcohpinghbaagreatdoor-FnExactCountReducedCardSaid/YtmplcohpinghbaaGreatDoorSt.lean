/- States of the automaton: the search as a function; keys of states. Plain law. -/
import Derived.Test.YtmplcohpinghbaaGreatDoorAut
import Derived.Lib.Join
import Derived.Lib.ItoaNum
namespace Go.Proofs.YtmplcohpinghbaaGreatDoor
open Go.RowKit
open Go.Lib (join join_cons joinTail decDigits)

theorem idxFrom_app_in {v : List Int} {M : List (List Int)} : ∀ {L : List (List Int)} {k : Nat}, v ∈ L → idxFrom (L ++ M) v k = idxFrom L v k
  | [], k, h => by simp at h
  | x :: L, k, h => by
    simp only [List.cons_append, idxFrom]
    by_cases e : x = v
    · rw [if_pos e, if_pos e]
    · rw [if_neg e, if_neg e]
      exact idxFrom_app_in ((List.mem_cons.1 h).resolve_left (fun g => e g.symm))
theorem idxL_app {v : List Int} {L M : List (List Int)} (h : v ∈ L) : idxL (L ++ M) v = idxL L v := idxFrom_app_in h

/-! ### keys -/
theorem dig1 {u : Nat} (h : u < 10) : decDigits u = [UInt8.ofNat (48 + u)] := by rw [decDigits, dif_pos h]
theorem dig2 {u : Nat} (h : 10 ≤ u) (h2 : u < 100) : decDigits u = [UInt8.ofNat (48 + u / 10), UInt8.ofNat (48 + u % 10)] := by
  rw [decDigits, dif_neg (by omega), dig1 (by omega)]; rfl
theorem u8_inj {a b : Nat} (ha : a < 256) (hb : b < 256) (h : UInt8.ofNat a = UInt8.ofNat b) : a = b := by
  have := congrArg UInt8.toNat h
  simp [UInt8.toNat_ofNat'] at this
  omega
theorem dig_len {u : Nat} (h : u < 100) : 1 ≤ (decDigits u).length ∧ (decDigits u).length ≤ 2 := by
  by_cases h1 : u < 10
  · rw [dig1 h1]; simp
  · rw [dig2 (by omega) h]; simp
theorem dig_inj {u v : Nat} (hu : u < 100) (hv : v < 100) (h : decDigits u = decDigits v) : u = v := by
  by_cases h1 : u < 10
  · by_cases h2 : v < 10
    · rw [dig1 h1, dig1 h2] at h
      have := u8_inj (by omega) (by omega) (List.cons.inj h).1
      omega
    · rw [dig1 h1, dig2 (by omega) hv] at h
      simp at h
  · by_cases h2 : v < 10
    · rw [dig2 (by omega) hu, dig1 h2] at h
      simp at h
    · rw [dig2 (by omega) hu, dig2 (by omega) hv] at h
      have e1 := u8_inj (by omega) (by omega) (List.cons.inj h).1
      have e2 := u8_inj (by omega) (by omega) (List.cons.inj (List.cons.inj h).2).1
      omega
theorem dig_no {u : Nat} (h : u < 100) : ∀ c ∈ decDigits u, c ≠ 44 := by
  have key : ∀ a : Nat, 48 ≤ a → a < 58 → UInt8.ofNat a ≠ 44 := fun a h1 h2 e => by
    have := u8_inj (a := a) (b := 44) (by omega) (by omega) e
    omega
  intro c hc
  by_cases h1 : u < 10
  · rw [dig1 h1, List.mem_singleton] at hc
    subst hc
    exact key _ (by omega) (by omega)
  · rw [dig2 (by omega) h, List.mem_cons, List.mem_singleton] at hc
    rcases hc with rfl | rfl
    · exact key _ (by omega) (by omega)
    · exact key _ (by omega) (by omega)
/-- the key of a state: its numbers with commas between them -/
def keyS (st : List Int) : List UInt8 := join (st.map fun x => decDigits x.toNat) [44]
def OkS (st : List Int) : Prop := ∀ x ∈ st, 0 ≤ x ∧ x < 100
theorem cut_comma : ∀ {x y s t : List UInt8}, (∀ c ∈ x, c ≠ 44) → (∀ c ∈ y, c ≠ 44) → (s = [] ∨ ∃ s', s = 44 :: s') → (t = [] ∨ ∃ t', t = 44 :: t') → x ++ s = y ++ t → x = y ∧ s = t
  | [], [], s, t, _, _, _, _, h => ⟨rfl, h⟩
  | [], c :: y, s, t, _, hy, hs, _, h => by
    rcases hs with rfl | ⟨s', rfl⟩
    · simp at h
    · simp only [List.nil_append, List.cons_append, List.cons.injEq] at h
      exact absurd h.1.symm (hy c (by simp))
  | c :: x, [], s, t, hx, _, _, ht, h => by
    rcases ht with rfl | ⟨t', rfl⟩
    · simp at h
    · simp only [List.nil_append, List.cons_append, List.cons.injEq] at h
      exact absurd h.1 (hx c (by simp))
  | c :: x, d :: y, s, t, hx, hy, hs, ht, h => by
    simp only [List.cons_append, List.cons.injEq] at h
    obtain ⟨h1, h2⟩ := cut_comma (fun z hz => hx z (List.mem_cons_of_mem _ hz)) (fun z hz => hy z (List.mem_cons_of_mem _ hz)) hs ht h.2
    exact ⟨by rw [h.1, h1], h2⟩
theorem tail_form (r : List (List UInt8)) : joinTail [44] r = [] ∨ ∃ s', joinTail [44] r = 44 :: s' := by
  cases r with
  | nil => exact .inl rfl
  | cons y r => exact .inr ⟨y ++ joinTail [44] r, by simp [joinTail]⟩
theorem tail_inj : ∀ {a b : List Int}, OkS a → OkS b → joinTail [44] (a.map fun x => decDigits x.toNat) = joinTail [44] (b.map fun x => decDigits x.toNat) → a = b
  | [], [], _, _, _ => rfl
  | [], y :: b, _, _, h => by simp [joinTail] at h
  | x :: a, [], _, _, h => by simp [joinTail] at h
  | x :: a, y :: b, ha, hb, h => by
    have hx := ha x (by simp)
    have hy := hb y (by simp)
    have e : ∀ (z : Int) (l : List Int), joinTail [44] ((z :: l).map fun x => decDigits x.toNat) = 44 :: (decDigits z.toNat ++ joinTail [44] (l.map fun x => decDigits x.toNat)) := fun z l => by simp [joinTail]
    rw [e, e, List.cons.injEq] at h
    obtain ⟨h1, h2⟩ := cut_comma (dig_no (by omega)) (dig_no (by omega)) (tail_form _) (tail_form _) h.2
    have e1 := dig_inj (by omega) (by omega) h1
    rw [show x = y by omega, tail_inj (fun z hz => ha z (List.mem_cons_of_mem _ hz)) (fun z hz => hb z (List.mem_cons_of_mem _ hz)) h2]
theorem keyS_cons (x : Int) (r : List Int) : keyS (x :: r) = decDigits x.toNat ++ joinTail [44] (r.map fun x => decDigits x.toNat) := by
  unfold keyS; rw [List.map_cons, join_cons]
theorem keyS_inj : ∀ {a b : List Int}, OkS a → OkS b → keyS a = keyS b → a = b
  | [], [], _, _, _ => rfl
  | [], y :: b, _, hb, h => by
    have hy := hb y (by simp)
    rw [keyS_cons] at h
    have := congrArg List.length h
    have h0 := dig_len (u := y.toNat) (by omega)
    have e0 : (keyS []).length = 0 := rfl
    rw [List.length_append] at this
    omega
  | x :: a, [], ha, _, h => by
    have hx := ha x (by simp)
    rw [keyS_cons] at h
    have := congrArg List.length h
    have h0 := dig_len (u := x.toNat) (by omega)
    have e0 : (keyS []).length = 0 := rfl
    rw [List.length_append] at this
    omega
  | x :: a, y :: b, ha, hb, h => by
    have hx := ha x (by simp)
    have hy := hb y (by simp)
    rw [keyS_cons, keyS_cons] at h
    obtain ⟨h1, h2⟩ := cut_comma (dig_no (by omega)) (dig_no (by omega)) (tail_form _) (tail_form _) h
    have e1 := dig_inj (by omega) (by omega) h1
    rw [show x = y by omega, tail_inj (fun z hz => ha z (List.mem_cons_of_mem _ hz)) (fun z hz => hb z (List.mem_cons_of_mem _ hz)) h2]
theorem tail_len : ∀ {a : List Int}, OkS a → (joinTail [44] (a.map fun x => decDigits x.toNat)).length ≤ 3 * a.length
  | [], _ => by simp [joinTail]
  | x :: a, h => by
    have hx := h x (by simp)
    have h0 := dig_len (u := x.toNat) (by omega)
    have h1 := tail_len (a := a) (fun z hz => h z (List.mem_cons_of_mem _ hz))
    have e : joinTail [44] ((x :: a).map fun x => decDigits x.toNat) = 44 :: (decDigits x.toNat ++ joinTail [44] (a.map fun x => decDigits x.toNat)) := by simp [joinTail]
    rw [e, List.length_cons, List.length_append, List.length_cons]
    omega
theorem keyS_len {a : List Int} (h : OkS a) : (keyS a).length ≤ 3 * a.length := by
  cases a with
  | nil => simp [keyS, Go.Lib.join_nil]
  | cons x a =>
    have hx := h x (by simp)
    have h0 := dig_len (u := x.toNat) (by omega)
    have h1 := tail_len (a := a) (fun z hz => h z (List.mem_cons_of_mem _ hz))
    rw [keyS_cons, List.length_append, List.length_cons]
    omega
theorem FineS.ok {m : Nat} {st : List Int} (h : FineS m st) (hm : m ≤ 100) : OkS st := fun x hx => by have := h.2 x hx; omega

/-! ### the search -/
def stStep (c S : List (List Int)) (Q : List (List Int)) (k i : Nat) : List (List Int) :=
  if ownI c S i ∈ Q.getD k [] then Q else if nextL c S i (Q.getD k []) ∈ Q then Q else Q ++ [nextL c S i (Q.getD k [])]
def stRow (c S : List (List Int)) (Q : List (List Int)) (k : Nat) : Nat → List (List Int)
  | 0 => Q
  | i + 1 => stStep c S (stRow c S Q k i) k i
def stGo (c S : List (List Int)) : Nat → Nat → List (List Int) → Option (List (List Int))
  | 0, k, Q => if Q.length ≤ k then some Q else none
  | f + 1, k, Q => if Q.length ≤ k then some Q else if 100 < (stRow c S Q k c.length).length then none else stGo c S f (k + 1) (stRow c S Q k c.length)
def statesR (c S : List (List Int)) : Option (List (List Int)) := stGo c S 101 0 [[]]
/-- where letters lead to from a state; -1 where a letter is not read -/
def mvS (c S R : List (List Int)) (st : List Int) (i : Nat) : Int := if ownI c S i ∈ st then -1 else idxL R (nextL c S i st)
structure StOk (S Q : List (List Int)) : Prop where
  nodup : Q.Nodup
  fine : ∀ st ∈ Q, FineS S.length st
section
variable {c S Q : List (List Int)} {k i : Nat}
theorem stStep_pre : ∃ L, stStep c S Q k i = Q ++ L := by
  unfold stStep
  split
  · exact ⟨[], by simp⟩
  · split
    · exact ⟨[], by simp⟩
    · exact ⟨_, rfl⟩
theorem stStep_le : (stStep c S Q k i).length ≤ Q.length + 1 := by
  unfold stStep
  split
  · omega
  · split
    · omega
    · simp
theorem stRow_pre : ∀ i j, i ≤ j → ∃ L, stRow c S Q k j = stRow c S Q k i ++ L
  | i, 0, h => by
    obtain rfl : i = 0 := by omega
    exact ⟨[], by simp⟩
  | i, j + 1, h => by
    by_cases e : i = j + 1
    · subst e; exact ⟨[], by simp⟩
    · obtain ⟨L, hL⟩ := stRow_pre i j (by omega)
      obtain ⟨M, hM⟩ := stStep_pre (c := c) (S := S) (Q := stRow c S Q k j) (k := k) (i := j)
      exact ⟨L ++ M, by simp only [stRow]; rw [hM, hL, List.append_assoc]⟩
theorem stRow_le : ∀ i, (stRow c S Q k i).length ≤ Q.length + i
  | 0 => by simp [stRow]
  | i + 1 => by
    have h1 := stRow_le i
    have h2 := stStep_le (c := c) (S := S) (Q := stRow c S Q k i) (k := k) (i := i)
    simp only [stRow]
    omega
theorem stRow_getD (hk : k < Q.length) (i : Nat) : (stRow c S Q k i).getD k [] = Q.getD k [] := by
  obtain ⟨L, hL⟩ := stRow_pre (c := c) (S := S) (Q := Q) (k := k) 0 i (Nat.zero_le _)
  rw [hL]
  simp only [stRow, List.getD]
  rw [List.getElem?_append_left hk]
theorem stStep_mem (h : ownI c S i ∉ Q.getD k []) : nextL c S i (Q.getD k []) ∈ stStep c S Q k i := by
  unfold stStep
  rw [if_neg h]
  split
  · assumption
  · simp
theorem StOk.step (h : StOk S Q) (hi : simpL c.length i ∈ S) : StOk S (stStep c S Q k i) := by
  unfold stStep
  split
  · exact h
  · split
    · exact h
    · rename_i h2
      refine ⟨?_, fun st hs => ?_⟩
      · rw [List.nodup_append]
        exact ⟨h.nodup, by simp, fun a ha b hb e => by rw [List.mem_singleton] at hb; subst hb; subst e; exact h2 ha⟩
      · rcases List.mem_append.1 hs with g | g
        · exact h.fine st g
        · rw [List.mem_singleton] at g; subst g; exact nextL_fine hi
theorem StOk.row (h : StOk S Q) (hS : SmallOk c S) : ∀ i, i ≤ c.length → StOk S (stRow c S Q k i)
  | 0, _ => h
  | i + 1, hi => (StOk.row h hS i (by omega)).step (hS.simp' i (by omega))
theorem StOk.start (S : List (List Int)) : StOk S [[]] := ⟨by simp, fun st h => by rw [List.mem_singleton] at h; subst h; exact FineS.nil _⟩
theorem stGo_next {f : Nat} (hk : k < Q.length) (hl : (stRow c S Q k c.length).length ≤ 100) : stGo c S (f + 1) k Q = stGo c S f (k + 1) (stRow c S Q k c.length) := by
  simp only [stGo]
  rw [if_neg (by omega), if_neg (by omega)]
theorem stGo_over {f : Nat} (hk : k < Q.length) (hl : 100 < (stRow c S Q k c.length).length) : stGo c S (f + 1) k Q = none := by
  simp only [stGo]
  rw [if_neg (by omega), if_pos hl]
theorem stGo_done {f : Nat} (hk : Q.length ≤ k) : stGo c S f k Q = some Q := by
  cases f <;> simp only [stGo] <;> rw [if_pos hk]
theorem stGo_pre : ∀ (f k : Nat) (Q R : List (List Int)), stGo c S f k Q = some R → ∃ L, R = Q ++ L
  | 0, k, Q, R, e => by
    simp only [stGo] at e
    split at e
    · cases e; exact ⟨[], by simp⟩
    · cases e
  | f + 1, k, Q, R, e => by
    simp only [stGo] at e
    split at e
    · cases e; exact ⟨[], by simp⟩
    · split at e
      · cases e
      · obtain ⟨L, hL⟩ := stGo_pre f (k + 1) _ R e
        obtain ⟨M, hM⟩ := stRow_pre (c := c) (S := S) (Q := Q) (k := k) 0 c.length (Nat.zero_le _)
        exact ⟨M ++ L, by rw [hL, hM]; simp [stRow]⟩
theorem stGo_rowPre {f : Nat} {R : List (List Int)} (hk : k < Q.length) (hi : i ≤ c.length) (e : stGo c S (f + 1) k Q = some R) : ∃ L, R = stRow c S Q k i ++ L := by
  by_cases hl : (stRow c S Q k c.length).length ≤ 100
  · rw [stGo_next hk hl] at e
    obtain ⟨L, hL⟩ := stGo_pre f (k + 1) _ R e
    obtain ⟨M, hM⟩ := stRow_pre (c := c) (S := S) (Q := Q) (k := k) i c.length hi
    exact ⟨M ++ L, by rw [hL, hM, List.append_assoc]⟩
  · rw [stGo_over hk (by omega)] at e; cases e
theorem StOk.go (hS : SmallOk c S) : ∀ (f k : Nat) (Q R : List (List Int)), StOk S Q → Q.length ≤ 100 → stGo c S f k Q = some R → StOk S R ∧ R.length ≤ 100
  | 0, k, Q, R, h, hl, e => by
    simp only [stGo] at e
    split at e
    · cases e; exact ⟨h, hl⟩
    · cases e
  | f + 1, k, Q, R, h, hl, e => by
    simp only [stGo] at e
    split at e
    · cases e; exact ⟨h, hl⟩
    · split at e
      · cases e
      · exact StOk.go hS f (k + 1) _ R (h.row hS _ (Nat.le_refl _)) (by omega) e
theorem statesR_ok (hS : SmallOk c S) {R : List (List Int)} (e : statesR c S = some R) : StOk S R ∧ R.length ≤ 100 ∧ ∃ L, R = [] :: L := by
  obtain ⟨h1, h2⟩ := StOk.go hS 101 0 [[]] R (StOk.start S) (by simp) e
  obtain ⟨L, hL⟩ := stGo_pre 101 0 [[]] R e
  exact ⟨h1, h2, L, hL⟩
end
end Go.Proofs.YtmplcohpinghbaaGreatDoor
