/- Small roots: what both searches find. Plain law. Roots: pairings, mirrors, heights, the order: contracts. Positive roots of finite types, up to height 12: the search as a function; by enumeration it is closed at every finite type. Plain law. Positive roots of finite types: what is closed and holds the simple ones is all. Plain law. RootSign of both: contracts. In how many ways a vector is a sum of roots. Plain law. Mirrored roots: contracts. -/
import Derived.Test.YtnpechcnmchneaaGreatDoorG28
import Derived.Test.YtnpechcnmchneaaGreatDoorG02
import Derived.Test.YtnpechcnmchneaaGreatDoorG21
import Derived.Test.YtnpechcnmchneaaGreatDoorG20
import Derived.Test.YtnpechcnmchneaaGreatDoorG08
import Derived.Deep.RegionWith
namespace Go.Proofs.YtnpechcnmchneaaGreatDoor
set_option maxRecDepth 100000
open Go.RowKit

/-- sums of products, as the machine makes them -/
def dotTo (a r : List Int) : Nat → Int
  | 0 => 0
  | k + 1 => wrap64 (dotTo a r k + wrap64 (a.getD k 0 * r.getD k 0))
def pairL (a r : List Int) : Int := dotTo a r r.length
def mirL (c : List (List Int)) (i : Nat) (r : List Int) : List Int := r.set i (wrap64 (r.getD i 0 - pairL (c.getD i []) r))
def simpL (n i : Nat) : List Int := (List.replicate n 0).set i 1
def transL (c : List (List Int)) : List (List Int) := (List.range c.length).map fun i => (List.range c.length).map fun j => ent c j i
def sumUp (r : List Int) : Nat → Int
  | 0 => 0
  | k + 1 => wrap64 (sumUp r k + r.getD k 0)
def heightL (r : List Int) : Int := sumUp r r.length
theorem mirL_length (c : List (List Int)) (i : Nat) (r : List Int) : (mirL c i r).length = r.length := by simp [mirL]
theorem simpL_length (n i : Nat) : (simpL n i).length = n := by simp [simpL]
theorem transL_length (c : List (List Int)) : (transL c).length = c.length := by simp [transL]
theorem transL_row {c : List (List Int)} {i : Nat} (hi : i < c.length) : (transL c).getD i [] = (List.range c.length).map fun j => ent c j i := by simp [transL, List.getD, hi]
theorem transL_rowLen {c : List (List Int)} {i : Nat} (hi : i < c.length) : ((transL c).getD i []).length = c.length := by rw [transL_row hi]; simp

/-- by height, then greater ones first -/
def rootCmp (a b : List Int) : Int := orL [cmpI (heightL a) (heightL b), sliceCmp b a]
theorem cmpI_anti (x y : Int) : cmpI y x = - cmpI x y := by
  unfold cmpI
  by_cases h1 : x < y
  · rw [if_pos h1, if_neg (by omega), if_pos h1]; rfl
  · by_cases h2 : y < x
    · rw [if_pos h2, if_neg h1, if_pos h2]
    · rw [if_neg h2, if_neg h1, if_neg h1, if_neg h2]; rfl
theorem cmpI_zero {x y : Int} (h : cmpI x y = 0) : x = y := by
  unfold cmpI at h
  split at h
  · omega
  · split at h
    · omega
    · omega
theorem cmpI_neg {x y : Int} : cmpI x y < 0 ↔ x < y := by
  unfold cmpI
  split
  · rename_i h; exact ⟨fun _ => h, fun _ => by omega⟩
  · split
    · exact ⟨fun h => by omega, fun h => by omega⟩
    · exact ⟨fun h => by omega, fun h => by omega⟩
theorem rootCmp_def (a b : List Int) : rootCmp a b = if cmpI (heightL a) (heightL b) = 0 then sliceCmp b a else cmpI (heightL a) (heightL b) := by
  unfold rootCmp
  simp only [orL]
  split
  · split
    · rename_i h; exact h.symm
    · rfl
  · rfl
theorem rootCmp_anti (a b : List Int) : rootCmp b a = - rootCmp a b := by
  rw [rootCmp_def, rootCmp_def]
  have h1 := cmpI_anti (heightL a) (heightL b)
  have h2 := sliceCmp_anti a b
  by_cases h : cmpI (heightL a) (heightL b) = 0
  · rw [if_pos (by omega), if_pos h]; omega
  · rw [if_neg (by omega), if_neg h]; omega
theorem rootCmp_zero {a b : List Int} (h : rootCmp a b = 0) : a = b := by
  rw [rootCmp_def] at h
  split at h
  · exact (sliceCmp_zero h).symm
  · rename_i g; exact absurd h g
theorem rootCmp_trans {a b d : List Int} (h1 : rootCmp a b < 0) (h2 : rootCmp b d < 0) : rootCmp a d < 0 := by
  rw [rootCmp_def] at *
  have k1 := @cmpI_neg (heightL a) (heightL b)
  have k2 := @cmpI_neg (heightL b) (heightL d)
  have k3 := @cmpI_neg (heightL a) (heightL d)
  split at h1
  · rename_i g1
    have e1 := cmpI_zero g1
    split at h2
    · rename_i g2
      have e2 := cmpI_zero g2
      rw [if_pos (by rw [e1, e2]; unfold cmpI; simp)]
      exact sliceCmp_trans _ _ _ h2 h1
    · have := k2.1 h2
      rw [if_neg (by intro h; have := cmpI_zero h; omega)]
      exact k3.2 (by omega)
  · have := k1.1 h1
    split at h2
    · rename_i g2
      have e2 := cmpI_zero g2
      rw [if_neg (by intro h; have := cmpI_zero h; omega)]
      exact k3.2 (by omega)
    · have := k2.1 h2
      rw [if_neg (by intro h; have := cmpI_zero h; omega)]
      exact k3.2 (by omega)
theorem rootCmp_self (a : List Int) : rootCmp a a = 0 := by have := rootCmp_anti a a; omega
/-- the reference's insertion -/
def putR : List (List Int) → List Int → List (List Int)
  | [], v => [v]
  | x :: l, v => if rootCmp v x < 0 then v :: x :: l else x :: putR l v
theorem mem_putR {x : List Int} : ∀ {l : List (List Int)} {v : List Int}, x ∈ putR l v ↔ x = v ∨ x ∈ l
  | [], v => by simp [putR]
  | y :: l, v => by
    unfold putR
    by_cases h2 : rootCmp v y < 0
    · rw [if_pos h2]; simp
    · rw [if_neg h2, List.mem_cons, mem_putR (l := l), List.mem_cons]
      constructor
      · rintro (h | h | h)
        · exact .inr (.inl h)
        · exact .inl h
        · exact .inr (.inr h)
      · rintro (h | h | h)
        · exact .inr (.inl h)
        · exact .inl h
        · exact .inr (.inr h)
theorem putR_length (l : List (List Int)) (v : List Int) : (putR l v).length = l.length + 1 := by
  induction l with
  | nil => simp [putR]
  | cons y l ih =>
    unfold putR
    split
    · simp
    · simp [ih]
def Up (L : List (List Int)) : Prop := L.Pairwise fun a b => rootCmp a b < 0
theorem putR_up : ∀ {l : List (List Int)} {v : List Int}, v ∉ l → Up l → Up (putR l v)
  | [], v, _, _ => List.pairwise_singleton _ _
  | y :: l, v, hv, h => by
    have h0 := List.pairwise_cons.1 h
    unfold putR
    have ha := rootCmp_anti v y
    by_cases h2 : rootCmp v y < 0
    · rw [if_pos h2]
      refine List.pairwise_cons.2 ⟨fun z hz => ?_, h⟩
      rcases List.mem_cons.1 hz with rfl | hz
      · exact h2
      · exact rootCmp_trans h2 (h0.1 z hz)
    · rw [if_neg h2]
      refine List.pairwise_cons.2 ⟨fun z hz => ?_, putR_up (fun hm => hv (List.mem_cons_of_mem _ hm)) h0.2⟩
      rcases mem_putR.1 hz with rfl | hz
      · rcases Int.lt_trichotomy (rootCmp y z) 0 with g | g | g
        · exact g
        · exact absurd (by rw [rootCmp_zero g]; simp) hv
        · omega
      · exact h0.1 z hz
def putsR (L : List (List Int)) : List (List Int) := L.foldl putR []
theorem putsR_aux : ∀ (L a : List (List Int)), L.Nodup → (∀ x ∈ L, x ∉ a) → Up a → Up (L.foldl putR a) ∧ ∀ x, x ∈ L.foldl putR a ↔ x ∈ L ∨ x ∈ a
  | [], a, _, _, h => ⟨h, by simp⟩
  | y :: L, a, hn, hd, h => by
    have hn' := List.nodup_cons.1 hn
    obtain ⟨h1, h2⟩ := putsR_aux L (putR a y) hn'.2 (fun x hx hm => by
      rcases mem_putR.1 hm with e | e
      · subst e; exact hn'.1 hx
      · exact hd x (List.mem_cons_of_mem _ hx) e) (putR_up (hd y (by simp)) h)
    refine ⟨h1, fun x => ?_⟩
    rw [List.foldl_cons, h2 x, mem_putR, List.mem_cons]
    constructor
    · rintro (h | h | h)
      · exact .inl (.inr h)
      · exact .inl (.inl h)
      · exact .inr h
    · rintro ((h | h) | h)
      · exact .inr (.inl h)
      · exact .inl h
      · exact .inr (.inr h)
theorem putsR_take {L : List (List Int)} {k : Nat} (hk : k < L.length) : putsR (L.take (k + 1)) = putR (putsR (L.take k)) (L.getD k []) := by
  have e : L.getD k [] = L[k] := by simp [List.getD, hk]
  unfold putsR
  rw [e, List.take_succ_eq_append_getElem hk, List.foldl_append]; rfl
theorem putsR_len (L : List (List Int)) : (putsR L).length = L.length := by
  have : ∀ (L a : List (List Int)), (L.foldl putR a).length = L.length + a.length := by
    intro L
    induction L with
    | nil => intro a; simp
    | cons y L ih => intro a; rw [List.foldl_cons, ih, putR_length]; simp; omega
  have h := this L []
  simpa [putsR] using h
/-- what is sorted is what is inserted one by one -/
theorem putsR_eq {L S : List (List Int)} (hn : L.Nodup) (hp : S.Perm L) (hs : S.Pairwise fun a b => ¬ rootCmp b a < 0) : S = putsR L := by
  obtain ⟨h1, h2⟩ := putsR_aux L [] hn (by simp) List.Pairwise.nil
  refine strict_uniq rootCmp_anti (strict_of rootCmp_anti rootCmp_zero hs (hp.nodup_iff.2 hn)) h1 fun x => ?_
  rw [hp.mem_iff]
  show x ∈ L ↔ x ∈ L.foldl putR []
  rw [h2 x]; simp

/-- the search: roots with their coroots -/
abbrev RPair := List Int × List Int
def smStep (c t : List (List Int)) (Q : List RPair) (k i : Nat) : List RPair :=
  let p := Q.getD k ([], [])
  if pairL (c.getD i []) p.1 < 0 ∧ wrap64 (pairL (c.getD i []) p.1 * pairL (t.getD i []) p.2) < 4 ∧ mirL c i p.1 ∉ Q.map (·.1) then Q ++ [(mirL c i p.1, mirL t i p.2)] else Q
def smRow (c t : List (List Int)) (Q : List RPair) (k : Nat) : Nat → List RPair
  | 0 => Q
  | i + 1 => smStep c t (smRow c t Q k i) k i
def smGo (c t : List (List Int)) : Nat → Nat → List RPair → Option (List RPair)
  | 0, k, Q => if Q.length ≤ k then some Q else none
  | f + 1, k, Q => if Q.length ≤ k then some Q else if 40 < (smRow c t Q k c.length).length then none else smGo c t f (k + 1) (smRow c t Q k c.length)
def smStart (c : List (List Int)) : List RPair := (List.range c.length).map fun i => (simpL c.length i, simpL c.length i)
def smR (c : List (List Int)) : Option (List RPair) := smGo c (transL c) 41 0 (smStart c)
def smallL (c : List (List Int)) : List (List Int) := match smR c with | some Q => putsR (Q.map (·.1)) | none => []
/-- all roots and coroots have a number for each point, no root stands twice -/
structure SmOk (c : List (List Int)) (Q : List RPair) : Prop where
  len1 : ∀ p ∈ Q, p.1.length = c.length ∧ p.2.length = c.length
  nodup : (Q.map (·.1)).Nodup
section
variable {c t : List (List Int)} {Q : List RPair} {k i : Nat}
theorem smStep_le : Q.length ≤ (smStep c t Q k i).length ∧ (smStep c t Q k i).length ≤ Q.length + 1 := by
  unfold smStep
  dsimp only
  split
  · simp
  · simp
theorem smRow_le : ∀ i, Q.length ≤ (smRow c t Q k i).length ∧ (smRow c t Q k i).length ≤ Q.length + i
  | 0 => by simp [smRow]
  | i + 1 => by
    have h1 := smRow_le i
    have h2 := smStep_le (c := c) (t := t) (Q := smRow c t Q k i) (k := k) (i := i)
    simp only [smRow]
    omega
theorem smRow_mono {i j : Nat} (h : i ≤ j) : (smRow c t Q k i).length ≤ (smRow c t Q k j).length := by
  induction h with
  | refl => exact Nat.le_refl _
  | step _ ih => exact Nat.le_trans ih smStep_le.1
theorem SmOk.step (h : SmOk c Q) (hk : k < Q.length) : SmOk c (smStep c t Q k i) := by
  unfold smStep
  dsimp only
  split
  · rename_i hc
    have hm : Q.getD k ([], []) ∈ Q := by simp [List.getD, hk]
    have hl := h.len1 _ hm
    refine ⟨?_, ?_⟩
    · intro p hp
      rcases List.mem_append.1 hp with h1 | h1
      · exact h.len1 p h1
      · rw [List.mem_singleton] at h1
        subst h1
        exact ⟨by rw [mirL_length]; exact hl.1, by rw [mirL_length]; exact hl.2⟩
    · rw [List.map_append, List.nodup_append]
      refine ⟨h.nodup, by simp, ?_⟩
      intro a ha b hb e
      rw [List.map_cons, List.map_nil, List.mem_singleton] at hb
      subst hb; subst e
      exact hc.2.2 ha
  · exact h
theorem SmOk.row (h : SmOk c Q) (hk : k < Q.length) : ∀ i, SmOk c (smRow c t Q k i)
  | 0 => h
  | i + 1 => (SmOk.row h hk i).step (Nat.lt_of_lt_of_le hk (smRow_le i).1)
theorem simpL_inj {n i j : Nat} (hi : i < n) (h : simpL n i = simpL n j) : i = j := by
  have h1 : (simpL n i).getD i 0 = 1 := by simp [simpL, List.getD, hi]
  rw [h] at h1
  by_cases e : i = j
  · exact e
  · have : (simpL n j).getD i 0 = 0 := by simp [simpL, List.getD, hi, Ne.symm e]
    omega
theorem smStart_ok (c : List (List Int)) : SmOk c (smStart c) := by
  refine ⟨?_, ?_⟩
  · intro p hp
    obtain ⟨i, -, rfl⟩ := List.mem_map.1 hp
    exact ⟨simpL_length _ _, simpL_length _ _⟩
  · unfold smStart
    rw [List.map_map]
    rw [List.Nodup, List.pairwise_map]
    have hp := List.nodup_range (n := c.length)
    refine List.Pairwise.imp_of_mem (fun {a b} ha hb hab e => hab ?_) hp
    exact simpL_inj (List.mem_range.1 ha) e
theorem smStart_length (c : List (List Int)) : (smStart c).length = c.length := by simp [smStart]
theorem smGo_next {f : Nat} (hk : k < Q.length) (hl : (smRow c t Q k c.length).length ≤ 40) : smGo c t (f + 1) k Q = smGo c t f (k + 1) (smRow c t Q k c.length) := by
  simp only [smGo]
  rw [if_neg (by omega), if_neg (by omega)]
theorem smGo_over {f : Nat} (hk : k < Q.length) (hl : 40 < (smRow c t Q k c.length).length) : smGo c t (f + 1) k Q = none := by
  simp only [smGo]
  rw [if_neg (by omega), if_pos hl]
theorem smGo_done {f : Nat} (hk : Q.length ≤ k) : smGo c t f k Q = some Q := by
  cases f <;> simp only [smGo] <;> rw [if_pos hk]
theorem SmOk.go : ∀ (f k : Nat) (Q R : List RPair), SmOk c Q → Q.length ≤ 40 → smGo c t f k Q = some R → SmOk c R ∧ R.length ≤ 40
  | 0, k, Q, R, h, hl, e => by
    simp only [smGo] at e
    split at e
    · cases e; exact ⟨h, hl⟩
    · cases e
  | f + 1, k, Q, R, h, hl, e => by
    simp only [smGo] at e
    split at e
    · cases e; exact ⟨h, hl⟩
    · rename_i hk
      split at e
      · cases e
      · rename_i h40
        exact SmOk.go f (k + 1) _ R (h.row (by omega) _) (by omega) e
theorem smR_ok {R : List RPair} (hn : c.length ≤ 40) (h : smR c = some R) : SmOk c R ∧ R.length ≤ 40 :=
  SmOk.go 41 0 _ R (smStart_ok c) (by rw [smStart_length]; exact hn) h
theorem smallL_few (hn : c.length ≤ 4) : (smallL c).length ≤ 40 ∧ ∀ x ∈ smallL c, x.length = c.length := by
  unfold smallL
  split
  · rename_i Q h
    obtain ⟨h1, h2⟩ := smR_ok (by omega) h
    refine ⟨by rw [putsR_len]; simpa using h2, ?_⟩
    intro x hx
    have := ((putsR_aux _ [] h1.nodup (by simp) List.Pairwise.nil).2 x).1 hx
    rcases this with h3 | h3
    · obtain ⟨p, hp, rfl⟩ := List.mem_map.1 h3
      exact (h1.len1 p hp).1
    · simp at h3
  · exact ⟨by simp, by simp⟩
end
end Go.Proofs.YtnpechcnmchneaaGreatDoor
namespace Go.Proofs.YtnpechcnmchneaaGreatDoor
set_option maxRecDepth 100000
open Go.RowKit Game

set_option maxHeartbeats 1000000 in
theorem impl_pairing_any (g1 o1 n1 c1 g2 o2 n2 c2 : Nat) (a r : List Int) (w : World) (hn1 : a.length = n1) (hn2 : r.length = n2) (hl : r.length ≤ a.length) (hx : a.length ≤ 1048576) (ha : Cells w g1 o1 a) (hr : Cells w g2 o2 r) :
    Calls Tryz.prog 219 #[(Value.slice (some ⟨g1, o1, none⟩) n1 c1), (Value.slice (some ⟨g2, o2, none⟩) n2 c2)] w (Reads w (.int .i64 (pairL a r))) := by
  subst hn1; subst hn2
  go_enter Tryz.func219, Tryz.ntmps219
  go_wp2
  go_loopw [5, 10] (fun s kv wr => ∃ t q : Nat, t ≤ r.length ∧ kv = .int .i64 t ∧ s = .int .i64 (dotTo a r t) ∧ wr = w.drewN q) (fun _ kv _ => r.length - (intOf kv).toNat)
  case atStart => exact ⟨0, 0, Nat.zero_le _, rfl, rfl, rfl⟩
  case round =>
    obtain ⟨t, q, ht, rfl, rfl, rfl⟩ := hrel
    by_cases hlt : t < r.length
    · have q1 := ha t (by omega)
      have q2 := hr t hlt
      have hta : t < a.length := by omega
      have hd : dotTo a r (t + 1) = wrap64 (dotTo a r t + wrap64 (a.getD t 0 * r.getD t 0)) := rfl
      generalize a.getD t 0 = x at *
      generalize r.getD t 0 = y at *
      have Hd := Lib.hid hd; clear hd
      generalize dotTo a r t = z at *
      go_wp2
      go_roundw
      case rel => exact ⟨t + 1, _, by omega, by go_num, by rw [Hd.out], rfl⟩
      case measure => simp [intOf]; omega
    · obtain rfl : t = r.length := by omega
      go_wp2
      go_ret
      exact ⟨rfl, (by first | exact ⟨_, rfl⟩ | exact ⟨0, rfl⟩ | exact still2 _ _ _ | exact still3 _ _ _ _)⟩

set_option maxHeartbeats 1000000 in
theorem impl_HeightOf_any (g o n cp : Nat) (r : List Int) (w : World) (hn : r.length = n) (hx : r.length ≤ 1048576) (hr : Cells w g o r) :
    Calls Tryz.prog 150 #[(Value.slice (some ⟨g, o, none⟩) n cp)] w (Reads w (.int .i64 (heightL r))) := by
  subst hn
  go_enter Tryz.func150, Tryz.ntmps150
  go_wp2
  go_loopw [3, 8] (fun s kv wr => ∃ t q : Nat, t ≤ r.length ∧ kv = .int .i64 t ∧ s = .int .i64 (sumUp r t) ∧ wr = w.drewN q) (fun _ kv _ => r.length - (intOf kv).toNat)
  case atStart => exact ⟨0, 0, Nat.zero_le _, rfl, rfl, rfl⟩
  case round =>
    obtain ⟨t, q, ht, rfl, rfl, rfl⟩ := hrel
    by_cases hlt : t < r.length
    · have q2 := hr t hlt
      have hd : sumUp r (t + 1) = wrap64 (sumUp r t + r.getD t 0) := rfl
      generalize r.getD t 0 = y at *
      have Hd := Lib.hid hd; clear hd
      generalize sumUp r t = z at *
      go_wp2
      go_roundw
      case rel => exact ⟨t + 1, _, by omega, by go_num, by rw [Hd.out], rfl⟩
      case measure => simp [intOf]; omega
    · obtain rfl : t = r.length := by omega
      go_wp2
      go_ret
      exact ⟨rfl, (by first | exact ⟨_, rfl⟩ | exact ⟨0, rfl⟩ | exact still2 _ _ _ | exact still3 _ _ _ _)⟩
set_option maxHeartbeats 1000000 in
theorem spec_HeightOf_any (g o n cp : Nat) (r : List Int) (w : World) (hn : r.length = n) (hx : r.length ≤ 1048576) (hr : Cells w g o r) :
    Calls Tryz.prog 143 #[(Value.slice (some ⟨g, o, none⟩) n cp)] w (Reads w (.int .i64 (heightL r))) := by
  subst hn
  go_enter Tryz.func143, Tryz.ntmps143
  go_wp2
  go_loopw [3, 4] (fun s kv wr => ∃ t q : Nat, t ≤ r.length ∧ kv = .int .i64 t ∧ s = .int .i64 (sumUp r t) ∧ wr = w.drewN q) (fun _ kv _ => r.length - (intOf kv).toNat)
  case atStart => exact ⟨0, 0, Nat.zero_le _, rfl, rfl, rfl⟩
  case round =>
    obtain ⟨t, q, ht, rfl, rfl, rfl⟩ := hrel
    by_cases hlt : t < r.length
    · have q2 := hr t hlt
      have hd : sumUp r (t + 1) = wrap64 (sumUp r t + r.getD t 0) := rfl
      generalize r.getD t 0 = y at *
      have Hd := Lib.hid hd; clear hd
      generalize sumUp r t = z at *
      go_wp2
      go_roundw
      case rel => exact ⟨t + 1, _, by omega, by go_num, by rw [Hd.out], rfl⟩
      case measure => simp [intOf]; omega
    · obtain rfl : t = r.length := by omega
      go_wp2
      go_ret
      exact ⟨rfl, (by first | exact ⟨_, rfl⟩ | exact ⟨0, rfl⟩ | exact still2 _ _ _ | exact still3 _ _ _ _)⟩

theorem own_simple {w : World} {B g n cap : Nat} (h : Own w B g cap (List.replicate n 0)) {i : Nat} : Own (w.setCell ⟨g, i, none⟩ (.int .i64 1)) B g cap (simpL n i) ∧ w.grownBy (w.setCell ⟨g, i, none⟩ (.int .i64 1)) (some g) := by
  have := h.set i 1
  exact this
set_option maxHeartbeats 1000000 in
theorem impl_simple_any (n i : Nat) (w : World) (hn : n ≤ 1048576) (hi : i < n) : Calls Tryz.prog 196 #[.int .i64 n, .int .i64 i] w (GotInts w (simpL n i)) := by
  go_enter Tryz.func196, Tryz.ntmps196
  go_wp2_with (at_make; refine wpList_make_ints rfl _ _ rfl w.heap.size n _ rfl rfl rfl (by omega) (Nat.le_refl _) ?_)
  intro w1 ho1 hg1
  have hb1 : Below w.heap.size w w1 := (Below.refl _ _).grown hg1 (Nat.le_refl _) (by simp)
  have hc := ho1.cell i (by simpa using hi)
  have hf := ho1.frozen i
  go_wp2
  have hs := own_simple ho1 (i := i)
  go_ret
  exact GotInts.mk' _ n (simpL_length _ _) hs.1 (hb1.grown hs.2 hb1.size (by intro k hk; cases hk; exact ho1.base))

set_option maxHeartbeats 1000000 in
theorem spec_SimpleRoot_any (gc oc n cc i : Nat) (c : List (List Int)) (w : World) (hn : c.length = n) (hC : IsC c) (hi : i < c.length) (hc : Rows2 w gc oc c) :
    Calls Tryz.prog 140 #[(Value.slice (some ⟨gc, oc, none⟩) n cc), .int .i64 i] w (GotInts w (simpL c.length i)) := by
  subst hn
  have hn4 := hC.2.1
  have hcall := spec_IsCartan gc oc _ cc c w rfl (by omega) (fun j hj => by rw [hC.2.2.1 j hj]; omega) hc
  rw [decide_eq_true hC] at hcall
  have Hcall := Lib.hid hcall
  clear hcall
  go_enter Tryz.func140, Tryz.ntmps140
  go_wp2_with fail
  refine Hcall.out.mono ?_
  rintro e w1 ⟨rfl, hs1⟩
  have hb1 := below_still (Below.refl w.heap.size w) hs1
  clear hs1 Hcall
  have hcall := spec_l1In i 0 ((c.length : Int) - 1) w1
  have hT : (decide ((0 : Int) ≤ (i : Int)) && decide ((i : Int) ≤ (c.length : Int) - 1)) = true := by simp; omega
  rw [hT] at hcall
  have Hcall := Lib.hid hcall
  clear hcall hT
  go_wp2_with fail
  refine Hcall.out.mono ?_
  rintro e w2 ⟨rfl, hs2⟩
  have hb2 := below_still hb1 hs2
  clear hs2 Hcall hb1
  go_wp2_with (at_make; refine wpList_make_ints rfl _ _ rfl w.heap.size c.length _ rfl rfl rfl (by omega) hb2.size ?_)
  intro w3 ho3 hg3
  have hb3 : Below w.heap.size w w3 := hb2.grown hg3 hb2.size (by simp)
  have hcl := ho3.cell i (by simpa using hi)
  have hf := ho3.frozen i
  go_wp2
  have hs := own_simple ho3 (i := i)
  go_ret
  exact GotInts.mk' _ c.length (simpL_length _ _) hs.1 (hb3.grown hs.2 hb3.size (by intro k hk; cases hk; exact ho3.base))
end Go.Proofs.YtnpechcnmchneaaGreatDoor
namespace Go.Proofs.YtnpechcnmchneaaGreatDoor
set_option maxRecDepth 100000
open Go.RowKit

/-- RootSign is 1 -/
def posB (r : List Int) : Bool := (r.any fun x => decide (0 < x)) && !(r.any fun x => decide (x < 0))
def upStep (c Q : List (List Int)) (k i : Nat) : List (List Int) :=
  let r := mirL c i (Q.getD k [])
  if posB r = true ∧ heightL r ≤ 12 ∧ heightL (Q.getD k []) < heightL r ∧ r ∉ Q then putR Q r else Q
def upRow (c Q : List (List Int)) (k : Nat) : Nat → List (List Int)
  | 0 => Q
  | i + 1 => upStep c (upRow c Q k i) k i
def upGo (c : List (List Int)) : Nat → Nat → List (List Int) → List (List Int)
  | 0, _, Q => Q
  | f + 1, k, Q => if k < Q.length then upGo c f (k + 1) (upRow c Q k c.length) else Q
def upStart (n : Nat) : Nat → List (List Int)
  | 0 => []
  | i + 1 => putR (upStart n i) (simpL n i)
def posL (c : List (List Int)) : List (List Int) := upGo c 25 0 (upStart c.length c.length)
def closedB (c L : List (List Int)) : Bool := L.all fun r => (List.range c.length).all fun i => let s := mirL c i r; !(posB s) || decide (12 < heightL s) || L.contains s
def posOk (c : List (List Int)) : Bool := decide ((posL c).length ≤ 24) && (((posL c).all fun r => r.all fun x => decide (0 ≤ x ∧ x ≤ 12)) && closedB c (posL c))
end Go.Proofs.YtnpechcnmchneaaGreatDoor
namespace Go.Proofs.YtnpechcnmchneaaGreatDoor
set_option maxRecDepth 100000
open Go.RowKit

theorem upStep_sub {c Q : List (List Int)} {k i : Nat} : ∀ x ∈ Q, x ∈ upStep c Q k i := by
  intro x hx
  unfold upStep
  simp only
  split
  · exact mem_putR.2 (.inr hx)
  · exact hx
theorem upStep_mem {c Q : List (List Int)} {k i : Nat} {x : List Int} (h : x ∈ upStep c Q k i) : x ∈ Q ∨ (x = mirL c i (Q.getD k []) ∧ posB x = true ∧ heightL x ≤ 12) := by
  unfold upStep at h
  simp only at h
  split at h
  · rename_i hc
    rcases mem_putR.1 h with rfl | h
    · exact .inr ⟨rfl, hc.1, hc.2.1⟩
    · exact .inl h
  · exact .inl h
theorem upStep_up {c Q : List (List Int)} {k i : Nat} (h : Up Q) : Up (upStep c Q k i) := by
  unfold upStep
  simp only
  split
  · rename_i hc
    exact putR_up hc.2.2.2 h
  · exact h
theorem upStep_len {c Q : List (List Int)} {k i : Nat} : Q.length ≤ (upStep c Q k i).length := by
  unfold upStep
  simp only
  split
  · rw [putR_length]; omega
  · exact Nat.le_refl _
theorem upRow_sub {c Q : List (List Int)} {k : Nat} : ∀ i, ∀ x ∈ Q, x ∈ upRow c Q k i
  | 0, _, h => h
  | i + 1, x, h => upStep_sub x (upRow_sub i x h)
theorem upRow_up {c Q : List (List Int)} {k : Nat} (h : Up Q) : ∀ i, Up (upRow c Q k i)
  | 0 => h
  | i + 1 => upStep_up (upRow_up h i)
theorem upRow_len {c Q : List (List Int)} {k : Nat} : ∀ i, Q.length ≤ (upRow c Q k i).length
  | 0 => Nat.le_refl _
  | i + 1 => Nat.le_trans (upRow_len i) upStep_len
theorem upGo_sub {c : List (List Int)} : ∀ (f k : Nat) (Q : List (List Int)), ∀ x ∈ Q, x ∈ upGo c f k Q
  | 0, _, _, _, h => h
  | f + 1, k, Q, x, h => by
    unfold upGo
    split
    · exact upGo_sub f (k + 1) _ x (upRow_sub _ x h)
    · exact h
theorem upGo_up {c : List (List Int)} : ∀ (f k : Nat) (Q : List (List Int)), Up Q → Up (upGo c f k Q)
  | 0, _, _, h => h
  | f + 1, k, Q, h => by
    unfold upGo
    split
    · exact upGo_up f (k + 1) _ (upRow_up h _)
    · exact h
theorem upGo_len {c : List (List Int)} : ∀ (f k : Nat) (Q : List (List Int)), Q.length ≤ (upGo c f k Q).length
  | 0, _, _ => Nat.le_refl _
  | f + 1, k, Q => by
    unfold upGo
    split
    · exact Nat.le_trans (upRow_len _) (upGo_len f (k + 1) _)
    · exact Nat.le_refl _
theorem upGo_next {c Q : List (List Int)} {f k : Nat} (hk : k < Q.length) : upGo c (f + 1) k Q = upGo c f (k + 1) (upRow c Q k c.length) := by
  conv => lhs; unfold upGo
  rw [if_pos hk]
theorem upGo_done {c Q : List (List Int)} {f k : Nat} (hk : Q.length ≤ k) : upGo c f k Q = Q := by
  cases f with
  | zero => rfl
  | succ f => unfold upGo; rw [if_neg (by omega)]
/-- what is closed holds all that the search finds -/
structure Closed (c S : List (List Int)) : Prop where
  simp : ∀ i, i < c.length → simpL c.length i ∈ S
  step : ∀ r ∈ S, ∀ i, i < c.length → posB (mirL c i r) = true → heightL (mirL c i r) ≤ 12 → mirL c i r ∈ S
theorem Closed.upRow {c S Q : List (List Int)} (h : Closed c S) (hQ : ∀ x ∈ Q, x ∈ S) {k : Nat} (hk : k < Q.length) : ∀ i, i ≤ c.length → ∀ x ∈ upRow c Q k i, x ∈ S := by
  intro i
  induction i with
  | zero => intro _ x hx; exact hQ x hx
  | succ i ih =>
    intro hi x hx
    have ih' := ih (by omega)
    rcases upStep_mem (show x ∈ upStep c (Go.Proofs.YtnpechcnmchneaaGreatDoor.upRow c Q k i) k i from hx) with h1 | ⟨h1, h2, h3⟩
    · exact ih' x h1
    · have hkl : k < (Go.Proofs.YtnpechcnmchneaaGreatDoor.upRow c Q k i).length := Nat.lt_of_lt_of_le hk (upRow_len i)
      have hm : (Go.Proofs.YtnpechcnmchneaaGreatDoor.upRow c Q k i).getD k [] ∈ S := by
        apply ih'
        simp [List.getD, hkl]
      rw [h1] at h2 h3 ⊢
      exact h.step _ hm i (by omega) h2 h3
theorem Closed.upGo {c S : List (List Int)} (h : Closed c S) : ∀ (f k : Nat) (Q : List (List Int)), (∀ x ∈ Q, x ∈ S) → ∀ x ∈ upGo c f k Q, x ∈ S
  | 0, _, _, hQ => hQ
  | f + 1, k, Q, hQ => by
    unfold Go.Proofs.YtnpechcnmchneaaGreatDoor.upGo
    split
    · rename_i hk
      exact Closed.upGo h f (k + 1) _ (h.upRow hQ hk _ (Nat.le_refl _))
    · exact hQ
theorem upStart_mem {n : Nat} {x : List Int} : ∀ i, x ∈ upStart n i ↔ ∃ j, j < i ∧ x = simpL n j
  | 0 => by simp [upStart]
  | i + 1 => by
    unfold upStart
    rw [mem_putR, upStart_mem i]
    constructor
    · rintro (rfl | ⟨j, hj, rfl⟩)
      · exact ⟨i, by omega, rfl⟩
      · exact ⟨j, by omega, rfl⟩
    · rintro ⟨j, hj, rfl⟩
      by_cases e : j = i
      · subst e; exact .inl rfl
      · exact .inr ⟨j, by omega, rfl⟩
theorem upStart_up {n : Nat} : ∀ i, i ≤ n → Up (upStart n i)
  | 0, _ => List.Pairwise.nil
  | i + 1, h => by
    unfold upStart
    refine putR_up ?_ (upStart_up i (by omega))
    rw [upStart_mem]
    rintro ⟨j, hj, e⟩
    have := simpL_inj (n := n) (i := i) (j := j) (by omega) e
    omega
theorem upStart_length (n : Nat) : ∀ i, (upStart n i).length = i
  | 0 => rfl
  | i + 1 => by unfold upStart; rw [putR_length, upStart_length]
theorem posL_up (c : List (List Int)) : Up (posL c) := upGo_up _ _ _ (upStart_up _ (Nat.le_refl _))
theorem Up.nodup {L : List (List Int)} (h : Up L) : L.Nodup := h.imp fun {a b} hab e => by subst e; rw [rootCmp_self] at hab; omega
/-- posL of a finite type: few, small, closed -/
structure PosOk (c : List (List Int)) : Prop where
  few : (posL c).length ≤ 24
  small : ∀ r ∈ posL c, ∀ x ∈ r, 0 ≤ x ∧ x ≤ 12
  closed : Closed c (posL c)
theorem posOk_of {c : List (List Int)} (h : posOk c = true) : PosOk c := by
  unfold posOk at h
  rw [Bool.and_eq_true, Bool.and_eq_true] at h
  refine ⟨by simpa using h.1, fun r hr x hx => ?_, ⟨fun i hi => upGo_sub _ _ _ _ ((upStart_mem _).2 ⟨i, hi, rfl⟩), fun r hr i hi h1 h2 => ?_⟩⟩
  · have := List.all_eq_true.1 (List.all_eq_true.1 h.2.1 r hr) x hx
    simpa using this
  · have h3 := List.all_eq_true.1 (List.all_eq_true.1 h.2.2 r hr) i (List.mem_range.2 hi)
    simp only [h1, Bool.not_true, Bool.false_or, Bool.or_eq_true, decide_eq_true_eq] at h3
    rcases h3 with h3 | h3
    · omega
    · simpa using h3
/-- a closed list without doubles inside posL is posL, put in order -/
theorem posL_eq {c Q : List (List Int)} (hn : Q.Nodup) (hs : ∀ x ∈ Q, x ∈ posL c) (hc : Closed c Q) : putsR Q = posL c := by
  have hsub : ∀ x ∈ posL c, x ∈ Q := hc.upGo _ _ _ (fun x hx => by obtain ⟨j, hj, rfl⟩ := (upStart_mem _).1 hx; exact hc.simp j hj)
  have hp : (posL c).Perm Q := (List.perm_ext_iff_of_nodup (posL_up c).nodup hn).2 fun x => ⟨hsub x, hs x⟩
  refine (putsR_eq hn hp ?_).symm
  exact (posL_up c).imp fun {a b} hab hba => by have := rootCmp_anti a b; omega
end Go.Proofs.YtnpechcnmchneaaGreatDoor
namespace Go.Proofs.YtnpechcnmchneaaGreatDoor
set_option maxRecDepth 100000
open Go.RowKit

def upB (r : List Int) : Bool := r.any fun x => decide (0 < x)
def dnB (r : List Int) : Bool := r.any fun x => decide (x < 0)
def signL (r : List Int) : Int := if upB r = dnB r then 0 else if upB r = true then 1 else -1
theorem posB_eq (r : List Int) : posB r = (upB r && !dnB r) := rfl
theorem sign_pos (r : List Int) : decide (0 < signL r) = posB r := by
  unfold signL
  rw [posB_eq]
  cases upB r <;> cases dnB r <;> rfl
theorem sign_one (r : List Int) : (signL r == 1) = posB r := by
  unfold signL
  rw [posB_eq]
  cases upB r <;> cases dnB r <;> rfl
theorem sign_of {r : List Int} {u d : Bool} (hu : upB r = u) (hd : dnB r = d) : signL r = if u = d then 0 else if u = true then 1 else -1 := by unfold signL; rw [hu, hd]
theorem up_take {r : List Int} {k : Nat} (hk : k < r.length) : upB (r.take (k + 1)) = (upB (r.take k) || decide (0 < r.getD k 0)) := by
  unfold upB
  rw [List.take_succ_eq_append_getElem hk, List.any_append]
  simp [List.getD, hk]
theorem dn_take {r : List Int} {k : Nat} (hk : k < r.length) : dnB (r.take (k + 1)) = (dnB (r.take k) || decide (r.getD k 0 < 0)) := by
  unfold dnB
  rw [List.take_succ_eq_append_getElem hk, List.any_append]
  simp [List.getD, hk]

set_option maxHeartbeats 1000000 in
theorem spec_RootSign_any (g o n cp : Nat) (r : List Int) (w : World) (hn : r.length = n) (hx : r.length ≤ 1048576) (hr : Cells w g o r) :
    Calls Tryz.prog 142 #[(Value.slice (some ⟨g, o, none⟩) n cp)] w (Reads w (.int .i64 (signL r))) := by
  subst hn
  go_enter Tryz.func142, Tryz.ntmps142
  go_wp2
  go_loopw [3, 4, 5] (fun uv dv iv wr => ∃ k : Nat, k ≤ r.length ∧ uv = .bool (upB (r.take k)) ∧ dv = .bool (dnB (r.take k)) ∧ iv = .int .i64 k ∧ ∃ m, wr = w.drewN m) (fun _ _ iv _ => r.length - (intOf iv).toNat)
  case atStart => exact ⟨0, Nat.zero_le _, rfl, rfl, rfl, 0, rfl⟩
  case round =>
    obtain ⟨k, hk, rfl, rfl, rfl, m, rfl⟩ := hrel
    by_cases hlt : k < r.length
    · have q1 := hr k hlt
      have hu := up_take hlt
      have hd := dn_take hlt
      generalize r.getD k 0 = x at q1 hu hd
      have Hu := Lib.hid hu; have Hd := Lib.hid hd
      clear hu hd
      generalize upB (r.take k) = u at *
      generalize dnB (r.take k) = d at *
      cases u <;> cases d
      all_goals
        go_wp2
        go_roundw
        case rel => exact ⟨k + 1, by omega, by rw [Hu.out]; simp, by rw [Hd.out]; simp, by go_num, m, rfl⟩
        case measure => simp [intOf]; omega
    · obtain rfl : k = r.length := by omega
      rw [List.take_length] at *
      generalize hu : upB r = u at *
      generalize hd : dnB r = d at *
      have E := Lib.hid (sign_of hu hd)
      clear hu hd
      cases u <;> cases d
      all_goals
        go_wp2
        go_ret
        exact ⟨congrArg (fun t => Ending.returned (.int .i64 t)) E.out.symm, m, rfl⟩
set_option maxHeartbeats 1000000 in
theorem impl_RootSign_any (g o n cp : Nat) (r : List Int) (w : World) (hn : r.length = n) (hx : r.length ≤ 1048576) (hr : Cells w g o r) :
    Calls Tryz.prog 195 #[(Value.slice (some ⟨g, o, none⟩) n cp)] w (Reads w (.int .i64 (signL r))) := by
  subst hn
  go_enter Tryz.func195, Tryz.ntmps195
  go_wp2
  go_loopw [3, 4, 9] (fun uv dv iv wr => ∃ k : Nat, k ≤ r.length ∧ uv = .bool (upB (r.take k)) ∧ dv = .bool (dnB (r.take k)) ∧ iv = .int .i64 k ∧ ∃ m, wr = w.drewN m) (fun _ _ iv _ => r.length - (intOf iv).toNat)
  case atStart => exact ⟨0, Nat.zero_le _, rfl, rfl, rfl, 0, rfl⟩
  case round =>
    obtain ⟨k, hk, rfl, rfl, rfl, m, rfl⟩ := hrel
    by_cases hlt : k < r.length
    · have q1 := hr k hlt
      have hu := up_take hlt
      have hd := dn_take hlt
      generalize r.getD k 0 = x at q1 hu hd
      have Hu := Lib.hid hu; have Hd := Lib.hid hd
      clear hu hd
      generalize upB (r.take k) = u at *
      generalize dnB (r.take k) = d at *
      cases u <;> cases d
      all_goals
        go_wp2
        go_roundw
        case rel => exact ⟨k + 1, by omega, by rw [Hu.out]; simp, by rw [Hd.out]; simp, by go_num, m, rfl⟩
        case measure => simp [intOf]; omega
    · obtain rfl : k = r.length := by omega
      rw [List.take_length] at *
      generalize hu : upB r = u at *
      generalize hd : dnB r = d at *
      have E := Lib.hid (sign_of hu hd)
      clear hu hd
      cases u <;> cases d
      all_goals
        go_wp2
        go_ret
        exact ⟨congrArg (fun t => Ending.returned (.int .i64 t)) E.out.symm, m, rfl⟩
end Go.Proofs.YtnpechcnmchneaaGreatDoor
namespace Go.Proofs.YtnpechcnmchneaaGreatDoor
set_option maxRecDepth 100000
set_option linter.unusedSimpArgs false
open Go.RowKit

def negB (r : List Int) : Bool := r.any fun x => decide (x < 0)
def subV (x p : List Int) : List Int := (List.range x.length).map fun j => x.getD j 0 - p.getD j 0
theorem subV_length (x p : List Int) : (subV x p).length = x.length := by simp [subV]
theorem subV_getD {x p : List Int} {j : Nat} (hj : j < x.length) : (subV x p).getD j 0 = x.getD j 0 - p.getD j 0 := by simp [subV, List.getD, hj]
def wLoop (F : List Int → Int) (p : List Int) : Nat → List Int → Int → Int
  | 0, _, acc => acc
  | f + 1, x, acc => if negB x = true then acc else wLoop F p f (subV x p) (wrap64 (acc + F x))
def ways : List (List Int) → List Int → Int
  | [], r => if heightL r = 0 then 1 else 0
  | p :: ps, r => wLoop (ways ps) p 14 r 0
/-- numbers from 0 to 12 -/
def Sm12 (n : Nat) (r : List Int) : Prop := r.length = n ∧ ∀ j, j < n → 0 ≤ r.getD j 0 ∧ r.getD j 0 ≤ 12
/-- a root: numbers from 0 to 12, one of them at least 1 -/
def Rt12 (n : Nat) (p : List Int) : Prop := Sm12 n p ∧ ∃ j, j < n ∧ 1 ≤ p.getD j 0
theorem negB_false {n : Nat} {r : List Int} (h : Sm12 n r) : negB r = false := by
  unfold negB
  rw [List.any_eq_false]
  intro x hx
  obtain ⟨j, hj, rfl⟩ := List.mem_iff_getElem.1 hx
  have := h.2 j (by rw [← h.1]; exact hj)
  simp [List.getD, hj] at this ⊢
  omega
theorem nonneg_of {r : List Int} (h : negB r = false) : ∀ j, j < r.length → 0 ≤ r.getD j 0 := by
  intro j hj
  unfold negB at h
  rw [List.any_eq_false] at h
  have := h r[j] (List.getElem_mem hj)
  simp [List.getD, hj] at this ⊢
  omega
theorem negB_true {r : List Int} {j : Nat} (hj : j < r.length) (h : r.getD j 0 < 0) : negB r = true := by
  unfold negB
  rw [List.any_eq_true]
  exact ⟨r[j], List.getElem_mem hj, by simpa [List.getD, hj] using h⟩
theorem neg_first (r : List Int) : (firstNeg r).isNone = !negB r := by
  cases hf : firstNeg r with
  | none =>
    have h := firstNeg_none hf
    have : negB r = false := by
      unfold negB
      rw [List.any_eq_false]
      intro x hx
      obtain ⟨j, hj, rfl⟩ := List.mem_iff_getElem.1 hx
      have := h j hj
      simp [List.getD, hj] at this ⊢
      omega
    rw [this]; rfl
  | some i =>
    obtain ⟨h1, h2, -⟩ := firstNeg_lt hf
    rw [negB_true h1 h2]; rfl
/-- the loop's state: after t rounds -/
structure WSt (n : Nat) (p r x : List Int) (t : Nat) : Prop where
  len : x.length = n
  eq : ∀ j, j < n → x.getD j 0 = r.getD j 0 - (t : Int) * p.getD j 0
theorem WSt.start {n : Nat} {p r : List Int} (hr : r.length = n) : WSt n p r r 0 := ⟨hr, fun j _ => by simp⟩
theorem WSt.next {n : Nat} {p r x : List Int} {t : Nat} (h : WSt n p r x t) : WSt n p r (subV x p) (t + 1) :=
  ⟨by rw [subV_length]; exact h.len, fun j hj => by
    rw [subV_getD (by rw [h.len]; exact hj), h.eq j hj]
    simp only [Int.natCast_add, Int.add_mul]
    omega⟩
theorem WSt.lt {n : Nat} {p r x : List Int} {t : Nat} (h : WSt n p r x t) (hr : Sm12 n r) (hp : Rt12 n p) (hx : negB x = false) : t ≤ 12 := by
  obtain ⟨j, hj, h1⟩ := hp.2
  have h2 := nonneg_of hx j (by rw [h.len]; exact hj)
  rw [h.eq j hj] at h2
  have h3 := (hr.2 j hj).2
  have h4 : (t : Int) * 1 ≤ (t : Int) * p.getD j 0 := Int.mul_le_mul_of_nonneg_left h1 (by omega)
  omega
theorem WSt.sm {n : Nat} {p r x : List Int} {t : Nat} (h : WSt n p r x t) (hr : Sm12 n r) (hp : Rt12 n p) (hx : negB x = false) : Sm12 n x :=
  ⟨h.len, fun j hj => ⟨nonneg_of hx j (by rw [h.len]; exact hj), by
    rw [h.eq j hj]
    have h1 := (hr.2 j hj).2
    have h2 := Int.mul_nonneg (show (0 : Int) ≤ (t : Int) by omega) (hp.1.2 j hj).1
    omega⟩⟩
theorem wLoop_end {F : List Int → Int} {p x : List Int} {f : Nat} {acc : Int} (h : negB x = true) : wLoop F p f x acc = acc := by
  cases f with
  | zero => rfl
  | succ f => unfold wLoop; rw [if_pos h]
theorem wLoop_go {F : List Int → Int} {p x : List Int} {f : Nat} {acc : Int} (h : negB x = false) : wLoop F p (f + 1) x acc = wLoop F p f (subV x p) (wrap64 (acc + F x)) := by
  conv => lhs; unfold wLoop
  rw [if_neg (by rw [h]; decide)]
theorem zero_of {n : Nat} {r : List Int} (h : Sm12 n r) (hz : ∀ j, j < n → r.getD j 0 = 0) : ∀ k, k ≤ n → sumUp r k = 0
  | 0, _ => rfl
  | k + 1, hk => by
    show wrap64 (sumUp r k + r.getD k 0) = 0
    rw [zero_of h hz k (by omega), hz k (by omega)]
    exact IntWalk.wrap64_in _ ⟨by omega, by omega⟩
theorem sum_pos {n : Nat} {r : List Int} (h : Sm12 n r) (h4 : n ≤ 4) : ∀ k, k ≤ n → (∀ j, j < k → r.getD j 0 ≤ sumUp r k) ∧ 0 ≤ sumUp r k ∧ sumUp r k ≤ 12 * k
  | 0, _ => ⟨fun j hj => absurd hj (by omega), by simp [sumUp], by simp [sumUp]⟩
  | k + 1, hk => by
    obtain ⟨h1, h2, h3⟩ := sum_pos h h4 k (by omega)
    have h5 := h.2 k (by omega)
    have e : sumUp r (k + 1) = sumUp r k + r.getD k 0 := IntWalk.wrap64_in _ ⟨by omega, by omega⟩
    rw [e]
    refine ⟨fun j hj => ?_, by omega, by omega⟩
    by_cases ej : j = k
    · subst ej; omega
    · have := h1 j (by omega); omega
theorem height_zero {n : Nat} {r : List Int} (h : Sm12 n r) (h4 : n ≤ 4) : heightL r = 0 ↔ ∀ j, j < n → r.getD j 0 = 0 := by
  unfold heightL
  rw [h.1]
  constructor
  · intro h0 j hj
    have := (sum_pos h h4 n (Nat.le_refl _)).1 j hj
    have := (h.2 j hj).1
    omega
  · intro hz
    exact zero_of h hz n (Nat.le_refl _)
theorem ways_zero {n : Nat} : ∀ {ps : List (List Int)} {r : List Int}, n ≤ 4 → Sm12 n r → (∀ p ∈ ps, Rt12 n p) → heightL r = 0 → ways ps r = 1
  | [], r, _, _, _, h0 => by unfold ways; rw [if_pos h0]
  | p :: ps, r, h4, hr, hp, h0 => by
    unfold ways
    rw [wLoop_go (negB_false hr), ways_zero h4 hr (fun q hq => hp q (List.mem_cons_of_mem _ hq)) h0]
    obtain ⟨hp1, j, hj, h1⟩ := hp p (by simp)
    have hz := (height_zero hr h4).1 h0 j hj
    rw [wLoop_end (negB_true (j := j) (by rw [subV_length, hr.1]; exact hj) (by rw [subV_getD (by rw [hr.1]; exact hj), hz]; omega))]
    exact IntWalk.wrap64_in _ ⟨by omega, by omega⟩
theorem ways_drop {L : List (List Int)} {k : Nat} (hk : k < L.length) (r : List Int) : ways (L.drop k) r = wLoop (ways (L.drop (k + 1))) (L.getD k []) 14 r 0 := by
  rw [List.drop_eq_getElem_cons hk]
  simp [ways, List.getD, hk]
theorem ways_end {L : List (List Int)} (r : List Int) : ways (L.drop L.length) r = if heightL r = 0 then 1 else 0 := by
  rw [List.drop_length]; rfl
theorem sign_nonneg {r : List Int} (h : negB r = false) : 0 ≤ signL r := by
  have hd : dnB r = false := h
  unfold signL
  rw [hd]
  cases upB r <;> decide
end Go.Proofs.YtnpechcnmchneaaGreatDoor
namespace Go.Proofs.YtnpechcnmchneaaGreatDoor
set_option maxRecDepth 100000
open Go.RowKit Game

set_option maxHeartbeats 2000000 in
theorem impl_mirrored_any (gc oc n cc i g o m cp : Nat) (c : List (List Int)) (r : List Int) (w : World) (hn : c.length = n) (hm : r.length = m) (hi : i < c.length) (hir : i < r.length) (hl : r.length ≤ (c.getD i []).length) (hx : (c.getD i []).length ≤ 1048576) (hgc : gc < w.heap.size) (hg : g < w.heap.size) (hc : Rows2 w gc oc c) (hr : Cells w g o r) :
    Calls Tryz.prog 197 #[(Value.slice (some ⟨gc, oc, none⟩) n cc), .int .i64 i, (Value.slice (some ⟨g, o, none⟩) m cp)] w (GotInts w (mirL c i r)) := by
  subst hn; subst hm
  have hrl : r.length ≤ 1048576 := by omega
  have he : mirL c i r = r.set i (wrap64 (r.getD i 0 - pairL (c.getD i []) r)) := rfl
  obtain ⟨ga, oa, ca, q1, q2, q3, q4⟩ := hc i hi
  generalize c.getD i [] = a at *
  have He := Lib.hid he; clear he
  go_enter Tryz.func197, Tryz.ntmps197
  go_wp2_with (at_builtin; refine wpList_clone rfl _ _ rfl g o _ cp r rfl hg hr rfl rfl (by omega) ?_)
  intro g3 c3 w3 ho3 hb3
  have q1' := (hb3.cell (p := ⟨gc, oc + i, none⟩) hgc).trans q1
  have hcall := fun W (hW : ∃ q, W = w3.drewN q) => impl_pairing_any ga oa _ ca g o _ cp a r W rfl rfl hl hx ((q4.below hb3 q3).still hW) ((hr.below hb3 hg).still hW)
  have hc1 := ho3.cell i hir
  have hf1 := ho3.frozen i
  have Hcall := Lib.hid hcall
  generalize pairL a r = p at *
  generalize r.getD i 0 = x at *
  clear hcall hr hc
  have HS : Hid (∀ W, (∃ q, W = w3.drewN q) → GotInts w (mirL c i r) (.returned (Value.slice (some ⟨g3, 0, none⟩) r.length c3)) (W.setCell ⟨g3, i, none⟩ (.int .i64 (wrap64 (x - p))))) := fun W hW => by
    have ho := ho3.still hW
    have hb := below_still hb3 hW
    have hs := ho.set i (wrap64 (x - p))
    rw [← He.out] at hs
    exact GotInts.mk' g3 c3 (mirL_length _ _ _) hs.1 (hb.grown hs.2 hb.size (by intro k hk; cases hk; exact ho.base))
  go_wp2
  go_region_with (go_at_call 219; refine (Hcall.out _ ⟨_, rfl⟩).mono ?_; rintro e w4 ⟨rfl, q, rfl⟩)
  all_goals
    go_wp2
    go_ret
    rw [show IntKind.i64.wrap (x - p) = wrap64 (x - p) by simp only [wrap64, IntKind.wrap_i64]]
    refine HS.out _ ?_
    exact (by first | exact ⟨_, rfl⟩ | exact ⟨0, rfl⟩ | exact still2 _ _ _ | exact still3 _ _ _ _)

set_option maxHeartbeats 2000000 in
theorem spec_l7Reflect_any (gc oc n cc i g o m cp : Nat) (c : List (List Int)) (r : List Int) (w : World) (hn : c.length = n) (hm : r.length = m) (hi : i < c.length) (hir : i < r.length) (hl : r.length ≤ (c.getD i []).length) (hx : (c.getD i []).length ≤ 1048576) (hgc : gc < w.heap.size) (hg : g < w.heap.size) (hc : Rows2 w gc oc c) (hr : Cells w g o r) :
    Calls Tryz.prog 141 #[(Value.slice (some ⟨gc, oc, none⟩) n cc), .int .i64 i, (Value.slice (some ⟨g, o, none⟩) m cp)] w (GotInts w (mirL c i r)) := by
  subst hn; subst hm
  have hrl : r.length ≤ 1048576 := by omega
  have he : mirL c i r = r.set i (wrap64 (r.getD i 0 - dotTo (c.getD i []) r r.length)) := rfl
  obtain ⟨ga, oa, ca, q1, q2, q3, q4⟩ := hc i hi
  generalize c.getD i [] = a at *
  have He := Lib.hid he; clear he
  go_enter Tryz.func141, Tryz.ntmps141
  go_wp2_with (at_builtin; refine wpList_clone rfl _ _ rfl g o _ cp r rfl hg hr rfl rfl (by omega) ?_)
  intro g3 c3 w3 ho3 hb3
  have q1' := (hb3.cell (p := ⟨gc, oc + i, none⟩) hgc).trans q1
  have hr3 := hr.below hb3 hg
  have hq3 := q4.below hb3 q3
  go_wp2
  go_loopw [8, 9] (fun s kv wr => ∃ t q : Nat, t ≤ r.length ∧ kv = .int .i64 t ∧ s = .int .i64 (dotTo a r t) ∧ wr = w3.drewN q) (fun _ kv _ => r.length - (intOf kv).toNat)
  case atStart => exact ⟨0, 0, Nat.zero_le _, rfl, rfl, rfl⟩
  case round =>
    obtain ⟨t, q, ht, rfl, rfl, rfl⟩ := hrel
    by_cases hlt : t < r.length
    · have e1 := hq3 t (by omega)
      have e2 := hr3 t hlt
      have hta : t < a.length := by omega
      have hd : dotTo a r (t + 1) = wrap64 (dotTo a r t + wrap64 (a.getD t 0 * r.getD t 0)) := rfl
      generalize a.getD t 0 = x at *
      generalize r.getD t 0 = y at *
      have Hd := Lib.hid hd; clear hd
      generalize dotTo a r t = z at *
      go_wp2
      go_quiet (fail)
      go_wp2
      go_roundw
      case rel => exact ⟨t + 1, _, by omega, by go_num, by rw [Hd.out], rfl⟩
      case measure => simp [intOf]; omega
    · obtain rfl : t = r.length := by omega
      have e2 := hr3 i hir
      have hc1 := ho3.cell i hir
      have hf1 := ho3.frozen i
      generalize dotTo a r r.length = p at *
      generalize r.getD i 0 = x at *
      have HS : Hid (∀ W, (∃ q, W = w3.drewN q) → GotInts w (mirL c i r) (.returned (Value.slice (some ⟨g3, 0, none⟩) r.length c3)) (W.setCell ⟨g3, i, none⟩ (.int .i64 (wrap64 (x - p))))) := fun W hW => by
        have ho := ho3.still hW
        have hb := below_still hb3 hW
        have hs := ho.set i (wrap64 (x - p))
        rw [← He.out] at hs
        exact GotInts.mk' g3 c3 (mirL_length _ _ _) hs.1 (hb.grown hs.2 hb.size (by intro k hk; cases hk; exact ho.base))
      go_wp2
      go_ret
      refine HS.out _ ?_
      exact (by first | exact ⟨_, rfl⟩ | exact ⟨0, rfl⟩ | exact still2 _ _ _ | exact still3 _ _ _ _)

end Go.Proofs.YtnpechcnmchneaaGreatDoor
