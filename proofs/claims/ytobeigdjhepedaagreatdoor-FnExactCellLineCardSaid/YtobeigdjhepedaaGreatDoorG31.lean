/- Small roots: what both searches find. Plain law. Roots: pairings, mirrors, heights, the order: contracts. Mirrored roots: contracts. IsWord of both: contracts. -/
import Derived.Test.YtobeigdjhepedaaGreatDoorG29
import Derived.Test.YtobeigdjhepedaaGreatDoorG02
import Derived.Test.YtobeigdjhepedaaGreatDoorG21
import Derived.Test.YtobeigdjhepedaaGreatDoorG08
import Derived.Deep.RegionWith
import Derived.Test.YtobeigdjhepedaaGreatDoorG03
import Derived.Test.YtobeigdjhepedaaGreatDoorG05
import Derived.BigQuiet
namespace Go.Proofs.YtobeigdjhepedaaGreatDoor
set_option maxRecDepth 100000
open Go.RowKit

/-- sums of products, as the machine makes them -/
def dotTo (a r : List Int) : Nat → Int
  | 0 => 0
  | k + 1 => wrap64 (dotTo a r k + wrap64 (a.getD k 0 * r.getD k 0))
def pairL (a r : List Int) : Int := dotTo a r r.length
def mirL (c : List (List Int)) (i : Nat) (r : List Int) : List Int := r.set i (wrap64 (r.getD i 0 - pairL (c.getD i []) r))
def simpL (n i : Nat) : List Int := (List.replicate n 0).set i 1
def transL (c : List (List Int)) : List (List Int) := (List.range c.length).map fun i => (List.range c.length).map fun j => ent c j i
def sumUp (r : List Int) : Nat → Int
  | 0 => 0
  | k + 1 => wrap64 (sumUp r k + r.getD k 0)
def heightL (r : List Int) : Int := sumUp r r.length
theorem mirL_length (c : List (List Int)) (i : Nat) (r : List Int) : (mirL c i r).length = r.length := by simp [mirL]
theorem simpL_length (n i : Nat) : (simpL n i).length = n := by simp [simpL]
theorem transL_length (c : List (List Int)) : (transL c).length = c.length := by simp [transL]
theorem transL_row {c : List (List Int)} {i : Nat} (hi : i < c.length) : (transL c).getD i [] = (List.range c.length).map fun j => ent c j i := by simp [transL, List.getD, hi]
theorem transL_rowLen {c : List (List Int)} {i : Nat} (hi : i < c.length) : ((transL c).getD i []).length = c.length := by rw [transL_row hi]; simp

/-- by height, then greater ones first -/
def rootCmp (a b : List Int) : Int := orL [cmpI (heightL a) (heightL b), sliceCmp b a]
theorem cmpI_anti (x y : Int) : cmpI y x = - cmpI x y := by
  unfold cmpI
  by_cases h1 : x < y
  · rw [if_pos h1, if_neg (by omega), if_pos h1]; rfl
  · by_cases h2 : y < x
    · rw [if_pos h2, if_neg h1, if_pos h2]
    · rw [if_neg h2, if_neg h1, if_neg h1, if_neg h2]; rfl
theorem cmpI_zero {x y : Int} (h : cmpI x y = 0) : x = y := by
  unfold cmpI at h
  split at h
  · omega
  · split at h
    · omega
    · omega
theorem cmpI_neg {x y : Int} : cmpI x y < 0 ↔ x < y := by
  unfold cmpI
  split
  · rename_i h; exact ⟨fun _ => h, fun _ => by omega⟩
  · split
    · exact ⟨fun h => by omega, fun h => by omega⟩
    · exact ⟨fun h => by omega, fun h => by omega⟩
theorem rootCmp_def (a b : List Int) : rootCmp a b = if cmpI (heightL a) (heightL b) = 0 then sliceCmp b a else cmpI (heightL a) (heightL b) := by
  unfold rootCmp
  simp only [orL]
  split
  · split
    · rename_i h; exact h.symm
    · rfl
  · rfl
theorem rootCmp_anti (a b : List Int) : rootCmp b a = - rootCmp a b := by
  rw [rootCmp_def, rootCmp_def]
  have h1 := cmpI_anti (heightL a) (heightL b)
  have h2 := sliceCmp_anti a b
  by_cases h : cmpI (heightL a) (heightL b) = 0
  · rw [if_pos (by omega), if_pos h]; omega
  · rw [if_neg (by omega), if_neg h]; omega
theorem rootCmp_zero {a b : List Int} (h : rootCmp a b = 0) : a = b := by
  rw [rootCmp_def] at h
  split at h
  · exact (sliceCmp_zero h).symm
  · rename_i g; exact absurd h g
theorem rootCmp_trans {a b d : List Int} (h1 : rootCmp a b < 0) (h2 : rootCmp b d < 0) : rootCmp a d < 0 := by
  rw [rootCmp_def] at *
  have k1 := @cmpI_neg (heightL a) (heightL b)
  have k2 := @cmpI_neg (heightL b) (heightL d)
  have k3 := @cmpI_neg (heightL a) (heightL d)
  split at h1
  · rename_i g1
    have e1 := cmpI_zero g1
    split at h2
    · rename_i g2
      have e2 := cmpI_zero g2
      rw [if_pos (by rw [e1, e2]; unfold cmpI; simp)]
      exact sliceCmp_trans _ _ _ h2 h1
    · have := k2.1 h2
      rw [if_neg (by intro h; have := cmpI_zero h; omega)]
      exact k3.2 (by omega)
  · have := k1.1 h1
    split at h2
    · rename_i g2
      have e2 := cmpI_zero g2
      rw [if_neg (by intro h; have := cmpI_zero h; omega)]
      exact k3.2 (by omega)
    · have := k2.1 h2
      rw [if_neg (by intro h; have := cmpI_zero h; omega)]
      exact k3.2 (by omega)
theorem rootCmp_self (a : List Int) : rootCmp a a = 0 := by have := rootCmp_anti a a; omega
/-- the reference's insertion -/
def putR : List (List Int) → List Int → List (List Int)
  | [], v => [v]
  | x :: l, v => if rootCmp v x < 0 then v :: x :: l else x :: putR l v
theorem mem_putR {x : List Int} : ∀ {l : List (List Int)} {v : List Int}, x ∈ putR l v ↔ x = v ∨ x ∈ l
  | [], v => by simp [putR]
  | y :: l, v => by
    unfold putR
    by_cases h2 : rootCmp v y < 0
    · rw [if_pos h2]; simp
    · rw [if_neg h2, List.mem_cons, mem_putR (l := l), List.mem_cons]
      constructor
      · rintro (h | h | h)
        · exact .inr (.inl h)
        · exact .inl h
        · exact .inr (.inr h)
      · rintro (h | h | h)
        · exact .inr (.inl h)
        · exact .inl h
        · exact .inr (.inr h)
theorem putR_length (l : List (List Int)) (v : List Int) : (putR l v).length = l.length + 1 := by
  induction l with
  | nil => simp [putR]
  | cons y l ih =>
    unfold putR
    split
    · simp
    · simp [ih]
def Up (L : List (List Int)) : Prop := L.Pairwise fun a b => rootCmp a b < 0
theorem putR_up : ∀ {l : List (List Int)} {v : List Int}, v ∉ l → Up l → Up (putR l v)
  | [], v, _, _ => List.pairwise_singleton _ _
  | y :: l, v, hv, h => by
    have h0 := List.pairwise_cons.1 h
    unfold putR
    have ha := rootCmp_anti v y
    by_cases h2 : rootCmp v y < 0
    · rw [if_pos h2]
      refine List.pairwise_cons.2 ⟨fun z hz => ?_, h⟩
      rcases List.mem_cons.1 hz with rfl | hz
      · exact h2
      · exact rootCmp_trans h2 (h0.1 z hz)
    · rw [if_neg h2]
      refine List.pairwise_cons.2 ⟨fun z hz => ?_, putR_up (fun hm => hv (List.mem_cons_of_mem _ hm)) h0.2⟩
      rcases mem_putR.1 hz with rfl | hz
      · rcases Int.lt_trichotomy (rootCmp y z) 0 with g | g | g
        · exact g
        · exact absurd (by rw [rootCmp_zero g]; simp) hv
        · omega
      · exact h0.1 z hz
def putsR (L : List (List Int)) : List (List Int) := L.foldl putR []
theorem putsR_aux : ∀ (L a : List (List Int)), L.Nodup → (∀ x ∈ L, x ∉ a) → Up a → Up (L.foldl putR a) ∧ ∀ x, x ∈ L.foldl putR a ↔ x ∈ L ∨ x ∈ a
  | [], a, _, _, h => ⟨h, by simp⟩
  | y :: L, a, hn, hd, h => by
    have hn' := List.nodup_cons.1 hn
    obtain ⟨h1, h2⟩ := putsR_aux L (putR a y) hn'.2 (fun x hx hm => by
      rcases mem_putR.1 hm with e | e
      · subst e; exact hn'.1 hx
      · exact hd x (List.mem_cons_of_mem _ hx) e) (putR_up (hd y (by simp)) h)
    refine ⟨h1, fun x => ?_⟩
    rw [List.foldl_cons, h2 x, mem_putR, List.mem_cons]
    constructor
    · rintro (h | h | h)
      · exact .inl (.inr h)
      · exact .inl (.inl h)
      · exact .inr h
    · rintro ((h | h) | h)
      · exact .inr (.inl h)
      · exact .inl h
      · exact .inr (.inr h)
theorem putsR_take {L : List (List Int)} {k : Nat} (hk : k < L.length) : putsR (L.take (k + 1)) = putR (putsR (L.take k)) (L.getD k []) := by
  have e : L.getD k [] = L[k] := by simp [List.getD, hk]
  unfold putsR
  rw [e, List.take_succ_eq_append_getElem hk, List.foldl_append]; rfl
theorem putsR_len (L : List (List Int)) : (putsR L).length = L.length := by
  have : ∀ (L a : List (List Int)), (L.foldl putR a).length = L.length + a.length := by
    intro L
    induction L with
    | nil => intro a; simp
    | cons y L ih => intro a; rw [List.foldl_cons, ih, putR_length]; simp; omega
  have h := this L []
  simpa [putsR] using h
/-- what is sorted is what is inserted one by one -/
theorem putsR_eq {L S : List (List Int)} (hn : L.Nodup) (hp : S.Perm L) (hs : S.Pairwise fun a b => ¬ rootCmp b a < 0) : S = putsR L := by
  obtain ⟨h1, h2⟩ := putsR_aux L [] hn (by simp) List.Pairwise.nil
  refine strict_uniq rootCmp_anti (strict_of rootCmp_anti rootCmp_zero hs (hp.nodup_iff.2 hn)) h1 fun x => ?_
  rw [hp.mem_iff]
  show x ∈ L ↔ x ∈ L.foldl putR []
  rw [h2 x]; simp

/-- the search: roots with their coroots -/
abbrev RPair := List Int × List Int
def smStep (c t : List (List Int)) (Q : List RPair) (k i : Nat) : List RPair :=
  let p := Q.getD k ([], [])
  if pairL (c.getD i []) p.1 < 0 ∧ wrap64 (pairL (c.getD i []) p.1 * pairL (t.getD i []) p.2) < 4 ∧ mirL c i p.1 ∉ Q.map (·.1) then Q ++ [(mirL c i p.1, mirL t i p.2)] else Q
def smRow (c t : List (List Int)) (Q : List RPair) (k : Nat) : Nat → List RPair
  | 0 => Q
  | i + 1 => smStep c t (smRow c t Q k i) k i
def smGo (c t : List (List Int)) : Nat → Nat → List RPair → Option (List RPair)
  | 0, k, Q => if Q.length ≤ k then some Q else none
  | f + 1, k, Q => if Q.length ≤ k then some Q else if 40 < (smRow c t Q k c.length).length then none else smGo c t f (k + 1) (smRow c t Q k c.length)
def smStart (c : List (List Int)) : List RPair := (List.range c.length).map fun i => (simpL c.length i, simpL c.length i)
def smR (c : List (List Int)) : Option (List RPair) := smGo c (transL c) 41 0 (smStart c)
def smallL (c : List (List Int)) : List (List Int) := match smR c with | some Q => putsR (Q.map (·.1)) | none => []
/-- all roots and coroots have a number for each point, no root stands twice -/
structure SmOk (c : List (List Int)) (Q : List RPair) : Prop where
  len1 : ∀ p ∈ Q, p.1.length = c.length ∧ p.2.length = c.length
  nodup : (Q.map (·.1)).Nodup
section
variable {c t : List (List Int)} {Q : List RPair} {k i : Nat}
theorem smStep_le : Q.length ≤ (smStep c t Q k i).length ∧ (smStep c t Q k i).length ≤ Q.length + 1 := by
  unfold smStep
  dsimp only
  split
  · simp
  · simp
theorem smRow_le : ∀ i, Q.length ≤ (smRow c t Q k i).length ∧ (smRow c t Q k i).length ≤ Q.length + i
  | 0 => by simp [smRow]
  | i + 1 => by
    have h1 := smRow_le i
    have h2 := smStep_le (c := c) (t := t) (Q := smRow c t Q k i) (k := k) (i := i)
    simp only [smRow]
    omega
theorem smRow_mono {i j : Nat} (h : i ≤ j) : (smRow c t Q k i).length ≤ (smRow c t Q k j).length := by
  induction h with
  | refl => exact Nat.le_refl _
  | step _ ih => exact Nat.le_trans ih smStep_le.1
theorem SmOk.step (h : SmOk c Q) (hk : k < Q.length) : SmOk c (smStep c t Q k i) := by
  unfold smStep
  dsimp only
  split
  · rename_i hc
    have hm : Q.getD k ([], []) ∈ Q := by simp [List.getD, hk]
    have hl := h.len1 _ hm
    refine ⟨?_, ?_⟩
    · intro p hp
      rcases List.mem_append.1 hp with h1 | h1
      · exact h.len1 p h1
      · rw [List.mem_singleton] at h1
        subst h1
        exact ⟨by rw [mirL_length]; exact hl.1, by rw [mirL_length]; exact hl.2⟩
    · rw [List.map_append, List.nodup_append]
      refine ⟨h.nodup, by simp, ?_⟩
      intro a ha b hb e
      rw [List.map_cons, List.map_nil, List.mem_singleton] at hb
      subst hb; subst e
      exact hc.2.2 ha
  · exact h
theorem SmOk.row (h : SmOk c Q) (hk : k < Q.length) : ∀ i, SmOk c (smRow c t Q k i)
  | 0 => h
  | i + 1 => (SmOk.row h hk i).step (Nat.lt_of_lt_of_le hk (smRow_le i).1)
theorem simpL_inj {n i j : Nat} (hi : i < n) (h : simpL n i = simpL n j) : i = j := by
  have h1 : (simpL n i).getD i 0 = 1 := by simp [simpL, List.getD, hi]
  rw [h] at h1
  by_cases e : i = j
  · exact e
  · have : (simpL n j).getD i 0 = 0 := by simp [simpL, List.getD, hi, Ne.symm e]
    omega
theorem smStart_ok (c : List (List Int)) : SmOk c (smStart c) := by
  refine ⟨?_, ?_⟩
  · intro p hp
    obtain ⟨i, -, rfl⟩ := List.mem_map.1 hp
    exact ⟨simpL_length _ _, simpL_length _ _⟩
  · unfold smStart
    rw [List.map_map]
    rw [List.Nodup, List.pairwise_map]
    have hp := List.nodup_range (n := c.length)
    refine List.Pairwise.imp_of_mem (fun {a b} ha hb hab e => hab ?_) hp
    exact simpL_inj (List.mem_range.1 ha) e
theorem smStart_length (c : List (List Int)) : (smStart c).length = c.length := by simp [smStart]
theorem smGo_next {f : Nat} (hk : k < Q.length) (hl : (smRow c t Q k c.length).length ≤ 40) : smGo c t (f + 1) k Q = smGo c t f (k + 1) (smRow c t Q k c.length) := by
  simp only [smGo]
  rw [if_neg (by omega), if_neg (by omega)]
theorem smGo_over {f : Nat} (hk : k < Q.length) (hl : 40 < (smRow c t Q k c.length).length) : smGo c t (f + 1) k Q = none := by
  simp only [smGo]
  rw [if_neg (by omega), if_pos hl]
theorem smGo_done {f : Nat} (hk : Q.length ≤ k) : smGo c t f k Q = some Q := by
  cases f <;> simp only [smGo] <;> rw [if_pos hk]
theorem SmOk.go : ∀ (f k : Nat) (Q R : List RPair), SmOk c Q → Q.length ≤ 40 → smGo c t f k Q = some R → SmOk c R ∧ R.length ≤ 40
  | 0, k, Q, R, h, hl, e => by
    simp only [smGo] at e
    split at e
    · cases e; exact ⟨h, hl⟩
    · cases e
  | f + 1, k, Q, R, h, hl, e => by
    simp only [smGo] at e
    split at e
    · cases e; exact ⟨h, hl⟩
    · rename_i hk
      split at e
      · cases e
      · rename_i h40
        exact SmOk.go f (k + 1) _ R (h.row (by omega) _) (by omega) e
theorem smR_ok {R : List RPair} (hn : c.length ≤ 40) (h : smR c = some R) : SmOk c R ∧ R.length ≤ 40 :=
  SmOk.go 41 0 _ R (smStart_ok c) (by rw [smStart_length]; exact hn) h
theorem smallL_few (hn : c.length ≤ 4) : (smallL c).length ≤ 40 ∧ ∀ x ∈ smallL c, x.length = c.length := by
  unfold smallL
  split
  · rename_i Q h
    obtain ⟨h1, h2⟩ := smR_ok (by omega) h
    refine ⟨by rw [putsR_len]; simpa using h2, ?_⟩
    intro x hx
    have := ((putsR_aux _ [] h1.nodup (by simp) List.Pairwise.nil).2 x).1 hx
    rcases this with h3 | h3
    · obtain ⟨p, hp, rfl⟩ := List.mem_map.1 h3
      exact (h1.len1 p hp).1
    · simp at h3
  · exact ⟨by simp, by simp⟩
end
end Go.Proofs.YtobeigdjhepedaaGreatDoor
namespace Go.Proofs.YtobeigdjhepedaaGreatDoor
set_option maxRecDepth 100000
open Go.RowKit Game

theorem own_simple {w : World} {B g n cap : Nat} (h : Own w B g cap (List.replicate n 0)) {i : Nat} : Own (w.setCell ⟨g, i, none⟩ (.int .i64 1)) B g cap (simpL n i) ∧ w.grownBy (w.setCell ⟨g, i, none⟩ (.int .i64 1)) (some g) := by
  have := h.set i 1
  exact this
end Go.Proofs.YtobeigdjhepedaaGreatDoor
namespace Go.Proofs.YtobeigdjhepedaaGreatDoor
set_option maxRecDepth 100000
open Go.RowKit Game

end Go.Proofs.YtobeigdjhepedaaGreatDoor
namespace Go.Proofs.YtobeigdjhepedaaGreatDoor
set_option maxRecDepth 100000
open Go.RowKit Game

def lettersB (n : Nat) (l : List Int) : Bool := l.all fun x => decide (0 ≤ x) && decide (x < (n : Int))
def isWordB (c : List (List Int)) (l : List Int) : Bool := decide (IsC c) && (decide (l.length ≤ 15) && lettersB c.length l)
theorem letters_out {n : Nat} {l : List Int} {k : Nat} (hk : k < l.length) (h : ¬ (0 ≤ l.getD k 0 ∧ l.getD k 0 < (n : Int))) : lettersB n l = false := by
  have e : l.getD k 0 = l[k] := by simp [List.getD, hk]
  rw [e] at h
  rw [← Bool.not_eq_true]
  intro ht
  have := List.all_eq_true.1 ht l[k] (List.getElem_mem hk)
  simp only [Bool.and_eq_true, decide_eq_true_eq] at this
  exact h this
theorem letters_in {n : Nat} {l : List Int} (h : ∀ k, k < l.length → 0 ≤ l.getD k 0 ∧ l.getD k 0 < (n : Int)) : lettersB n l = true := by
  refine List.all_eq_true.2 fun x hx => ?_
  obtain ⟨k, hk, rfl⟩ := List.getElem_of_mem hx
  have := h k hk
  have e : l.getD k 0 = l[k] := by simp [List.getD, hk]
  rw [e] at this
  simpa using this
theorem isWordB_of {c : List (List Int)} {l : List Int} (h : isWordB c l = true) : IsC c ∧ l.length ≤ 15 ∧ ∀ x ∈ l, 0 ≤ x ∧ x < (c.length : Int) := by
  simp only [isWordB, Bool.and_eq_true, decide_eq_true_eq] at h
  refine ⟨h.1, h.2.1, fun x hx => ?_⟩
  have := List.all_eq_true.1 h.2.2 x hx
  simpa using this

set_option maxHeartbeats 1000000 in
theorem impl_isWordOf_any (gc oc n cc g o m cp : Nat) (l : List Int) (w : World) (hm : l.length = m) (hl : l.length ≤ 1048576) (hc : Cells w g o l) :
    Calls Tryz.prog 65 #[(Value.slice (some ⟨gc, oc, none⟩) n cc), (Value.slice (some ⟨g, o, none⟩) m cp)] w (Reads w (.bool (lettersB n l))) := by
  subst hm
  go_enter Tryz.func65, Tryz.ntmps65
  go_wp2
  go_loopw [9] (fun i wr => ∃ k : Nat, k ≤ l.length ∧ i = .int .i64 k ∧ Hid (∀ j, j < k → 0 ≤ l.getD j 0 ∧ l.getD j 0 < (n : Int)) ∧ ∃ q, wr = w.drewN q) (fun i _ => l.length - (intOf i).toNat)
  case atStart => exact ⟨0, Nat.zero_le _, rfl, fun j h => absurd h (by omega), (by first | exact ⟨_, rfl⟩ | exact ⟨0, rfl⟩ | exact still2 _ _ _ | exact still3 _ _ _ _)⟩
  case round =>
    obtain ⟨k, hk, rfl, hp, q, rfl⟩ := hrel
    by_cases hlt : k < l.length
    · have c1 := hc k hlt
      have HA : Hid (¬ (0 ≤ l.getD k 0 ∧ l.getD k 0 < (n : Int)) → lettersB n l = false) := letters_out hlt
      have HB : Hid (0 ≤ l.getD k 0 ∧ l.getD k 0 < (n : Int) → ∀ j, j < k + 1 → 0 ≤ l.getD j 0 ∧ l.getD j 0 < (n : Int)) := fun h j hj => by
        by_cases e : j = k
        · subst e; exact h
        · exact hp.out j (by omega)
      generalize l.getD k 0 = x at *
      have hcall := impl_isPoint_any gc oc n cc x (w.drewN q)
      by_cases hx : 0 ≤ x ∧ x < (n : Int)
      · have hT : (decide (0 ≤ x) && decide (x < (n : Int))) = true := by simpa using hx
        rw [hT] at hcall
        have hb := HB.out hx
        have Hb := Lib.hid hb; have Hcall := Lib.hid hcall
        clear hb hcall hT HA HB hp hx
        go_wp2_with fail
        refine Hcall.out.mono ?_
        rintro e w2 ⟨rfl, q2, rfl⟩
        go_wp2_with fail
        go_roundw
        case rel => exact ⟨k + 1, by omega, by go_num, Hb.out, (by first | exact ⟨_, rfl⟩ | exact ⟨0, rfl⟩ | exact still2 _ _ _ | exact still3 _ _ _ _)⟩
        case measure => simp [intOf]; omega
      · have hT : (decide (0 ≤ x) && decide (x < (n : Int))) = false := by
          rw [← Bool.not_eq_true, Bool.and_eq_true, decide_eq_true_eq, decide_eq_true_eq]; exact hx
        rw [hT] at hcall
        have ha := HA.out hx
        have Ha := Lib.hid ha; have Hcall := Lib.hid hcall
        clear ha hcall hT HA HB hp hx
        go_wp2_with fail
        refine Hcall.out.mono ?_
        rintro e w2 ⟨rfl, q2, rfl⟩
        go_wp2_with fail
        go_ret
        exact ⟨ret_bool Ha.out.symm, (by first | exact ⟨_, rfl⟩ | exact ⟨0, rfl⟩ | exact still2 _ _ _ | exact still3 _ _ _ _)⟩
    · obtain rfl : k = l.length := by omega
      have Hf : Hid (lettersB n l = true) := letters_in hp.out
      clear hp
      go_wp2
      go_ret
      exact ⟨ret_bool Hf.out.symm, (by first | exact ⟨_, rfl⟩ | exact ⟨0, rfl⟩ | exact still2 _ _ _ | exact still3 _ _ _ _)⟩

set_option maxHeartbeats 1000000 in
theorem impl_IsWord_any (gc oc n cc g o m cp : Nat) (c : List (List Int)) (l : List Int) (w : World) (hn : c.length = n) (hm : l.length = m) (hx : c.length ≤ 1048576) (hrl : ∀ j, j < c.length → (c.getD j []).length ≤ 1048576) (hl : l.length ≤ 1048576) (hr : Rows2 w gc oc c) (hc : Cells w g o l) :
    Calls Tryz.prog 31 #[(Value.slice (some ⟨gc, oc, none⟩) n cc), (Value.slice (some ⟨g, o, none⟩) m cp)] w (Reads w (.bool (isWordB c l))) := by
  subst hn; subst hm
  have hcall := impl_IsCartan gc oc _ cc c w rfl (by omega) (fun j hj => by have := hrl j hj; omega) hr
  have hcall2 := fun W (hW : ∃ q, W = w.drewN q) => impl_isWordOf_any gc oc c.length cc g o _ cp l W rfl hl (hc.still hW)
  have Hcall2 := Lib.hid hcall2
  clear hr hc hcall2 hrl
  by_cases hC : IsC c
  · rw [decide_eq_true hC] at hcall
    have Hcall := Lib.hid hcall
    by_cases h15 : l.length ≤ 15
    · have hv : isWordB c l = lettersB c.length l := by unfold isWordB; rw [decide_eq_true hC, decide_eq_true h15]; simp
      rw [hv]
      have h15I : (l.length : Int) ≤ 15 := by omega
      clear hcall hv
      generalize lettersB c.length l = b at *
      go_enter Tryz.func31, Tryz.ntmps31
      go_wp2_with fail
      refine Hcall.out.mono ?_
      rintro e w2 ⟨rfl, hs2⟩
      have Hc3 := Lib.hid (Hcall2.out w2 hs2)
      go_wp2_with fail
      refine Hc3.out.mono ?_
      rintro e w3 ⟨rfl, hs3⟩
      have hs := still_trans hs2 hs3
      cases b
      all_goals
        go_wp2_with fail
        go_ret
        exact ⟨rfl, hs⟩
    · have hv : isWordB c l = false := by unfold isWordB; rw [decide_eq_false h15]; simp
      have Hv := Lib.hid hv
      have h15I : (15 : Int) < (l.length : Int) := by omega
      clear hcall hv h15
      go_enter Tryz.func31, Tryz.ntmps31
      go_wp2_with fail
      refine Hcall.out.mono ?_
      rintro e w2 ⟨rfl, hs2⟩
      go_wp2_with fail
      go_ret
      exact ⟨ret_bool Hv.out.symm, hs2⟩
  · rw [decide_eq_false hC] at hcall
    have Hcall := Lib.hid hcall
    have hv : isWordB c l = false := by unfold isWordB; rw [decide_eq_false hC]; simp
    have Hv := Lib.hid hv
    clear hcall hv
    go_enter Tryz.func31, Tryz.ntmps31
    go_wp2_with fail
    refine Hcall.out.mono ?_
    rintro e w2 ⟨rfl, hs2⟩
    go_wp2_with fail
    go_ret
    exact ⟨ret_bool Hv.out.symm, hs2⟩

set_option maxHeartbeats 1000000 in
theorem spec_IsWord_any (gc oc n cc g o m cp : Nat) (c : List (List Int)) (l : List Int) (w : World) (hn : c.length = n) (hm : l.length = m) (hx : c.length ≤ 1048576) (hrl : ∀ j, j < c.length → (c.getD j []).length ≤ 1048576) (hl : l.length ≤ 1048576) (hr : Rows2 w gc oc c) (hc : Cells w g o l) :
    Calls Tryz.prog 22 #[(Value.slice (some ⟨gc, oc, none⟩) n cc), (Value.slice (some ⟨g, o, none⟩) m cp)] w (Reads w (.bool (isWordB c l))) := by
  subst hn; subst hm
  have hcall2 := fun W (hW : ∃ q, W = w.drewN q) => spec_IsCartan gc oc _ cc c W rfl (by omega) (fun j hj => by have := hrl j hj; omega) (hr.still hW)
  have Hcall2 := Lib.hid hcall2
  clear hr hcall2 hrl
  go_enter Tryz.func22, Tryz.ntmps22
  go_wp2
  go_loopw [5] (fun i wr => ∃ k : Nat, k ≤ l.length ∧ i = .int .i64 k ∧ Hid (∀ j, j < k → 0 ≤ l.getD j 0 ∧ l.getD j 0 < (c.length : Int)) ∧ ∃ q, wr = w.drewN q) (fun i _ => l.length - (intOf i).toNat)
  case atStart => exact ⟨0, Nat.zero_le _, rfl, fun j h => absurd h (by omega), (by first | exact ⟨_, rfl⟩ | exact ⟨0, rfl⟩ | exact still2 _ _ _ | exact still3 _ _ _ _)⟩
  case round =>
    obtain ⟨k, hk, rfl, hp, q, rfl⟩ := hrel
    by_cases hlt : k < l.length
    · have c1 := hc k hlt
      have HA : Hid (¬ (0 ≤ l.getD k 0 ∧ l.getD k 0 < (c.length : Int)) → isWordB c l = false) := fun h => by unfold isWordB; rw [letters_out hlt h]; simp
      have HB : Hid (0 ≤ l.getD k 0 ∧ l.getD k 0 < (c.length : Int) → ∀ j, j < k + 1 → 0 ≤ l.getD j 0 ∧ l.getD j 0 < (c.length : Int)) := fun h j hj => by
        by_cases e : j = k
        · subst e; exact h
        · exact hp.out j (by omega)
      generalize l.getD k 0 = x at *
      have hcall := spec_l1In x 0 ((c.length : Int) - 1) (w.drewN q)
      by_cases hx : 0 ≤ x ∧ x < (c.length : Int)
      · have hT : (decide (0 ≤ x) && decide (x ≤ (c.length : Int) - 1)) = true := by simp only [Bool.and_eq_true, decide_eq_true_eq]; omega
        rw [hT] at hcall
        have hb := HB.out hx
        have Hb := Lib.hid hb; have Hcall := Lib.hid hcall
        clear hb hcall hT HA HB hp hx
        go_wp2_with fail
        refine Hcall.out.mono ?_
        rintro e w2 ⟨rfl, q2, rfl⟩
        go_wp2_with fail
        go_roundw
        case rel => exact ⟨k + 1, by omega, by go_num, Hb.out, (by first | exact ⟨_, rfl⟩ | exact ⟨0, rfl⟩ | exact still2 _ _ _ | exact still3 _ _ _ _)⟩
        case measure => simp [intOf]; omega
      · have hT : (decide (0 ≤ x) && decide (x ≤ (c.length : Int) - 1)) = false := by
          rw [← Bool.not_eq_true, Bool.and_eq_true, decide_eq_true_eq, decide_eq_true_eq]; omega
        rw [hT] at hcall
        have ha := HA.out hx
        have Ha := Lib.hid ha; have Hcall := Lib.hid hcall
        clear ha hcall hT HA HB hp hx
        go_wp2_with fail
        refine Hcall.out.mono ?_
        rintro e w2 ⟨rfl, q2, rfl⟩
        go_wp2_with fail
        go_ret
        exact ⟨ret_bool Ha.out.symm, (by first | exact ⟨_, rfl⟩ | exact ⟨0, rfl⟩ | exact still2 _ _ _ | exact still3 _ _ _ _)⟩
    · obtain rfl : k = l.length := by omega
      have hf : lettersB c.length l = true := letters_in hp.out
      have hcall := Hcall2.out (w.drewN q) (by first | exact ⟨_, rfl⟩ | exact ⟨0, rfl⟩ | exact still2 _ _ _ | exact still3 _ _ _ _)
      clear hp
      by_cases hC : IsC c
      · have hv : isWordB c l = decide (l.length ≤ 15) := by unfold isWordB; rw [decide_eq_true hC, hf]; simp
        rw [decide_eq_true hC] at hcall
        have Hcall := Lib.hid hcall; have Hv := Lib.hid hv
        clear hcall hv hf
        by_cases h15 : l.length ≤ 15
        · have h15I : (l.length : Int) ≤ 15 := by omega
          go_wp2_with fail
          refine Hcall.out.mono ?_
          rintro e w2 ⟨rfl, q2, rfl⟩
          go_wp2_with fail
          go_ret
          exact ⟨ret_bool (by rw [Hv.out, decide_eq_true h15]), (by first | exact ⟨_, rfl⟩ | exact ⟨0, rfl⟩ | exact still2 _ _ _ | exact still3 _ _ _ _)⟩
        · have h15I : (15 : Int) < (l.length : Int) := by omega
          go_wp2_with fail
          refine Hcall.out.mono ?_
          rintro e w2 ⟨rfl, q2, rfl⟩
          go_wp2_with fail
          go_ret
          exact ⟨ret_bool (by rw [Hv.out]; simp; omega), (by first | exact ⟨_, rfl⟩ | exact ⟨0, rfl⟩ | exact still2 _ _ _ | exact still3 _ _ _ _)⟩
      · have hv : isWordB c l = false := by unfold isWordB; rw [decide_eq_false hC]; simp
        rw [decide_eq_false hC] at hcall
        have Hcall := Lib.hid hcall; have Hv := Lib.hid hv
        clear hcall hv hf
        go_wp2_with fail
        refine Hcall.out.mono ?_
        rintro e w2 ⟨rfl, q2, rfl⟩
        go_wp2_with fail
        go_ret
        exact ⟨ret_bool Hv.out.symm, (by first | exact ⟨_, rfl⟩ | exact ⟨0, rfl⟩ | exact still2 _ _ _ | exact still3 _ _ _ _)⟩
end Go.Proofs.YtobeigdjhepedaaGreatDoor
