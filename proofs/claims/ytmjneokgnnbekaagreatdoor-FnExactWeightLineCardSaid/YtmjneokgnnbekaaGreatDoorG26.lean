/- Positive roots of finite types, up to height 12: the search as a function; by enumeration it is closed at every finite type. Plain law. Positive roots of finite types: what is closed and holds the simple ones is all. Plain law. RootSign of both: contracts. Pairs of roots and coroots of the call's own; 'add', that puts one into the list unless it is there: contract. 'add', that puts a pair into the list unless its root is there: contract. -/
import Derived.Test.YtmjneokgnnbekaaGreatDoorG23
import Derived.Test.YtmjneokgnnbekaaGreatDoorG12
import Derived.Test.YtmjneokgnnbekaaGreatDoorG25
namespace Go.Proofs.YtmjneokgnnbekaaGreatDoor
set_option maxRecDepth 100000
open Go.RowKit

/-- RootSign is 1 -/
def posB (r : List Int) : Bool := (r.any fun x => decide (0 < x)) && !(r.any fun x => decide (x < 0))
def upStep (c Q : List (List Int)) (k i : Nat) : List (List Int) :=
  let r := mirL c i (Q.getD k [])
  if posB r = true ∧ heightL r ≤ 12 ∧ heightL (Q.getD k []) < heightL r ∧ r ∉ Q then putR Q r else Q
def upRow (c Q : List (List Int)) (k : Nat) : Nat → List (List Int)
  | 0 => Q
  | i + 1 => upStep c (upRow c Q k i) k i
def upGo (c : List (List Int)) : Nat → Nat → List (List Int) → List (List Int)
  | 0, _, Q => Q
  | f + 1, k, Q => if k < Q.length then upGo c f (k + 1) (upRow c Q k c.length) else Q
def upStart (n : Nat) : Nat → List (List Int)
  | 0 => []
  | i + 1 => putR (upStart n i) (simpL n i)
def posL (c : List (List Int)) : List (List Int) := upGo c 25 0 (upStart c.length c.length)
def closedB (c L : List (List Int)) : Bool := L.all fun r => (List.range c.length).all fun i => let s := mirL c i r; !(posB s) || decide (12 < heightL s) || L.contains s
def posOk (c : List (List Int)) : Bool := decide ((posL c).length ≤ 24) && (((posL c).all fun r => r.all fun x => decide (0 ≤ x ∧ x ≤ 12)) && closedB c (posL c))
end Go.Proofs.YtmjneokgnnbekaaGreatDoor
namespace Go.Proofs.YtmjneokgnnbekaaGreatDoor
set_option maxRecDepth 100000
open Go.RowKit

theorem upStep_sub {c Q : List (List Int)} {k i : Nat} : ∀ x ∈ Q, x ∈ upStep c Q k i := by
  intro x hx
  unfold upStep
  simp only
  split
  · exact mem_putR.2 (.inr hx)
  · exact hx
theorem upStep_mem {c Q : List (List Int)} {k i : Nat} {x : List Int} (h : x ∈ upStep c Q k i) : x ∈ Q ∨ (x = mirL c i (Q.getD k []) ∧ posB x = true ∧ heightL x ≤ 12) := by
  unfold upStep at h
  simp only at h
  split at h
  · rename_i hc
    rcases mem_putR.1 h with rfl | h
    · exact .inr ⟨rfl, hc.1, hc.2.1⟩
    · exact .inl h
  · exact .inl h
theorem upStep_up {c Q : List (List Int)} {k i : Nat} (h : Up Q) : Up (upStep c Q k i) := by
  unfold upStep
  simp only
  split
  · rename_i hc
    exact putR_up hc.2.2.2 h
  · exact h
theorem upStep_len {c Q : List (List Int)} {k i : Nat} : Q.length ≤ (upStep c Q k i).length := by
  unfold upStep
  simp only
  split
  · rw [putR_length]; omega
  · exact Nat.le_refl _
theorem upRow_sub {c Q : List (List Int)} {k : Nat} : ∀ i, ∀ x ∈ Q, x ∈ upRow c Q k i
  | 0, _, h => h
  | i + 1, x, h => upStep_sub x (upRow_sub i x h)
theorem upRow_up {c Q : List (List Int)} {k : Nat} (h : Up Q) : ∀ i, Up (upRow c Q k i)
  | 0 => h
  | i + 1 => upStep_up (upRow_up h i)
theorem upRow_len {c Q : List (List Int)} {k : Nat} : ∀ i, Q.length ≤ (upRow c Q k i).length
  | 0 => Nat.le_refl _
  | i + 1 => Nat.le_trans (upRow_len i) upStep_len
theorem upGo_sub {c : List (List Int)} : ∀ (f k : Nat) (Q : List (List Int)), ∀ x ∈ Q, x ∈ upGo c f k Q
  | 0, _, _, _, h => h
  | f + 1, k, Q, x, h => by
    unfold upGo
    split
    · exact upGo_sub f (k + 1) _ x (upRow_sub _ x h)
    · exact h
theorem upGo_up {c : List (List Int)} : ∀ (f k : Nat) (Q : List (List Int)), Up Q → Up (upGo c f k Q)
  | 0, _, _, h => h
  | f + 1, k, Q, h => by
    unfold upGo
    split
    · exact upGo_up f (k + 1) _ (upRow_up h _)
    · exact h
theorem upGo_len {c : List (List Int)} : ∀ (f k : Nat) (Q : List (List Int)), Q.length ≤ (upGo c f k Q).length
  | 0, _, _ => Nat.le_refl _
  | f + 1, k, Q => by
    unfold upGo
    split
    · exact Nat.le_trans (upRow_len _) (upGo_len f (k + 1) _)
    · exact Nat.le_refl _
theorem upGo_next {c Q : List (List Int)} {f k : Nat} (hk : k < Q.length) : upGo c (f + 1) k Q = upGo c f (k + 1) (upRow c Q k c.length) := by
  conv => lhs; unfold upGo
  rw [if_pos hk]
theorem upGo_done {c Q : List (List Int)} {f k : Nat} (hk : Q.length ≤ k) : upGo c f k Q = Q := by
  cases f with
  | zero => rfl
  | succ f => unfold upGo; rw [if_neg (by omega)]
/-- what is closed holds all that the search finds -/
structure Closed (c S : List (List Int)) : Prop where
  simp : ∀ i, i < c.length → simpL c.length i ∈ S
  step : ∀ r ∈ S, ∀ i, i < c.length → posB (mirL c i r) = true → heightL (mirL c i r) ≤ 12 → mirL c i r ∈ S
theorem Closed.upRow {c S Q : List (List Int)} (h : Closed c S) (hQ : ∀ x ∈ Q, x ∈ S) {k : Nat} (hk : k < Q.length) : ∀ i, i ≤ c.length → ∀ x ∈ upRow c Q k i, x ∈ S := by
  intro i
  induction i with
  | zero => intro _ x hx; exact hQ x hx
  | succ i ih =>
    intro hi x hx
    have ih' := ih (by omega)
    rcases upStep_mem (show x ∈ upStep c (Go.Proofs.YtmjneokgnnbekaaGreatDoor.upRow c Q k i) k i from hx) with h1 | ⟨h1, h2, h3⟩
    · exact ih' x h1
    · have hkl : k < (Go.Proofs.YtmjneokgnnbekaaGreatDoor.upRow c Q k i).length := Nat.lt_of_lt_of_le hk (upRow_len i)
      have hm : (Go.Proofs.YtmjneokgnnbekaaGreatDoor.upRow c Q k i).getD k [] ∈ S := by
        apply ih'
        simp [List.getD, hkl]
      rw [h1] at h2 h3 ⊢
      exact h.step _ hm i (by omega) h2 h3
theorem Closed.upGo {c S : List (List Int)} (h : Closed c S) : ∀ (f k : Nat) (Q : List (List Int)), (∀ x ∈ Q, x ∈ S) → ∀ x ∈ upGo c f k Q, x ∈ S
  | 0, _, _, hQ => hQ
  | f + 1, k, Q, hQ => by
    unfold Go.Proofs.YtmjneokgnnbekaaGreatDoor.upGo
    split
    · rename_i hk
      exact Closed.upGo h f (k + 1) _ (h.upRow hQ hk _ (Nat.le_refl _))
    · exact hQ
theorem upStart_mem {n : Nat} {x : List Int} : ∀ i, x ∈ upStart n i ↔ ∃ j, j < i ∧ x = simpL n j
  | 0 => by simp [upStart]
  | i + 1 => by
    unfold upStart
    rw [mem_putR, upStart_mem i]
    constructor
    · rintro (rfl | ⟨j, hj, rfl⟩)
      · exact ⟨i, by omega, rfl⟩
      · exact ⟨j, by omega, rfl⟩
    · rintro ⟨j, hj, rfl⟩
      by_cases e : j = i
      · subst e; exact .inl rfl
      · exact .inr ⟨j, by omega, rfl⟩
theorem upStart_up {n : Nat} : ∀ i, i ≤ n → Up (upStart n i)
  | 0, _ => List.Pairwise.nil
  | i + 1, h => by
    unfold upStart
    refine putR_up ?_ (upStart_up i (by omega))
    rw [upStart_mem]
    rintro ⟨j, hj, e⟩
    have := simpL_inj (n := n) (i := i) (j := j) (by omega) e
    omega
theorem upStart_length (n : Nat) : ∀ i, (upStart n i).length = i
  | 0 => rfl
  | i + 1 => by unfold upStart; rw [putR_length, upStart_length]
theorem posL_up (c : List (List Int)) : Up (posL c) := upGo_up _ _ _ (upStart_up _ (Nat.le_refl _))
theorem Up.nodup {L : List (List Int)} (h : Up L) : L.Nodup := h.imp fun {a b} hab e => by subst e; rw [rootCmp_self] at hab; omega
/-- posL of a finite type: few, small, closed -/
structure PosOk (c : List (List Int)) : Prop where
  few : (posL c).length ≤ 24
  small : ∀ r ∈ posL c, ∀ x ∈ r, 0 ≤ x ∧ x ≤ 12
  closed : Closed c (posL c)
theorem posOk_of {c : List (List Int)} (h : posOk c = true) : PosOk c := by
  unfold posOk at h
  rw [Bool.and_eq_true, Bool.and_eq_true] at h
  refine ⟨by simpa using h.1, fun r hr x hx => ?_, ⟨fun i hi => upGo_sub _ _ _ _ ((upStart_mem _).2 ⟨i, hi, rfl⟩), fun r hr i hi h1 h2 => ?_⟩⟩
  · have := List.all_eq_true.1 (List.all_eq_true.1 h.2.1 r hr) x hx
    simpa using this
  · have h3 := List.all_eq_true.1 (List.all_eq_true.1 h.2.2 r hr) i (List.mem_range.2 hi)
    simp only [h1, Bool.not_true, Bool.false_or, Bool.or_eq_true, decide_eq_true_eq] at h3
    rcases h3 with h3 | h3
    · omega
    · simpa using h3
/-- a closed list without doubles inside posL is posL, put in order -/
theorem posL_eq {c Q : List (List Int)} (hn : Q.Nodup) (hs : ∀ x ∈ Q, x ∈ posL c) (hc : Closed c Q) : putsR Q = posL c := by
  have hsub : ∀ x ∈ posL c, x ∈ Q := hc.upGo _ _ _ (fun x hx => by obtain ⟨j, hj, rfl⟩ := (upStart_mem _).1 hx; exact hc.simp j hj)
  have hp : (posL c).Perm Q := (List.perm_ext_iff_of_nodup (posL_up c).nodup hn).2 fun x => ⟨hsub x, hs x⟩
  refine (putsR_eq hn hp ?_).symm
  exact (posL_up c).imp fun {a b} hab hba => by have := rootCmp_anti a b; omega
end Go.Proofs.YtmjneokgnnbekaaGreatDoor
namespace Go.Proofs.YtmjneokgnnbekaaGreatDoor
set_option maxRecDepth 100000
open Go.RowKit

def upB (r : List Int) : Bool := r.any fun x => decide (0 < x)
def dnB (r : List Int) : Bool := r.any fun x => decide (x < 0)
def signL (r : List Int) : Int := if upB r = dnB r then 0 else if upB r = true then 1 else -1
theorem posB_eq (r : List Int) : posB r = (upB r && !dnB r) := rfl
theorem sign_pos (r : List Int) : decide (0 < signL r) = posB r := by
  unfold signL
  rw [posB_eq]
  cases upB r <;> cases dnB r <;> rfl
theorem sign_one (r : List Int) : (signL r == 1) = posB r := by
  unfold signL
  rw [posB_eq]
  cases upB r <;> cases dnB r <;> rfl
theorem sign_of {r : List Int} {u d : Bool} (hu : upB r = u) (hd : dnB r = d) : signL r = if u = d then 0 else if u = true then 1 else -1 := by unfold signL; rw [hu, hd]
theorem up_take {r : List Int} {k : Nat} (hk : k < r.length) : upB (r.take (k + 1)) = (upB (r.take k) || decide (0 < r.getD k 0)) := by
  unfold upB
  rw [List.take_succ_eq_append_getElem hk, List.any_append]
  simp [List.getD, hk]
theorem dn_take {r : List Int} {k : Nat} (hk : k < r.length) : dnB (r.take (k + 1)) = (dnB (r.take k) || decide (r.getD k 0 < 0)) := by
  unfold dnB
  rw [List.take_succ_eq_append_getElem hk, List.any_append]
  simp [List.getD, hk]

set_option maxHeartbeats 1000000 in
theorem spec_RootSign_any (g o n cp : Nat) (r : List Int) (w : World) (hn : r.length = n) (hx : r.length ≤ 1048576) (hr : Cells w g o r) :
    Calls Tryz.prog 102 #[(Value.slice (some ⟨g, o, none⟩) n cp)] w (Reads w (.int .i64 (signL r))) := by
  subst hn
  go_enter Tryz.func102, Tryz.ntmps102
  go_wp2
  go_loopw [3, 4, 5] (fun uv dv iv wr => ∃ k : Nat, k ≤ r.length ∧ uv = .bool (upB (r.take k)) ∧ dv = .bool (dnB (r.take k)) ∧ iv = .int .i64 k ∧ ∃ m, wr = w.drewN m) (fun _ _ iv _ => r.length - (intOf iv).toNat)
  case atStart => exact ⟨0, Nat.zero_le _, rfl, rfl, rfl, 0, rfl⟩
  case round =>
    obtain ⟨k, hk, rfl, rfl, rfl, m, rfl⟩ := hrel
    by_cases hlt : k < r.length
    · have q1 := hr k hlt
      have hu := up_take hlt
      have hd := dn_take hlt
      generalize r.getD k 0 = x at q1 hu hd
      have Hu := Lib.hid hu; have Hd := Lib.hid hd
      clear hu hd
      generalize upB (r.take k) = u at *
      generalize dnB (r.take k) = d at *
      cases u <;> cases d
      all_goals
        go_wp2
        go_roundw
        case rel => exact ⟨k + 1, by omega, by rw [Hu.out]; simp, by rw [Hd.out]; simp, by go_num, m, rfl⟩
        case measure => simp [intOf]; omega
    · obtain rfl : k = r.length := by omega
      rw [List.take_length] at *
      generalize hu : upB r = u at *
      generalize hd : dnB r = d at *
      have E := Lib.hid (sign_of hu hd)
      clear hu hd
      cases u <;> cases d
      all_goals
        go_wp2
        go_ret
        exact ⟨congrArg (fun t => Ending.returned (.int .i64 t)) E.out.symm, m, rfl⟩
set_option maxHeartbeats 1000000 in
theorem impl_RootSign_any (g o n cp : Nat) (r : List Int) (w : World) (hn : r.length = n) (hx : r.length ≤ 1048576) (hr : Cells w g o r) :
    Calls Tryz.prog 86 #[(Value.slice (some ⟨g, o, none⟩) n cp)] w (Reads w (.int .i64 (signL r))) := by
  subst hn
  go_enter Tryz.func86, Tryz.ntmps86
  go_wp2
  go_loopw [3, 4, 9] (fun uv dv iv wr => ∃ k : Nat, k ≤ r.length ∧ uv = .bool (upB (r.take k)) ∧ dv = .bool (dnB (r.take k)) ∧ iv = .int .i64 k ∧ ∃ m, wr = w.drewN m) (fun _ _ iv _ => r.length - (intOf iv).toNat)
  case atStart => exact ⟨0, Nat.zero_le _, rfl, rfl, rfl, 0, rfl⟩
  case round =>
    obtain ⟨k, hk, rfl, rfl, rfl, m, rfl⟩ := hrel
    by_cases hlt : k < r.length
    · have q1 := hr k hlt
      have hu := up_take hlt
      have hd := dn_take hlt
      generalize r.getD k 0 = x at q1 hu hd
      have Hu := Lib.hid hu; have Hd := Lib.hid hd
      clear hu hd
      generalize upB (r.take k) = u at *
      generalize dnB (r.take k) = d at *
      cases u <;> cases d
      all_goals
        go_wp2
        go_roundw
        case rel => exact ⟨k + 1, by omega, by rw [Hu.out]; simp, by rw [Hd.out]; simp, by go_num, m, rfl⟩
        case measure => simp [intOf]; omega
    · obtain rfl : k = r.length := by omega
      rw [List.take_length] at *
      generalize hu : upB r = u at *
      generalize hd : dnB r = d at *
      have E := Lib.hid (sign_of hu hd)
      clear hu hd
      cases u <;> cases d
      all_goals
        go_wp2
        go_ret
        exact ⟨congrArg (fun t => Ending.returned (.int .i64 t)) E.out.symm, m, rfl⟩
end Go.Proofs.YtmjneokgnnbekaaGreatDoor
namespace Go.Proofs.YtmjneokgnnbekaaGreatDoor
set_option maxRecDepth 100000
open Go.RowKit Game

def OwnPairsP (w : World) (B g cap : Nat) (ps : List PairRef) : Prop := OwnK w B 86 2 g cap ps.length (flatQ ps)
theorem infoPairP : (Tryz.prog.info? 86).map (fun i => (i.zero, i.size, i.bytes)) = some (some (.agg #[.slice none 0 0, .slice none 0 0]), 2, 48) := by kernel_rfl
section
variable {w w' : World} {B g cap : Nat} {ps : List PairRef}
theorem OwnPairsP.lt (h : OwnPairsP w B g cap ps) : g < w.heap.size := OwnK.lt h
theorem OwnPairsP.base (h : OwnPairsP w B g cap ps) : B ≤ g := OwnK.base h
theorem OwnPairsP.mono {B' : Nat} (h : OwnPairsP w B g cap ps) (hB : B' ≤ B) : OwnPairsP w B' g cap ps := OwnK.mono h hB
theorem OwnPairsP.below (h : OwnPairsP w B g cap ps) (hb : Below w.heap.size w w') : OwnPairsP w' B g cap ps := OwnK.below h hb (OwnK.lt h)
theorem OwnPairsP.grown {row : Option Nat} (h : OwnPairsP w B g cap ps) (hg : w.grownBy w' row) (hne : some g ≠ row) : OwnPairsP w' B g cap ps := OwnK.grown h hg hne
theorem OwnPairsP.still (h : OwnPairsP w B g cap ps) (hs : ∃ n, w' = w.drewN n) : OwnPairsP w' B g cap ps := by obtain ⟨n, rfl⟩ := hs; exact h
theorem OwnPairsP.cell (h : OwnPairsP w B g cap ps) {j : Nat} (hj : j < ps.length) : w.cell? ⟨g, j * 2, none⟩ = some (rowVal ps[j].1) ∧ w.cell? ⟨g, j * 2 + 1, none⟩ = some (rowVal ps[j].2) := by
  have hl1 : j * 2 < (flatQ ps).length := by rw [flatQ_length]; omega
  have hl2 : j * 2 + 1 < (flatQ ps).length := by rw [flatQ_length]; omega
  obtain ⟨h1, h2⟩ := flatQ_at hj
  rw [OwnK.cell h _ hl1, OwnK.cell h _ hl2, ← h1, ← h2, List.getElem?_eq_getElem hl1, List.getElem?_eq_getElem hl2]
  exact ⟨rfl, rfl⟩
theorem OwnPairsP.empty (hB : B ≤ w.heap.size) : OwnPairsP (w.alloc (.cells #[] 86)) B w.heap.size 0 [] :=
  World.ownsRow_lit w #[] 0 hB (by decide) rfl
theorem OwnPairsP.one (p : PairRef) (hB : B ≤ w.heap.size) : OwnPairsP (w.alloc (.cells #[rowVal p.1, rowVal p.2] 86)) B w.heap.size 1 [p] :=
  World.ownsRow_lit w #[rowVal p.1, rowVal p.2] 1 hB (by decide) rfl
theorem wpList_append_pairP {ops : Array Oper} {rest : List Oper} {o : Oper} {a : Act} {Q : Exit → Act → World → Prop} (hgd : o.guard = none) (s x : Operand)
    (ho : o.op = .call { callee := .builtin .append, args := #[s, x], argTypes := #[83, 83] })
    (B g cap n H : Nat) (ps : List PairRef) (p : PairRef) (w W : World) (hn : ps.length = n) (hW : W = w.alloc (.cells #[rowVal p.1, rowVal p.2] 86)) (hH : w.heap.size = H) (hown : OwnPairsP w B g cap ps)
    (hs : a.eval s = (Value.slice (some ⟨g, 0, none⟩) n cap)) (hx : a.eval x = (Value.slice (some ⟨H, 0, none⟩) 1 1)) (hlen : n + 1 ≤ 1048576)
    (h : ∀ g' cap' w', OwnPairsP w' B g' cap' (ps ++ [p]) → w.grownBy w' (some g) → (g' = g ∨ w.heap.size < g') → wpList Tryz.prog ops Q rest (a.put o.dst (Value.slice (some ⟨g', 0, none⟩) (n + 1) cap')) w') :
    wpList Tryz.prog ops Q (o :: rest) a W := by
  subst hn; subst hW; subst hH
  have hnew := OwnPairsP.one (w := w) (B := w.heap.size) p (Nat.le_refl _)
  refine wpList_append_K infoPairP Tryz.underlying83 rfl (by decide) (by decide) hgd s x ho B g cap ps.length (flatQ ps) (OwnK.alloc hown _) w.heap.size 0 1 1 (pair2 p) rfl ?_ ?_ hs hx hlen ?_
  · intro j u hu
    have hj : j < 2 := by have := (List.getElem?_eq_some_iff.1 hu).1; simpa [pair2] using this
    have h1 := hnew.cell (j := 0) (by simp)
    rw [Nat.zero_mul] at h1
    have : j = 0 ∨ j = 1 := by omega
    rcases this with rfl | rfl
    · rw [Nat.zero_add, h1.1, ← hu]; rfl
    · rw [h1.2, ← hu]; rfl
  · intro u hu
    simp [pair2] at hu
    rcases hu with rfl | rfl <;> rfl
  · intro g' cap' w' h2 h3 h4
    refine h g' cap' w' ?_ ⟨h3.os, h3.tape, h3.output, Nat.le_trans (by simp) h3.size, fun k hk hne => (h3.block k (by simp; omega) hne).trans (Below.heap_alloc _ _ _ hk)⟩ (h4.imp id (by simp; omega))
    unfold OwnPairsP
    rw [flatQ_append, List.length_append]
    have e : flatQ [p] = pair2 p := by simp [flatQ]
    rw [e]
    exact h2
end

/-- what 'add' works on: the set of the roots and the list of pairs, in two boxes -/
structure SmStP (w : World) (B bS bL bM gP cP nP nM m : Nat) (ps : List PairRef) : Prop where
  hS : w.heap[bS]? = some (.cells #[.map (some bM)] 84 (0, 0))
  hL : w.heap[bL]? = some (.cells #[(Value.slice (some ⟨gP, 0, none⟩) nP cP)] 83 (0, 0))
  hP : OwnPairsP w B gP cP ps
  hn : ps.length = nP
  hM : SeenMP w bM nM m (ps.map fun p => p.1.2.2)
  hnM : nM ≤ nP
  rows : ∀ p ∈ ps, Own w B p.1.1 p.1.2.1 p.1.2.2 ∧ Own w B p.2.1 p.2.2.1 p.2.2.2
  nodup : (ps.map fun p => p.1.1).Nodup
  bL_ge : B ≤ bL
  bM_ge : B ≤ bM
section
variable {w w' : World} {B bS bL bM gP cP nP nM m : Nat} {ps : List PairRef}
theorem SeenMP.same {ks : List (List Int)} (h : SeenMP w bM nM m ks) (hs : w'.heap[bM]? = w.heap[bM]?) : SeenMP w' bM nM m ks := by
  obtain ⟨D, ⟨es, clock, hh, r⟩, h2⟩ := h
  exact ⟨D, ⟨es, clock, hs.trans hh, r⟩, h2⟩
theorem SmStP.keep (h : SmStP w B bS bL bM gP cP nP nM m ps) (hk : ∀ k, k < w.heap.size → w'.heap[k]? = w.heap[k]?) : SmStP w' B bS bL bM gP cP nP nM m ps :=
  ⟨(hk _ (box_lt h.hS)).trans h.hS, (hk _ (box_lt h.hL)).trans h.hL, OwnK.same h.hP (hk _ h.hP.lt), h.hn, h.hM.same (hk _ h.hM.lt), h.hnM, fun p hp => ⟨(h.rows p hp).1.same (hk _ (h.rows p hp).1.lt), (h.rows p hp).2.same (hk _ (h.rows p hp).2.lt)⟩, h.nodup, h.bL_ge, h.bM_ge⟩
theorem SmStP.below (h : SmStP w B bS bL bM gP cP nP nM m ps) (hb : Below w.heap.size w w') : SmStP w' B bS bL bM gP cP nP nM m ps := h.keep hb.block
theorem SmStP.still (h : SmStP w B bS bL bM gP cP nP nM m ps) (hs : ∃ n, w' = w.drewN n) : SmStP w' B bS bL bM gP cP nP nM m ps := by obtain ⟨n, rfl⟩ := hs; exact h.keep fun _ _ => rfl
/-- the blocks are different -/
theorem SmStP.ne (h : SmStP w B bS bL bM gP cP nP nM m ps) : bS ≠ bM ∧ bL ≠ bM ∧ gP ≠ bM ∧ bS ≠ gP ∧ bL ≠ gP ∧ bS ≠ bL := by
  obtain ⟨D, ⟨es, clock, hh, -⟩, -⟩ := h.hM
  obtain ⟨cur, h2, -⟩ := OwnK.row h.hP
  have h3 := h.hS
  have h4 := h.hL
  refine ⟨?_, ?_, ?_, ?_, ?_, ?_⟩ <;> intro e <;> subst e <;> simp_all
theorem SmStP.neOwn (h : SmStP w B bS bL bM gP cP nP nM m ps) {B2 g cap : Nat} {xs : List Int} (ho : Own w B2 g cap xs) : g ≠ bS ∧ g ≠ bL ∧ g ≠ bM ∧ g ≠ gP := by
  obtain ⟨D, ⟨es, clock, hh, -⟩, -⟩ := h.hM
  obtain ⟨cur, h2, -⟩ := OwnK.row h.hP
  obtain ⟨cur2, h5, -⟩ := ho.toV.row
  have h3 := h.hS
  have h4 := h.hL
  refine ⟨?_, ?_, ?_, ?_⟩ <;> intro e <;> subst e <;> simp_all
theorem SmStP.neRows (h : SmStP w B bS bL bM gP cP nP nM m ps) {B2 g cap : Nat} {rs : List RowRef} (ho : OwnRows w B2 g cap rs) : g ≠ bS ∧ g ≠ bL ∧ g ≠ bM ∧ g ≠ gP := by
  obtain ⟨D, ⟨es, clock, hh, -⟩, -⟩ := h.hM
  obtain ⟨cur, h2, -⟩ := OwnK.row h.hP
  obtain ⟨cur2, h5, -⟩ := ho.1.row
  have h3 := h.hS
  have h4 := h.hL
  refine ⟨?_, ?_, ?_, ?_⟩ <;> intro e <;> subst e <;> simp_all
/-- a list of rows besides stays as it was -/
theorem SmFr.rowsP (h : SmFr w w' bL gP bM) (st : SmStP w B bS bL bM gP cP nP nM m ps) {B2 g cap : Nat} {rs : List RowRef} (ho : OwnRows w B2 g cap rs) : OwnRows w' B2 g cap rs := by
  have h1 := st.neRows ho
  exact ⟨ho.1.same (h.block _ ho.lt h1.2.1 h1.2.2.2 h1.2.2.1), fun r hr => by
    have h2 := st.neOwn (ho.2.1 r hr)
    exact (ho.2.1 r hr).same (h.block _ (ho.2.1 r hr).lt h2.2.1 h2.2.2.2 h2.2.2.1), ho.2.2⟩
end
end Go.Proofs.YtmjneokgnnbekaaGreatDoor
namespace Go.Proofs.YtmjneokgnnbekaaGreatDoor
set_option maxRecDepth 100000
open Go.RowKit Game

/-- the list behind 'add' -/
def addQP (ps : List PairRef) (p : PairRef) : List PairRef := if posB p.1.2.2 = true ∧ heightL p.1.2.2 ≤ 12 ∧ p.1.2.2 ∉ rootsQ ps then ps ++ [p] else ps
def AddPostP (B bS bL bM gP m : Nat) (w : World) (ps' : List PairRef) (e : Ending) (w' : World) : Prop :=
  e = .returned (.tuple #[]) ∧ SmFr w w' bL gP bM ∧ ∃ gP' cP' nP' nM', SmStP w' B bS bL bM gP' cP' nP' nM' m ps' ∧ (gP' = gP ∨ w.heap.size ≤ gP')
end Go.Proofs.YtmjneokgnnbekaaGreatDoor
