/- Positive roots of finite types, up to height 12: the search as a function; by enumeration it is closed at every finite type. Plain law. Positive roots of finite types: what is closed and holds the simple ones is all. Plain law. RootSign of both: contracts. Words acting on weights, normal forms: contracts. -/
import Derived.Test.YtmjneokgnnbekaaG10
import Derived.Test.YtmjneokgnnbekaaG17
import Derived.Test.YtmjneokgnnbekaaG16
import Derived.Test.YtmjneokgnnbekaaG05
namespace Go.Proofs.Ytmjneokgnnbekaa
set_option maxRecDepth 100000
open Go.RowKit

/-- RootSign is 1 -/
def posB (r : List Int) : Bool := (r.any fun x => decide (0 < x)) && !(r.any fun x => decide (x < 0))
def upStep (c Q : List (List Int)) (k i : Nat) : List (List Int) :=
  let r := mirL c i (Q.getD k [])
  if posB r = true ∧ heightL r ≤ 12 ∧ heightL (Q.getD k []) < heightL r ∧ r ∉ Q then putR Q r else Q
def upRow (c Q : List (List Int)) (k : Nat) : Nat → List (List Int)
  | 0 => Q
  | i + 1 => upStep c (upRow c Q k i) k i
def upGo (c : List (List Int)) : Nat → Nat → List (List Int) → List (List Int)
  | 0, _, Q => Q
  | f + 1, k, Q => if k < Q.length then upGo c f (k + 1) (upRow c Q k c.length) else Q
def upStart (n : Nat) : Nat → List (List Int)
  | 0 => []
  | i + 1 => putR (upStart n i) (simpL n i)
def posL (c : List (List Int)) : List (List Int) := upGo c 25 0 (upStart c.length c.length)
def closedB (c L : List (List Int)) : Bool := L.all fun r => (List.range c.length).all fun i => let s := mirL c i r; !(posB s) || decide (12 < heightL s) || L.contains s
def posOk (c : List (List Int)) : Bool := decide ((posL c).length ≤ 24) && (((posL c).all fun r => r.all fun x => decide (0 ≤ x ∧ x ≤ 12)) && closedB c (posL c))
end Go.Proofs.Ytmjneokgnnbekaa
namespace Go.Proofs.Ytmjneokgnnbekaa
set_option maxRecDepth 100000
open Go.RowKit

theorem upStep_sub {c Q : List (List Int)} {k i : Nat} : ∀ x ∈ Q, x ∈ upStep c Q k i := by
  intro x hx
  unfold upStep
  simp only
  split
  · exact mem_putR.2 (.inr hx)
  · exact hx
theorem upStep_mem {c Q : List (List Int)} {k i : Nat} {x : List Int} (h : x ∈ upStep c Q k i) : x ∈ Q ∨ (x = mirL c i (Q.getD k []) ∧ posB x = true ∧ heightL x ≤ 12) := by
  unfold upStep at h
  simp only at h
  split at h
  · rename_i hc
    rcases mem_putR.1 h with rfl | h
    · exact .inr ⟨rfl, hc.1, hc.2.1⟩
    · exact .inl h
  · exact .inl h
theorem upStep_up {c Q : List (List Int)} {k i : Nat} (h : Up Q) : Up (upStep c Q k i) := by
  unfold upStep
  simp only
  split
  · rename_i hc
    exact putR_up hc.2.2.2 h
  · exact h
theorem upStep_len {c Q : List (List Int)} {k i : Nat} : Q.length ≤ (upStep c Q k i).length := by
  unfold upStep
  simp only
  split
  · rw [putR_length]; omega
  · exact Nat.le_refl _
theorem upRow_sub {c Q : List (List Int)} {k : Nat} : ∀ i, ∀ x ∈ Q, x ∈ upRow c Q k i
  | 0, _, h => h
  | i + 1, x, h => upStep_sub x (upRow_sub i x h)
theorem upRow_up {c Q : List (List Int)} {k : Nat} (h : Up Q) : ∀ i, Up (upRow c Q k i)
  | 0 => h
  | i + 1 => upStep_up (upRow_up h i)
theorem upRow_len {c Q : List (List Int)} {k : Nat} : ∀ i, Q.length ≤ (upRow c Q k i).length
  | 0 => Nat.le_refl _
  | i + 1 => Nat.le_trans (upRow_len i) upStep_len
theorem upGo_sub {c : List (List Int)} : ∀ (f k : Nat) (Q : List (List Int)), ∀ x ∈ Q, x ∈ upGo c f k Q
  | 0, _, _, _, h => h
  | f + 1, k, Q, x, h => by
    unfold upGo
    split
    · exact upGo_sub f (k + 1) _ x (upRow_sub _ x h)
    · exact h
theorem upGo_up {c : List (List Int)} : ∀ (f k : Nat) (Q : List (List Int)), Up Q → Up (upGo c f k Q)
  | 0, _, _, h => h
  | f + 1, k, Q, h => by
    unfold upGo
    split
    · exact upGo_up f (k + 1) _ (upRow_up h _)
    · exact h
theorem upGo_len {c : List (List Int)} : ∀ (f k : Nat) (Q : List (List Int)), Q.length ≤ (upGo c f k Q).length
  | 0, _, _ => Nat.le_refl _
  | f + 1, k, Q => by
    unfold upGo
    split
    · exact Nat.le_trans (upRow_len _) (upGo_len f (k + 1) _)
    · exact Nat.le_refl _
theorem upGo_next {c Q : List (List Int)} {f k : Nat} (hk : k < Q.length) : upGo c (f + 1) k Q = upGo c f (k + 1) (upRow c Q k c.length) := by
  conv => lhs; unfold upGo
  rw [if_pos hk]
theorem upGo_done {c Q : List (List Int)} {f k : Nat} (hk : Q.length ≤ k) : upGo c f k Q = Q := by
  cases f with
  | zero => rfl
  | succ f => unfold upGo; rw [if_neg (by omega)]
/-- what is closed holds all that the search finds -/
structure Closed (c S : List (List Int)) : Prop where
  simp : ∀ i, i < c.length → simpL c.length i ∈ S
  step : ∀ r ∈ S, ∀ i, i < c.length → posB (mirL c i r) = true → heightL (mirL c i r) ≤ 12 → mirL c i r ∈ S
theorem Closed.upRow {c S Q : List (List Int)} (h : Closed c S) (hQ : ∀ x ∈ Q, x ∈ S) {k : Nat} (hk : k < Q.length) : ∀ i, i ≤ c.length → ∀ x ∈ upRow c Q k i, x ∈ S := by
  intro i
  induction i with
  | zero => intro _ x hx; exact hQ x hx
  | succ i ih =>
    intro hi x hx
    have ih' := ih (by omega)
    rcases upStep_mem (show x ∈ upStep c (Go.Proofs.Ytmjneokgnnbekaa.upRow c Q k i) k i from hx) with h1 | ⟨h1, h2, h3⟩
    · exact ih' x h1
    · have hkl : k < (Go.Proofs.Ytmjneokgnnbekaa.upRow c Q k i).length := Nat.lt_of_lt_of_le hk (upRow_len i)
      have hm : (Go.Proofs.Ytmjneokgnnbekaa.upRow c Q k i).getD k [] ∈ S := by
        apply ih'
        simp [List.getD, hkl]
      rw [h1] at h2 h3 ⊢
      exact h.step _ hm i (by omega) h2 h3
theorem Closed.upGo {c S : List (List Int)} (h : Closed c S) : ∀ (f k : Nat) (Q : List (List Int)), (∀ x ∈ Q, x ∈ S) → ∀ x ∈ upGo c f k Q, x ∈ S
  | 0, _, _, hQ => hQ
  | f + 1, k, Q, hQ => by
    unfold Go.Proofs.Ytmjneokgnnbekaa.upGo
    split
    · rename_i hk
      exact Closed.upGo h f (k + 1) _ (h.upRow hQ hk _ (Nat.le_refl _))
    · exact hQ
theorem upStart_mem {n : Nat} {x : List Int} : ∀ i, x ∈ upStart n i ↔ ∃ j, j < i ∧ x = simpL n j
  | 0 => by simp [upStart]
  | i + 1 => by
    unfold upStart
    rw [mem_putR, upStart_mem i]
    constructor
    · rintro (rfl | ⟨j, hj, rfl⟩)
      · exact ⟨i, by omega, rfl⟩
      · exact ⟨j, by omega, rfl⟩
    · rintro ⟨j, hj, rfl⟩
      by_cases e : j = i
      · subst e; exact .inl rfl
      · exact .inr ⟨j, by omega, rfl⟩
theorem upStart_up {n : Nat} : ∀ i, i ≤ n → Up (upStart n i)
  | 0, _ => List.Pairwise.nil
  | i + 1, h => by
    unfold upStart
    refine putR_up ?_ (upStart_up i (by omega))
    rw [upStart_mem]
    rintro ⟨j, hj, e⟩
    have := simpL_inj (n := n) (i := i) (j := j) (by omega) e
    omega
theorem upStart_length (n : Nat) : ∀ i, (upStart n i).length = i
  | 0 => rfl
  | i + 1 => by unfold upStart; rw [putR_length, upStart_length]
theorem posL_up (c : List (List Int)) : Up (posL c) := upGo_up _ _ _ (upStart_up _ (Nat.le_refl _))
theorem Up.nodup {L : List (List Int)} (h : Up L) : L.Nodup := h.imp fun {a b} hab e => by subst e; rw [rootCmp_self] at hab; omega
/-- posL of a finite type: few, small, closed -/
structure PosOk (c : List (List Int)) : Prop where
  few : (posL c).length ≤ 24
  small : ∀ r ∈ posL c, ∀ x ∈ r, 0 ≤ x ∧ x ≤ 12
  closed : Closed c (posL c)
theorem posOk_of {c : List (List Int)} (h : posOk c = true) : PosOk c := by
  unfold posOk at h
  rw [Bool.and_eq_true, Bool.and_eq_true] at h
  refine ⟨by simpa using h.1, fun r hr x hx => ?_, ⟨fun i hi => upGo_sub _ _ _ _ ((upStart_mem _).2 ⟨i, hi, rfl⟩), fun r hr i hi h1 h2 => ?_⟩⟩
  · have := List.all_eq_true.1 (List.all_eq_true.1 h.2.1 r hr) x hx
    simpa using this
  · have h3 := List.all_eq_true.1 (List.all_eq_true.1 h.2.2 r hr) i (List.mem_range.2 hi)
    simp only [h1, Bool.not_true, Bool.false_or, Bool.or_eq_true, decide_eq_true_eq] at h3
    rcases h3 with h3 | h3
    · omega
    · simpa using h3
/-- a closed list without doubles inside posL is posL, put in order -/
theorem posL_eq {c Q : List (List Int)} (hn : Q.Nodup) (hs : ∀ x ∈ Q, x ∈ posL c) (hc : Closed c Q) : putsR Q = posL c := by
  have hsub : ∀ x ∈ posL c, x ∈ Q := hc.upGo _ _ _ (fun x hx => by obtain ⟨j, hj, rfl⟩ := (upStart_mem _).1 hx; exact hc.simp j hj)
  have hp : (posL c).Perm Q := (List.perm_ext_iff_of_nodup (posL_up c).nodup hn).2 fun x => ⟨hsub x, hs x⟩
  refine (putsR_eq hn hp ?_).symm
  exact (posL_up c).imp fun {a b} hab hba => by have := rootCmp_anti a b; omega
end Go.Proofs.Ytmjneokgnnbekaa
namespace Go.Proofs.Ytmjneokgnnbekaa
set_option maxRecDepth 100000
open Go.RowKit

def upB (r : List Int) : Bool := r.any fun x => decide (0 < x)
def dnB (r : List Int) : Bool := r.any fun x => decide (x < 0)
def signL (r : List Int) : Int := if upB r = dnB r then 0 else if upB r = true then 1 else -1
theorem posB_eq (r : List Int) : posB r = (upB r && !dnB r) := rfl
theorem sign_pos (r : List Int) : decide (0 < signL r) = posB r := by
  unfold signL
  rw [posB_eq]
  cases upB r <;> cases dnB r <;> rfl
theorem sign_one (r : List Int) : (signL r == 1) = posB r := by
  unfold signL
  rw [posB_eq]
  cases upB r <;> cases dnB r <;> rfl
theorem sign_of {r : List Int} {u d : Bool} (hu : upB r = u) (hd : dnB r = d) : signL r = if u = d then 0 else if u = true then 1 else -1 := by unfold signL; rw [hu, hd]
theorem up_take {r : List Int} {k : Nat} (hk : k < r.length) : upB (r.take (k + 1)) = (upB (r.take k) || decide (0 < r.getD k 0)) := by
  unfold upB
  rw [List.take_succ_eq_append_getElem hk, List.any_append]
  simp [List.getD, hk]
theorem dn_take {r : List Int} {k : Nat} (hk : k < r.length) : dnB (r.take (k + 1)) = (dnB (r.take k) || decide (r.getD k 0 < 0)) := by
  unfold dnB
  rw [List.take_succ_eq_append_getElem hk, List.any_append]
  simp [List.getD, hk]

set_option maxHeartbeats 1000000 in
theorem spec_RootSign_any (g o n cp : Nat) (r : List Int) (w : World) (hn : r.length = n) (hx : r.length ≤ 1048576) (hr : Cells w g o r) :
    Calls Try.prog 64 #[(Value.slice (some ⟨g, o, none⟩) n cp)] w (Reads w (.int .i64 (signL r))) := by
  subst hn
  go_enter Try.func64, Try.ntmps64
  go_wp2
  go_loopw [3, 4, 5] (fun uv dv iv wr => ∃ k : Nat, k ≤ r.length ∧ uv = .bool (upB (r.take k)) ∧ dv = .bool (dnB (r.take k)) ∧ iv = .int .i64 k ∧ ∃ m, wr = w.drewN m) (fun _ _ iv _ => r.length - (intOf iv).toNat)
  case atStart => exact ⟨0, Nat.zero_le _, rfl, rfl, rfl, 0, rfl⟩
  case round =>
    obtain ⟨k, hk, rfl, rfl, rfl, m, rfl⟩ := hrel
    by_cases hlt : k < r.length
    · have q1 := hr k hlt
      have hu := up_take hlt
      have hd := dn_take hlt
      generalize r.getD k 0 = x at q1 hu hd
      have Hu := Lib.hid hu; have Hd := Lib.hid hd
      clear hu hd
      generalize upB (r.take k) = u at *
      generalize dnB (r.take k) = d at *
      cases u <;> cases d
      all_goals
        go_wp2
        go_roundw
        case rel => exact ⟨k + 1, by omega, by rw [Hu.out]; simp, by rw [Hd.out]; simp, by go_num, m, rfl⟩
        case measure => simp [intOf]; omega
    · obtain rfl : k = r.length := by omega
      rw [List.take_length] at *
      generalize hu : upB r = u at *
      generalize hd : dnB r = d at *
      have E := Lib.hid (sign_of hu hd)
      clear hu hd
      cases u <;> cases d
      all_goals
        go_wp2
        go_ret
        exact ⟨congrArg (fun t => Ending.returned (.int .i64 t)) E.out.symm, m, rfl⟩
set_option maxHeartbeats 1000000 in
theorem impl_RootSign_any (g o n cp : Nat) (r : List Int) (w : World) (hn : r.length = n) (hx : r.length ≤ 1048576) (hr : Cells w g o r) :
    Calls Try.prog 115 #[(Value.slice (some ⟨g, o, none⟩) n cp)] w (Reads w (.int .i64 (signL r))) := by
  subst hn
  go_enter Try.func115, Try.ntmps115
  go_wp2
  go_loopw [3, 4, 9] (fun uv dv iv wr => ∃ k : Nat, k ≤ r.length ∧ uv = .bool (upB (r.take k)) ∧ dv = .bool (dnB (r.take k)) ∧ iv = .int .i64 k ∧ ∃ m, wr = w.drewN m) (fun _ _ iv _ => r.length - (intOf iv).toNat)
  case atStart => exact ⟨0, Nat.zero_le _, rfl, rfl, rfl, 0, rfl⟩
  case round =>
    obtain ⟨k, hk, rfl, rfl, rfl, m, rfl⟩ := hrel
    by_cases hlt : k < r.length
    · have q1 := hr k hlt
      have hu := up_take hlt
      have hd := dn_take hlt
      generalize r.getD k 0 = x at q1 hu hd
      have Hu := Lib.hid hu; have Hd := Lib.hid hd
      clear hu hd
      generalize upB (r.take k) = u at *
      generalize dnB (r.take k) = d at *
      cases u <;> cases d
      all_goals
        go_wp2
        go_roundw
        case rel => exact ⟨k + 1, by omega, by rw [Hu.out]; simp, by rw [Hd.out]; simp, by go_num, m, rfl⟩
        case measure => simp [intOf]; omega
    · obtain rfl : k = r.length := by omega
      rw [List.take_length] at *
      generalize hu : upB r = u at *
      generalize hd : dnB r = d at *
      have E := Lib.hid (sign_of hu hd)
      clear hu hd
      cases u <;> cases d
      all_goals
        go_wp2
        go_ret
        exact ⟨congrArg (fun t => Ending.returned (.int .i64 t)) E.out.symm, m, rfl⟩
end Go.Proofs.Ytmjneokgnnbekaa
namespace Go.Proofs.Ytmjneokgnnbekaa
set_option maxRecDepth 100000
open Go.RowKit

/-- the first negative place -/
def firstNeg : List Int → Option Nat
  | [] => none
  | x :: l => if x < 0 then some 0 else (firstNeg l).map (· + 1)
def firstNegI (v : List Int) : Int := match firstNeg v with | none => -1 | some i => i
theorem firstNeg_lt {v : List Int} {i : Nat} (h : firstNeg v = some i) : i < v.length ∧ v.getD i 0 < 0 ∧ ∀ j, j < i → 0 ≤ v.getD j 0 := by
  induction v generalizing i with
  | nil => simp [firstNeg] at h
  | cons x l ih =>
    simp only [firstNeg] at h
    split at h
    · simp at h; subst h; refine ⟨by simp, by simpa [List.getD] using by assumption, by omega⟩
    · rename_i hx
      cases hl : firstNeg l with
      | none => rw [hl] at h; simp at h
      | some k =>
        rw [hl] at h; simp at h; subst h
        have := ih hl
        refine ⟨by simp; omega, by simpa [List.getD] using this.2.1, fun j hj => ?_⟩
        cases j with
        | zero => simp [List.getD]; omega
        | succ j => have := this.2.2 j (by omega); simpa [List.getD] using this
theorem firstNeg_none {v : List Int} (h : firstNeg v = none) : ∀ j, j < v.length → 0 ≤ v.getD j 0 := by
  induction v with
  | nil => intro j hj; simp at hj
  | cons x l ih =>
    simp only [firstNeg] at h
    split at h
    · simp at h
    · rename_i hx
      have hl : firstNeg l = none := by cases hl : firstNeg l with
        | none => rfl
        | some k => rw [hl] at h; simp at h
      intro j hj
      cases j with
      | zero => simp [List.getD]; omega
      | succ j => have := ih hl j (by simpa using hj); simpa [List.getD] using this
theorem firstNeg_of {v : List Int} {i : Nat} (hi : i < v.length) (h : v.getD i 0 < 0) (hb : ∀ j, j < i → 0 ≤ v.getD j 0) : firstNeg v = some i := by
  cases hf : firstNeg v with
  | none => have := firstNeg_none hf i hi; omega
  | some k =>
    have hk := firstNeg_lt hf
    rcases Nat.lt_trichotomy i k with h1 | h1 | h1
    · have := hk.2.2 i h1; omega
    · rw [h1]
    · have := hb k h1; omega
theorem firstNeg_nil {v : List Int} (hb : ∀ j, j < v.length → 0 ≤ v.getD j 0) : firstNeg v = none := by
  cases hf : firstNeg v with
  | none => rfl
  | some k => have hk := firstNeg_lt hf; have := hb k hk.1; omega

set_option maxHeartbeats 1000000 in
theorem impl_firstDescent_any (g o n cp : Nat) (v : List Int) (w : World) (hn : v.length = n) (hx : v.length ≤ 1048576) (hc : Cells w g o v) :
    Calls Try.prog 66 #[(Value.slice (some ⟨g, o, none⟩) n cp)] w (Reads w (.int .i64 (firstNegI v))) := by
  subst hn
  go_enter Try.func66, Try.ntmps66
  go_wp2
  go_loopw [7] (fun i wr => ∃ k : Nat, k ≤ v.length ∧ i = .int .i64 k ∧ Hid (∀ j, j < k → 0 ≤ v.getD j 0) ∧ ∃ m, wr = w.drewN m) (fun i _ => v.length - (intOf i).toNat)
  case atStart => exact ⟨0, Nat.zero_le _, rfl, fun j hj => absurd hj (by omega), (by first | exact ⟨_, rfl⟩ | exact ⟨0, rfl⟩ | exact still2 _ _ _ | exact still3 _ _ _ _)⟩
  case round =>
    obtain ⟨k, hk, rfl, hall, m, rfl⟩ := hrel
    by_cases hlt : k < v.length
    · have q1 := hc k hlt
      have HX : Hid (v.getD k 0 < 0 → firstNegI v = k) := fun h => by unfold firstNegI; rw [firstNeg_of hlt h hall.out]
      have HY : Hid (0 ≤ v.getD k 0 → ∀ j, j < k + 1 → 0 ≤ v.getD j 0) := fun h j hj => by
        by_cases e : j = k
        · subst e; exact h
        · exact hall.out j (by omega)
      generalize v.getD k 0 = x at *
      by_cases hneg : x < 0
      · have hf := HX.out hneg
        have Hf := Lib.hid hf; clear hf
        go_wp2
        go_ret
        exact ⟨ret_int Hf.out.symm, (by first | exact ⟨_, rfl⟩ | exact ⟨0, rfl⟩ | exact still2 _ _ _ | exact still3 _ _ _ _)⟩
      · go_wp2
        go_roundw
        case rel => exact ⟨k + 1, by omega, by go_num, HY.out (by omega), (by first | exact ⟨_, rfl⟩ | exact ⟨0, rfl⟩ | exact still2 _ _ _ | exact still3 _ _ _ _)⟩
        case measure => simp [intOf]; omega
    · obtain rfl : k = v.length := by omega
      have hf : firstNegI v = -1 := by unfold firstNegI; rw [firstNeg_nil hall.out]
      have Hf := Lib.hid hf; clear hf
      go_wp2
      go_ret
      exact ⟨ret_int Hf.out.symm, (by first | exact ⟨_, rfl⟩ | exact ⟨0, rfl⟩ | exact still2 _ _ _ | exact still3 _ _ _ _)⟩

set_option maxHeartbeats 1000000 in
theorem impl_IsDominant_any (g o n cp : Nat) (v : List Int) (w : World) (hn : v.length = n) (hx : v.length ≤ 1048576) (hc : Cells w g o v) :
    Calls Try.prog 37 #[(Value.slice (some ⟨g, o, none⟩) n cp)] w (Reads w (.bool (firstNeg v).isNone)) := by
  have e : (firstNeg v).isNone = decide (firstNegI v < 0) := by
    unfold firstNegI
    cases firstNeg v with
    | none => rfl
    | some i => simp
  rw [e]
  go_enter Try.func37, Try.ntmps37
  go_wp2_with fail
  refine (impl_firstDescent_any g o n cp v w hn hx hc).mono ?_
  rintro e w1 ⟨rfl, m1, rfl⟩
  go_wp2_with fail
  go_ret
  exact ⟨rfl, (by first | exact ⟨_, rfl⟩ | exact ⟨0, rfl⟩ | exact still2 _ _ _ | exact still3 _ _ _ _)⟩

set_option maxHeartbeats 1000000 in
theorem spec_IsDominant_any (g o n cp : Nat) (v : List Int) (w : World) (hn : v.length = n) (hx : v.length ≤ 1048576) (hc : Cells w g o v) :
    Calls Try.prog 57 #[(Value.slice (some ⟨g, o, none⟩) n cp)] w (Reads w (.bool (firstNeg v).isNone)) := by
  subst hn
  go_enter Try.func57, Try.ntmps57
  go_wp2
  go_loopw [3] (fun i wr => ∃ k : Nat, k ≤ v.length ∧ i = .int .i64 k ∧ Hid (∀ j, j < k → 0 ≤ v.getD j 0) ∧ ∃ m, wr = w.drewN m) (fun i _ => v.length - (intOf i).toNat)
  case atStart => exact ⟨0, Nat.zero_le _, rfl, fun j hj => absurd hj (by omega), (by first | exact ⟨_, rfl⟩ | exact ⟨0, rfl⟩ | exact still2 _ _ _ | exact still3 _ _ _ _)⟩
  case round =>
    obtain ⟨k, hk, rfl, hall, m, rfl⟩ := hrel
    by_cases hlt : k < v.length
    · have q1 := hc k hlt
      have HX : Hid (v.getD k 0 < 0 → firstNeg v = some k) := fun h => firstNeg_of hlt h hall.out
      have HY : Hid (0 ≤ v.getD k 0 → ∀ j, j < k + 1 → 0 ≤ v.getD j 0) := fun h j hj => by
        by_cases e : j = k
        · subst e; exact h
        · exact hall.out j (by omega)
      generalize v.getD k 0 = x at *
      by_cases hneg : x < 0
      · have hf := HX.out hneg
        have Hf := Lib.hid hf; clear hf
        go_wp2
        go_ret
        exact ⟨ret_bool (by rw [Hf.out]; rfl), (by first | exact ⟨_, rfl⟩ | exact ⟨0, rfl⟩ | exact still2 _ _ _ | exact still3 _ _ _ _)⟩
      · go_wp2
        go_roundw
        case rel => exact ⟨k + 1, by omega, by go_num, HY.out (by omega), (by first | exact ⟨_, rfl⟩ | exact ⟨0, rfl⟩ | exact still2 _ _ _ | exact still3 _ _ _ _)⟩
        case measure => simp [intOf]; omega
    · obtain rfl : k = v.length := by omega
      have hf := firstNeg_nil hall.out
      have Hf := Lib.hid hf; clear hf
      go_wp2
      go_ret
      exact ⟨ret_bool (by rw [Hf.out]; rfl), (by first | exact ⟨_, rfl⟩ | exact ⟨0, rfl⟩ | exact still2 _ _ _ | exact still3 _ _ _ _)⟩

/-- a word applied, the last letter first -/
def actW (c : List (List Int)) : List Int → List Int → List Int
  | [], v => v
  | i :: l, v => refl c i.toNat (actW c l v)
theorem actW_length (c : List (List Int)) (l v : List Int) : (actW c l v).length = v.length := by
  induction l with
  | nil => rfl
  | cons i l ih => simp [actW, refl_length, ih]
theorem actW_drop (c : List (List Int)) (l v : List Int) (k : Nat) (hk : k < l.length) : actW c (l.drop k) v = refl c (l.getD k 0).toNat (actW c (l.drop (k + 1)) v) := by
  have e : l.drop k = l[k] :: l.drop (k + 1) := List.drop_eq_getElem_cons hk
  rw [e]; simp [actW, List.getD, hk]

end Go.Proofs.Ytmjneokgnnbekaa
