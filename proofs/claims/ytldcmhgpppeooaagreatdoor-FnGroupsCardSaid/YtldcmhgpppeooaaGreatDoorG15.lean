/- Positive roots of finite types, up to height 12: the search as a function; by enumeration it is closed at every finite type. Plain law. Positive roots of finite types: what is closed and holds the simple ones is all. Plain law. RootSign of both: contracts. Mirrored roots: contracts. IsWord of both: contracts. Images of roots under words, sequences of roots: contracts of both. -/
import Derived.Test.YtldcmhgpppeooaaGreatDoorG14
import Derived.Test.YtldcmhgpppeooaaGreatDoorG11
import Derived.Test.YtldcmhgpppeooaaGreatDoorG04
import Derived.Deep.RegionWith
import Derived.Test.YtldcmhgpppeooaaGreatDoorG03
import Derived.BigQuiet
import Derived.Test.YtldcmhgpppeooaaGreatDoorG01
import Derived.Deep.RegionHeld3
namespace Go.Proofs.YtldcmhgpppeooaaGreatDoor
set_option maxRecDepth 100000
open Go.RowKit

/-- RootSign is 1 -/
def posB (r : List Int) : Bool := (r.any fun x => decide (0 < x)) && !(r.any fun x => decide (x < 0))
def upStep (c Q : List (List Int)) (k i : Nat) : List (List Int) :=
  let r := mirL c i (Q.getD k [])
  if posB r = true ∧ heightL r ≤ 12 ∧ heightL (Q.getD k []) < heightL r ∧ r ∉ Q then putR Q r else Q
def upRow (c Q : List (List Int)) (k : Nat) : Nat → List (List Int)
  | 0 => Q
  | i + 1 => upStep c (upRow c Q k i) k i
def upGo (c : List (List Int)) : Nat → Nat → List (List Int) → List (List Int)
  | 0, _, Q => Q
  | f + 1, k, Q => if k < Q.length then upGo c f (k + 1) (upRow c Q k c.length) else Q
def upStart (n : Nat) : Nat → List (List Int)
  | 0 => []
  | i + 1 => putR (upStart n i) (simpL n i)
def posL (c : List (List Int)) : List (List Int) := upGo c 25 0 (upStart c.length c.length)
def closedB (c L : List (List Int)) : Bool := L.all fun r => (List.range c.length).all fun i => let s := mirL c i r; !(posB s) || decide (12 < heightL s) || L.contains s
def posOk (c : List (List Int)) : Bool := decide ((posL c).length ≤ 24) && (((posL c).all fun r => r.all fun x => decide (0 ≤ x ∧ x ≤ 12)) && closedB c (posL c))
end Go.Proofs.YtldcmhgpppeooaaGreatDoor
namespace Go.Proofs.YtldcmhgpppeooaaGreatDoor
set_option maxRecDepth 100000
open Go.RowKit

theorem upStep_sub {c Q : List (List Int)} {k i : Nat} : ∀ x ∈ Q, x ∈ upStep c Q k i := by
  intro x hx
  unfold upStep
  simp only
  split
  · exact mem_putR.2 (.inr hx)
  · exact hx
theorem upStep_mem {c Q : List (List Int)} {k i : Nat} {x : List Int} (h : x ∈ upStep c Q k i) : x ∈ Q ∨ (x = mirL c i (Q.getD k []) ∧ posB x = true ∧ heightL x ≤ 12) := by
  unfold upStep at h
  simp only at h
  split at h
  · rename_i hc
    rcases mem_putR.1 h with rfl | h
    · exact .inr ⟨rfl, hc.1, hc.2.1⟩
    · exact .inl h
  · exact .inl h
theorem upStep_up {c Q : List (List Int)} {k i : Nat} (h : Up Q) : Up (upStep c Q k i) := by
  unfold upStep
  simp only
  split
  · rename_i hc
    exact putR_up hc.2.2.2 h
  · exact h
theorem upStep_len {c Q : List (List Int)} {k i : Nat} : Q.length ≤ (upStep c Q k i).length := by
  unfold upStep
  simp only
  split
  · rw [putR_length]; omega
  · exact Nat.le_refl _
theorem upRow_sub {c Q : List (List Int)} {k : Nat} : ∀ i, ∀ x ∈ Q, x ∈ upRow c Q k i
  | 0, _, h => h
  | i + 1, x, h => upStep_sub x (upRow_sub i x h)
theorem upRow_up {c Q : List (List Int)} {k : Nat} (h : Up Q) : ∀ i, Up (upRow c Q k i)
  | 0 => h
  | i + 1 => upStep_up (upRow_up h i)
theorem upRow_len {c Q : List (List Int)} {k : Nat} : ∀ i, Q.length ≤ (upRow c Q k i).length
  | 0 => Nat.le_refl _
  | i + 1 => Nat.le_trans (upRow_len i) upStep_len
theorem upGo_sub {c : List (List Int)} : ∀ (f k : Nat) (Q : List (List Int)), ∀ x ∈ Q, x ∈ upGo c f k Q
  | 0, _, _, _, h => h
  | f + 1, k, Q, x, h => by
    unfold upGo
    split
    · exact upGo_sub f (k + 1) _ x (upRow_sub _ x h)
    · exact h
theorem upGo_up {c : List (List Int)} : ∀ (f k : Nat) (Q : List (List Int)), Up Q → Up (upGo c f k Q)
  | 0, _, _, h => h
  | f + 1, k, Q, h => by
    unfold upGo
    split
    · exact upGo_up f (k + 1) _ (upRow_up h _)
    · exact h
theorem upGo_len {c : List (List Int)} : ∀ (f k : Nat) (Q : List (List Int)), Q.length ≤ (upGo c f k Q).length
  | 0, _, _ => Nat.le_refl _
  | f + 1, k, Q => by
    unfold upGo
    split
    · exact Nat.le_trans (upRow_len _) (upGo_len f (k + 1) _)
    · exact Nat.le_refl _
theorem upGo_next {c Q : List (List Int)} {f k : Nat} (hk : k < Q.length) : upGo c (f + 1) k Q = upGo c f (k + 1) (upRow c Q k c.length) := by
  conv => lhs; unfold upGo
  rw [if_pos hk]
theorem upGo_done {c Q : List (List Int)} {f k : Nat} (hk : Q.length ≤ k) : upGo c f k Q = Q := by
  cases f with
  | zero => rfl
  | succ f => unfold upGo; rw [if_neg (by omega)]
/-- what is closed holds all that the search finds -/
structure Closed (c S : List (List Int)) : Prop where
  simp : ∀ i, i < c.length → simpL c.length i ∈ S
  step : ∀ r ∈ S, ∀ i, i < c.length → posB (mirL c i r) = true → heightL (mirL c i r) ≤ 12 → mirL c i r ∈ S
theorem Closed.upRow {c S Q : List (List Int)} (h : Closed c S) (hQ : ∀ x ∈ Q, x ∈ S) {k : Nat} (hk : k < Q.length) : ∀ i, i ≤ c.length → ∀ x ∈ upRow c Q k i, x ∈ S := by
  intro i
  induction i with
  | zero => intro _ x hx; exact hQ x hx
  | succ i ih =>
    intro hi x hx
    have ih' := ih (by omega)
    rcases upStep_mem (show x ∈ upStep c (Go.Proofs.YtldcmhgpppeooaaGreatDoor.upRow c Q k i) k i from hx) with h1 | ⟨h1, h2, h3⟩
    · exact ih' x h1
    · have hkl : k < (Go.Proofs.YtldcmhgpppeooaaGreatDoor.upRow c Q k i).length := Nat.lt_of_lt_of_le hk (upRow_len i)
      have hm : (Go.Proofs.YtldcmhgpppeooaaGreatDoor.upRow c Q k i).getD k [] ∈ S := by
        apply ih'
        simp [List.getD, hkl]
      rw [h1] at h2 h3 ⊢
      exact h.step _ hm i (by omega) h2 h3
theorem Closed.upGo {c S : List (List Int)} (h : Closed c S) : ∀ (f k : Nat) (Q : List (List Int)), (∀ x ∈ Q, x ∈ S) → ∀ x ∈ upGo c f k Q, x ∈ S
  | 0, _, _, hQ => hQ
  | f + 1, k, Q, hQ => by
    unfold Go.Proofs.YtldcmhgpppeooaaGreatDoor.upGo
    split
    · rename_i hk
      exact Closed.upGo h f (k + 1) _ (h.upRow hQ hk _ (Nat.le_refl _))
    · exact hQ
theorem upStart_mem {n : Nat} {x : List Int} : ∀ i, x ∈ upStart n i ↔ ∃ j, j < i ∧ x = simpL n j
  | 0 => by simp [upStart]
  | i + 1 => by
    unfold upStart
    rw [mem_putR, upStart_mem i]
    constructor
    · rintro (rfl | ⟨j, hj, rfl⟩)
      · exact ⟨i, by omega, rfl⟩
      · exact ⟨j, by omega, rfl⟩
    · rintro ⟨j, hj, rfl⟩
      by_cases e : j = i
      · subst e; exact .inl rfl
      · exact .inr ⟨j, by omega, rfl⟩
theorem upStart_up {n : Nat} : ∀ i, i ≤ n → Up (upStart n i)
  | 0, _ => List.Pairwise.nil
  | i + 1, h => by
    unfold upStart
    refine putR_up ?_ (upStart_up i (by omega))
    rw [upStart_mem]
    rintro ⟨j, hj, e⟩
    have := simpL_inj (n := n) (i := i) (j := j) (by omega) e
    omega
theorem upStart_length (n : Nat) : ∀ i, (upStart n i).length = i
  | 0 => rfl
  | i + 1 => by unfold upStart; rw [putR_length, upStart_length]
theorem posL_up (c : List (List Int)) : Up (posL c) := upGo_up _ _ _ (upStart_up _ (Nat.le_refl _))
theorem Up.nodup {L : List (List Int)} (h : Up L) : L.Nodup := h.imp fun {a b} hab e => by subst e; rw [rootCmp_self] at hab; omega
/-- posL of a finite type: few, small, closed -/
structure PosOk (c : List (List Int)) : Prop where
  few : (posL c).length ≤ 24
  small : ∀ r ∈ posL c, ∀ x ∈ r, 0 ≤ x ∧ x ≤ 12
  closed : Closed c (posL c)
theorem posOk_of {c : List (List Int)} (h : posOk c = true) : PosOk c := by
  unfold posOk at h
  rw [Bool.and_eq_true, Bool.and_eq_true] at h
  refine ⟨by simpa using h.1, fun r hr x hx => ?_, ⟨fun i hi => upGo_sub _ _ _ _ ((upStart_mem _).2 ⟨i, hi, rfl⟩), fun r hr i hi h1 h2 => ?_⟩⟩
  · have := List.all_eq_true.1 (List.all_eq_true.1 h.2.1 r hr) x hx
    simpa using this
  · have h3 := List.all_eq_true.1 (List.all_eq_true.1 h.2.2 r hr) i (List.mem_range.2 hi)
    simp only [h1, Bool.not_true, Bool.false_or, Bool.or_eq_true, decide_eq_true_eq] at h3
    rcases h3 with h3 | h3
    · omega
    · simpa using h3
/-- a closed list without doubles inside posL is posL, put in order -/
theorem posL_eq {c Q : List (List Int)} (hn : Q.Nodup) (hs : ∀ x ∈ Q, x ∈ posL c) (hc : Closed c Q) : putsR Q = posL c := by
  have hsub : ∀ x ∈ posL c, x ∈ Q := hc.upGo _ _ _ (fun x hx => by obtain ⟨j, hj, rfl⟩ := (upStart_mem _).1 hx; exact hc.simp j hj)
  have hp : (posL c).Perm Q := (List.perm_ext_iff_of_nodup (posL_up c).nodup hn).2 fun x => ⟨hsub x, hs x⟩
  refine (putsR_eq hn hp ?_).symm
  exact (posL_up c).imp fun {a b} hab hba => by have := rootCmp_anti a b; omega
end Go.Proofs.YtldcmhgpppeooaaGreatDoor
namespace Go.Proofs.YtldcmhgpppeooaaGreatDoor
set_option maxRecDepth 100000
open Go.RowKit

def upB (r : List Int) : Bool := r.any fun x => decide (0 < x)
def dnB (r : List Int) : Bool := r.any fun x => decide (x < 0)
def signL (r : List Int) : Int := if upB r = dnB r then 0 else if upB r = true then 1 else -1
theorem posB_eq (r : List Int) : posB r = (upB r && !dnB r) := rfl
theorem sign_pos (r : List Int) : decide (0 < signL r) = posB r := by
  unfold signL
  rw [posB_eq]
  cases upB r <;> cases dnB r <;> rfl
theorem sign_one (r : List Int) : (signL r == 1) = posB r := by
  unfold signL
  rw [posB_eq]
  cases upB r <;> cases dnB r <;> rfl
theorem sign_of {r : List Int} {u d : Bool} (hu : upB r = u) (hd : dnB r = d) : signL r = if u = d then 0 else if u = true then 1 else -1 := by unfold signL; rw [hu, hd]
theorem up_take {r : List Int} {k : Nat} (hk : k < r.length) : upB (r.take (k + 1)) = (upB (r.take k) || decide (0 < r.getD k 0)) := by
  unfold upB
  rw [List.take_succ_eq_append_getElem hk, List.any_append]
  simp [List.getD, hk]
theorem dn_take {r : List Int} {k : Nat} (hk : k < r.length) : dnB (r.take (k + 1)) = (dnB (r.take k) || decide (r.getD k 0 < 0)) := by
  unfold dnB
  rw [List.take_succ_eq_append_getElem hk, List.any_append]
  simp [List.getD, hk]

set_option maxHeartbeats 1000000 in
theorem spec_RootSign_any (g o n cp : Nat) (r : List Int) (w : World) (hn : r.length = n) (hx : r.length ≤ 1048576) (hr : Cells w g o r) :
    Calls Tryz.prog 145 #[(Value.slice (some ⟨g, o, none⟩) n cp)] w (Reads w (.int .i64 (signL r))) := by
  subst hn
  go_enter Tryz.func145, Tryz.ntmps145
  go_wp2
  go_loopw [3, 4, 5] (fun uv dv iv wr => ∃ k : Nat, k ≤ r.length ∧ uv = .bool (upB (r.take k)) ∧ dv = .bool (dnB (r.take k)) ∧ iv = .int .i64 k ∧ ∃ m, wr = w.drewN m) (fun _ _ iv _ => r.length - (intOf iv).toNat)
  case atStart => exact ⟨0, Nat.zero_le _, rfl, rfl, rfl, 0, rfl⟩
  case round =>
    obtain ⟨k, hk, rfl, rfl, rfl, m, rfl⟩ := hrel
    by_cases hlt : k < r.length
    · have q1 := hr k hlt
      have hu := up_take hlt
      have hd := dn_take hlt
      generalize r.getD k 0 = x at q1 hu hd
      have Hu := Lib.hid hu; have Hd := Lib.hid hd
      clear hu hd
      generalize upB (r.take k) = u at *
      generalize dnB (r.take k) = d at *
      cases u <;> cases d
      all_goals
        go_wp2
        go_roundw
        case rel => exact ⟨k + 1, by omega, by rw [Hu.out]; simp, by rw [Hd.out]; simp, by go_num, m, rfl⟩
        case measure => simp [intOf]; omega
    · obtain rfl : k = r.length := by omega
      rw [List.take_length] at *
      generalize hu : upB r = u at *
      generalize hd : dnB r = d at *
      have E := Lib.hid (sign_of hu hd)
      clear hu hd
      cases u <;> cases d
      all_goals
        go_wp2
        go_ret
        exact ⟨congrArg (fun t => Ending.returned (.int .i64 t)) E.out.symm, m, rfl⟩
set_option maxHeartbeats 1000000 in
theorem impl_RootSign_any (g o n cp : Nat) (r : List Int) (w : World) (hn : r.length = n) (hx : r.length ≤ 1048576) (hr : Cells w g o r) :
    Calls Tryz.prog 42 #[(Value.slice (some ⟨g, o, none⟩) n cp)] w (Reads w (.int .i64 (signL r))) := by
  subst hn
  go_enter Tryz.func42, Tryz.ntmps42
  go_wp2
  go_loopw [3, 4, 9] (fun uv dv iv wr => ∃ k : Nat, k ≤ r.length ∧ uv = .bool (upB (r.take k)) ∧ dv = .bool (dnB (r.take k)) ∧ iv = .int .i64 k ∧ ∃ m, wr = w.drewN m) (fun _ _ iv _ => r.length - (intOf iv).toNat)
  case atStart => exact ⟨0, Nat.zero_le _, rfl, rfl, rfl, 0, rfl⟩
  case round =>
    obtain ⟨k, hk, rfl, rfl, rfl, m, rfl⟩ := hrel
    by_cases hlt : k < r.length
    · have q1 := hr k hlt
      have hu := up_take hlt
      have hd := dn_take hlt
      generalize r.getD k 0 = x at q1 hu hd
      have Hu := Lib.hid hu; have Hd := Lib.hid hd
      clear hu hd
      generalize upB (r.take k) = u at *
      generalize dnB (r.take k) = d at *
      cases u <;> cases d
      all_goals
        go_wp2
        go_roundw
        case rel => exact ⟨k + 1, by omega, by rw [Hu.out]; simp, by rw [Hd.out]; simp, by go_num, m, rfl⟩
        case measure => simp [intOf]; omega
    · obtain rfl : k = r.length := by omega
      rw [List.take_length] at *
      generalize hu : upB r = u at *
      generalize hd : dnB r = d at *
      have E := Lib.hid (sign_of hu hd)
      clear hu hd
      cases u <;> cases d
      all_goals
        go_wp2
        go_ret
        exact ⟨congrArg (fun t => Ending.returned (.int .i64 t)) E.out.symm, m, rfl⟩
end Go.Proofs.YtldcmhgpppeooaaGreatDoor
namespace Go.Proofs.YtldcmhgpppeooaaGreatDoor
set_option maxRecDepth 100000
open Go.RowKit Game

set_option maxHeartbeats 2000000 in
theorem impl_mirrored_any (gc oc n cc i g o m cp : Nat) (c : List (List Int)) (r : List Int) (w : World) (hn : c.length = n) (hm : r.length = m) (hi : i < c.length) (hir : i < r.length) (hl : r.length ≤ (c.getD i []).length) (hx : (c.getD i []).length ≤ 1048576) (hgc : gc < w.heap.size) (hg : g < w.heap.size) (hc : Rows2 w gc oc c) (hr : Cells w g o r) :
    Calls Tryz.prog 147 #[(Value.slice (some ⟨gc, oc, none⟩) n cc), .int .i64 i, (Value.slice (some ⟨g, o, none⟩) m cp)] w (GotInts w (mirL c i r)) := by
  subst hn; subst hm
  have hrl : r.length ≤ 1048576 := by omega
  have he : mirL c i r = r.set i (wrap64 (r.getD i 0 - pairL (c.getD i []) r)) := rfl
  obtain ⟨ga, oa, ca, q1, q2, q3, q4⟩ := hc i hi
  generalize c.getD i [] = a at *
  have He := Lib.hid he; clear he
  go_enter Tryz.func147, Tryz.ntmps147
  go_wp2_with (at_builtin; refine wpList_clone rfl _ _ rfl g o _ cp r rfl hg hr rfl rfl (by omega) ?_)
  intro g3 c3 w3 ho3 hb3
  have q1' := (hb3.cell (p := ⟨gc, oc + i, none⟩) hgc).trans q1
  have hcall := fun W (hW : ∃ q, W = w3.drewN q) => impl_pairing_any ga oa _ ca g o _ cp a r W rfl rfl hl hx ((q4.below hb3 q3).still hW) ((hr.below hb3 hg).still hW)
  have hc1 := ho3.cell i hir
  have hf1 := ho3.frozen i
  have Hcall := Lib.hid hcall
  generalize pairL a r = p at *
  generalize r.getD i 0 = x at *
  clear hcall hr hc
  have HS : Hid (∀ W, (∃ q, W = w3.drewN q) → GotInts w (mirL c i r) (.returned (Value.slice (some ⟨g3, 0, none⟩) r.length c3)) (W.setCell ⟨g3, i, none⟩ (.int .i64 (wrap64 (x - p))))) := fun W hW => by
    have ho := ho3.still hW
    have hb := below_still hb3 hW
    have hs := ho.set i (wrap64 (x - p))
    rw [← He.out] at hs
    exact GotInts.mk' g3 c3 (mirL_length _ _ _) hs.1 (hb.grown hs.2 hb.size (by intro k hk; cases hk; exact ho.base))
  go_wp2
  go_region_with (go_at_call 172; refine (Hcall.out _ ⟨_, rfl⟩).mono ?_; rintro e w4 ⟨rfl, q, rfl⟩)
  all_goals
    go_wp2
    go_ret
    rw [show IntKind.i64.wrap (x - p) = wrap64 (x - p) by simp only [wrap64, IntKind.wrap_i64]]
    refine HS.out _ ?_
    exact (by first | exact ⟨_, rfl⟩ | exact ⟨0, rfl⟩ | exact still2 _ _ _ | exact still3 _ _ _ _)

set_option maxHeartbeats 2000000 in
theorem spec_l7Reflect_any (gc oc n cc i g o m cp : Nat) (c : List (List Int)) (r : List Int) (w : World) (hn : c.length = n) (hm : r.length = m) (hi : i < c.length) (hir : i < r.length) (hl : r.length ≤ (c.getD i []).length) (hx : (c.getD i []).length ≤ 1048576) (hgc : gc < w.heap.size) (hg : g < w.heap.size) (hc : Rows2 w gc oc c) (hr : Cells w g o r) :
    Calls Tryz.prog 144 #[(Value.slice (some ⟨gc, oc, none⟩) n cc), .int .i64 i, (Value.slice (some ⟨g, o, none⟩) m cp)] w (GotInts w (mirL c i r)) := by
  subst hn; subst hm
  have hrl : r.length ≤ 1048576 := by omega
  have he : mirL c i r = r.set i (wrap64 (r.getD i 0 - dotTo (c.getD i []) r r.length)) := rfl
  obtain ⟨ga, oa, ca, q1, q2, q3, q4⟩ := hc i hi
  generalize c.getD i [] = a at *
  have He := Lib.hid he; clear he
  go_enter Tryz.func144, Tryz.ntmps144
  go_wp2_with (at_builtin; refine wpList_clone rfl _ _ rfl g o _ cp r rfl hg hr rfl rfl (by omega) ?_)
  intro g3 c3 w3 ho3 hb3
  have q1' := (hb3.cell (p := ⟨gc, oc + i, none⟩) hgc).trans q1
  have hr3 := hr.below hb3 hg
  have hq3 := q4.below hb3 q3
  go_wp2
  go_loopw [8, 9] (fun s kv wr => ∃ t q : Nat, t ≤ r.length ∧ kv = .int .i64 t ∧ s = .int .i64 (dotTo a r t) ∧ wr = w3.drewN q) (fun _ kv _ => r.length - (intOf kv).toNat)
  case atStart => exact ⟨0, 0, Nat.zero_le _, rfl, rfl, rfl⟩
  case round =>
    obtain ⟨t, q, ht, rfl, rfl, rfl⟩ := hrel
    by_cases hlt : t < r.length
    · have e1 := hq3 t (by omega)
      have e2 := hr3 t hlt
      have hta : t < a.length := by omega
      have hd : dotTo a r (t + 1) = wrap64 (dotTo a r t + wrap64 (a.getD t 0 * r.getD t 0)) := rfl
      generalize a.getD t 0 = x at *
      generalize r.getD t 0 = y at *
      have Hd := Lib.hid hd; clear hd
      generalize dotTo a r t = z at *
      go_wp2
      go_quiet (fail)
      go_wp2
      go_roundw
      case rel => exact ⟨t + 1, _, by omega, by go_num, by rw [Hd.out], rfl⟩
      case measure => simp [intOf]; omega
    · obtain rfl : t = r.length := by omega
      have e2 := hr3 i hir
      have hc1 := ho3.cell i hir
      have hf1 := ho3.frozen i
      generalize dotTo a r r.length = p at *
      generalize r.getD i 0 = x at *
      have HS : Hid (∀ W, (∃ q, W = w3.drewN q) → GotInts w (mirL c i r) (.returned (Value.slice (some ⟨g3, 0, none⟩) r.length c3)) (W.setCell ⟨g3, i, none⟩ (.int .i64 (wrap64 (x - p))))) := fun W hW => by
        have ho := ho3.still hW
        have hb := below_still hb3 hW
        have hs := ho.set i (wrap64 (x - p))
        rw [← He.out] at hs
        exact GotInts.mk' g3 c3 (mirL_length _ _ _) hs.1 (hb.grown hs.2 hb.size (by intro k hk; cases hk; exact ho.base))
      go_wp2
      go_ret
      refine HS.out _ ?_
      exact (by first | exact ⟨_, rfl⟩ | exact ⟨0, rfl⟩ | exact still2 _ _ _ | exact still3 _ _ _ _)

end Go.Proofs.YtldcmhgpppeooaaGreatDoor
namespace Go.Proofs.YtldcmhgpppeooaaGreatDoor
set_option maxRecDepth 100000
open Go.RowKit Game

def lettersB (n : Nat) (l : List Int) : Bool := l.all fun x => decide (0 ≤ x) && decide (x < (n : Int))
def isWordB (c : List (List Int)) (l : List Int) : Bool := decide (IsC c) && (decide (l.length ≤ 15) && lettersB c.length l)
theorem letters_out {n : Nat} {l : List Int} {k : Nat} (hk : k < l.length) (h : ¬ (0 ≤ l.getD k 0 ∧ l.getD k 0 < (n : Int))) : lettersB n l = false := by
  have e : l.getD k 0 = l[k] := by simp [List.getD, hk]
  rw [e] at h
  rw [← Bool.not_eq_true]
  intro ht
  have := List.all_eq_true.1 ht l[k] (List.getElem_mem hk)
  simp only [Bool.and_eq_true, decide_eq_true_eq] at this
  exact h this
theorem letters_in {n : Nat} {l : List Int} (h : ∀ k, k < l.length → 0 ≤ l.getD k 0 ∧ l.getD k 0 < (n : Int)) : lettersB n l = true := by
  refine List.all_eq_true.2 fun x hx => ?_
  obtain ⟨k, hk, rfl⟩ := List.getElem_of_mem hx
  have := h k hk
  have e : l.getD k 0 = l[k] := by simp [List.getD, hk]
  rw [e] at this
  simpa using this
theorem isWordB_of {c : List (List Int)} {l : List Int} (h : isWordB c l = true) : IsC c ∧ l.length ≤ 15 ∧ ∀ x ∈ l, 0 ≤ x ∧ x < (c.length : Int) := by
  simp only [isWordB, Bool.and_eq_true, decide_eq_true_eq] at h
  refine ⟨h.1, h.2.1, fun x hx => ?_⟩
  have := List.all_eq_true.1 h.2.2 x hx
  simpa using this

set_option maxHeartbeats 1000000 in
theorem impl_isWordOf_any (gc oc n cc g o m cp : Nat) (l : List Int) (w : World) (hm : l.length = m) (hl : l.length ≤ 1048576) (hc : Cells w g o l) :
    Calls Tryz.prog 133 #[(Value.slice (some ⟨gc, oc, none⟩) n cc), (Value.slice (some ⟨g, o, none⟩) m cp)] w (Reads w (.bool (lettersB n l))) := by
  subst hm
  go_enter Tryz.func133, Tryz.ntmps133
  go_wp2
  go_loopw [9] (fun i wr => ∃ k : Nat, k ≤ l.length ∧ i = .int .i64 k ∧ Hid (∀ j, j < k → 0 ≤ l.getD j 0 ∧ l.getD j 0 < (n : Int)) ∧ ∃ q, wr = w.drewN q) (fun i _ => l.length - (intOf i).toNat)
  case atStart => exact ⟨0, Nat.zero_le _, rfl, fun j h => absurd h (by omega), (by first | exact ⟨_, rfl⟩ | exact ⟨0, rfl⟩ | exact still2 _ _ _ | exact still3 _ _ _ _)⟩
  case round =>
    obtain ⟨k, hk, rfl, hp, q, rfl⟩ := hrel
    by_cases hlt : k < l.length
    · have c1 := hc k hlt
      have HA : Hid (¬ (0 ≤ l.getD k 0 ∧ l.getD k 0 < (n : Int)) → lettersB n l = false) := letters_out hlt
      have HB : Hid (0 ≤ l.getD k 0 ∧ l.getD k 0 < (n : Int) → ∀ j, j < k + 1 → 0 ≤ l.getD j 0 ∧ l.getD j 0 < (n : Int)) := fun h j hj => by
        by_cases e : j = k
        · subst e; exact h
        · exact hp.out j (by omega)
      generalize l.getD k 0 = x at *
      have hcall := impl_isPoint_any gc oc n cc x (w.drewN q)
      by_cases hx : 0 ≤ x ∧ x < (n : Int)
      · have hT : (decide (0 ≤ x) && decide (x < (n : Int))) = true := by simpa using hx
        rw [hT] at hcall
        have hb := HB.out hx
        have Hb := Lib.hid hb; have Hcall := Lib.hid hcall
        clear hb hcall hT HA HB hp hx
        go_wp2_with fail
        refine Hcall.out.mono ?_
        rintro e w2 ⟨rfl, q2, rfl⟩
        go_wp2_with fail
        go_roundw
        case rel => exact ⟨k + 1, by omega, by go_num, Hb.out, (by first | exact ⟨_, rfl⟩ | exact ⟨0, rfl⟩ | exact still2 _ _ _ | exact still3 _ _ _ _)⟩
        case measure => simp [intOf]; omega
      · have hT : (decide (0 ≤ x) && decide (x < (n : Int))) = false := by
          rw [← Bool.not_eq_true, Bool.and_eq_true, decide_eq_true_eq, decide_eq_true_eq]; exact hx
        rw [hT] at hcall
        have ha := HA.out hx
        have Ha := Lib.hid ha; have Hcall := Lib.hid hcall
        clear ha hcall hT HA HB hp hx
        go_wp2_with fail
        refine Hcall.out.mono ?_
        rintro e w2 ⟨rfl, q2, rfl⟩
        go_wp2_with fail
        go_ret
        exact ⟨ret_bool Ha.out.symm, (by first | exact ⟨_, rfl⟩ | exact ⟨0, rfl⟩ | exact still2 _ _ _ | exact still3 _ _ _ _)⟩
    · obtain rfl : k = l.length := by omega
      have Hf : Hid (lettersB n l = true) := letters_in hp.out
      clear hp
      go_wp2
      go_ret
      exact ⟨ret_bool Hf.out.symm, (by first | exact ⟨_, rfl⟩ | exact ⟨0, rfl⟩ | exact still2 _ _ _ | exact still3 _ _ _ _)⟩

set_option maxHeartbeats 1000000 in
theorem impl_IsWord_any (gc oc n cc g o m cp : Nat) (c : List (List Int)) (l : List Int) (w : World) (hn : c.length = n) (hm : l.length = m) (hx : c.length ≤ 1048576) (hrl : ∀ j, j < c.length → (c.getD j []).length ≤ 1048576) (hl : l.length ≤ 1048576) (hr : Rows2 w gc oc c) (hc : Cells w g o l) :
    Calls Tryz.prog 70 #[(Value.slice (some ⟨gc, oc, none⟩) n cc), (Value.slice (some ⟨g, o, none⟩) m cp)] w (Reads w (.bool (isWordB c l))) := by
  subst hn; subst hm
  have hcall := impl_IsCartan gc oc _ cc c w rfl (by omega) (fun j hj => by have := hrl j hj; omega) hr
  have hcall2 := fun W (hW : ∃ q, W = w.drewN q) => impl_isWordOf_any gc oc c.length cc g o _ cp l W rfl hl (hc.still hW)
  have Hcall2 := Lib.hid hcall2
  clear hr hc hcall2 hrl
  by_cases hC : IsC c
  · rw [decide_eq_true hC] at hcall
    have Hcall := Lib.hid hcall
    by_cases h15 : l.length ≤ 15
    · have hv : isWordB c l = lettersB c.length l := by unfold isWordB; rw [decide_eq_true hC, decide_eq_true h15]; simp
      rw [hv]
      have h15I : (l.length : Int) ≤ 15 := by omega
      clear hcall hv
      generalize lettersB c.length l = b at *
      go_enter Tryz.func70, Tryz.ntmps70
      go_wp2_with fail
      refine Hcall.out.mono ?_
      rintro e w2 ⟨rfl, hs2⟩
      have Hc3 := Lib.hid (Hcall2.out w2 hs2)
      go_wp2_with fail
      refine Hc3.out.mono ?_
      rintro e w3 ⟨rfl, hs3⟩
      have hs := still_trans hs2 hs3
      cases b
      all_goals
        go_wp2_with fail
        go_ret
        exact ⟨rfl, hs⟩
    · have hv : isWordB c l = false := by unfold isWordB; rw [decide_eq_false h15]; simp
      have Hv := Lib.hid hv
      have h15I : (15 : Int) < (l.length : Int) := by omega
      clear hcall hv h15
      go_enter Tryz.func70, Tryz.ntmps70
      go_wp2_with fail
      refine Hcall.out.mono ?_
      rintro e w2 ⟨rfl, hs2⟩
      go_wp2_with fail
      go_ret
      exact ⟨ret_bool Hv.out.symm, hs2⟩
  · rw [decide_eq_false hC] at hcall
    have Hcall := Lib.hid hcall
    have hv : isWordB c l = false := by unfold isWordB; rw [decide_eq_false hC]; simp
    have Hv := Lib.hid hv
    clear hcall hv
    go_enter Tryz.func70, Tryz.ntmps70
    go_wp2_with fail
    refine Hcall.out.mono ?_
    rintro e w2 ⟨rfl, hs2⟩
    go_wp2_with fail
    go_ret
    exact ⟨ret_bool Hv.out.symm, hs2⟩

set_option maxHeartbeats 1000000 in
theorem spec_IsWord_any (gc oc n cc g o m cp : Nat) (c : List (List Int)) (l : List Int) (w : World) (hn : c.length = n) (hm : l.length = m) (hx : c.length ≤ 1048576) (hrl : ∀ j, j < c.length → (c.getD j []).length ≤ 1048576) (hl : l.length ≤ 1048576) (hr : Rows2 w gc oc c) (hc : Cells w g o l) :
    Calls Tryz.prog 102 #[(Value.slice (some ⟨gc, oc, none⟩) n cc), (Value.slice (some ⟨g, o, none⟩) m cp)] w (Reads w (.bool (isWordB c l))) := by
  subst hn; subst hm
  have hcall2 := fun W (hW : ∃ q, W = w.drewN q) => spec_IsCartan gc oc _ cc c W rfl (by omega) (fun j hj => by have := hrl j hj; omega) (hr.still hW)
  have Hcall2 := Lib.hid hcall2
  clear hr hcall2 hrl
  go_enter Tryz.func102, Tryz.ntmps102
  go_wp2
  go_loopw [5] (fun i wr => ∃ k : Nat, k ≤ l.length ∧ i = .int .i64 k ∧ Hid (∀ j, j < k → 0 ≤ l.getD j 0 ∧ l.getD j 0 < (c.length : Int)) ∧ ∃ q, wr = w.drewN q) (fun i _ => l.length - (intOf i).toNat)
  case atStart => exact ⟨0, Nat.zero_le _, rfl, fun j h => absurd h (by omega), (by first | exact ⟨_, rfl⟩ | exact ⟨0, rfl⟩ | exact still2 _ _ _ | exact still3 _ _ _ _)⟩
  case round =>
    obtain ⟨k, hk, rfl, hp, q, rfl⟩ := hrel
    by_cases hlt : k < l.length
    · have c1 := hc k hlt
      have HA : Hid (¬ (0 ≤ l.getD k 0 ∧ l.getD k 0 < (c.length : Int)) → isWordB c l = false) := fun h => by unfold isWordB; rw [letters_out hlt h]; simp
      have HB : Hid (0 ≤ l.getD k 0 ∧ l.getD k 0 < (c.length : Int) → ∀ j, j < k + 1 → 0 ≤ l.getD j 0 ∧ l.getD j 0 < (c.length : Int)) := fun h j hj => by
        by_cases e : j = k
        · subst e; exact h
        · exact hp.out j (by omega)
      generalize l.getD k 0 = x at *
      have hcall := spec_l1In x 0 ((c.length : Int) - 1) (w.drewN q)
      by_cases hx : 0 ≤ x ∧ x < (c.length : Int)
      · have hT : (decide (0 ≤ x) && decide (x ≤ (c.length : Int) - 1)) = true := by simp only [Bool.and_eq_true, decide_eq_true_eq]; omega
        rw [hT] at hcall
        have hb := HB.out hx
        have Hb := Lib.hid hb; have Hcall := Lib.hid hcall
        clear hb hcall hT HA HB hp hx
        go_wp2_with fail
        refine Hcall.out.mono ?_
        rintro e w2 ⟨rfl, q2, rfl⟩
        go_wp2_with fail
        go_roundw
        case rel => exact ⟨k + 1, by omega, by go_num, Hb.out, (by first | exact ⟨_, rfl⟩ | exact ⟨0, rfl⟩ | exact still2 _ _ _ | exact still3 _ _ _ _)⟩
        case measure => simp [intOf]; omega
      · have hT : (decide (0 ≤ x) && decide (x ≤ (c.length : Int) - 1)) = false := by
          rw [← Bool.not_eq_true, Bool.and_eq_true, decide_eq_true_eq, decide_eq_true_eq]; omega
        rw [hT] at hcall
        have ha := HA.out hx
        have Ha := Lib.hid ha; have Hcall := Lib.hid hcall
        clear ha hcall hT HA HB hp hx
        go_wp2_with fail
        refine Hcall.out.mono ?_
        rintro e w2 ⟨rfl, q2, rfl⟩
        go_wp2_with fail
        go_ret
        exact ⟨ret_bool Ha.out.symm, (by first | exact ⟨_, rfl⟩ | exact ⟨0, rfl⟩ | exact still2 _ _ _ | exact still3 _ _ _ _)⟩
    · obtain rfl : k = l.length := by omega
      have hf : lettersB c.length l = true := letters_in hp.out
      have hcall := Hcall2.out (w.drewN q) (by first | exact ⟨_, rfl⟩ | exact ⟨0, rfl⟩ | exact still2 _ _ _ | exact still3 _ _ _ _)
      clear hp
      by_cases hC : IsC c
      · have hv : isWordB c l = decide (l.length ≤ 15) := by unfold isWordB; rw [decide_eq_true hC, hf]; simp
        rw [decide_eq_true hC] at hcall
        have Hcall := Lib.hid hcall; have Hv := Lib.hid hv
        clear hcall hv hf
        by_cases h15 : l.length ≤ 15
        · have h15I : (l.length : Int) ≤ 15 := by omega
          go_wp2_with fail
          refine Hcall.out.mono ?_
          rintro e w2 ⟨rfl, q2, rfl⟩
          go_wp2_with fail
          go_ret
          exact ⟨ret_bool (by rw [Hv.out, decide_eq_true h15]), (by first | exact ⟨_, rfl⟩ | exact ⟨0, rfl⟩ | exact still2 _ _ _ | exact still3 _ _ _ _)⟩
        · have h15I : (15 : Int) < (l.length : Int) := by omega
          go_wp2_with fail
          refine Hcall.out.mono ?_
          rintro e w2 ⟨rfl, q2, rfl⟩
          go_wp2_with fail
          go_ret
          exact ⟨ret_bool (by rw [Hv.out]; simp; omega), (by first | exact ⟨_, rfl⟩ | exact ⟨0, rfl⟩ | exact still2 _ _ _ | exact still3 _ _ _ _)⟩
      · have hv : isWordB c l = false := by unfold isWordB; rw [decide_eq_false hC]; simp
        rw [decide_eq_false hC] at hcall
        have Hcall := Lib.hid hcall; have Hv := Lib.hid hv
        clear hcall hv hf
        go_wp2_with fail
        refine Hcall.out.mono ?_
        rintro e w2 ⟨rfl, q2, rfl⟩
        go_wp2_with fail
        go_ret
        exact ⟨ret_bool Hv.out.symm, (by first | exact ⟨_, rfl⟩ | exact ⟨0, rfl⟩ | exact still2 _ _ _ | exact still3 _ _ _ _)⟩
end Go.Proofs.YtldcmhgpppeooaaGreatDoor
namespace Go.Proofs.YtldcmhgpppeooaaGreatDoor
set_option maxRecDepth 100000
open Go.RowKit

structure WordOk (c : List (List Int)) (v : List Int) : Prop where
  isC : IsC c
  few : v.length ≤ 15
  inr : ∀ k, k < v.length → 0 ≤ v.getD k 0 ∧ v.getD k 0 < (c.length : Int)
theorem wordOk_of {c : List (List Int)} {v : List Int} (h : isWordB c v = true) : WordOk c v := by
  obtain ⟨h1, h2, h3⟩ := isWordB_of h
  exact ⟨h1, h2, fun k hk => h3 _ (by simp [List.getD, hk])⟩
theorem WordOk.isWord {c : List (List Int)} {v : List Int} (h : WordOk c v) : isWordB c v = true := by
  unfold isWordB
  rw [decide_eq_true h.isC, decide_eq_true h.few, letters_in h.inr]
  rfl
theorem WordOk.take {c : List (List Int)} {v : List Int} (h : WordOk c v) (k : Nat) : WordOk c (v.take k) :=
  ⟨h.isC, by rw [List.length_take]; have := h.few; omega, fun j hj => by
    have hj' : j < v.length := by rw [List.length_take] at hj; omega
    have hjk : j < k := by rw [List.length_take] at hj; omega
    have := h.inr j hj'
    simpa [List.getD, hj', hjk] using this⟩

/-- a root's image under a word -/
def actR (c : List (List Int)) : List Int → List Int → List Int
  | [], r => r
  | i :: l, r => mirL c i.toNat (actR c l r)
theorem actR_length (c : List (List Int)) (l r : List Int) : (actR c l r).length = r.length := by
  induction l with
  | nil => rfl
  | cons i l ih => rw [actR, mirL_length, ih]
theorem actR_drop (c : List (List Int)) (l r : List Int) (k : Nat) (hk : k < l.length) : actR c (l.drop k) r = mirL c (l.getD k 0).toNat (actR c (l.drop (k + 1)) r) := by
  rw [List.drop_eq_getElem_cons hk]
  simp [actR, List.getD, hk]
/-- the roots of a word's letters -/
def seqL (c : List (List Int)) (v : List Int) : List (List Int) := (List.range v.length).map fun k => actR c (v.take k) (simpL c.length (v.getD k 0).toNat)
def seqTo (c : List (List Int)) (v : List Int) (t : Nat) : List (List Int) := (List.range t).map fun k => actR c (v.take k) (simpL c.length (v.getD k 0).toNat)
theorem seqTo_succ (c : List (List Int)) (v : List Int) (t : Nat) : seqTo c v (t + 1) = seqTo c v t ++ [actR c (v.take t) (simpL c.length (v.getD t 0).toNat)] := by simp [seqTo, List.range_succ]

set_option maxHeartbeats 1000000 in
theorem impl_actedRoot_any (gc oc n cc g1 o1 n1 c1 g2 o2 n2 c2 : Nat) (c : List (List Int)) (l r : List Int) (w : World) (hn : c.length = n) (hn1 : l.length = n1) (hn2 : r.length = n2) (hC : IsC c) (hl : l.length ≤ 1048576)
    (hin : ∀ k, k < l.length → 0 ≤ l.getD k 0 ∧ l.getD k 0 < (c.length : Int)) (hrl : r.length = c.length) (hgc : gc < w.heap.size) (hg1 : g1 < w.heap.size) (hg2 : g2 < w.heap.size) (hr : Rows2 w gc oc c) (hc1 : Cells w g1 o1 l) (hc2 : Cells w g2 o2 r) :
    Calls Tryz.prog 98 #[(Value.slice (some ⟨gc, oc, none⟩) n cc), (Value.slice (some ⟨g1, o1, none⟩) n1 c1), (Value.slice (some ⟨g2, o2, none⟩) n2 c2)] w (GotInts w (actR c l r)) := by
  subst hn; subst hn1; subst hn2
  have hn4 := hC.2.1
  have hcl := hC.2.2.1
  have ew : IntKind.i64.wrap ((l.length : Int) - 1) = (l.length : Int) - 1 := IntWalk.i64_in _ (by omega)
  have Hrl := Lib.hid hrl; have Hcl := Lib.hid hcl; have Hr := Lib.hid hr
  clear hrl hcl hr
  go_enter Tryz.func98, Tryz.ntmps98
  go_wp2_with (at_builtin; refine wpList_clone rfl _ _ rfl g2 o2 _ c2 r rfl hg2 hc2 rfl rfl (by have := Hrl.out; omega) ?_)
  intro gv cv w1 ho1 hb1
  go_wp2
  clear ew
  go_loopw [7, 8] (fun s i wr => ∃ (k : Nat) (j : Int) (gv cv : Nat), k ≤ l.length ∧ i = .int .i64 j ∧ j = (k : Int) - 1 ∧ s = (Value.slice (some ⟨gv, 0, none⟩) r.length cv) ∧ Own wr w.heap.size gv cv (actR c (l.drop k) r) ∧ Below w.heap.size w wr) (fun _ i _ => (intOf i + 1).toNat)
  case atStart => exact ⟨l.length, _, gv, cv, Nat.le_refl _, rfl, rfl, rfl, by rw [List.drop_length]; exact ho1, hb1⟩
  case round =>
    clear ho1 hb1
    obtain ⟨k, j, gv, cv, hk, rfl, hj, rfl, ho, hb⟩ := hrel
    by_cases hlt : 0 < k
    · obtain ⟨t, rfl⟩ : ∃ t, k = t + 1 := ⟨k - 1, by omega⟩
      obtain rfl : j = (t : Int) := by omega
      have htl : t < l.length := by omega
      have q1 := hc1.below hb hg1 t htl
      have hit := hin t htl
      have hd := actR_drop c l r t htl
      obtain ⟨iN, hiN⟩ : ∃ iN : Nat, l.getD t 0 = iN := ⟨(l.getD t 0).toNat, by omega⟩
      rw [hiN] at q1 hit hd
      rw [Int.toNat_natCast] at hd
      have hic : iN < c.length := by omega
      have hal : (actR c (l.drop (t + 1)) r).length = r.length := actR_length _ _ _
      have hal2 : (actR c (l.drop (t + 1)) r).length = c.length := by rw [hal]; exact Hrl.out
      have hcall := impl_mirrored_any gc oc _ cc iN gv 0 r.length cv c (actR c (l.drop (t + 1)) r) wr rfl hal hic (by rw [hal2]; exact hic) (by rw [hal2, Hcl.out iN hic]; exact Nat.le_refl _) (by rw [Hcl.out iN hic]; omega) (Nat.lt_of_lt_of_le hgc hb.size) ho.lt (Hr.out.below hb hgc) ho.cells
      rw [← hd] at hcall
      have hal3 : (actR c (l.drop t) r).length = r.length := actR_length _ _ _
      have Hcall := Lib.hid hcall; have Hal3 := Lib.hid hal3
      clear hcall hd hiN hal hal2 hal3 hit
      clear hj
      go_wp2_with fail
      refine Hcall.out.mono ?_
      rintro e w2 ⟨g2, c2, rfl, ho2, hb2⟩
      rw [Hal3.out]
      go_wp2_with fail
      go_roundw
      case rel =>
        exact ⟨t, (t : Int) - 1, g2, c2, by omega, by go_num, rfl, rfl, ho2.mono hb.size, hb.trans (hb2.mono hb.size)⟩
      case measure => simp [intOf]
    · obtain rfl : k = 0 := by omega
      obtain rfl : j = -1 := by omega
      clear hj
      go_wp2
      go_ret
      exact GotInts.mk' gv cv (actR_length _ _ _) ho hb

def seqA (c : List (List Int)) (v : List Int) : List (List Int) := if isWordB c v = true then seqL c v else []

end Go.Proofs.YtldcmhgpppeooaaGreatDoor
