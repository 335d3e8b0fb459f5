/- The program's RootsUpTo and PositiveRoots; PositiveRoots of both at any matrix: contracts. Coroots: the reference's way down and up again as a function; what the kernel looks at, type by type. Plain law. -/
import Derived.Test.YtmjneokgnnbekaaG37
import Derived.Test.YtmjneokgnnbekaaG38
import Derived.Test.YtmjneokgnnbekaaG39
import Derived.Test.YtmjneokgnnbekaaG30
namespace Go.Proofs.Ytmjneokgnnbekaa
set_option maxRecDepth 100000
open Go.RowKit Game

def posA (c : List (List Int)) : List (List Int) := if finB c = true then posL c else []
theorem posA_fin {c : List (List Int)} (h : finB c = true) : posA c = posL c := if_pos h
theorem posA_inf {c : List (List Int)} (h : finB c = false) : posA c = [] := if_neg (by rw [h]; decide)
theorem finB_isC {c : List (List Int)} (h : finB c = true) : IsC c := by
  unfold finB at h
  rw [Bool.and_eq_true] at h
  simpa using h.1
theorem posOk_fin {c : List (List Int)} (h : finB c = true) : PosOk c := posOk_of (pos_fin (finB_isC h) h)

set_option maxHeartbeats 1000000 in
theorem impl_RootsUpTo_ok (gc oc n cc : Nat) (c : List (List Int)) (w : World) (hn : c.length = n) (hC : IsC c) (hP : PosOk c) (hgc : gc < w.heap.size) (hr : Rows2 w gc oc c) :
    Calls Try.prog 95 #[(Value.slice (some ⟨gc, oc, none⟩) n cc), .int .i64 12] w (GotRows w (posL c)) := by
  subst hn
  have hn4 := hC.2.1
  have hcl := hC.2.2.1
  have hcall := impl_IsCartan gc oc _ cc c w rfl (by omega) (fun j hj => by have := hcl j hj; omega) hr
  rw [decide_eq_true hC] at hcall
  have Hcall := Lib.hid hcall; have Hr := Lib.hid hr; have HP := Lib.hid hP; have HC := Lib.hid hC
  clear hcall hr hP hcl hC
  go_enter Try.func95, Try.ntmps95
  go_wp2_with fail
  refine Hcall.out.mono ?_
  rintro e w1 ⟨rfl, hs1⟩
  have hb1 := below_still (Below.refl w.heap.size w) hs1
  have hc2 := impl_pairedRoots_ok (fun _ _ => True) gc oc _ cc c w1 rfl HC.out HP.out (CoRel.any c) (Nat.lt_of_lt_of_le hgc hb1.size) (Hr.out.still hs1)
  have Hc2 := Lib.hid hc2
  clear hc2 Hcall hs1
  go_wp2_with fail
  refine Hc2.out.mono ?_
  rintro e w2 ⟨g, cap, rs, g2, cap2, rs2, rfl, hcon, -, -, hO, -, hb2⟩
  have hb := hb1.trans (hb2.mono hb1.size)
  have hO2 := hO.mono hb1.size
  clear Hc2 hO hb2
  go_wp2_with fail
  go_ret
  exact ⟨g, cap, rs, rfl, hcon, hO2, hb⟩

set_option maxHeartbeats 1000000 in
theorem impl_PositiveRoots_any (gc oc n cc : Nat) (c : List (List Int)) (w : World) (hn : c.length = n) (hl : c.length ≤ 1048576) (hrl : ∀ j, j < c.length → (c.getD j []).length ≤ 1048576) (hgc : gc < w.heap.size) (hr : Rows2 w gc oc c) :
    Calls Try.prog 65 #[(Value.slice (some ⟨gc, oc, none⟩) n cc)] w (GotRowsB w (posA c) (finB c)) := by
  have hcall := impl_IsFinite_any gc oc n cc c w hn hl hrl hgc hr
  cases hf : finB c with
  | false =>
    rw [hf] at hcall
    rw [posA_inf hf]
    have Hcall := Lib.hid hcall
    clear hcall
    go_enter Try.func65, Try.ntmps65
    go_wp2_with fail
    refine Hcall.out.mono ?_
    rintro e w1 ⟨rfl, hb1⟩
    go_wp2_with fail
    go_ret2
    exact ⟨_, 0, [], rfl, rfl, OwnRows.empty hb1.size, hb1.alloc hb1.size _⟩
  | true =>
    rw [hf] at hcall
    rw [posA_fin hf]
    have Hcall := Lib.hid hcall; have Hr := Lib.hid (fun W (hW : Below w.heap.size w W) => impl_RootsUpTo_ok gc oc n cc c W hn (finB_isC hf) (posOk_fin hf) (Nat.lt_of_lt_of_le hgc hW.size) (hr.below hW hgc))
    clear hcall hr hf hrl hl hn
    go_enter Try.func65, Try.ntmps65
    go_wp2_with fail
    refine Hcall.out.mono ?_
    rintro e w1 ⟨rfl, hb1⟩
    go_wp2_with fail
    refine (Hr.out w1 hb1).mono ?_
    rintro e w2 ⟨g, cp, rs, rfl, hcr, ho, hb2⟩
    go_wp2_with fail
    go_ret2
    exact ⟨g, cp, rs, rfl, hcr, ho.mono hb1.size, hb1.trans (hb2.mono hb1.size)⟩

theorem spec_PositiveRoots_any (gc oc n cc : Nat) (c : List (List Int)) (w : World) (hn : c.length = n) (hl : c.length ≤ 1048576) (hrl : ∀ j, j < c.length → (c.getD j []).length ≤ 1048576) (hgc : gc < w.heap.size) (hr : Rows2 w gc oc c) :
    Calls Try.prog 32 #[(Value.slice (some ⟨gc, oc, none⟩) n cc)] w (GotRowsB w (posA c) (finB c)) := by
  have hcall := fun W (hW : Below w.heap.size w W) => spec_IsFinite_any gc oc n cc c W hn hl hrl (Nat.lt_of_lt_of_le hgc hW.size) (hr.below hW hgc)
  cases hf : finB c with
  | false =>
    rw [hf] at hcall
    rw [posA_inf hf]
    exact spec_PositiveRoots_inf gc oc n cc w (hcall w (Below.refl _ _))
  | true =>
    rw [hf] at hcall
    rw [posA_fin hf]
    exact spec_PositiveRoots_fin gc oc n cc c w hn (finB_isC hf) (posOk_fin hf) hgc hr hcall
theorem posA_rl (c : List (List Int)) : Rl c.length (posA c) := by
  unfold posA
  split
  · exact posL_rl c
  · intro x hx; cases hx
theorem posA_few (c : List (List Int)) : (posA c).length ≤ 24 ∧ ∀ x ∈ posA c, x.length ≤ 4 := by
  unfold posA
  split
  · rename_i h
    exact ⟨(posOk_fin h).few, fun x hx => by rw [posL_rl c x hx]; exact (finB_isC h).2.1⟩
  · exact ⟨by simp, by simp⟩
end Go.Proofs.Ytmjneokgnnbekaa
namespace Go.Proofs.Ytmjneokgnnbekaa
set_option maxRecDepth 100000
open Go.RowKit

/-- the first letter that does not raise the height any more -/
def dnAt (c : List (List Int)) (r : List Int) : Nat → Nat → Nat
  | 0, i => i
  | f + 1, i => if heightL r ≤ heightL (mirL c i r) then dnAt c r f (i + 1) else i
def dnI (c : List (List Int)) (r : List Int) : Nat := dnAt c r c.length 0
def dnGo (c : List (List Int)) : Nat → List Int → List Nat → List Int × List Nat
  | 0, r, p => (r, p)
  | f + 1, r, p => if dnI c r = c.length ∨ heightL r = 1 then (r, p) else dnGo c f (mirL c (dnI c r) r) (p ++ [dnI c r])
def upBack (t : List (List Int)) : List Nat → List Int → List Int
  | [], r => r
  | i :: p, r => upBack t p (mirL t i r)
def coR (c : List (List Int)) (r : List Int) : List Int := let q := dnGo c 30 r []; upBack (transL c) q.2.reverse q.1
def coL (c : List (List Int)) : List (List Int) := (posL c).map (coR c)
def tabOf (c : List (List Int)) (L : List (List Int)) : List (List Int × List Int) := L.map fun r => (r, coR c r)
def lookT : List (List Int × List Int) → List Int → List Int
  | [], _ => []
  | p :: T, r => if r = p.1 then p.2 else lookT T r
def cols (n : Nat) (L : List (List Int)) : List (List Nat) := (List.range n).map fun j => L.map fun r => (r.getD j 0).toNat
def dimAll (d : Nat) : List (List Nat) → List Nat → Bool
  | [], acc => (acc.foldl (· * ·) 1) % d == 0
  | col :: cs, acc => [1, 2, 3, 4, 5].all fun x => dimAll d cs (List.zipWith (fun a b => a + x * b) acc col)
def sumN (r : List Int) : Nat := r.foldl (fun a x => a + x.toNat) 0
def prodN (l : List Nat) : Nat := l.foldl (· * ·) 1
def weylB (n : Nat) (L : List (List Int)) : Bool :=
  decide (16 < L.length) || (decide (prodN (L.map sumN) * 5 ^ L.length < 2 ^ 62) && dimAll (prodN (L.map sumN)) (cols n L) (L.map fun _ => 0))
def coTabB (c : List (List Int)) (T : List (List Int × List Int)) : Bool :=
  T.all (fun p => (p.2.all fun x => decide (0 ≤ x ∧ x ≤ 12)) && (decide (1 ≤ sumN p.2) && (decide (p.2.length = c.length) && (List.range c.length).all fun i => !(posB (mirL c i p.1)) || decide (12 < heightL (mirL c i p.1)) || decide (lookT T (mirL c i p.1) = mirL (transL c) i p.2)))) && (List.range c.length).all fun i => decide (lookT T (simpL c.length i) = simpL c.length i)
def coOk (c : List (List Int)) : Bool := coTabB c (tabOf c (posL c)) && weylB c.length ((tabOf c (posL c)).map (·.2))
def chk4E (P : List (List Int) → Bool) (a b e : Int × Int) : Bool := bad3 a b e || L6.all fun d => L6.all fun f => bad3 a d f || L6.all fun g => bad3 b d g || (bad3 e f g || (decide (det 4 (mat4 a b d e f g) ≤ 0) || P (mat4 a b d e f g)))
theorem chk4At_eq (P : List (List Int) → Bool) (a b : Int × Int) : chk4At P a b = L6.all fun e => chk4E P a b e := rfl
end Go.Proofs.Ytmjneokgnnbekaa
