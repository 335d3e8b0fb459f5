/- Weights compared: greater ones first; the comparison of summed's sort; insertion sort of a list of weights: contracts. -/
import Derived.Test.YtihfbbpkgmkbcaaG15
import Derived.Test.YtihfbbpkgmkbcaaCmp
import Derived.Shelf.SlSortCmp.InsertionK
namespace Go.Proofs.Ytihfbbpkgmkbcaa
set_option maxRecDepth 100000
open Go.RowKit Game Stb
open Go.Sort (grow SWO)

/-- greater ones first -/
def downCmp (a b : List Int) : Int := sliceCmp b a
theorem swo_down : SWO (ltOf downCmp) where
  irrefl x := by unfold ltOf downCmp; rw [sliceCmp_self]; rfl
  trans x y z h1 h2 := by unfold ltOf downCmp at *; simp at *; exact sliceCmp_trans _ _ _ h2 h1
  ntrans x y z h1 h2 := by
    unfold ltOf downCmp at *
    simp at *
    rcases Int.lt_trichotomy (sliceCmp z x) 0 with h | h | h
    · have a1 := sliceCmp_anti x y
      have a2 := sliceCmp_anti y z
      rcases Int.lt_trichotomy (sliceCmp y x) 0 with g | g | g
      · omega
      · have := sliceCmp_zero g; subst this; omega
      · rcases Int.lt_trichotomy (sliceCmp z y) 0 with k | k | k
        · omega
        · have := sliceCmp_zero k; subst this; omega
        · have := sliceCmp_trans x y z (by omega) (by omega)
          have a3 := sliceCmp_anti x z
          omega
    · omega
    · omega
set_option maxHeartbeats 1000000 in
theorem impl_compareWeights_any (g1 o1 n1 c1 g2 o2 n2 c2 : Nat) (xs ys : List Int) (w : World) (hn1 : xs.length = n1) (hn2 : ys.length = n2) (hy : ys.length ≤ 1099511627776)
    (hcx : Cells w g1 o1 xs) (hcy : Cells w g2 o2 ys) :
    Calls Try.prog 53 #[(Value.slice (some ⟨g1, o1, none⟩) n1 c1), (Value.slice (some ⟨g2, o2, none⟩) n2 c2)] w (Reads w (.int .i64 (downCmp xs ys))) := by
  subst hn1; subst hn2
  go_enter Try.func53, Try.ntmps53
  go_wp2_with fail
  refine (slices_Compare_any g2 o2 _ c2 g1 o1 _ c1 ys xs w rfl rfl hy hcy hcx).mono ?_
  rintro e w1 ⟨rfl, hs1⟩
  go_wp2_with fail
  go_ret
  exact ⟨rfl, hs1⟩

theorem stb_grow_two (w : World) (a b : Obj) (q : Nat) : ((w.alloc a).alloc b).drewN q = grow (w.drewN q) #[a, b] := by
  have e1 : ((w.alloc a).alloc b).drewN q = ((w.drewN q).alloc a).alloc b := rfl
  rw [e1, Sort.alloc_eq_grow, Sort.alloc_eq_grow, Sort.grow_grow]
  rfl
def cfW (x y : SRef) : Int := downCmp x.xs y.xs
set_option maxHeartbeats 1000000 in
theorem cmp_wts (x y : SRef) (G : Nat) (w : World) (hx : Rd w G x) (hy : Rd w G y) :
    Calls Try.prog 52 #[.agg #[x.v1, x.v2], .agg #[y.v1, y.v2]] w fun e w' => e = .returned (.int .i64 (cfW x y)) ∧ ∃ q os', w' = grow (w.drewN q) os' := by
  obtain ⟨xg, xo, xn, xc, xs, xt⟩ := x
  obtain ⟨yg, yo, yn, yc, ys, yt⟩ := y
  obtain ⟨-, hgx, hlx, -, hmx, hcx⟩ := hx
  obtain ⟨-, hgy, hly, -, hmy, hcy⟩ := hy
  show Calls _ _ #[.agg #[(Value.slice (some ⟨xg, xo, none⟩) xn xc), .int .i64 xt], .agg #[(Value.slice (some ⟨yg, yo, none⟩) yn yc), .int .i64 yt]] _ _
  have ec : cfW ⟨xg, xo, xn, xc, xs, xt⟩ ⟨yg, yo, yn, yc, ys, yt⟩ = downCmp xs ys := rfl
  rw [ec]
  dsimp only at hgx hlx hmx hcx hgy hly hmy hcy
  have hb1 : Below w.heap.size w ((w.alloc (.cells #[(Value.slice (some ⟨xg, xo, none⟩) xn xc), .int .i64 xt] 48)).alloc (.cells #[(Value.slice (some ⟨yg, yo, none⟩) yn yc), .int .i64 yt] 48)) := (by repeat (first | with_reducible exact Below.refl _ _ | with_reducible assumption | with_reducible refine below_drewN ?_ _ | with_reducible refine Below.drew ?_ | (with_reducible refine Below.alloc ?_ ?_ _; rotate_left; · first | (simp; done) | (simp; omega) | exact Below.size (by assumption) | (have hsz := Below.size (by assumption : Below _ _ _); simp at hsz ⊢; omega)) | (with_reducible refine Below.setCell ?_ ?_ _; rotate_left; · first | (simp; done) | (simp; omega))))
  have hcall := impl_compareWeights_any xg xo xn xc yg yo yn yc xs ys _ hlx hly (by omega) (hcx.below hb1 hgx) (hcy.below hb1 hgy)
  have Hcall := Lib.hid hcall
  generalize downCmp xs ys = z at *
  clear hcall hb1 hcx hcy ec
  go_enter Try.func52, Try.ntmps52
  go_wp2_with fail
  refine Hcall.out.mono ?_
  rintro e w1 ⟨rfl, q, rfl⟩
  go_wp2_with fail
  go_ret
  exact ⟨rfl, q, _, stb_grow_two _ _ _ _⟩

/-! ### insertion, the plain law -/
section
variable {α : Type} {lt : α → α → Bool}
structure Ins (lt : α → α → Bool) (d : Nat → α) (a j i : Nat) : Prop where
  rest : ∀ p q, a ≤ p → p < q → q ≤ i → p ≠ j → q ≠ j → lt (d q) (d p) = false
  up : ∀ q, j < q → q ≤ i → lt (d q) (d j) = false
theorem Ins.start {d : Nat → α} {a i : Nat} (h : Srt lt d a i) : Ins lt d a i i := ⟨fun p q h1 h2 h3 _ h5 => h p q h1 h2 (by omega), fun q h1 h2 => by omega⟩
theorem Ins.stop (hO : SWO lt) {d : Nat → α} {a j i : Nat} (h : Ins lt d a j i) (hs : j ≤ a ∨ lt (d j) (d (j - 1)) = false) : Srt lt d a (i + 1) := fun p q h1 h2 h3 => by
  by_cases e1 : p = j
  · subst e1; exact h.up q h2 (by omega)
  · by_cases e2 : q = j
    · subst e2
      have hs' : lt (d q) (d (q - 1)) = false := by rcases hs with hs | hs; omega; exact hs
      by_cases e3 : p = q - 1
      · rw [e3]; exact hs'
      · exact hO.ntrans _ _ _ hs' (h.rest p (q - 1) h1 (by omega) (by omega) e1 (by omega))
    · exact h.rest p q h1 h2 (by omega) e1 e2
theorem swp_l (d : Nat → α) {i j : Nat} : swp d i j j = d i := by unfold swp; rw [if_pos rfl]
theorem swp_r (d : Nat → α) {i j : Nat} (h : i ≠ j) : swp d i j i = d j := by unfold swp; rw [if_neg h, if_pos rfl]
theorem swp_o (d : Nat → α) {i j k : Nat} (h1 : k ≠ j) (h2 : k ≠ i) : swp d i j k = d k := by unfold swp; rw [if_neg h1, if_neg h2]
theorem Ins.go (hO : SWO lt) {d : Nat → α} {a j i : Nat} (h : Ins lt d a (j + 1) i) (_ha : a ≤ j) (hj : j + 1 ≤ i) (hl : lt (d (j + 1)) (d j) = true) : Ins lt (swp d (j + 1) j) a j i := by
  refine ⟨fun p q h1 h2 h3 h4 h5 => ?_, fun q h1 h2 => ?_⟩
  · by_cases e1 : p = j + 1
    · subst e1
      rw [swp_r d (by omega), swp_o d (by omega) (by omega)]
      exact h.rest j q (by omega) (by omega) h3 (by omega) (by omega)
    · by_cases e2 : q = j + 1
      · subst e2
        rw [swp_r d (by omega), swp_o d (by omega) (by omega)]
        exact h.rest p j h1 (by omega) (by omega) (by omega) (by omega)
      · rw [swp_o d (by omega) (by omega), swp_o d (by omega) (by omega)]
        exact h.rest p q h1 h2 h3 (by omega) (by omega)
  · rw [swp_l]
    by_cases e1 : q = j + 1
    · subst e1
      rw [swp_r d (by omega)]
      exact asymm hO hl
    · rw [swp_o d (by omega) (by omega)]
      exact h.up q (by omega) h2
theorem Srt.sub {d : Nat → α} {a b a' b' : Nat} (h : Srt lt d a b) (h1 : a ≤ a') (h2 : b' ≤ b) : Srt lt d a' b' := fun i j e1 e2 e3 => h i j (by omega) e2 (by omega)
end

/-! ### in the world -/
def ltW : SRef → SRef → Bool := ltOf cfW
theorem swoW : SWO ltW := ⟨fun x => swo_down.irrefl x.xs, fun x y z h1 h2 => swo_down.trans x.xs y.xs z.xs h1 h2, fun x y z h1 h2 => swo_down.ntrans x.xs y.xs z.xs h1 h2⟩
theorem below_grow2 {w : World} (n : Nat) (os : Array Obj) : Below w.heap.size w (grow (w.drewN n) os) :=
  ⟨rfl, rfl, rfl, by rw [Go.Sort.size_grow]; exact Nat.le_add_right _ _, fun k hk => Go.Sort.heap_grow_old _ _ (by exact hk)⟩
theorem SSt.cls {w W : World} {B G cap N : Nat} {d : Nat → SRef} (h : SSt w W B G cap N d) (n : Nat) (os : Array Obj) : SSt w (grow (W.drewN n) os) B G cap N d := h.step (below_grow2 n os)
/-- the two calls' facts in the class of worlds behind W -/
theorem SSt.cellsC {w W : World} {B G cap N : Nat} {d : Nat → SRef} (h : SSt w W B G cap N d) {k : Nat} (hk : k < N) (n : Nat) (os : Array Obj) :
    (grow (W.drewN n) os).cell? ⟨G, k * 2, none⟩ = some (d k).v1 ∧ (grow (W.drewN n) os).cell? ⟨G, k * 2 + 1, none⟩ = some (d k).v2 := (h.cls n os).cells hk
theorem SSt.cmpC {w W : World} {B G cap N : Nat} {d : Nat → SRef} (h : SSt w W B G cap N d) {i j : Nat} (hi : i < N) (hj : j < N) (n : Nat) (os : Array Obj) :
    Calls Try.prog 52 #[.agg #[(d i).v1, (d i).v2], .agg #[(d j).v1, (d j).v2]] (grow (W.drewN n) os) fun e w' => e = .returned (.int .i64 (cfW (d i) (d j))) ∧ ∃ q os', w' = grow ((grow (W.drewN n) os).drewN q) os' :=
  cmp_wts (d i) (d j) G _ ((h.cls n os).rd i hi) ((h.cls n os).rd j hj)

set_option maxHeartbeats 1000000 in
theorem insertion_ok (B G cap N a b : Nat) (d : Nat → SRef) (w : World) (hN : N ≤ 1048576) (hab : a ≤ b) (hb : b ≤ N) (S : SSt w w B G cap N d) :
    Calls Try.prog 63 #[(Value.slice (some ⟨G, 0, none⟩) N cap), .int .i64 a, .int .i64 b, .func (.func 52) #[] #[]] w fun e w' => e = .returned (.tuple #[]) ∧ ∃ d', SSt w w' B G cap N d' ∧ Srt ltW d' a b ∧ Res N a b d d' := by
  have S0 := Lib.hid S
  clear S
  go_enter Try.func63, Try.ntmps63
  have ea : IntKind.i64.wrap ((a : Int) + 1) = ((a + 1 : Nat) : Int) := by rw [IntWalk.i64_in _ ⟨by omega, by omega⟩]; omega
  go_wp2_with fail
  go_loopg [8] (b - a) (fun g1 vi wr => ∃ (i : Nat) (d' : Nat → SRef), vi = .int .i64 i ∧ a < i ∧ i ≤ b + 1 ∧ b + 1 - i ≤ g1 + 1 ∧ Hid (SSt w wr B G cap N d') ∧ Hid (Srt ltW d' a i) ∧ Hid (Res N a b d d'))
  case atStart => exact ⟨a + 1, d, by go_num, by omega, by omega, by omega, S0, Lib.hid (fun i j h1 h2 h3 => by omega), Lib.hid (Res.refl d)⟩
  case round =>
    clear S0 ea
    obtain ⟨i, d', rfl, hai, hib, hg1, S, hsrt, hres⟩ := hrel
    by_cases hlt : i < b
    · have hltz : (i : Int) < (b : Int) := by omega
      go_wp2_with fail
      go_loopg [9] i (fun g2 vj wr2 => ∃ (j : Nat) (d2 : Nat → SRef), vj = .int .i64 j ∧ a ≤ j ∧ j ≤ i ∧ j ≤ g2 ∧ Hid (SSt w wr2 B G cap N d2) ∧ Hid (Ins ltW d2 a j i) ∧ Hid (Res N a b d d2))
      case atStart => exact ⟨i, d', rfl, by omega, Nat.le_refl _, Nat.le_refl _, S, Lib.hid (Ins.start hsrt.out), hres⟩
      case round =>
        clear S hsrt hres d'
        obtain ⟨j, d2, rfl, haj, hji, hg2, S, hins, hres⟩ := hrel
        by_cases hja : a < j
        · have hjaz : (a : Int) < (j : Int) := by omega
          obtain ⟨jp, rfl⟩ : ∃ jp, j = jp + 1 := ⟨j - 1, by omega⟩
          have hp : jp + 1 < N := by omega
          have hq : jp < N := by omega
          have c1 := fun n os => (S.out.cellsC hp n os).1
          have c2 := fun n os => (S.out.cellsC hp n os).2
          have c3 := fun n os => (S.out.cellsC hq n os).1
          have c4 := fun n os => (S.out.cellsC hq n os).2
          have hcg := S.out.cmpC hp hq
          have CLS := Lib.hid S.out.cls
          have LT := Lib.hid (show ltW (d2 (jp + 1)) (d2 jp) = decide (cfW (d2 (jp + 1)) (d2 jp) < 0) from rfl)
          have v1 : ∀ x : SRef, x.v1 = (Value.slice (some ⟨x.g, x.o, none⟩) x.n x.c) := fun _ => rfl
          have v2 : ∀ x : SRef, x.v2 = .int .i64 x.ct := fun _ => rfl
          simp only [v1, v2] at c1 c2 c3 c4 hcg
          generalize cfW (d2 (jp + 1)) (d2 jp) = z at *
          obtain ⟨x, hx⟩ : ∃ x, d2 (jp + 1) = x := ⟨_, rfl⟩
          obtain ⟨y, hy⟩ : ∃ y, d2 jp = y := ⟨_, rfl⟩
          rw [hx] at c1 c2; rw [hy] at c3 c4; rw [hx, hy] at hcg
          have HX := Lib.hid hx; have HY := Lib.hid hy
          clear hx hy
          have hwp : IntKind.i64.wrap (jp : Int) = (jp : Int) := IntWalk.i64_in _ ⟨by omega, by omega⟩
          have jz : (jp : Int) + 1 < (N : Int) := by omega
          have jz1 : (jp : Int) < (N : Int) := by omega
          have hjaz' : (a : Int) < (jp : Int) + 1 := by omega
          have p0 : (0 : Int) ≤ (jp : Int) + 1 := by omega
          have e0 : ((jp : Int) + 1).toNat = jp + 1 := by omega
          clear v1 v2
          have mixed : Try.prog.follows .mixedOrders = true := by kernel_rfl
          by_cases hlv : z < 0
          · go_wp2_with fail
            go_quiet_grown (exact Calls.grown_of (hcg _ _))
            go_wp2_with fail
            clear c1 c2 c3 c4 hcg
            have S2 := CLS.out nq osq
            generalize grow (_ : World) osq = wq at S2 ⊢
            obtain ⟨f1, f2, k3, k4⟩ := S2.swapF hp hq (by omega) (d2 jp)
            obtain ⟨c1, c2⟩ := S2.cells hp
            obtain ⟨c3, c4⟩ := S2.cells hq
            have HS := Lib.hid (S2.swap hp hq).drew
            have HI := Lib.hid (Ins.go swoW (show Ins ltW d2 a (jp + 1) i from hins.out) (by omega) hji (by rw [LT.out]; exact decide_eq_true hlv))
            have HR := Lib.hid ((show Res N a b d d2 from hres.out).trans (Res.swp d2 hb (i := jp + 1) (j := jp) ⟨by omega, by omega⟩ ⟨by omega, by omega⟩))
            unfold swW at HS
            have v1 : ∀ x : SRef, x.v1 = (Value.slice (some ⟨x.g, x.o, none⟩) x.n x.c) := fun _ => rfl
            have v2 : ∀ x : SRef, x.v2 = .int .i64 x.ct := fun _ => rfl
            rw [HX.out, HY.out] at HS
            rw [HX.out] at c1 c2
            rw [HY.out] at c3 c4 f2 k3 k4
            simp only [v1, v2] at c1 c2 c3 c4 f2 k3 k4 HS
            clear v1 v2 S2 CLS LT HX HY hins hres
            have g1 := f1 ((jp + 1) * 2)
            have g2 := f1 ((jp + 1) * 2 + 1)
            have g3 := f2 (jp * 2)
            have g4 := f2 (jp * 2 + 1)
            clear f1 f2
            go_region
            go_wp2_with fail
            go_roundg jp
            case measure => omega
            case rel => exact ⟨jp, _, by go_num, by omega, by omega, Nat.le_refl _, HS, HI, HR⟩
          · have hlv' : ltW (d2 (jp + 1)) (d2 jp) = false := by rw [LT.out]; exact decide_eq_false hlv
            have HI := Lib.hid (Ins.stop swoW (show Ins ltW d2 a (jp + 1) i from hins.out) (.inr hlv'))
            clear hlv' LT HX HY hins
            go_wp2_with fail
            go_quiet_grown (exact Calls.grown_of (hcg _ _))
            have HS := Lib.hid (CLS.out nq osq)
            clear c1 c2 c3 c4 hcg CLS
            go_wp2_with fail
            go_roundg (b - (i + 1))
            case measure => omega
            case rel => exact ⟨i + 1, d2, by go_num, by omega, by omega, by omega, HS, HI, hres⟩
        · have mixed : Try.prog.follows .mixedOrders = true := by kernel_rfl
          have hjaz : decide ((j : Int) > (a : Int)) = false := decide_eq_false (by omega)
          have hjaz' : ¬ (a : Int) < (j : Int) := by omega
          have HS := Lib.hid S.out.drew
          have HI := Lib.hid (Ins.stop swoW (show Ins ltW d2 a j i from hins.out) (.inl (by omega)))
          clear S hins
          go_wp2_with fail
          go_big_region_o
          all_goals go_wp2_with fail
          go_roundg (b - (i + 1))
          case measure => omega
          case rel => exact ⟨i + 1, d2, by go_num, by omega, by omega, by omega, HS, HI, hres⟩
    · have hltz : ¬ (i : Int) < (b : Int) := by omega
      go_wp2_with fail
      go_end0
      exact ⟨rfl, d', S.out, Srt.sub (show Srt ltW d' a i from hsrt.out) (Nat.le_refl _) (by omega), hres.out⟩
end Go.Proofs.Ytihfbbpkgmkbcaa
