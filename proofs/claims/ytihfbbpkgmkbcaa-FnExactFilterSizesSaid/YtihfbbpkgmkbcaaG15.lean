/- A list of weights under sorting: its cells, its weights; ranges that change places, rotations: contracts. -/
import Derived.Test.YtihfbbpkgmkbcaaG12
import Derived.Test.YtihfbbpkgmkbcaaStill
import Derived.Test.YtihfbbpkgmkbcaaG06
import Derived.Deep.LoopGhost
namespace Go.Proofs.Ytihfbbpkgmkbcaa
set_option maxRecDepth 100000
open Go.RowKit Game Stb

/-- a weight with its count, as it lies -/
structure SRef where
  g : Nat
  o : Nat
  n : Nat
  c : Nat
  xs : List Int
  ct : Int
def SRef.v1 (x : SRef) : Value := (Value.slice (some ⟨x.g, x.o, none⟩) x.n x.c)
def SRef.v2 (x : SRef) : Value := .int .i64 x.ct
def SRef.wt (x : SRef) : Wt := (x.xs, x.ct)
/-- its numbers can be read, and do not lie in block G -/
def Rd (w : World) (G : Nat) (x : SRef) : Prop := x.g ≠ G ∧ x.g < w.heap.size ∧ x.xs.length = x.n ∧ x.n ≤ x.c ∧ x.n ≤ 1048576 ∧ Cells w x.g x.o x.xs
theorem Rd.grown {w w' : World} {G : Nat} {x : SRef} (h : Rd w G x) (hg : w.grownBy w' (some G)) : Rd w' G x :=
  ⟨h.1, Nat.lt_of_lt_of_le h.2.1 hg.size, h.2.2.1, h.2.2.2.1, h.2.2.2.2.1, h.2.2.2.2.2.grown hg (fun e => h.1 (Option.some.inj e))⟩
def fl (N : Nat) (d : Nat → SRef) : List Value := (List.range (N * 2)).map fun t => if t % 2 = 0 then (d (t / 2)).v1 else (d (t / 2)).v2
theorem fl_length (N : Nat) (d : Nat → SRef) : (fl N d).length = N * 2 := by simp [fl]
theorem fl_1 {N : Nat} {d : Nat → SRef} {k : Nat} (_hk : k < N) (h : k * 2 < (fl N d).length) : (fl N d)[k * 2] = (d k).v1 := by
  simp only [fl, List.getElem_map, List.getElem_range]
  rw [if_pos (by omega), show k * 2 / 2 = k by omega]
theorem fl_2 {N : Nat} {d : Nat → SRef} {k : Nat} (_hk : k < N) (h : k * 2 + 1 < (fl N d).length) : (fl N d)[k * 2 + 1] = (d k).v2 := by
  simp only [fl, List.getElem_map, List.getElem_range]
  rw [if_neg (by omega), show (k * 2 + 1) / 2 = k by omega]
theorem fl_swp {N : Nat} (d : Nat → SRef) (i j : Nat) :
    ((((fl N d).set (i * 2) (d j).v1).set (i * 2 + 1) (d j).v2).set (j * 2) (d i).v1).set (j * 2 + 1) (d i).v2 = fl N (swp d i j) := by
  apply List.ext_getElem (by simp [fl])
  intro t h1 h2
  have ht : t < N * 2 := by rw [fl_length] at h2; exact h2
  simp only [List.getElem_set, fl, List.getElem_map, List.getElem_range]
  unfold swp
  by_cases e1 : j * 2 + 1 = t
  · subst e1
    rw [if_pos rfl, if_neg (by omega), if_pos (by omega)]
  · rw [if_neg e1]
    by_cases e2 : j * 2 = t
    · subst e2
      rw [if_pos rfl, if_pos (by omega), if_pos (by omega)]
    · rw [if_neg e2]
      by_cases e3 : i * 2 + 1 = t
      · subst e3
        rw [if_pos rfl, if_neg (by omega), if_neg (by omega), if_pos (by omega)]
      · rw [if_neg e3]
        by_cases e4 : i * 2 = t
        · subst e4
          rw [if_pos rfl, if_pos (by omega), if_neg (by omega), if_pos (by omega)]
        · rw [if_neg e4]
          have hj2 : ¬ t / 2 = j := by omega
          have hi2 : ¬ t / 2 = i := by omega
          simp only [if_neg hj2, if_neg hi2]
/-- the list in block G, from world w on -/
structure SSt (w W : World) (B G cap N : Nat) (d : Nat → SRef) : Prop where
  own : OwnK W B 48 2 G cap N (fl N d)
  rd : ∀ k, k < N → Rd W G (d k)
  grown : w.grownBy W (some G)
section
variable {w W W' : World} {B G cap N : Nat} {d d' : Nat → SRef}
theorem SSt.step (h : SSt w W B G cap N d) (hb : Below W.heap.size W W') : SSt w W' B G cap N d := by
  have hg : W.grownBy W' (some G) := ⟨hb.os, hb.tape, hb.output, hb.size, fun k hk _ => hb.block k hk⟩
  exact ⟨h.own.below hb h.own.lt, fun k hk => (h.rd k hk).grown hg, World.grownBy.trans' h.grown hg⟩
theorem SSt.still (h : SSt w W B G cap N d) (hs : ∃ n, W' = W.drewN n) : SSt w W' B G cap N d := h.step (below_still (Below.refl _ _) hs)
theorem SSt.drew (h : SSt w W B G cap N d) : SSt w W.drew B G cap N d := h.step (Below.drew (Below.refl _ _))
theorem SSt.cells (h : SSt w W B G cap N d) {k : Nat} (hk : k < N) : W.cell? ⟨G, k * 2, none⟩ = some (d k).v1 ∧ W.cell? ⟨G, k * 2 + 1, none⟩ = some (d k).v2 :=
  ⟨by rw [h.own.cell (k * 2) (by rw [fl_length]; omega), fl_1 hk], by rw [h.own.cell (k * 2 + 1) (by rw [fl_length]; omega), fl_2 hk]⟩
/-- the world behind an exchange -/
def swW (W : World) (G i j : Nat) (x y : SRef) : World := (((W.setCell ⟨G, i * 2, none⟩ y.v1).setCell ⟨G, i * 2 + 1, none⟩ y.v2).setCell ⟨G, j * 2, none⟩ x.v1).setCell ⟨G, j * 2 + 1, none⟩ x.v2
theorem SSt.swap (h : SSt w W B G cap N d) {i j : Nat} (hi : i < N) (hj : j < N) : SSt w (swW W G i j (d i) (d j)) B G cap N (swp d i j) := by
  have o1 := h.own.set (i * 2) (d j).v1
  have o2 := o1.1.set (i * 2 + 1) (d j).v2
  have o3 := o2.1.set (j * 2) (d i).v1
  have o4 := o3.1.set (j * 2 + 1) (d i).v2
  have hg : W.grownBy (swW W G i j (d i) (d j)) (some G) := World.grownBy.trans' (World.grownBy.trans' (World.grownBy.trans' o1.2 o2.2) o3.2) o4.2
  refine ⟨?_, fun k hk => ?_, World.grownBy.trans' h.grown hg⟩
  · have := o4.1
    rw [fl_swp d i j] at this
    exact this
  · unfold swp
    split
    · exact (h.rd i hi).grown hg
    · split
      · exact (h.rd j hj).grown hg
      · exact (h.rd k hk).grown hg
/-- what the walk wants to know at an exchange -/
theorem SSt.swapF (h : SSt w W B G cap N d) {i j : Nat} (_hi : i < N) (hj : j < N) (hne : i ≠ j) (y : SRef) :
    (∀ t, W.frozen? ⟨G, t, none⟩ = false) ∧ (∀ t, ((W.setCell ⟨G, i * 2, none⟩ y.v1).setCell ⟨G, i * 2 + 1, none⟩ y.v2).frozen? ⟨G, t, none⟩ = false) ∧
    ((W.setCell ⟨G, i * 2, none⟩ y.v1).setCell ⟨G, i * 2 + 1, none⟩ y.v2).cell? ⟨G, j * 2, none⟩ = some (d j).v1 ∧ ((W.setCell ⟨G, i * 2, none⟩ y.v1).setCell ⟨G, i * 2 + 1, none⟩ y.v2).cell? ⟨G, j * 2 + 1, none⟩ = some (d j).v2 := by
  have o1 := h.own.set (i * 2) y.v1
  have o2 := o1.1.set (i * 2 + 1) y.v2
  refine ⟨fun t => h.own.frozen t, fun t => o2.1.frozen t, ?_, ?_⟩
  · rw [o2.1.cell (j * 2) (by simp [fl_length]; omega), List.getElem_set, if_neg (by omega), List.getElem_set, if_neg (by omega), fl_1 hj]
  · rw [o2.1.cell (j * 2 + 1) (by simp [fl_length]; omega), List.getElem_set, if_neg (by omega), List.getElem_set, if_neg (by omega), fl_2 hj]
end

set_option maxHeartbeats 1000000 in
theorem swapRange_ok (B G cap N a b n : Nat) (f : Value) (d : Nat → SRef) (w : World) (hN : N ≤ 1048576) (hab : a + n ≤ b) (hb : b + n ≤ N) (S : SSt w w B G cap N d) :
    Calls Try.prog 68 #[(Value.slice (some ⟨G, 0, none⟩) N cap), .int .i64 a, .int .i64 b, .int .i64 n, f] w fun e w' => e = .returned (.tuple #[]) ∧ SSt w w' B G cap N (swR d a b n) := by
  have S0 := Lib.hid S
  clear S
  go_enter Try.func68, Try.ntmps68
  go_wp2
  go_loopw [10] (fun iv wr => ∃ i : Nat, i ≤ n ∧ iv = .int .i64 i ∧ Hid (SSt w wr B G cap N (swR d a b i))) (fun iv _ => n - (intOf iv).toNat)
  case atStart => exact ⟨0, Nat.zero_le _, rfl, by rw [swR_zero]; exact S0.out⟩
  case round =>
    clear S0
    obtain ⟨i, hi, rfl, S⟩ := hrel
    by_cases hlt : i < n
    · have hp : a + i < N := by omega
      have hq : b + i < N := by omega
      obtain ⟨c1, c2⟩ := S.out.cells hp
      obtain ⟨c3, c4⟩ := S.out.cells hq
      obtain ⟨f1, f2, k3, k4⟩ := S.out.swapF hp hq (by omega) (swR d a b i (b + i))
      have HS := Lib.hid (S.out.swap hp hq).drew
      rw [swR_succ (by omega)] at HS
      have v1 : ∀ x : SRef, x.v1 = (Value.slice (some ⟨x.g, x.o, none⟩) x.n x.c) := fun _ => rfl
      have v2 : ∀ x : SRef, x.v2 = .int .i64 x.ct := fun _ => rfl
      unfold swW at HS
      simp only [v1, v2] at c1 c2 c3 c4 f2 k3 k4 HS
      generalize swR d a b i (a + i) = x at *
      generalize swR d a b i (b + i) = y at *
      obtain ⟨xg, xo, xn, xc, xx, xt⟩ := x
      obtain ⟨yg, yo, yn, yc, yx, yt⟩ := y
      have ew1 : IntKind.i64.wrap ((a : Int) + (i : Int)) = (a : Int) + (i : Int) := IntWalk.i64_in _ ⟨by omega, by omega⟩
      have ew2 : IntKind.i64.wrap ((b : Int) + (i : Int)) = (b : Int) + (i : Int) := IntWalk.i64_in _ ⟨by omega, by omega⟩
      have et1 : ((a : Int) + (i : Int)).toNat = a + i := by omega
      have et2 : ((b : Int) + (i : Int)).toNat = b + i := by omega
      have eb1 : (0 : Int) ≤ (a : Int) + (i : Int) ∧ (a : Int) + (i : Int) < (N : Int) := by omega
      have eb2 : (0 : Int) ≤ (b : Int) + (i : Int) ∧ (b : Int) + (i : Int) < (N : Int) := by omega
      obtain ⟨eb1, eb1'⟩ := eb1
      obtain ⟨eb2, eb2'⟩ := eb2
      have g1 := f1 ((a + i) * 2)
      have g2 := f1 ((a + i) * 2 + 1)
      have g3 := f2 ((b + i) * 2)
      have g4 := f2 ((b + i) * 2 + 1)
      clear S f1 f2 v1 v2
      go_wp2_with fail
      go_region
      go_wp2_with fail
      go_roundw
      case rel => exact ⟨i + 1, by omega, by go_num, HS.out⟩
      case measure => simp [intOf]; omega
    · obtain rfl : i = n := by omega
      go_wp2_with fail
      go_end0
      exact ⟨rfl, S.out⟩

theorem SSt.here {w W : World} {B G cap N : Nat} {d : Nat → SRef} (h : SSt w W B G cap N d) : SSt W W B G cap N d := ⟨h.own, h.rd, World.grownBy.refl _ _⟩
theorem SSt.from {w W W' : World} {B G cap N : Nat} {d d' : Nat → SRef} (h : SSt w W B G cap N d) (h' : SSt W W' B G cap N d') : SSt w W' B G cap N d' := ⟨h'.own, h'.rd, World.grownBy.trans' h.grown h'.grown⟩

set_option maxHeartbeats 1000000 in
theorem rotate_ok (B G cap N a m b : Nat) (f : Value) (d : Nat → SRef) (w : World) (hN : N ≤ 1048576) (ham : a < m) (hmb : m < b) (hb : b ≤ N) (S : SSt w w B G cap N d) :
    Calls Try.prog 66 #[(Value.slice (some ⟨G, 0, none⟩) N cap), .int .i64 a, .int .i64 m, .int .i64 b, f] w fun e w' => e = .returned (.tuple #[]) ∧ SSt w w' B G cap N (rot d a m b) := by
  have S0 := Lib.hid S
  clear S
  go_enter Try.func66, Try.ntmps66
  have em : (m : Int) - (a : Int) = ((m - a : Nat) : Int) := by omega
  have eb : (b : Int) - (m : Int) = ((b - m : Nat) : Int) := by omega
  have ew1 : IntKind.i64.wrap ((m : Int) - (a : Int)) = ((m - a : Nat) : Int) := by rw [IntWalk.i64_in _ ⟨by omega, by omega⟩, em]
  have ew2 : IntKind.i64.wrap ((b : Int) - (m : Int)) = ((b - m : Nat) : Int) := by rw [IntWalk.i64_in _ ⟨by omega, by omega⟩, eb]
  clear em eb
  go_wp2_with fail
  go_loopg [10, 11] (m - a + (b - m)) (fun gk iv jv wr => ∃ (i j : Nat) (d' : Nat → SRef), 0 < i ∧ 0 < j ∧ i ≤ m - a ∧ j ≤ b - m ∧ i + j ≤ gk ∧ iv = .int .i64 i ∧ jv = .int .i64 j ∧ Hid (rot d' (m - i) m (m + j) = rot d a m b) ∧ Hid (SSt w wr B G cap N d'))
  case atStart => exact ⟨m - a, b - m, d, by omega, by omega, Nat.le_refl _, Nat.le_refl _, Nat.le_refl _, rfl, rfl, by rw [show m - (m - a) = a by omega, show m + (b - m) = b by omega]; exact Lib.hid rfl, S0⟩
  case round =>
    clear S0 ew1 ew2
    obtain ⟨i, j, d', hi0, hj0, hi, hj, hg, rfl, rfl, hrot, S⟩ := hrel
    have ew1 : IntKind.i64.wrap ((m : Int) - (i : Int)) = ((m - i : Nat) : Int) := by rw [IntWalk.i64_in _ ⟨by omega, by omega⟩]; omega
    by_cases hij : i = j
    · subst hij
      have hcall := swapRange_ok B G cap N (m - i) m i f d' wr hN (by omega) (by omega) S.out.here
      rw [rot_eq (by omega), hrot.out] at hcall
      have Hcall := Lib.hid hcall
      clear hcall
      go_wp2_with fail
      refine Hcall.out.mono ?_
      rintro e w1 ⟨rfl, S1⟩
      have HS := Lib.hid (S.out.from S1)
      clear Hcall S S1
      go_wp2_with fail
      go_end0
      exact ⟨rfl, HS.out⟩
    · have hijz : ¬ (i : Int) = (j : Int) := by omega
      by_cases hlt : j < i
      · have hltz : (j : Int) < (i : Int) := by omega
        have ew3 : IntKind.i64.wrap ((i : Int) - (j : Int)) = ((i - j : Nat) : Int) := by rw [IntWalk.i64_in _ ⟨by omega, by omega⟩]; omega
        have hcall := swapRange_ok B G cap N (m - i) m j f d' wr hN (by omega) (by omega) S.out.here
        have hr := rot_gt (d := d') (m := m) (by omega : i ≤ m) hlt
        rw [hrot.out] at hr
        have Hr := Lib.hid hr
        have Hcall := Lib.hid hcall
        clear hcall hr
        go_wp2_with fail
        refine Hcall.out.mono ?_
        rintro e w1 ⟨rfl, S1⟩
        have HS := Lib.hid (S.out.from S1)
        clear Hcall S S1
        go_wp2_with fail
        go_roundg (i - j + j)
        case measure => omega
        case rel => exact ⟨i - j, j, _, by omega, hj0, by omega, hj, Nat.le_refl _, rfl, rfl, Hr, HS⟩
      · have hltz : ¬ (j : Int) < (i : Int) := by omega
        have ew2 : IntKind.i64.wrap ((m : Int) + (j : Int)) = (m : Int) + (j : Int) := IntWalk.i64_in _ ⟨by omega, by omega⟩
        have ew3 : IntKind.i64.wrap ((j : Int) - (i : Int)) = ((j - i : Nat) : Int) := by rw [IntWalk.i64_in _ ⟨by omega, by omega⟩]; omega
        have ew4 : IntKind.i64.wrap ((m : Int) + (j : Int) - (i : Int)) = ((m + j - i : Nat) : Int) := by rw [IntWalk.i64_in _ ⟨by omega, by omega⟩]; omega
        have hcall := swapRange_ok B G cap N (m - i) (m + j - i) i f d' wr hN (by omega) (by omega) S.out.here
        have hr := rot_lt (d := d') (m := m) (by omega : i ≤ m) (by omega : i < j)
        rw [hrot.out] at hr
        have Hr := Lib.hid hr
        have Hcall := Lib.hid hcall
        clear hcall hr
        go_wp2_with fail
        refine Hcall.out.mono ?_
        rintro e w1 ⟨rfl, S1⟩
        have HS := Lib.hid (S.out.from S1)
        clear Hcall S S1
        go_wp2_with fail
        go_roundg (i + (j - i))
        case measure => omega
        case rel => exact ⟨i, j - i, _, hi0, by omega, hi, by omega, Nat.le_refl _, rfl, rfl, Hr, HS⟩
end Go.Proofs.Ytihfbbpkgmkbcaa
