/- DrH -/
import Derived.Test.YtkjglfafphffiaaGreatDoorC45
import Derived.Deep.RegionWith
namespace Go.Proofs.YtkjglfafphffiaaGreatDoor
set_option maxRecDepth 100000
open Go.RowKit Game
theorem code_list {w : World} {g o n : Nat} (h : ∀ j, j < n → ∃ x : Int, (0 ≤ x ∧ x < 256) ∧ w.cell? ⟨g, o + j, none⟩ = some (.int .u8 x)) :
    ∃ news : List Value, news.length = n ∧ (∀ j, j < n → ∃ x : Int, (0 ≤ x ∧ x < 256) ∧ news[j]? = some (.int .u8 x)) ∧ ∀ j u, news[j]? = some u → w.cell? ⟨g, o + j, none⟩ = some u := by
  induction n with
  | zero => exact ⟨[], rfl, fun j hj => absurd hj (by omega), fun j u hu => by simp at hu⟩
  | succ n ih =>
    obtain ⟨news, h1, h2, h3⟩ := ih fun j hj => h j (by omega)
    obtain ⟨x, hx, hc⟩ := h n (by omega)
    refine ⟨news ++ [.int .u8 x], by simp [h1], fun j hj => ?_, fun j u hu => ?_⟩
    · by_cases e : j < n
      · obtain ⟨y, hy, hj'⟩ := h2 j e
        exact ⟨y, hy, by rw [List.getElem?_append_left (by omega)]; exact hj'⟩
      · obtain rfl : j = n := by omega
        exact ⟨x, hx, by rw [List.getElem?_append_right (by omega), h1]; simp⟩
    · by_cases e : j < n
      · rw [List.getElem?_append_left (by omega)] at hu
        exact h3 j u hu
      · have hj : j < n + 1 := by have := (List.getElem?_eq_some_iff.1 hu).1; simp [h1] at this; omega
        obtain rfl : j = n := by omega
        rw [List.getElem?_append_right (by omega), h1] at hu
        simp at hu
        rw [← hu]; exact hc
theorem step_append_code {w : World} {ops : Array Oper} {o : Oper} {a : Act} {K : Act → World → Prop} {Q : Exit → Act → World → Prop} {E' : Prop} (hgd : o.guard = none) (s x : Operand)
    (ho : o.op = .call { callee := .builtin .append, args := #[s, x], argTypes := #[22, 22] })
    (B n c H : Nat) (ad : Option Addr) (W : World) (hW : W = w.alloc (.cells #[.int .u8 1] 5)) (hH : w.heap.size = H) (h1 : 1 ≤ n) (hlen : 1 + n ≤ 1048576) (_hB : B ≤ w.heap.size) (hc : CodeV w B ad n)
    (hs : a.eval s = (Value.slice (some ⟨H, 0, none⟩) 1 1)) (hx : a.eval x = .slice ad n c)
    (h : ∀ g c' w', CodeV w' w'.heap.size (some ⟨g, 0, none⟩) (1 + n) → Below w.heap.size w w' → K (a.put o.dst (Value.slice (some ⟨g, 0, none⟩) (1 + n) c')) w') :
    if Region.wanted o (yielded ops a.tmps) = true then Oper.wp Tryz.prog o a W K Q else E' := by
  subst hW; subst hH
  have hw : Region.wanted o (yielded ops a.tmps) = true := by simp [Region.wanted, hgd]
  rw [if_pos hw]
  obtain ⟨g, o2, rfl, hgB, hgs, hcell⟩ := hc.resolve_left (by omega)
  have hcell2 : ∀ j, j < n → ∃ x : Int, (0 ≤ x ∧ x < 256) ∧ (w.alloc (.cells #[.int .u8 1] 5)).cell? ⟨g, o2 + j, none⟩ = some (.int .u8 x) := fun j hj => by
    obtain ⟨x, hx, hc⟩ := hcell j hj
    exact ⟨x, hx, (((Below.refl w.heap.size w).alloc (Nat.le_refl _) _).cell (p := ⟨g, o2 + j, none⟩) hgs).trans hc⟩
  obtain ⟨news, n1, n2, n3⟩ := code_list hcell2
  have hown : OwnK (w.alloc (.cells #[.int .u8 1] 5)) w.heap.size 5 1 w.heap.size 1 1 [.int .u8 1] := OwnBytes.one (1 : UInt8) (Nat.le_refl _)
  have hone : ∀ u ∈ news, u.oneCell' = true := fun u hu => by
    obtain ⟨j, hj, e⟩ := List.getElem_of_mem hu
    obtain ⟨x, -, hx⟩ := n2 j (by omega)
    rw [List.getElem?_eq_getElem hj] at hx
    have hx := Option.some.inj hx
    rw [← e, hx]
    rfl
  obtain ⟨g', cap', w', hr, h2, h3, h4⟩ := run_append_K infoU8 Tryz.underlying22 rfl (by decide) (by decide) hown g o2 n c news (by rw [n1, Nat.mul_one]) n3 hone hlen o.type
  unfold Oper.wp execOp
  simp only [ho, resolve, invoke, builtin, Sem.run_bind, Sem.run_pure, Result.andThen_ok, List.map_toArray, List.map_cons, List.map_nil, hs, hx, hr]
  refine h g' cap' w' ?_ (((Below.refl w.heap.size w).alloc (Nat.le_refl _) _).grown h3 (by simp) (by intro k hk; cases hk; exact Nat.le_refl _))
  refine .inr ⟨g', 0, rfl, h2.lt, h2.lt, fun j hj => ?_⟩
  rw [Nat.zero_add, OwnK.cell h2 j (by simp; omega)]
  by_cases e : j = 0
  · subst e
    exact ⟨1, by omega, rfl⟩
  · obtain ⟨x, hx, hj'⟩ := n2 (j - 1) (by omega)
    refine ⟨x, hx, ?_⟩
    have : ([.int .u8 1] ++ news)[j]? = some (.int .u8 x) := by rw [List.getElem?_append_right (by simp; omega)]; exact hj'
    rw [← List.getElem?_eq_getElem]; exact this
theorem ClaimM.shape6 {w : World} {v : Value} {x : ClaimD} (h : ClaimM w v x) : ∃ p1 m1 d1 p2 m2 d2 p3 m3 d3 p4 m4 d4 p5 m5 d5, v = .agg #[.int .i64 x.kind, .slice p1 m1 d1, .slice p2 m2 d2, .slice p3 m3 d3, .slice p4 m4 d4, .slice p5 m5 d5] := by
  obtain ⟨v1, v2, v3, v4, v5, rfl, h1, h2, h3, h4, h5⟩ := h
  obtain ⟨a1, c1, rfl⟩ := h1.shape
  obtain ⟨a2, c2, rfl⟩ := h2.shape
  obtain ⟨a3, c3, rfl⟩ := h3.shape
  obtain ⟨a4, c4, rfl⟩ := h4.shape
  obtain ⟨a5, c5, rfl⟩ := h5.shape
  exact ⟨_, _, _, _, _, _, _, _, _, _, _, _, _, _, _, rfl⟩
set_option maxHeartbeats 2000000 in
theorem spec_DrawCheckClaim_any (a : Option Addr) (n c : Nat) (w : World) (hn : n ≤ 1048577) (hc : CodeV w w.heap.size a n) : Calls Tryz.prog 10 #[.slice a n c] w (DrawnC w) := by
  have hZ := heap_alloc_new w (.cells #[.int .i64 0, .slice none 0 0, .slice none 0 0, .slice none 0 0, .slice none 0 0, .slice none 0 0] 29 (0, 0))
  have hB0 : Below w.heap.size w (w.alloc (.cells #[.int .i64 0, .slice none 0 0, .slice none 0 0, .slice none 0 0, .slice none 0 0, .slice none 0 0] 29)) := (Below.refl _ _).alloc (Nat.le_refl _) _
  have h1 := Lib.hid (spec_l34Claim_any a n c (w.alloc (.cells #[.int .i64 0, .slice none 0 0, .slice none 0 0, .slice none 0 0, .slice none 0 0, .slice none 0 0] 29)) hn ((hc.below hB0).mono hB0.size))
  have Z0 := Lib.hid hZ
  have hrb : w.heap.size < (w.alloc (.cells #[.int .i64 0, .slice none 0 0, .slice none 0 0, .slice none 0 0, .slice none 0 0, .slice none 0 0] 29)).heap.size := by simp
  clear hc hZ
  go_enter Tryz.func10, Tryz.ntmps10
  go_wp2_with fail
  refine h1.out.mono ?_
  rintro e w1 ⟨v, x, rfl, hP, hf, hw, hb⟩
  have Z1 := Lib.hid ((hb.block _ hrb).trans Z0.out)
  have hB1 := hB0.trans (hb.mono hB0.size)
  obtain ⟨hM, -⟩ := hP 0 0 w1 (Nat.zero_le _) (Only.refl 0 0 w1)
  obtain ⟨p1, m1, d1, p2, m2, d2, p3, m3, d3, p4, m4, d4, p5, m5, d5, rfl⟩ := hM.shape6
  have HP := Lib.hid hP; have Hf := Lib.hid hf; have Hw := Lib.hid hw; have HB := Lib.hid hB1
  clear hM hf hw hP
  generalize hxk : x.kind = xk at *
  clear hxk
  have dd : ∀ j, w1.cell? ⟨w.heap.size, j, none⟩ = (#[.int .i64 0, .slice none 0 0, .slice none 0 0, .slice none 0 0, .slice none 0 0, .slice none 0 0] : Array Value)[j]? := fun j => cell_of_cells Z1.out j
  have fd : ∀ j, w1.frozen? ⟨w.heap.size, j, none⟩ = false := fun j => free_of_cells Z1.out j
  clear hB1 hb Z0 hB0 h1
  go_wp2_with fail
  refine bodyPost_ret (v := .agg #[.int .i64 xk, .slice p1 m1 d1, .slice p2 m2 d2, .slice p3 m3 d3, .slice p4 m4 d4, .slice p5 m5 d5]) (by simp [results, Tryz.results10, go_sem, dd]) rfl ?_
  clear dd fd
  have hO := only_six w1 w.heap.size (.int .i64 xk) (.slice p1 m1 d1) (.slice p2 m2 d2) (.slice p3 m3 d3) (.slice p4 m4 d4) (.slice p5 m5 d5)
  exact ⟨_, x, rfl, fun lo hi W' hhi hO' => HP.out 0 (w.heap.size + 1) W' (by omega) ((hO.wide (Nat.zero_le _) (Nat.le_refl _)).trans (hO'.wide (Nat.zero_le _) (by omega))), Hf.out, Hw.out, Below.only HB.out hO (Nat.le_refl _) (Nat.le_refl _)⟩
def DrawnC2 (w : World) (e : Ending) (w' : World) : Prop :=
  ∃ v1 v2 x1 x2, e = .returned (.tuple #[v1, v2]) ∧ ClaimM w' v1 x1 ∧ ClaimM w' v2 x2 ∧ claimFew x1 ∧ claimFew x2 ∧ Below w.heap.size w w'
set_option maxHeartbeats 8000000 in
theorem spec_DrawEqualClaims_any (a : Option Addr) (n c : Nat) (w : World) (hn : n ≤ 1048576) (hc : CodeV w w.heap.size a n) : Calls Tryz.prog 17 #[.slice a n c] w (DrawnC2 w) := by
  have hB0 : Below w.heap.size w (w.alloc (.cells #[.int .i64 0, .slice none 0 0, .slice none 0 0, .slice none 0 0, .slice none 0 0, .slice none 0 0] 29)) := (Below.refl _ _).alloc (Nat.le_refl _) _
  have hB0' : Below (w.alloc (.cells #[.int .i64 0, .slice none 0 0, .slice none 0 0, .slice none 0 0, .slice none 0 0, .slice none 0 0] 29)).heap.size (w.alloc (.cells #[.int .i64 0, .slice none 0 0, .slice none 0 0, .slice none 0 0, .slice none 0 0, .slice none 0 0] 29)) ((w.alloc (.cells #[.int .i64 0, .slice none 0 0, .slice none 0 0, .slice none 0 0, .slice none 0 0, .slice none 0 0] 29)).alloc (.cells #[.int .i64 0, .slice none 0 0, .slice none 0 0, .slice none 0 0, .slice none 0 0, .slice none 0 0] 29)) := (Below.refl _ _).alloc (Nat.le_refl _) _
  have hZ1 := (hB0'.block w.heap.size (by simp)).trans (heap_alloc_new w (.cells #[.int .i64 0, .slice none 0 0, .slice none 0 0, .slice none 0 0, .slice none 0 0, .slice none 0 0] 29 (0, 0)))
  have hZ2 := heap_alloc_new (w.alloc (.cells #[.int .i64 0, .slice none 0 0, .slice none 0 0, .slice none 0 0, .slice none 0 0, .slice none 0 0] 29)) (.cells #[.int .i64 0, .slice none 0 0, .slice none 0 0, .slice none 0 0, .slice none 0 0, .slice none 0 0] 29 (0, 0))
  have hBB := hB0.trans (hB0'.mono hB0.size)
  have hsz : (w.alloc (.cells #[.int .i64 0, .slice none 0 0, .slice none 0 0, .slice none 0 0, .slice none 0 0, .slice none 0 0] 29)).heap.size = w.heap.size + 1 := by simp
  have hsz2 : ((w.alloc (.cells #[.int .i64 0, .slice none 0 0, .slice none 0 0, .slice none 0 0, .slice none 0 0, .slice none 0 0] 29)).alloc (.cells #[.int .i64 0, .slice none 0 0, .slice none 0 0, .slice none 0 0, .slice none 0 0, .slice none 0 0] 29)).heap.size = w.heap.size + 2 := by simp
  rw [hsz] at hZ2
  obtain ⟨w0, hw0⟩ : ∃ W, W = (w.alloc (.cells #[.int .i64 0, .slice none 0 0, .slice none 0 0, .slice none 0 0, .slice none 0 0, .slice none 0 0] 29)).alloc (.cells #[.int .i64 0, .slice none 0 0, .slice none 0 0, .slice none 0 0, .slice none 0 0, .slice none 0 0] 29) := ⟨_, rfl⟩
  rw [← hw0] at hZ1 hZ2 hBB hsz2
  have Z1 := Lib.hid hZ1; have Z2 := Lib.hid hZ2
  have hc0 := hc.below hBB
  have h1 := Lib.hid (spec_l34Claim_any a n c w0 (by omega) (hc0.mono hBB.size))
  have Hc := Lib.hid hc0
  have KC := Lib.hid (fun (W : World) (g c' : Nat) (hW : CodeV W W.heap.size (some ⟨g, 0, none⟩) (1 + n)) => spec_l34Claim_any (some ⟨g, 0, none⟩) (1 + n) c' W (by omega) hW)
  have Hw0 := Lib.hid hw0
  clear hc hc0 hZ1 hZ2 hw0 hB0 hB0' hsz
  have main : ∀ b : Bool, ((n : Int) % 2 == 0) = b → Calls Tryz.prog 17 #[.slice a n c] w (DrawnC2 w) := by
    intro b d1
    have d2 : ((n : Int).tmod 2 == 0) = b := by rw [Int.tmod_eq_emod_of_nonneg (by omega)]; exact d1
    have hod : b = false → 1 ≤ n ∧ 1 + n ≤ 1048576 := fun h => by
      subst h
      have h2 : (n : Int) % 2 ≠ 0 := by simpa using d1
      omega
    have Hod := Lib.hid hod
    clear hod
    go_enter Tryz.func17, Tryz.ntmps17
    go_wp2_with fail
    rw [← Hw0.out]
    clear Hw0
    refine h1.out.mono ?_
    rintro e w1 ⟨v, x, rfl, hP, hf, -, hb⟩
    have hr1 : w.heap.size < w0.heap.size := by omega
    have Z1 := Lib.hid ((hb.block _ hr1).trans Z1.out)
    have Z2 := Lib.hid ((hb.block _ (by omega)).trans Z2.out)
    have hB1 := hBB.trans (hb.mono hBB.size)
    obtain ⟨hM, -⟩ := hP 0 0 w1 (Nat.zero_le _) (Only.refl 0 0 w1)
    obtain ⟨p1, m1, e1, p2, m2, e2, p3, m3, e3, p4, m4, e4, p5, m5, e5, rfl⟩ := hM.shape6
    have HP := Lib.hid hP; have Hf := Lib.hid hf
    have hs01 := hb.size
    have Hc1 := Lib.hid (Hc.out.below (hb.mono hBB.size))
    clear hM hf hP hb h1 Hc
    generalize hxk : x.kind = xk at *
    clear hxk
    have ba : Below w1.heap.size w1 (w1.alloc (.cells #[.int .i64 xk, .slice p1 m1 e1, .slice p2 m2 e2, .slice p3 m3 e3, .slice p4 m4 e4, .slice p5 m5 e5] 29)) := (Below.refl _ _).alloc (Nat.le_refl _) _
    have hCB := heap_alloc_new w1 (.cells #[.int .i64 xk, .slice p1 m1 e1, .slice p2 m2 e2, .slice p3 m3 e3, .slice p4 m4 e4, .slice p5 m5 e5] 29 (0, 0))
    obtain ⟨w2, hw2⟩ : ∃ W, W = w1.alloc (.cells #[.int .i64 xk, .slice p1 m1 e1, .slice p2 m2 e2, .slice p3 m3 e3, .slice p4 m4 e4, .slice p5 m5 e5] 29) := ⟨_, rfl⟩
    rw [← hw2] at ba hCB
    have Hw2 := Lib.hid hw2
    clear hw2
    obtain ⟨bx, hbx⟩ : ∃ b, w1.heap.size = b := ⟨_, rfl⟩
    have CB : Hid (w2.heap[bx]? = some (.cells #[.int .i64 xk, .slice p1 m1 e1, .slice p2 m2 e2, .slice p3 m3 e3, .slice p4 m4 e4, .slice p5 m5 e5] 29 (0, 0))) := Lib.hid (by rw [← hbx]; exact hCB)
    have Z1 := Lib.hid ((ba.block w.heap.size (by omega)).trans Z1.out)
    have Z2 := Lib.hid ((ba.block (w.heap.size + 1) (by omega)).trans Z2.out)
    have Hc2 := Lib.hid (Hc1.out.below (ba.mono (by have := hB1.size; omega)))
    have HB2 := Lib.hid (hB1.trans (ba.mono hB1.size))
    have HO12 : Hid (Only 0 w0.heap.size w1 w2) := Lib.hid (Only.of_below _ _ ba)
    have Hbx := Lib.hid hbx
    have hn1 : bx ≠ w.heap.size := by omega
    have hn3 : w.heap.size + 2 ≤ bx := by omega
    have hn2 : bx ≠ w.heap.size + 1 := by omega
    have hbs : bx < w2.heap.size := lt_of_block CB.out
    clear ba hCB Hc1 hB1 hbx hBB
    cases b with
    | true =>
      have cb : ∀ j, w2.cell? ⟨bx, j, none⟩ = (#[.int .i64 xk, .slice p1 m1 e1, .slice p2 m2 e2, .slice p3 m3 e3, .slice p4 m4 e4, .slice p5 m5 e5] : Array Value)[j]? := fun j => cell_of_cells CB.out j
      have y1 : ∀ j, w2.cell? ⟨w.heap.size, j, none⟩ = (#[.int .i64 0, .slice none 0 0, .slice none 0 0, .slice none 0 0, .slice none 0 0, .slice none 0 0] : Array Value)[j]? := fun j => cell_of_cells Z1.out j
      have y2 : ∀ j, w2.cell? ⟨w.heap.size + 1, j, none⟩ = (#[.int .i64 0, .slice none 0 0, .slice none 0 0, .slice none 0 0, .slice none 0 0, .slice none 0 0] : Array Value)[j]? := fun j => cell_of_cells Z2.out j
      have g1 : ∀ j, w2.frozen? ⟨w.heap.size, j, none⟩ = false := fun j => free_of_cells Z1.out j
      have g2 : ∀ j, w2.frozen? ⟨w.heap.size + 1, j, none⟩ = false := fun j => free_of_cells Z2.out j
      clear Z1 Z2 CB KC Hc2 Hod
      go_wp2_with fail
      rw [← Hw2.out, Hbx.out]
      go_region
      go_wp2_with fail
      refine bodyPost_ret (v := .tuple #[.agg #[.int .i64 xk, .slice p1 m1 e1, .slice p2 m2 e2, .slice p3 m3 e3, .slice p4 m4 e4, .slice p5 m5 e5], .agg #[.int .i64 xk, .slice p1 m1 e1, .slice p2 m2 e2, .slice p3 m3 e3, .slice p4 m4 e4, .slice p5 m5 e5]]) (by simp [results, Tryz.results17, go_sem, y1, y2]) rfl ?_
      clear cb y1 y2 g1 g2
      have h6 := only_six w2 w.heap.size (.int .i64 xk) (.slice p1 m1 e1) (.slice p2 m2 e2) (.slice p3 m3 e3) (.slice p4 m4 e4) (.slice p5 m5 e5)
      have h7 := only_six ((((((w2.setCell ⟨w.heap.size, 0, none⟩ (.int .i64 xk)).setCell ⟨w.heap.size, 1, none⟩ (.slice p1 m1 e1)).setCell ⟨w.heap.size, 2, none⟩ (.slice p2 m2 e2)).setCell ⟨w.heap.size, 3, none⟩ (.slice p3 m3 e3)).setCell ⟨w.heap.size, 4, none⟩ (.slice p4 m4 e4)).setCell ⟨w.heap.size, 5, none⟩ (.slice p5 m5 e5)) (w.heap.size + 1) (.int .i64 xk) (.slice p1 m1 e1) (.slice p2 m2 e2) (.slice p3 m3 e3) (.slice p4 m4 e4) (.slice p5 m5 e5)
      have h8 := ((h6.wide (B2 := w.heap.size) (E2 := w0.heap.size) (Nat.le_refl _) (by omega)).trans (h7.wide (B2 := w.heap.size) (E2 := w0.heap.size) (by omega) (by omega))).drewN 1
      have h9 := HO12.out.trans (h8.wide (Nat.zero_le _) (Nat.le_refl _))
      have hM := (HP.out 0 w0.heap.size _ (Nat.le_refl _) h9).1
      exact ⟨_, _, x, x, rfl, hM, hM, Hf.out, Hf.out, Below.only HB2.out h8 (Nat.le_refl _) (Nat.le_refl _)⟩
    | false =>
      obtain ⟨hn0, hn9⟩ := Hod.out rfl
      have cbD : ∀ j, w2.drew.cell? ⟨bx, j, none⟩ = (#[.int .i64 xk, .slice p1 m1 e1, .slice p2 m2 e2, .slice p3 m3 e3, .slice p4 m4 e4, .slice p5 m5 e5] : Array Value)[j]? := fun j => cell_of_cells CB.out j
      have cbB : ∀ j, w2.cell? ⟨bx, j, none⟩ = (#[.int .i64 xk, .slice p1 m1 e1, .slice p2 m2 e2, .slice p3 m3 e3, .slice p4 m4 e4, .slice p5 m5 e5] : Array Value)[j]? := cbD
      have cbC : ∀ o j, (w2.alloc o).cell? ⟨bx, j, none⟩ = (#[.int .i64 xk, .slice p1 m1 e1, .slice p2 m2 e2, .slice p3 m3 e3, .slice p4 m4 e4, .slice p5 m5 e5] : Array Value)[j]? := fun o j => (((Below.refl w2.heap.size w2).alloc (Nat.le_refl _) o).cell (p := ⟨bx, j, none⟩) hbs).trans (cbB j)
      have cbA : ∀ o j, (w2.drew.alloc o).cell? ⟨bx, j, none⟩ = (#[.int .i64 xk, .slice p1 m1 e1, .slice p2 m2 e2, .slice p3 m3 e3, .slice p4 m4 e4, .slice p5 m5 e5] : Array Value)[j]? := fun o j => (((Below.refl w2.drew.heap.size w2.drew).alloc (Nat.le_refl _) o).cell (p := ⟨bx, j, none⟩) hbs).trans (cbD j)
      have hdd : w2.drew.heap.size = w2.heap.size := rfl
      have HcD : Hid (CodeV w2.drew w.heap.size a n) := Lib.hid Hc2.out
      clear Hod
      go_wp2_with fail
      rw [← Hw2.out, Hbx.out]
      go_region_law (first
        | (refine step_append_code rfl _ _ rfl w.heap.size n c _ a _ rfl rfl hn0 hn9 (by have := HB2.out.size; exact this) HcD.out rfl rfl ?_; intro gN cN wN hcN hbN; have cN' : ∀ j, wN.cell? ⟨bx, j, none⟩ = (#[.int .i64 xk, .slice p1 m1 e1, .slice p2 m2 e2, .slice p3 m3 e3, .slice p4 m4 e4, .slice p5 m5 e5] : Array Value)[j]? := fun j => (hbN.cell (p := ⟨bx, j, none⟩) hbs).trans (cbD j))
        | (go_simp; go_at_call 46; refine (KC.out _ gN cN hcN).mono ?_; rintro e w5 ⟨v2, x2, rfl, hP2, hf2, -, hb2⟩; obtain ⟨hM2, -⟩ := hP2 0 0 w5 (Nat.zero_le _) (Only.refl 0 0 w5); obtain ⟨q1, l1, f1, q2, l2, f2, q3, l3, f3, q4, l4, f4, q5, l5, f5, rfl⟩ := hM2.shape6; have HP2 := Lib.hid hP2; have hsN := hbN.size; have h5 : ∀ j, w5.cell? ⟨bx, j, none⟩ = (#[.int .i64 xk, .slice p1 m1 e1, .slice p2 m2 e2, .slice p3 m3 e3, .slice p4 m4 e4, .slice p5 m5 e5] : Array Value)[j]? := (fun j => (hb2.cell (p := ⟨bx, j, none⟩) (by show bx < wN.heap.size; omega)).trans (cN' j)); have hB25 := (⟨hbN.os, hbN.tape, hbN.output, hbN.size, hbN.block⟩ : Below w2.heap.size w2 wN).trans (hb2.mono hsN); have Y1 := Lib.hid ((hB25.block w.heap.size (by omega)).trans Z1.out); have Y2 := Lib.hid ((hB25.block (w.heap.size + 1) (by omega)).trans Z2.out); have y1 : ∀ j, w5.cell? ⟨w.heap.size, j, none⟩ = (#[.int .i64 0, .slice none 0 0, .slice none 0 0, .slice none 0 0, .slice none 0 0, .slice none 0 0] : Array Value)[j]? := (fun j => cell_of_cells Y1.out j); have y2 : ∀ j, w5.cell? ⟨w.heap.size + 1, j, none⟩ = (#[.int .i64 0, .slice none 0 0, .slice none 0 0, .slice none 0 0, .slice none 0 0, .slice none 0 0] : Array Value)[j]? := (fun j => cell_of_cells Y2.out j); have g1 : ∀ j, w5.frozen? ⟨w.heap.size, j, none⟩ = false := (fun j => free_of_cells Y1.out j); have g2 : ∀ j, w5.frozen? ⟨w.heap.size + 1, j, none⟩ = false := (fun j => free_of_cells Y2.out j); clear hM2; generalize hyk : x2.kind = yk at *; clear hyk))
      all_goals (
        go_wp2_with fail
        refine bodyPost_ret (v := .tuple #[.agg #[.int .i64 xk, .slice p1 m1 e1, .slice p2 m2 e2, .slice p3 m3 e3, .slice p4 m4 e4, .slice p5 m5 e5], .agg #[.int .i64 yk, .slice q1 l1 f1, .slice q2 l2 f2, .slice q3 l3 f3, .slice q4 l4 f4, .slice q5 l5 f5]]) (by simp [results, Tryz.results17, go_sem, y1, y2]) rfl ?_
        clear h5 y1 y2 g1 g2 cN' cbA cbB cbC cbD
        have h6 := only_six w5 w.heap.size (.int .i64 xk) (.slice p1 m1 e1) (.slice p2 m2 e2) (.slice p3 m3 e3) (.slice p4 m4 e4) (.slice p5 m5 e5)
        have h7 := only_six ((((((w5.setCell ⟨w.heap.size, 0, none⟩ (.int .i64 xk)).setCell ⟨w.heap.size, 1, none⟩ (.slice p1 m1 e1)).setCell ⟨w.heap.size, 2, none⟩ (.slice p2 m2 e2)).setCell ⟨w.heap.size, 3, none⟩ (.slice p3 m3 e3)).setCell ⟨w.heap.size, 4, none⟩ (.slice p4 m4 e4)).setCell ⟨w.heap.size, 5, none⟩ (.slice p5 m5 e5)) (w.heap.size + 1) (.int .i64 yk) (.slice q1 l1 f1) (.slice q2 l2 f2) (.slice q3 l3 f3) (.slice q4 l4 f4) (.slice q5 l5 f5)
        have h8 := (h6.wide (B2 := w.heap.size) (E2 := w0.heap.size) (Nat.le_refl _) (by omega)).trans (h7.wide (B2 := w.heap.size) (E2 := w0.heap.size) (by omega) (by omega))
        have h9 := (HO12.out.trans (Only.of_below 0 w0.heap.size hB25)).trans (h8.wide (Nat.zero_le _) (Nat.le_refl _))
        have hM := (HP.out 0 w0.heap.size _ (Nat.le_refl _) h9).1
        have hM2 := (HP2.out 0 w0.heap.size _ (by omega) (h8.wide (Nat.zero_le _) (Nat.le_refl _))).1
        exact ⟨_, _, x, x2, rfl, hM, hM2, Hf.out, hf2, Below.only (HB2.out.trans (hB25.mono HB2.out.size)) h8 (Nat.le_refl _) (Nat.le_refl _)⟩)
  exact main _ rfl
end Go.Proofs.YtkjglfafphffiaaGreatDoor
