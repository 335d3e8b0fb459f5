/- The laws' draws: cursors over the bytes of any code; what is drawn is small. -/
import Derived.Test.YtjhoimdfmcjkbaaG08
import Derived.Laws.BitsLemmas
namespace Go.Proofs.Ytjhoimdfmcjkbaa
set_option maxRecDepth 100000
open Go.RowKit

theorem and255 (x : Int) : 0 ≤ bits .and .i64 x 255 ∧ bits .and .i64 x 255 < 256 := by
  have h : (BitVec.ofInt 64 255).toNat = 255 := by decide
  have h2 := Nat.and_le_right (n := (BitVec.ofInt 64 x).toNat) (m := 255)
  have e : bits .and .i64 x 255 = IntKind.i64.wrap (((BitVec.ofInt 64 x).toNat &&& 255 : Nat) : Int) := by
    show IntKind.i64.wrap (((BitVec.ofInt 64 x &&& BitVec.ofInt 64 255).toNat : Nat) : Int) = _
    rw [BitVec.toNat_and, h]
  rw [e]
  generalize (BitVec.ofInt 64 x).toNat &&& 255 = m at *
  rw [IntWalk.i64_in _ (by omega)]
  omega

/-- the bytes of a code that lies below block B -/
def CodeV (w : World) (B : Nat) (a : Option Addr) (n : Nat) : Prop :=
  n = 0 ∨ ∃ g o, a = some ⟨g, o, none⟩ ∧ g < B ∧ g < w.heap.size ∧ ∀ j, j < n → ∃ x : Int, (0 ≤ x ∧ x < 256) ∧ w.cell? ⟨g, o + j, none⟩ = some (.int .u8 x)
theorem CodeV.only {w w' : World} {B p E : Nat} {a : Option Addr} {n : Nat} (h : CodeV w B a n) (k : Only p E w w') (hp : B ≤ p) : CodeV w' B a n := by
  rcases h with h | ⟨g, o, e, h1, h2, h3⟩
  · exact .inl h
  · refine .inr ⟨g, o, e, h1, Nat.lt_of_lt_of_le h2 k.size, fun j hj => ?_⟩
    obtain ⟨x, hx, hc⟩ := h3 j hj
    exact ⟨x, hx, (World.cell?_of_block (k.block g h2 (.inl (by omega)))).trans hc⟩
theorem CodeV.below {w w' : World} {B : Nat} {a : Option Addr} {n : Nat} (h : CodeV w B a n) (k : Below B w w') : CodeV w' B a n := by
  rcases h with h | ⟨g, o, e, h1, h2, h3⟩
  · exact .inl h
  · refine .inr ⟨g, o, e, h1, Nat.lt_of_lt_of_le h2 k.size, fun j hj => ?_⟩
    obtain ⟨x, hx, hc⟩ := h3 j hj
    exact ⟨x, hx, (World.cell?_of_block (k.block g h1)).trans hc⟩

/-- a cursor -/
def Cur (w : World) (p : Nat) (a : Option Addr) (n c : Nat) : Prop := ∃ i h : Int, (0 ≤ i ∧ i ≤ n) ∧ w.heap[p]? = some (.cells #[.slice a n c, .int .i64 i, .int .i64 h] 66 (0, 0))
theorem three {W : World} {b : Nat} {v0 v1 v2 : Value} {t : TypeId} (h : W.heap[b]? = some (.cells #[v0, v1, v2] t (0, 0))) :
    W.cell? ⟨b, 0, none⟩ = some v0 ∧ W.cell? ⟨b, 1, none⟩ = some v1 ∧ W.cell? ⟨b, 2, none⟩ = some v2 := by
  refine ⟨?_, ?_, ?_⟩ <;> (rw [cell_of_cells h]; rfl)
theorem only_setC (w : World) (p k : Nat) (u : Value) : Only p (p + 1) w (w.setCell ⟨p, k, none⟩ u) :=
  ⟨rfl, rfl, rfl, by simp [World.setCell], fun j _ hd => Below.heap_setCell _ _ _ _ (by show j ≠ p; omega)⟩

theorem Only.of_below {w w' : World} (p E : Nat) (h : Below w.heap.size w w') : Only p E w w' := ⟨h.os, h.tape, h.output, h.size, fun k hk _ => h.block k hk⟩
/-- a byte is drawn -/
def DrewI (w : World) (B p : Nat) (a : Option Addr) (n c : Nat) (m : Int) (e : Ending) (w' : World) : Prop :=
  ∃ x : Int, (0 ≤ x ∧ x < m) ∧ e = .returned (.int .i64 x) ∧ Cur w' p a n c ∧ CodeV w' B a n ∧ Only p (p + 1) w w'

set_option maxHeartbeats 1000000 in
theorem spec_l1Byte_any (B p : Nat) (a : Option Addr) (n c : Nat) (w : World) (hn : n ≤ 1048576) (hc : CodeV w B a n) (hp : B ≤ p) (hcur : Cur w p a n c) :
    Calls Try.prog 63 #[.pointer (some ⟨p, 0, none⟩)] w (DrewI w B p a n c 256) := by
  obtain ⟨i, h, hi, hblk⟩ := hcur
  obtain ⟨z0, z1, z2⟩ := three hblk
  have f1 := free_of_cells hblk 1
  have f2 := free_of_cells hblk 2
  have HB0 := Lib.hid hblk; have HC0 := Lib.hid hc
  clear hblk hc
  go_enter Try.func63, Try.ntmps63
  go_wp2_with fail
  generalize wrap64 (wrap64 (h * 6364136223846793005) + 1442695040888963407) = h2 at *
  have B1 : (w.setCell ⟨p, 2, none⟩ (.int .i64 h2)).heap[p]? = some (.cells #[.slice a n c, .int .i64 i, .int .i64 h2] 66 (0, 0)) := by rw [heap_setCell_same w p 2 _ _ (.int .i64 h2) HB0.out]; rfl
  have O1 := only_setC w p 2 (.int .i64 h2)
  have C1 := HC0.out.only O1 hp
  generalize w.setCell ⟨p, 2, none⟩ (.int .i64 h2) = w1 at *
  clear z0 z1 z2 f1 f2 HB0 HC0
  obtain ⟨z0, z1, z2⟩ := three B1
  have f1 := free_of_cells B1 1
  have HB1 := Lib.hid B1; have HC1 := Lib.hid C1
  clear B1 C1
  go_quiet (fail)
  go_wp2_with fail
  have hx0 := and255 (bits BinOp.xor IntKind.i64 (h2 / 8589934592) (h2 / 35184372088832))
  generalize bits BinOp.and IntKind.i64 (bits BinOp.xor IntKind.i64 (h2 / 8589934592) (h2 / 35184372088832)) 255 = x0 at *
  obtain ⟨k, rfl⟩ : ∃ k : Nat, i = k := ⟨i.toNat, by omega⟩
  by_cases hk : k < n
  · obtain ⟨g, o, rfl, hgB, hgs, hcell⟩ := HC1.out.resolve_left (by omega)
    obtain ⟨y, hy, hyc⟩ := hcell k hk
    have e1 : IntKind.i64.wrap ((k : Int) + 1) = (k : Int) + 1 := IntWalk.i64_in _ (by omega)
    have hkI : (k : Int) < (n : Int) := by omega
    clear hcell
    go_quiet (fail)
    go_wp2_with fail
    go_quiet (fail)
    go_wp2_with fail
    go_ret
    refine ⟨_, and255 (x0 + y), rfl, ⟨(k : Int) + 1, h2, ⟨by omega, by omega⟩, ?_⟩, ?_, ?_⟩
    · exact (heap_setCell_same (w1.drewN _) p 1 _ _ (.int .i64 ((k : Int) + 1)) HB1.out).trans rfl
    · exact (HC1.out.only (Only.drewN (Only.refl p (p + 1) w1) _) hp).only (only_setC _ p 1 _) hp
    · exact (Only.drewN O1 _).trans (only_setC _ p 1 _)
  · have hkI : ¬ (k : Int) < (n : Int) := by omega
    go_quiet (fail)
    go_wp2_with fail
    go_ret
    exact ⟨x0, hx0, rfl, ⟨k, h2, hi, HB1.out⟩, HC1.out.only (Only.drewN (Only.refl p (p + 1) w1) _) hp, Only.drewN O1 _⟩

set_option maxHeartbeats 1000000 in
theorem spec_l1Below_any (B p : Nat) (a : Option Addr) (n c : Nat) (m : Int) (w : World) (hm : 1 ≤ m ∧ m ≤ 256) (hn : n ≤ 1048576) (hc : CodeV w B a n) (hp : B ≤ p) (hcur : Cur w p a n c) :
    Calls Try.prog 49 #[.pointer (some ⟨p, 0, none⟩), .int .i64 m] w (DrewI w B p a n c m) := by
  have h1 := Lib.hid (spec_l1Byte_any B p a n c w hn hc hp hcur)
  have d1 : decide (m ≤ 0) = false := by simp; omega
  have d2 : decide (m ≤ 256) = true := by simp; omega
  have d3 : (m == 0) = false := by simp; omega
  have d4 : m ≠ 0 := by omega
  clear hc hcur
  go_enter Try.func49, Try.ntmps49
  go_wp2_with fail
  refine h1.out.mono ?_
  rintro e w1 ⟨x, hx, rfl, hcur, hc, hO⟩
  have hr : 0 ≤ x % m ∧ x % m < m := ⟨Int.emod_nonneg _ (by omega), Int.emod_lt_of_pos _ (by omega)⟩
  go_wp2_with fail
  go_ret
  exact ⟨_, hr, rfl, hcur, hc, hO⟩

set_option maxHeartbeats 1000000 in
theorem spec_l1New_any (a : Option Addr) (n c : Nat) (w : World) (hn : n ≤ 1048576) (hc : CodeV w w.heap.size a n) :
    Calls Try.prog 41 #[.slice a n c] w fun e w' => ∃ p, w.heap.size ≤ p ∧ e = .returned (.pointer (some ⟨p, 0, none⟩)) ∧ Cur w' p a n c ∧ Below w.heap.size w w' := by
  have hc' := Lib.hid hc
  clear hc
  go_enter Try.func41, Try.ntmps41
  go_wp2
  go_loopw [3, 4] (fun hv iv wr => ∃ (k : Nat) (h : Int), k ≤ n ∧ iv = .int .i64 k ∧ hv = .int .i64 h ∧ ∃ q, wr = w.drewN q) (fun _ iv _ => n - (intOf iv).toNat)
  case atStart => exact ⟨0, _, Nat.zero_le _, rfl, rfl, (by first | exact ⟨_, rfl⟩ | exact ⟨0, rfl⟩ | exact still2 _ _ _ | exact still3 _ _ _ _)⟩
  case round =>
    obtain ⟨k, h, hk, rfl, rfl, q, rfl⟩ := hrel
    by_cases hlt : k < n
    · obtain ⟨g, o, rfl, hgB, hgs, hcell⟩ := hc'.out.resolve_left (by omega)
      obtain ⟨y, hy, hyc⟩ := hcell k hlt
      have hend : ∀ W, W = (w.drewN q).alloc (.cells #[.slice (some ⟨g, o, none⟩) n c, .int .i64 0, .int .i64 h] 66) → ∃ p, w.heap.size ≤ p ∧ Ending.returned (.pointer (some ⟨w.heap.size, 0, none⟩)) = Ending.returned (.pointer (some ⟨p, 0, none⟩)) ∧ Cur W p (some ⟨g, o, none⟩) n c ∧ Below w.heap.size w W := by
        rintro W rfl
        exact ⟨w.heap.size, Nat.le_refl _, rfl, ⟨0, h, ⟨by omega, by omega⟩, heap_alloc_new (w.drewN q) _⟩, (below_drewN (Below.refl _ w) q).alloc (Nat.le_refl _) _⟩
      by_cases h4 : k < 4000
      · go_wp2_with fail
        go_roundw
        case rel => exact ⟨k + 1, _, by omega, by go_num, rfl, (by first | exact ⟨_, rfl⟩ | exact ⟨0, rfl⟩ | exact still2 _ _ _ | exact still3 _ _ _ _)⟩
        case measure => simp [intOf]; omega
      · go_wp2_with fail
        go_ret
        exact hend _ rfl
    · obtain rfl : k = n := by omega
      have hend : ∀ W, W = (w.drewN q).alloc (.cells #[.slice a k c, .int .i64 0, .int .i64 h] 66) → ∃ p, w.heap.size ≤ p ∧ Ending.returned (.pointer (some ⟨w.heap.size, 0, none⟩)) = Ending.returned (.pointer (some ⟨p, 0, none⟩)) ∧ Cur W p a k c ∧ Below w.heap.size w W := by
        rintro W rfl
        exact ⟨w.heap.size, Nat.le_refl _, rfl, ⟨0, h, ⟨by omega, by omega⟩, heap_alloc_new (w.drewN q) _⟩, (below_drewN (Below.refl _ w) q).alloc (Nat.le_refl _) _⟩
      go_wp2_with fail
      go_ret
      exact hend _ rfl

/-! ### lists that are drawn -/
theorem all_snoc {P : Int → Prop} {xs : List Int} {y : Int} (h : ∀ z ∈ xs, P z) (hy : P y) : ∀ z ∈ xs ++ [y], P z := fun z hz => by
  rcases List.mem_append.1 hz with q | q
  · exact h z q
  · rw [List.mem_singleton] at q; subst q; exact hy
/-- a list is drawn: at most m numbers below b -/
def DrewL (w : World) (B p : Nat) (a : Option Addr) (n c : Nat) (m : Nat) (b : Int) (e : Ending) (w' : World) : Prop :=
  ∃ (xs : List Int) (g cap : Nat), (xs.length ≤ m ∧ ∀ x ∈ xs, 0 ≤ x ∧ x < b) ∧ e = .returned (Value.slice (some ⟨g, 0, none⟩) xs.length cap) ∧ Own w' w.heap.size g cap xs ∧ Cur w' p a n c ∧ CodeV w' B a n ∧ Only p (p + 1) w w'
theorem Own.only {w w' : World} {B p E g cap : Nat} {xs : List Int} (h : Own w B g cap xs) (k : Only p E w w') (hd : g < p ∨ E ≤ g) : Own w' B g cap xs := h.same (k.block g h.lt hd)
theorem Cur.only {w w' : World} {p B E : Nat} {a : Option Addr} {n c : Nat} (h : Cur w p a n c) (k : Only B E w w') (hd : p < B ∨ E ≤ p) : Cur w' p a n c := by
  obtain ⟨i, x, hi, hb⟩ := h
  exact ⟨i, x, hi, (k.block p (lt_of_block hb) hd).trans hb⟩
theorem Cur.lt {w : World} {p : Nat} {a : Option Addr} {n c : Nat} (h : Cur w p a n c) : p < w.heap.size := by obtain ⟨i, x, hi, hb⟩ := h; exact lt_of_block hb
theorem only_grown {w w' : World} {p g : Nat} (h : w.grownBy w' (some g)) (hg : w.heap.size ≤ g) : Only p (p + 1) w w' :=
  ⟨h.os, h.tape, h.output, h.size, fun k hk _ => h.block k hk (by intro e; cases e; omega)⟩

set_option maxHeartbeats 1000000 in
theorem spec_l33List_any (B p : Nat) (a : Option Addr) (n c : Nat) (w : World) (hn : n ≤ 1048576) (hc : CodeV w B a n) (hp : B ≤ p) (hcur : Cur w p a n c) :
    Calls Try.prog 43 #[.pointer (some ⟨p, 0, none⟩)] w (DrewL w B p a n c 5 6) := by
  have hps := hcur.lt
  have K := Lib.hid (fun (W : World) (hc : CodeV W B a n) (hcur : Cur W p a n c) => spec_l1Below_any B p a n c 6 W (by omega) hn hc hp hcur)
  have O0 : Only p (p + 1) w (w.alloc (.cells #[] 3)) := Only.of_below _ _ ((Below.refl w.heap.size w).alloc (Nat.le_refl _) _)
  have C0 := hc.only O0 hp
  have U0 : Cur (w.alloc (.cells #[] 3)) p a n c := by obtain ⟨i, x, hi, hb⟩ := hcur; exact ⟨i, x, hi, (((Below.refl w.heap.size w).alloc (Nat.le_refl _) _).block p hps).trans hb⟩
  have hE : Own (w.alloc (.cells #[] 3)) w.heap.size w.heap.size 0 [] := Own.empty (Nat.le_refl _)
  clear hc hcur
  go_enter Try.func43, Try.ntmps43
  go_wp2_with fail
  refine (K.out _ C0 U0).mono ?_
  rintro e w1 ⟨x, hx, rfl, hcur1, hc1, hO1⟩
  have hE1 := hE.only hO1 (.inr (by omega))
  have hO := O0.trans hO1
  clear C0 U0 hE O0 hO1
  go_wp2_with fail
  go_loopw [3, 4] (fun lv kv wr => ∃ (k m g2 c2 : Nat) (xs : List Int), k + m ≤ 5 ∧ kv = .int .i64 k ∧ lv = (Value.slice (some ⟨g2, 0, none⟩) m c2) ∧ Hid (xs.length = m) ∧ Hid (∀ y ∈ xs, 0 ≤ y ∧ y < 6) ∧ p < g2 ∧ Own wr w.heap.size g2 c2 xs ∧ Cur wr p a n c ∧ CodeV wr B a n ∧ Only p (p + 1) w wr) (fun _ kv _ => (intOf kv).toNat)
  case atStart => exact ⟨x.toNat, 0, w.heap.size, 0, [], by omega, by congr 1; omega, rfl, rfl, by simp [Hid], hps, hE1, hcur1, hc1, hO⟩
  case round =>
    clear hE1 hcur1 hc1 hO
    obtain ⟨k, m, g2, c2, xs, hkm, rfl, rfl, hml, hall, hpg, hown, hcur, hc, hO⟩ := hrel
    by_cases hlt : 0 < k
    · have hltI : (0 : Int) < (k : Int) := by omega
      have hcall := Lib.hid (K.out wr hc hcur)
      clear hc hcur
      go_wp2_with fail
      refine hcall.out.mono ?_
      rintro e w2 ⟨y, hy, rfl, hcur2, hc2, hO2⟩
      have hown2 := hown.only hO2 (.inr (by omega))
      have hO' := hO.trans hO2
      clear hown hO hO2 hcall
      go_wp2_with (at_builtin; refine wpList_append_int_n (w := w2) rfl _ _ rfl w.heap.size g2 c2 m xs y hml.out hown2 rfl rfl (by omega) ?_)
      intro g3 c3 w3 ho3 hg3 hor3
      have hgs := hown2.base
      have hO3 : Only p (p + 1) w w3 := ⟨hg3.os.trans hO'.os, hg3.tape.trans hO'.tape, hg3.output.trans hO'.output, Nat.le_trans hO'.size hg3.size, fun j hj hd => (hg3.block j (Nat.lt_of_lt_of_le hj hO'.size) (by intro e; cases e; omega)).trans (hO'.block j hj hd)⟩
      have hcur3 : Cur w3 p a n c := by obtain ⟨i, z, hi, hb⟩ := hcur2; exact ⟨i, z, hi, (hg3.block p (lt_of_block hb) (by intro e; cases e; omega)).trans hb⟩
      have hc3 : CodeV w3 B a n := hc2.only (p := p + 1) (E := g2 + 1) ⟨hg3.os, hg3.tape, hg3.output, hg3.size, fun j hj hd => hg3.block j hj (by intro e; cases e; omega)⟩ (by omega)
      have hps2 := hcur2.lt
      have hl3 : Hid ((xs ++ [y]).length = m + 1) := Lib.hid (by rw [List.length_append, hml.out]; rfl)
      have ha3 : Hid (∀ z ∈ xs ++ [y], 0 ≤ z ∧ z < 6) := Lib.hid (fun z hz => by rcases List.mem_append.1 hz with q | q; exact hall.out z q; rw [List.mem_singleton] at q; subst q; exact hy)
      have hpg3 : p < g3 := by rcases hor3 with rfl | q <;> omega
      clear hown2 hO' hcur2 hc2 hg3 hor3
      go_wp2_with fail
      go_roundw
      case rel => exact ⟨k - 1, m + 1, g3, c3, _, by omega, by go_num, rfl, hl3.out, ha3.out, hpg3, ho3, hcur3, hc3, hO3⟩
      case measure => simp [intOf]; omega
    · obtain rfl : k = 0 := by omega
      have Hml := Lib.hid hml.out
      go_wp2_with fail
      go_ret
      exact ⟨xs, g2, c2, ⟨by have := hml.out; omega, hall.out⟩, congrArg (fun z => Ending.returned (Value.slice (some ⟨g2, 0, none⟩) z c2)) Hml.out.symm, hown, hcur, hc, hO⟩
set_option maxHeartbeats 1000000 in
theorem spec_l33Word_any (B p : Nat) (a : Option Addr) (n c : Nat) (N : Int) (w : World) (hN : 0 ≤ N ∧ N ≤ 6) (hn : n ≤ 1048576) (hc : CodeV w B a n) (hp : B ≤ p) (hcur : Cur w p a n c) :
    Calls Try.prog 50 #[.pointer (some ⟨p, 0, none⟩), .int .i64 N] w (DrewL w B p a n c 12 (max 1 (N - 1))) := by
  have hps := hcur.lt
  obtain ⟨M, hM⟩ : ∃ M, max 1 (N - 1) = M := ⟨_, rfl⟩
  have hM1 : 1 ≤ M ∧ M ≤ 5 := by omega
  rw [hM]
  have eW : IntKind.i64.wrap (N - 1) = N - 1 := IntWalk.i64_in _ (by omega)
  have K := Lib.hid (fun (W : World) (hc : CodeV W B a n) (hcur : Cur W p a n c) => spec_l1Below_any B p a n c 13 W (by omega) hn hc hp hcur)
  have K2 := Lib.hid (fun (W : World) (hc : CodeV W B a n) (hcur : Cur W p a n c) => spec_l1Below_any B p a n c M W (by omega) hn hc hp hcur)
  have O0 : Only p (p + 1) w (w.alloc (.cells #[] 3)) := Only.of_below _ _ ((Below.refl w.heap.size w).alloc (Nat.le_refl _) _)
  have C0 := hc.only O0 hp
  have U0 : Cur (w.alloc (.cells #[] 3)) p a n c := by obtain ⟨i, x, hi, hb⟩ := hcur; exact ⟨i, x, hi, (((Below.refl w.heap.size w).alloc (Nat.le_refl _) _).block p hps).trans hb⟩
  have hE : Own (w.alloc (.cells #[] 3)) w.heap.size w.heap.size 0 [] := Own.empty (Nat.le_refl _)
  clear hc hcur
  go_enter Try.func50, Try.ntmps50
  go_wp2_with fail
  refine (K.out _ C0 U0).mono ?_
  rintro e w1 ⟨x, hx, rfl, hcur1, hc1, hO1⟩
  have hE1 := hE.only hO1 (.inr (by omega))
  have hO := O0.trans hO1
  clear C0 U0 hE O0 hO1
  go_wp2_with fail
  go_loopw [5, 6] (fun lv kv wr => ∃ (k m g2 c2 : Nat) (xs : List Int), k + m ≤ 12 ∧ kv = .int .i64 k ∧ lv = (Value.slice (some ⟨g2, 0, none⟩) m c2) ∧ Hid (xs.length = m) ∧ Hid (∀ y ∈ xs, 0 ≤ y ∧ y < M) ∧ p < g2 ∧ Own wr w.heap.size g2 c2 xs ∧ Cur wr p a n c ∧ CodeV wr B a n ∧ Only p (p + 1) w wr) (fun _ kv _ => (intOf kv).toNat)
  case atStart => exact ⟨x.toNat, 0, w.heap.size, 0, [], by omega, by congr 1; omega, rfl, rfl, by simp [Hid], hps, hE1, hcur1, hc1, hO⟩
  case round =>
    clear hE1 hcur1 hc1 hO
    obtain ⟨k, m, g2, c2, xs, hkm, rfl, rfl, hml, hall, hpg, hown, hcur, hc, hO⟩ := hrel
    by_cases hlt : 0 < k
    · have hltI : (0 : Int) < (k : Int) := by omega
      have hcall := Lib.hid (K2.out wr hc hcur)
      clear hc hcur
      go_wp2_with fail
      all_goals
        first
          | (obtain rfl : M = 1 := by omega
             with_reducible refine hcall.out.mono ?_)
          | (obtain rfl : M = N - 1 := by omega
             with_reducible refine hcall.out.mono ?_)
      all_goals
        rintro e w2 ⟨y, hy, rfl, hcur2, hc2, hO2⟩
        have hown2 := hown.only hO2 (.inr (by omega))
        have hO' := hO.trans hO2
        clear hown hO hO2 hcall
        go_wp2_with (at_builtin; refine wpList_append_int_n (w := w2) rfl _ _ rfl w.heap.size g2 c2 m xs y hml.out hown2 rfl rfl (by omega) ?_)
        intro g3 c3 w3 ho3 hg3 hor3
        have hgs := hown2.base
        have hO3 : Only p (p + 1) w w3 := ⟨hg3.os.trans hO'.os, hg3.tape.trans hO'.tape, hg3.output.trans hO'.output, Nat.le_trans hO'.size hg3.size, fun j hj hd => (hg3.block j (Nat.lt_of_lt_of_le hj hO'.size) (by intro e; cases e; omega)).trans (hO'.block j hj hd)⟩
        have hcur3 : Cur w3 p a n c := by obtain ⟨i, z, hi, hb⟩ := hcur2; exact ⟨i, z, hi, (hg3.block p (lt_of_block hb) (by intro e; cases e; omega)).trans hb⟩
        have hc3 : CodeV w3 B a n := hc2.only (p := p + 1) (E := g2 + 1) ⟨hg3.os, hg3.tape, hg3.output, hg3.size, fun j hj hd => hg3.block j hj (by intro e; cases e; omega)⟩ (by omega)
        have hps2 := hcur2.lt
        have hl3 : Hid ((xs ++ [y]).length = m + 1) := Lib.hid (by rw [List.length_append, hml.out]; rfl)
        have ha3 := Lib.hid (all_snoc hall.out hy)
        have hpg3 : p < g3 := by rcases hor3 with rfl | q <;> omega
        clear hown2 hO' hcur2 hc2 hg3 hor3
        go_wp2_with fail
        go_roundw
        case rel => exact ⟨k - 1, m + 1, g3, c3, _, by omega, by go_num, rfl, hl3.out, ha3.out, hpg3, ho3, hcur3, hc3, hO3⟩
        case measure => simp [intOf]; omega
    · obtain rfl : k = 0 := by omega
      have Hml := Lib.hid hml.out
      go_wp2_with fail
      go_ret
      exact ⟨xs, g2, c2, ⟨by have := hml.out; omega, hall.out⟩, congrArg (fun z => Ending.returned (Value.slice (some ⟨g2, 0, none⟩) z c2)) Hml.out.symm, hown, hcur, hc, hO⟩
end Go.Proofs.Ytjhoimdfmcjkbaa
