/- Claims that a call has made: words of mine; the laws' markClaim, heldClaim, eqClaim over them. -/
import Derived.Test.YtjhoimdfmcjkbaaGreatG44
import Derived.Test.YtjhoimdfmcjkbaaGreatG02
namespace Go.Proofs.YtjhoimdfmcjkbaaGreat
set_option maxRecDepth 100000
open Go.RowKit

/-- a slice of integers of the call's own, in an interval of blocks; or none -/
def MayI (w : World) (B E : Nat) (v : Value) (xs : List Int) : Prop := (v = .slice none 0 0 ∧ xs = []) ∨ ∃ g cap, v = (Value.slice (some ⟨g, 0, none⟩) xs.length cap) ∧ HeldI w B E g cap xs
def MayR (w : World) (B E : Nat) (v : Value) (rows : List (List Int)) : Prop := (v = .slice none 0 0 ∧ rows = []) ∨ ∃ g cap, v = (Value.slice (some ⟨g, 0, none⟩) rows.length cap) ∧ HeldR w B E g cap rows
section
variable {w w' : World} {B E b B2 E2 : Nat} {v : Value} {xs : List Int} {rows : List (List Int)}
theorem MayI.shape (h : MayI w B E v xs) : ∃ a c, v = .slice a xs.length c := by
  rcases h with ⟨rfl, rfl⟩ | ⟨g, cap, rfl, -⟩
  · exact ⟨_, _, rfl⟩
  · exact ⟨_, _, rfl⟩
theorem MayR.shape (h : MayR w B E v rows) : ∃ a c, v = .slice a rows.length c := by
  rcases h with ⟨rfl, rfl⟩ | ⟨g, cap, rfl, -⟩
  · exact ⟨_, _, rfl⟩
  · exact ⟨_, _, rfl⟩
theorem MayI.below (h : MayI w B E v xs) (hb : Below b w w') (hE : E ≤ b) : MayI w' B E v xs := by
  rcases h with h | ⟨g, cap, e, h⟩
  · exact .inl h
  · exact .inr ⟨g, cap, e, h.below hb hE⟩
theorem MayR.below (h : MayR w B E v rows) (hb : Below b w w') (hE : E ≤ b) : MayR w' B E v rows := by
  rcases h with h | ⟨g, cap, e, h⟩
  · exact .inl h
  · exact .inr ⟨g, cap, e, h.below hb hE⟩
theorem MayI.only (h : MayI w B E v xs) (hb : Only B2 E2 w w') (hd : E ≤ B2 ∨ E2 ≤ B) : MayI w' B E v xs := by
  rcases h with h | ⟨g, cap, e, h⟩
  · exact .inl h
  · exact .inr ⟨g, cap, e, h.only hb hd⟩
theorem MayR.only (h : MayR w B E v rows) (hb : Only B2 E2 w w') (hd : E ≤ B2 ∨ E2 ≤ B) : MayR w' B E v rows := by
  rcases h with h | ⟨g, cap, e, h⟩
  · exact .inl h
  · exact .inr ⟨g, cap, e, h.only hb hd⟩
end
theorem MayI.keep {w w' : World} {B E : Nat} {v : Value} {xs : List Int} (h : MayI w B E v xs) (hb : Below w.heap.size w w') : MayI w' B E v xs := by
  rcases h with h | ⟨g, cap, e, h⟩
  · exact .inl h
  · exact .inr ⟨g, cap, e, h.1.below hb h.1.lt, h.2⟩
theorem MayR.keep {w w' : World} {B E : Nat} {v : Value} {rows : List (List Int)} (h : MayR w B E v rows) (hb : Below w.heap.size w w') : MayR w' B E v rows := by
  rcases h with h | ⟨g, cap, e, h⟩
  · exact .inl h
  · exact .inr ⟨g, cap, e, by obtain ⟨rs, q1, q2, q3, q4⟩ := h; exact ⟨rs, q1, q2.below hb, q3, q4⟩⟩
theorem sixC {W : World} {b : Nat} {v0 v1 v2 v3 v4 v5 : Value} {t : TypeId} (h : W.heap[b]? = some (.cells #[v0, v1, v2, v3, v4, v5] t (0, 0))) :
    W.cell? ⟨b, 0, none⟩ = some v0 ∧ W.cell? ⟨b, 1, none⟩ = some v1 ∧ W.cell? ⟨b, 2, none⟩ = some v2 ∧ W.cell? ⟨b, 3, none⟩ = some v3 ∧ W.cell? ⟨b, 4, none⟩ = some v4 ∧ W.cell? ⟨b, 5, none⟩ = some v5 := by
  refine ⟨?_, ?_, ?_, ?_, ?_, ?_⟩ <;> (rw [cell_of_cells h]; rfl)
theorem Only.wide {B E B2 E2 : Nat} {w w' : World} (h : Only B E w w') (h1 : B2 ≤ B) (h2 : E ≤ E2) : Only B2 E2 w w' :=
  ⟨h.os, h.tape, h.output, h.size, fun k hk hd => h.block k hk (by omega)⟩

/-- a claim that a call has made: its slices lie in intervals of blocks, one behind the other -/
def HeldC (w : World) (B E : Nat) (v : Value) (x : ClaimD) : Prop := ∃ v1 v2 v3 v4 v5 E1 E2 E3 E4, v = .agg #[.int .i64 x.kind, v1, v2, v3, v4, v5] ∧ (B ≤ E1 ∧ E1 ≤ E2 ∧ E2 ≤ E3 ∧ E3 ≤ E4 ∧ E4 ≤ E) ∧
  MayR w B E1 v1 x.cartan ∧ MayI w E1 E2 v2 x.a ∧ MayI w E2 E3 v3 x.b ∧ MayI w E3 E4 v4 x.proof ∧ MayR w E4 E v5 x.roots
section
variable {w w' : World} {B E b B2 E2 : Nat} {v : Value} {x : ClaimD}
theorem HeldC.below (h : HeldC w B E v x) (hb : Below b w w') (hE : E ≤ b) : HeldC w' B E v x := by
  obtain ⟨v1, v2, v3, v4, v5, E1, E2, E3, E4, e, hI, a1, a2, a3, a4, a5⟩ := h
  exact ⟨v1, v2, v3, v4, v5, E1, E2, E3, E4, e, hI, a1.below hb (by omega), a2.below hb (by omega), a3.below hb (by omega), a4.below hb (by omega), a5.below hb (by omega)⟩
theorem HeldC.only (h : HeldC w B E v x) (hb : Only B2 E2 w w') (hd : E ≤ B2 ∨ E2 ≤ B) : HeldC w' B E v x := by
  obtain ⟨v1, v2, v3, v4, v5, E1, E2, E3, E4, e, hI, a1, a2, a3, a4, a5⟩ := h
  exact ⟨v1, v2, v3, v4, v5, E1, E2, E3, E4, e, hI, a1.only hb (by omega), a2.only hb (by omega), a3.only hb (by omega), a4.only hb (by omega), a5.only hb (by omega)⟩
end
/-- a claim that is not great -/
structure ClSmall (x : ClaimD) : Prop where
  c : rowsFew x.cartan
  a : x.a.length ≤ 1048576
  b : x.b.length ≤ 1048576
  p : x.proof.length ≤ 1048576
  r : rowsFew x.roots

/-! ### the laws' helpers at a slice or none -/
theorem markIntS_nil (K : Int) (w : World) : Calls Tryz.prog 13 #[.slice none 0 0, .int .i64 K] w (Reads w (.int .i64 K)) := by
  go_enter Tryz.func13, Tryz.ntmps13
  go_wp2
  go_loopw [1, 5] (fun k i wr => i = .int .i64 0 ∧ k = .int .i64 K ∧ ∃ m, wr = w.drewN m) (fun _ _ _ => 0)
  case atStart => exact ⟨rfl, rfl, 0, rfl⟩
  case round =>
    obtain ⟨rfl, rfl, m, rfl⟩ := hrel
    go_wp2
    go_ret
    exact ⟨rfl, (by first | exact ⟨_, rfl⟩ | exact ⟨0, rfl⟩ | exact still2 _ _ _ | exact still3 _ _ _ _)⟩
theorem heldIntS_nil (K : Int) (w : World) : Calls Tryz.prog 30 #[.slice none 0 0, .int .i64 K] w (Reads w (.int .i64 K)) := by
  go_enter Tryz.func30, Tryz.ntmps30
  go_wp2
  go_loopw [1, 5] (fun k i wr => i = .int .i64 0 ∧ k = .int .i64 K ∧ ∃ m, wr = w.drewN m) (fun _ _ _ => 0)
  case atStart => exact ⟨rfl, rfl, 0, rfl⟩
  case round =>
    obtain ⟨rfl, rfl, m, rfl⟩ := hrel
    go_wp2
    go_ret
    exact ⟨rfl, (by first | exact ⟨_, rfl⟩ | exact ⟨0, rfl⟩ | exact still2 _ _ _ | exact still3 _ _ _ _)⟩
theorem markIntSS_nil (K : Int) (w : World) : Calls Tryz.prog 12 #[.slice none 0 0, .int .i64 K] w (Reads w (.int .i64 K)) := by
  go_enter Tryz.func12, Tryz.ntmps12
  go_wp2
  go_loopw [1, 5] (fun k i wr => i = .int .i64 0 ∧ k = .int .i64 K ∧ ∃ m, wr = w.drewN m) (fun _ _ _ => 0)
  case atStart => exact ⟨rfl, rfl, 0, rfl⟩
  case round =>
    obtain ⟨rfl, rfl, m, rfl⟩ := hrel
    go_wp2
    go_ret
    exact ⟨rfl, (by first | exact ⟨_, rfl⟩ | exact ⟨0, rfl⟩ | exact still2 _ _ _ | exact still3 _ _ _ _)⟩
theorem heldIntSS_nil (K : Int) (w : World) : Calls Tryz.prog 29 #[.slice none 0 0, .int .i64 K] w (Reads w (.int .i64 K)) := by
  go_enter Tryz.func29, Tryz.ntmps29
  go_wp2
  go_loopw [1, 5] (fun k i wr => i = .int .i64 0 ∧ k = .int .i64 K ∧ ∃ m, wr = w.drewN m) (fun _ _ _ => 0)
  case atStart => exact ⟨rfl, rfl, 0, rfl⟩
  case round =>
    obtain ⟨rfl, rfl, m, rfl⟩ := hrel
    go_wp2
    go_ret
    exact ⟨rfl, (by first | exact ⟨_, rfl⟩ | exact ⟨0, rfl⟩ | exact still2 _ _ _ | exact still3 _ _ _ _)⟩
theorem eqIntS_nil (a b : Option Addr) (c d : Nat) (w : World) : Calls Tryz.prog 11 #[.slice a 0 c, .slice b 0 d] w (Reads w (.bool true)) := by
  go_enter Tryz.func11, Tryz.ntmps11
  go_wp2
  go_loopw [5] (fun i wr => i = .int .i64 0 ∧ ∃ m, wr = w.drewN m) (fun _ _ => 0)
  case atStart => exact ⟨rfl, 0, rfl⟩
  case round =>
    obtain ⟨rfl, m, rfl⟩ := hrel
    go_wp2
    go_ret
    exact ⟨rfl, (by first | exact ⟨_, rfl⟩ | exact ⟨0, rfl⟩ | exact still2 _ _ _ | exact still3 _ _ _ _)⟩
theorem eqIntSS_nil (a b : Option Addr) (c d : Nat) (w : World) : Calls Tryz.prog 10 #[.slice a 0 c, .slice b 0 d] w (Reads w (.bool true)) := by
  go_enter Tryz.func10, Tryz.ntmps10
  go_wp2
  go_loopw [5] (fun i wr => i = .int .i64 0 ∧ ∃ m, wr = w.drewN m) (fun _ _ => 0)
  case atStart => exact ⟨rfl, 0, rfl⟩
  case round =>
    obtain ⟨rfl, m, rfl⟩ := hrel
    go_wp2
    go_ret
    exact ⟨rfl, (by first | exact ⟨_, rfl⟩ | exact ⟨0, rfl⟩ | exact still2 _ _ _ | exact still3 _ _ _ _)⟩

section
variable {w : World} {B E B2 E2 : Nat} {v v2 : Value} {xs : List Int} {rows : List (List Int)}
theorem markIntS_m (k0 : Nat) (K : Int) (hK : K = (k0 : Int)) (hx : xs.length ≤ 1048576) (hk0 : k0 ≤ 549755813888) (h : MayI w B E v xs) :
    Calls Tryz.prog 13 #[v, .int .i64 K] w fun e w' => e = .returned (.int .i64 ((k0 + xs.length : Nat) : Int)) ∧ MayI w' B E v (marks k0 xs.length) ∧ Only B E w w' := by
  rcases h with ⟨rfl, rfl⟩ | ⟨g, cap, rfl, h⟩
  · refine (markIntS_nil K w).mono ?_
    rintro e w' ⟨rfl, m, rfl⟩
    exact ⟨by rw [hK]; rfl, .inl ⟨rfl, rfl⟩, (Only.refl B E w).drewN m⟩
  · refine (markIntS_h k0 K w hK hx (by omega) h).mono ?_
    rintro e w' ⟨rfl, h1, h2⟩
    exact ⟨rfl, .inr ⟨g, cap, by rw [marks_length], h1⟩, h2⟩
theorem heldIntS_m (k0 : Nat) (K : Int) (hK : K = (k0 : Int)) (hx : xs.length ≤ 1048576) (hk0 : k0 ≤ 549755813888) (h : MayI w B E v (marks k0 xs.length)) :
    Calls Tryz.prog 30 #[v, .int .i64 K] w (Gives w (.int .i64 ((k0 + xs.length : Nat) : Int))) := by
  rcases h with ⟨rfl, h⟩ | ⟨g, cap, rfl, h⟩
  · have e : xs.length = 0 := by rw [← marks_length k0 xs.length, h]; rfl
    refine (heldIntS_nil K w).mono ?_
    rintro e' w' ⟨rfl, m, rfl⟩
    exact ⟨by rw [hK, e]; rfl, below_drewN' w m⟩
  · rw [marks_length]
    exact heldIntS_h k0 K w hK hx (by omega) h
theorem markIntSS_m (k0 : Nat) (K : Int) (hK : K = (k0 : Int)) (hx : rowsFew rows) (hk0 : k0 ≤ 549755813888) (h : MayR w B E v rows) :
    Calls Tryz.prog 12 #[v, .int .i64 K] w fun e w' => e = .returned (.int .i64 ((k0 + cntR rows : Nat) : Int)) ∧ MayR w' B E v (marksR k0 rows) ∧ Only B E w w' := by
  rcases h with ⟨rfl, rfl⟩ | ⟨g, cap, rfl, h⟩
  · refine (markIntSS_nil K w).mono ?_
    rintro e w' ⟨rfl, m, rfl⟩
    exact ⟨by rw [hK]; rfl, .inl ⟨rfl, rfl⟩, (Only.refl B E w).drewN m⟩
  · refine (markIntSS_h k0 K w hK hx (by omega) h).mono ?_
    rintro e w' ⟨rfl, h1, h2⟩
    exact ⟨rfl, .inr ⟨g, cap, by rw [marksR_length], h1⟩, h2⟩
theorem heldIntSS_m (k0 : Nat) (K : Int) (hK : K = (k0 : Int)) (hx : rowsFew rows) (hk0 : k0 ≤ 549755813888) (h : MayR w B E v (marksR k0 rows)) :
    Calls Tryz.prog 29 #[v, .int .i64 K] w (Gives w (.int .i64 ((k0 + cntR rows : Nat) : Int))) := by
  rcases h with ⟨rfl, h⟩ | ⟨g, cap, rfl, h⟩
  · have e : rows = [] := List.length_eq_zero_iff.1 (by rw [← marksR_length k0 rows, h]; rfl)
    refine (heldIntSS_nil K w).mono ?_
    rintro e' w' ⟨rfl, m, rfl⟩
    exact ⟨by rw [hK, e]; rfl, below_drewN' w m⟩
  · rw [marksR_length]
    exact heldIntSS_h k0 K w hK hx (by omega) h
theorem eqIntS_m (hx : xs.length ≤ 1048576) (h : MayI w B E v xs) (h2 : MayI w B2 E2 v2 xs) : Calls Tryz.prog 11 #[v, v2] w (Reads w (.bool true)) := by
  rcases h with ⟨rfl, rfl⟩ | ⟨g, cap, rfl, h⟩
  · obtain ⟨a, c, rfl⟩ := h2.shape
    exact eqIntS_nil _ _ _ _ w
  · rcases h2 with ⟨rfl, rfl⟩ | ⟨g2, cap2, rfl, h2⟩
    · exact eqIntS_nil _ _ _ _ w
    · exact eqIntS_same g 0 _ cap g2 0 _ cap2 xs w rfl rfl (by omega) h.cells h2.cells
theorem eqIntSS_m (hx : rowsFew rows) (h : MayR w B E v rows) (h2 : MayR w B2 E2 v2 rows) : Calls Tryz.prog 10 #[v, v2] w (Reads w (.bool true)) := by
  rcases h with ⟨rfl, rfl⟩ | ⟨g, cap, rfl, h⟩
  · obtain ⟨a, c, rfl⟩ := h2.shape
    exact eqIntSS_nil _ _ _ _ w
  · rcases h2 with ⟨rfl, rfl⟩ | ⟨g2, cap2, rfl, h2⟩
    · exact eqIntSS_nil _ _ _ _ w
    · exact eqIntSS_same g 0 _ cap g2 0 _ cap2 rows w rfl rfl hx.1 (fun j hj => by have := hx.2.1 j hj; omega) h.rows2 h2.rows2
end

/-! ### the laws' helpers at claims -/
def cntC (x : ClaimD) : Nat := cntR x.cartan + x.a.length + x.b.length + x.proof.length + cntR x.roots
def marksC (k : Nat) (x : ClaimD) : ClaimD :=
  { kind := x.kind, cartan := marksR k x.cartan, a := marks (k + cntR x.cartan) x.a.length, b := marks (k + cntR x.cartan + x.a.length) x.b.length, proof := marks (k + cntR x.cartan + x.a.length + x.b.length) x.proof.length, roots := marksR (k + cntR x.cartan + x.a.length + x.b.length + x.proof.length) x.roots }
theorem cntR_few {rows : List (List Int)} (h : rowsFew rows) : cntR rows ≤ 1048576 := h.2.2

set_option maxHeartbeats 2000000 in
theorem markClaim_h {B E : Nat} {v : Value} {x : ClaimD} (k0 : Nat) (K : Int) (w : World) (hK : K = (k0 : Int)) (hx : ClSmall x) (hk0 : k0 ≤ 1073741824) (hE : E ≤ w.heap.size) (h : HeldC w B E v x) :
    Calls Tryz.prog 14 #[v, .int .i64 K] w fun e w' => e = .returned (.int .i64 ((k0 + cntC x : Nat) : Int)) ∧ HeldC w' B E v (marksC k0 x) ∧ Only B E w w' := by
  obtain ⟨v1, v2, v3, v4, v5, E1, E2, E3, E4, rfl, hI, a1, a2, a3, a4, a5⟩ := h
  have f1 := hx.c; have f2 := hx.a; have f3 := hx.b; have f4 := hx.p; have f5 := hx.r
  have n1 := cntR_few f1
  have hfin : ∀ w5, MayR w5 B E1 v1 (marksR k0 x.cartan) → MayI w5 E1 E2 v2 (marks (k0 + cntR x.cartan) x.a.length) → MayI w5 E2 E3 v3 (marks (k0 + cntR x.cartan + x.a.length) x.b.length) → MayI w5 E3 E4 v4 (marks (k0 + cntR x.cartan + x.a.length + x.b.length) x.proof.length) → MayR w5 E4 E v5 (marksR (k0 + cntR x.cartan + x.a.length + x.b.length + x.proof.length) x.roots) → HeldC w5 B E (.agg #[.int .i64 x.kind, v1, v2, v3, v4, v5]) (marksC k0 x) :=
    fun w5 h1 h2 h3 h4 h5 => ⟨v1, v2, v3, v4, v5, E1, E2, E3, E4, rfl, hI, h1, h2, h3, h4, h5⟩
  have Hfin := Lib.hid hfin
  have hcnt : k0 + cntC x = k0 + cntR x.cartan + x.a.length + x.b.length + x.proof.length + cntR x.roots := by unfold cntC; omega
  rw [hcnt]
  clear hfin hcnt
  obtain ⟨p1, c1, e1⟩ := a1.shape
  obtain ⟨p2, c2, e2⟩ := a2.shape
  obtain ⟨p3, c3, e3⟩ := a3.shape
  obtain ⟨p4, c4, e4⟩ := a4.shape
  obtain ⟨p5, c5, e5⟩ := a5.shape
  generalize x.kind = kd at *
  generalize x.cartan = r1 at *
  generalize x.a = r2 at *
  generalize x.b = r3 at *
  generalize x.proof = r4 at *
  generalize x.roots = r5 at *
  subst e1 e2 e3 e4 e5
  subst hK
  clear hx
  have hb0 := (Below.refl w.heap.size w).alloc (Nat.le_refl _) (.cells #[.int .i64 kd, .slice p1 r1.length c1, .slice p2 r2.length c2, .slice p3 r3.length c3, .slice p4 r4.length c4, .slice p5 r5.length c5] 26)
  have X0 := Lib.hid (heap_alloc_new w (.cells #[.int .i64 kd, .slice p1 r1.length c1, .slice p2 r2.length c2, .slice p3 r3.length c3, .slice p4 r4.length c4, .slice p5 r5.length c5] 26 (0, 0)))
  have A1 := Lib.hid (a1.keep hb0); have A2 := Lib.hid (a2.keep hb0); have A3 := Lib.hid (a3.keep hb0); have A4 := Lib.hid (a4.keep hb0); have A5 := Lib.hid (a5.keep hb0)
  have F1 := Lib.hid f1; have F5 := Lib.hid f5
  have hU : ∀ w', Only B E (w.alloc (.cells #[.int .i64 kd, .slice p1 r1.length c1, .slice p2 r2.length c2, .slice p3 r3.length c3, .slice p4 r4.length c4, .slice p5 r5.length c5] 26)) w' → Only B E w w' := fun w' h => ⟨h.os.trans hb0.os, h.tape.trans hb0.tape, h.output.trans hb0.output, Nat.le_trans hb0.size h.size, fun k hk hd => (h.block k (Nat.lt_of_lt_of_le hk hb0.size) hd).trans (hb0.block k hk)⟩
  have HU := Lib.hid hU
  have hOW := Only.refl B E (w.alloc (.cells #[.int .i64 kd, .slice p1 r1.length c1, .slice p2 r2.length c2, .slice p3 r3.length c3, .slice p4 r4.length c4, .slice p5 r5.length c5] 26))
  obtain ⟨z0, z1, z2, z3, z4, z5⟩ := sixC X0.out
  clear a1 a2 a3 a4 a5 f1 f5 hb0 hU
  go_enter Tryz.func14, Tryz.ntmps14
  go_wp2_with fail
  refine (markIntSS_m k0 _ rfl F1.out (by omega) A1.out).mono ?_
  rintro e w1 ⟨rfl, m1, o1⟩
  have T1 := Lib.hid m1
  have A2 := Lib.hid (A2.out.only o1 (by omega))
  have A3 := Lib.hid (A3.out.only o1 (by omega))
  have A4 := Lib.hid (A4.out.only o1 (by omega))
  have A5 := Lib.hid (A5.out.only o1 (by omega))
  have X1 := Lib.hid ((o1.block _ (lt_of_block X0.out) (by omega)).trans X0.out)
  have hOW := hOW.trans (o1.wide (B2 := B) (E2 := E) (by omega) (by omega))
  clear z0 z1 z2 z3 z4 z5 X0 o1 m1 A1
  obtain ⟨z0, z1, z2, z3, z4, z5⟩ := sixC X1.out
  go_wp2_with fail
  refine (markIntS_m (k0 + cntR r1) _ (by simp) f2 (by omega) A2.out).mono ?_
  rintro e w2 ⟨rfl, m2, o2⟩
  have T2 := Lib.hid m2
  have T1 := Lib.hid (T1.out.only o2 (by omega))
  have A3 := Lib.hid (A3.out.only o2 (by omega))
  have A4 := Lib.hid (A4.out.only o2 (by omega))
  have A5 := Lib.hid (A5.out.only o2 (by omega))
  have X2 := Lib.hid ((o2.block _ (lt_of_block X1.out) (by omega)).trans X1.out)
  have hOW := hOW.trans (o2.wide (B2 := B) (E2 := E) (by omega) (by omega))
  clear z0 z1 z2 z3 z4 z5 X1 o2 m2 A2
  obtain ⟨z0, z1, z2, z3, z4, z5⟩ := sixC X2.out
  go_wp2_with fail
  refine (markIntS_m (k0 + cntR r1 + r2.length) _ (by simp) f3 (by omega) A3.out).mono ?_
  rintro e w3 ⟨rfl, m3, o3⟩
  have T3 := Lib.hid m3
  have T1 := Lib.hid (T1.out.only o3 (by omega))
  have T2 := Lib.hid (T2.out.only o3 (by omega))
  have A4 := Lib.hid (A4.out.only o3 (by omega))
  have A5 := Lib.hid (A5.out.only o3 (by omega))
  have X3 := Lib.hid ((o3.block _ (lt_of_block X2.out) (by omega)).trans X2.out)
  have hOW := hOW.trans (o3.wide (B2 := B) (E2 := E) (by omega) (by omega))
  clear z0 z1 z2 z3 z4 z5 X2 o3 m3 A3
  obtain ⟨z0, z1, z2, z3, z4, z5⟩ := sixC X3.out
  go_wp2_with fail
  refine (markIntS_m (k0 + cntR r1 + r2.length + r3.length) _ (by simp) f4 (by omega) A4.out).mono ?_
  rintro e w4 ⟨rfl, m4, o4⟩
  have T4 := Lib.hid m4
  have T1 := Lib.hid (T1.out.only o4 (by omega))
  have T2 := Lib.hid (T2.out.only o4 (by omega))
  have T3 := Lib.hid (T3.out.only o4 (by omega))
  have A5 := Lib.hid (A5.out.only o4 (by omega))
  have X4 := Lib.hid ((o4.block _ (lt_of_block X3.out) (by omega)).trans X3.out)
  have hOW := hOW.trans (o4.wide (B2 := B) (E2 := E) (by omega) (by omega))
  clear z0 z1 z2 z3 z4 z5 X3 o4 m4 A4
  obtain ⟨z0, z1, z2, z3, z4, z5⟩ := sixC X4.out
  go_wp2_with fail
  refine (markIntSS_m (k0 + cntR r1 + r2.length + r3.length + r4.length) _ (by simp) F5.out (by omega) A5.out).mono ?_
  rintro e w5 ⟨rfl, m5, o5⟩
  have T5 := Lib.hid m5
  have T1 := Lib.hid (T1.out.only o5 (by omega))
  have T2 := Lib.hid (T2.out.only o5 (by omega))
  have T3 := Lib.hid (T3.out.only o5 (by omega))
  have T4 := Lib.hid (T4.out.only o5 (by omega))
  have X5 := Lib.hid ((o5.block _ (lt_of_block X4.out) (by omega)).trans X4.out)
  have hOW := hOW.trans (o5.wide (B2 := B) (E2 := E) (by omega) (by omega))
  clear z0 z1 z2 z3 z4 z5 X4 o5 m5 A5
  obtain ⟨z0, z1, z2, z3, z4, z5⟩ := sixC X5.out
  go_wp2_with fail
  go_ret
  exact ⟨rfl, Hfin.out _ T1.out T2.out T3.out T4.out T5.out, HU.out _ hOW⟩

set_option maxHeartbeats 2000000 in
theorem heldClaim_h {B E : Nat} {v : Value} {x : ClaimD} (k0 : Nat) (K : Int) (w : World) (hK : K = (k0 : Int)) (hx : ClSmall x) (hk0 : k0 ≤ 1073741824) (h : HeldC w B E v (marksC k0 x)) :
    Calls Tryz.prog 15 #[v, .int .i64 K] w (Gives w (.int .i64 ((k0 + cntC x : Nat) : Int))) := by
  obtain ⟨v1, v2, v3, v4, v5, E1, E2, E3, E4, rfl, hI, a1, a2, a3, a4, a5⟩ := h
  have f1 := hx.c; have f2 := hx.a; have f3 := hx.b; have f4 := hx.p; have f5 := hx.r
  have n1 := cntR_few f1; have n5 := cntR_few f5
  have hcnt : k0 + cntC x = k0 + cntR x.cartan + x.a.length + x.b.length + x.proof.length + cntR x.roots := by unfold cntC; omega
  rw [hcnt]
  clear hcnt
  simp only [marksC] at a1 a2 a3 a4 a5 ⊢
  obtain ⟨p1, c1, e1⟩ := a1.shape
  obtain ⟨p2, c2, e2⟩ := a2.shape
  obtain ⟨p3, c3, e3⟩ := a3.shape
  obtain ⟨p4, c4, e4⟩ := a4.shape
  obtain ⟨p5, c5, e5⟩ := a5.shape
  rw [marksR_length] at e1 e5
  rw [marks_length] at e2 e3 e4
  generalize x.kind = kd at *
  generalize x.cartan = r1 at *
  generalize x.a = r2 at *
  generalize x.b = r3 at *
  generalize x.proof = r4 at *
  generalize x.roots = r5 at *
  subst e1 e2 e3 e4 e5
  subst hK
  clear hx
  have hB := (Below.refl w.heap.size w).alloc (Nat.le_refl _) (.cells #[.int .i64 kd, .slice p1 r1.length c1, .slice p2 r2.length c2, .slice p3 r3.length c3, .slice p4 r4.length c4, .slice p5 r5.length c5] 26)
  have X0 := Lib.hid (heap_alloc_new w (.cells #[.int .i64 kd, .slice p1 r1.length c1, .slice p2 r2.length c2, .slice p3 r3.length c3, .slice p4 r4.length c4, .slice p5 r5.length c5] 26 (0, 0)))
  have A1 := Lib.hid (fun W (hb : Below w.heap.size w W) => a1.keep hb); have A2 := Lib.hid (fun W (hb : Below w.heap.size w W) => a2.keep hb); have A3 := Lib.hid (fun W (hb : Below w.heap.size w W) => a3.keep hb); have A4 := Lib.hid (fun W (hb : Below w.heap.size w W) => a4.keep hb); have A5 := Lib.hid (fun W (hb : Below w.heap.size w W) => a5.keep hb)
  have F1 := Lib.hid f1; have F5 := Lib.hid f5
  obtain ⟨z0, z1, z2, z3, z4, z5⟩ := sixC X0.out
  clear a1 a2 a3 a4 a5 f1 f5
  go_enter Tryz.func15, Tryz.ntmps15
  go_wp2_with fail
  refine (heldIntSS_m k0 _ rfl F1.out (by omega) (A1.out _ hB)).mono ?_
  rintro e w1 ⟨rfl, b1⟩
  have X1 := Lib.hid ((b1.block _ (lt_of_block X0.out)).trans X0.out)
  have hB := hB.trans (b1.mono hB.size)
  clear z0 z1 z2 z3 z4 z5 X0 b1
  obtain ⟨z0, z1, z2, z3, z4, z5⟩ := sixC X1.out
  go_wp2_with fail
  refine (heldIntS_m (k0 + cntR r1) _ (by simp) f2 (by omega) (A2.out _ hB)).mono ?_
  rintro e w2 ⟨rfl, b2⟩
  have X2 := Lib.hid ((b2.block _ (lt_of_block X1.out)).trans X1.out)
  have hB := hB.trans (b2.mono hB.size)
  clear z0 z1 z2 z3 z4 z5 X1 b2
  obtain ⟨z0, z1, z2, z3, z4, z5⟩ := sixC X2.out
  go_wp2_with fail
  refine (heldIntS_m (k0 + cntR r1 + r2.length) _ (by simp) f3 (by omega) (A3.out _ hB)).mono ?_
  rintro e w3 ⟨rfl, b3⟩
  have X3 := Lib.hid ((b3.block _ (lt_of_block X2.out)).trans X2.out)
  have hB := hB.trans (b3.mono hB.size)
  clear z0 z1 z2 z3 z4 z5 X2 b3
  obtain ⟨z0, z1, z2, z3, z4, z5⟩ := sixC X3.out
  go_wp2_with fail
  refine (heldIntS_m (k0 + cntR r1 + r2.length + r3.length) _ (by simp) f4 (by omega) (A4.out _ hB)).mono ?_
  rintro e w4 ⟨rfl, b4⟩
  have X4 := Lib.hid ((b4.block _ (lt_of_block X3.out)).trans X3.out)
  have hB := hB.trans (b4.mono hB.size)
  clear z0 z1 z2 z3 z4 z5 X3 b4
  obtain ⟨z0, z1, z2, z3, z4, z5⟩ := sixC X4.out
  go_wp2_with fail
  refine (heldIntSS_m (k0 + cntR r1 + r2.length + r3.length + r4.length) _ (by simp) F5.out (by omega) (A5.out _ hB)).mono ?_
  rintro e w5 ⟨rfl, b5⟩
  have X5 := Lib.hid ((b5.block _ (lt_of_block X4.out)).trans X4.out)
  have hB := hB.trans (b5.mono hB.size)
  clear z0 z1 z2 z3 z4 z5 X4 b5
  obtain ⟨z0, z1, z2, z3, z4, z5⟩ := sixC X5.out
  go_wp2_with fail
  go_ret
  exact ⟨rfl, hB⟩

set_option maxHeartbeats 2000000 in
theorem eqClaim_h {B E B2 E2 : Nat} {v u : Value} {x : ClaimD} {w : World} (hx : ClSmall x) (h : HeldC w B E v x) (h2 : HeldC w B2 E2 u x) :
    Calls Tryz.prog 9 #[v, u] w (Gives w (.bool true)) := by
  obtain ⟨v1, v2, v3, v4, v5, E1, E2, E3, E4, rfl, -, a1, a2, a3, a4, a5⟩ := h
  obtain ⟨u1, u2, u3, u4, u5, F1, F2, F3, F4, rfl, -, b1, b2, b3, b4, b5⟩ := h2
  have d0 : (x.kind != x.kind) = false := by simp
  have k1 := Lib.hid (fun W (hb : Below w.heap.size w W) => eqIntSS_m hx.c (a1.keep hb) (b1.keep hb))
  have k2 := Lib.hid (fun W (hb : Below w.heap.size w W) => eqIntS_m hx.a (a2.keep hb) (b2.keep hb))
  have k3 := Lib.hid (fun W (hb : Below w.heap.size w W) => eqIntS_m hx.b (a3.keep hb) (b3.keep hb))
  have k4 := Lib.hid (fun W (hb : Below w.heap.size w W) => eqIntS_m hx.p (a4.keep hb) (b4.keep hb))
  have k5 := Lib.hid (fun W (hb : Below w.heap.size w W) => eqIntSS_m hx.r (a5.keep hb) (b5.keep hb))
  obtain ⟨p1, c1, rfl⟩ := a1.shape
  obtain ⟨p2, c2, rfl⟩ := a2.shape
  obtain ⟨p3, c3, rfl⟩ := a3.shape
  obtain ⟨p4, c4, rfl⟩ := a4.shape
  obtain ⟨p5, c5, rfl⟩ := a5.shape
  obtain ⟨q1, d1, rfl⟩ := b1.shape
  obtain ⟨q2, d2, rfl⟩ := b2.shape
  obtain ⟨q3, d3, rfl⟩ := b3.shape
  obtain ⟨q4, d4, rfl⟩ := b4.shape
  obtain ⟨q5, d5, rfl⟩ := b5.shape
  clear a1 a2 a3 a4 a5 b1 b2 b3 b4 b5 hx
  go_enter Tryz.func9, Tryz.ntmps9
  go_wp2_with fail
  refine (k1.out _ (by repeat (first | with_reducible exact Below.refl _ _ | with_reducible assumption | with_reducible refine below_drewN ?_ _ | with_reducible refine Below.drew ?_ | (with_reducible refine Below.alloc ?_ ?_ _; rotate_left; · first | (simp; done) | (simp; omega) | exact Below.size (by assumption) | (have hsz := Below.size (by assumption : Below _ _ _); simp at hsz ⊢; omega)) | (with_reducible refine Below.setCell ?_ ?_ _; rotate_left; · first | (simp; done) | (simp; omega))))).mono ?_
  rintro e w1 ⟨rfl, m1, rfl⟩
  go_wp2_with fail
  refine (k2.out _ (by repeat (first | with_reducible exact Below.refl _ _ | with_reducible assumption | with_reducible refine below_drewN ?_ _ | with_reducible refine Below.drew ?_ | (with_reducible refine Below.alloc ?_ ?_ _; rotate_left; · first | (simp; done) | (simp; omega) | exact Below.size (by assumption) | (have hsz := Below.size (by assumption : Below _ _ _); simp at hsz ⊢; omega)) | (with_reducible refine Below.setCell ?_ ?_ _; rotate_left; · first | (simp; done) | (simp; omega))))).mono ?_
  rintro e w2 ⟨rfl, m2, rfl⟩
  go_wp2_with fail
  refine (k3.out _ (by repeat (first | with_reducible exact Below.refl _ _ | with_reducible assumption | with_reducible refine below_drewN ?_ _ | with_reducible refine Below.drew ?_ | (with_reducible refine Below.alloc ?_ ?_ _; rotate_left; · first | (simp; done) | (simp; omega) | exact Below.size (by assumption) | (have hsz := Below.size (by assumption : Below _ _ _); simp at hsz ⊢; omega)) | (with_reducible refine Below.setCell ?_ ?_ _; rotate_left; · first | (simp; done) | (simp; omega))))).mono ?_
  rintro e w3 ⟨rfl, m3, rfl⟩
  go_wp2_with fail
  refine (k4.out _ (by repeat (first | with_reducible exact Below.refl _ _ | with_reducible assumption | with_reducible refine below_drewN ?_ _ | with_reducible refine Below.drew ?_ | (with_reducible refine Below.alloc ?_ ?_ _; rotate_left; · first | (simp; done) | (simp; omega) | exact Below.size (by assumption) | (have hsz := Below.size (by assumption : Below _ _ _); simp at hsz ⊢; omega)) | (with_reducible refine Below.setCell ?_ ?_ _; rotate_left; · first | (simp; done) | (simp; omega))))).mono ?_
  rintro e w4 ⟨rfl, m4, rfl⟩
  go_wp2_with fail
  refine (k5.out _ (by repeat (first | with_reducible exact Below.refl _ _ | with_reducible assumption | with_reducible refine below_drewN ?_ _ | with_reducible refine Below.drew ?_ | (with_reducible refine Below.alloc ?_ ?_ _; rotate_left; · first | (simp; done) | (simp; omega) | exact Below.size (by assumption) | (have hsz := Below.size (by assumption : Below _ _ _); simp at hsz ⊢; omega)) | (with_reducible refine Below.setCell ?_ ?_ _; rotate_left; · first | (simp; done) | (simp; omega))))).mono ?_
  rintro e w5 ⟨rfl, m5, rfl⟩
  go_wp2_with fail
  go_ret
  exact ⟨rfl, (by repeat (first | with_reducible exact Below.refl _ _ | with_reducible assumption | with_reducible refine below_drewN ?_ _ | with_reducible refine Below.drew ?_ | (with_reducible refine Below.alloc ?_ ?_ _; rotate_left; · first | (simp; done) | (simp; omega) | exact Below.size (by assumption) | (have hsz := Below.size (by assumption : Below _ _ _); simp at hsz ⊢; omega)) | (with_reducible refine Below.setCell ?_ ?_ _; rotate_left; · first | (simp; done) | (simp; omega))))⟩
end Go.Proofs.YtjhoimdfmcjkbaaGreat
